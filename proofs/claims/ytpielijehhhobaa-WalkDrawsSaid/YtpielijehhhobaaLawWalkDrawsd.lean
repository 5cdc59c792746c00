/- Plain: a source draws the numbers of its seed. -/
import Derived.Test.YtpielijehhhobaaLawWalkAd
set_option linter.unusedVariables false
set_option linter.unusedSimpArgs false
namespace Go.Proofs.Ytpielijehhhobaa.Am
open Go

theorem w_best : walk_Best N0 wT wP 5 1 = some ((-1, (2, 0)), 0) := by
  unfold walk_Best walk_Best.e
  rw [walked_run]
  simp only [Option.bind_some]
  kernel_rfl
theorem walked_ok : gamehallkeep1_walked N0 = some true := by
  unfold gamehallkeep1_walked gamehallkeep1_walked.e
  rw [w_three, w_near]
  simp only [Option.bind_some]
  rw [walked_run, w_best]
  simp only [Option.bind_some]
  kernel_rfl

theorem mix_ok (N : Nat) (x : Int) : ∃ y, zob_Mix N x = some y ∧ 0 ≤ y ∧ y < 18446744073709551616 := by
  unfold zob_Mix zob_Mix.e
  refine ⟨_, rfl, ?_⟩
  exact ⟨Int.emod_nonneg _ (by decide), Int.emod_lt_of_pos _ (by decide)⟩
theorem wrap_id {x : Int} (h0 : 0 ≤ x) (h1 : x < 18446744073709551616) : IntKind.wrap .u64 x = x := Int.emod_eq_of_lt h0 h1
/-- a draw -/
theorem below_ok (N : Nat) {s n : Int} (h0 : 0 ≤ s) (h1 : s ≤ 1000000000000) : (n < 1 ∨ 100000000 < n → walk_Source_Below' N s n = some (0, (1, s))) ∧
    (1 ≤ n → n ≤ 100000000 → ∃ y, zob_Mix N (s + 1) = some y ∧ walk_Source_Below' N s n = some (w64 (Int.tmod (IntKind.wrap .u64 (Int.tdiv y 2)) (IntKind.wrap .u64 n)), (0, s + 1))) := by
  unfold walk_Source_Below' walk_Source_Below'.e
  have hs : w64 (s + 1) = s + 1 := w64_id (by omega) (by omega)
  refine ⟨fun h => ?_, fun h2 h3 => ?_⟩
  · by_cases hn : n < 1
    · rw [bif_t (by simpa [ltI] using hn)]
    · rw [bif_f (by simpa [ltI] using hn), bif_t (by simp [ltI]; omega)]
  · rw [bif_f (by simp [ltI]; omega), bif_f (by simp [ltI]; omega), hs]
    obtain ⟨y, e, y0, y1⟩ := mix_ok N (s + 1)
    refine ⟨y, e, ?_⟩
    rw [e]
    simp only [Option.bind_some]
    have hn : IntKind.wrap .u64 n = n := wrap_id (by omega) (by omega)
    rw [hn, bif_f (by simp [eqI]; omega)]
    have e2 : (2 : Int) ^ (min (1 : Int).toNat 64) = 2 := by decide
    have hd : Int.tdiv y 2 = Int.fdiv y 2 := by
      rw [Int.tdiv_eq_ediv_of_nonneg y0, Int.fdiv_eq_ediv_of_nonneg _ (by decide)]
    have hw : IntKind.wrap .u64 (Int.tdiv y 2) = Int.fdiv y 2 := by
      rw [hd]
      have := Int.fdiv_eq_ediv_of_nonneg y (show (0 : Int) ≤ 2 by decide)
      exact wrap_id (by rw [this]; omega) (by rw [this]; omega)
    rw [hw, e2]

theorem draws_loop (N : Nat) {seed : Int} (h0 : 0 ≤ seed) (h1 : seed ≤ 100000000) (l0 l : List Int) (hl : l.length ≤ 20) : ∀ (j : Nat) (n i : Nat) (k : Nat), j = l.length - i → j < n → i ≤ l.length → k ≤ i →
    gamehallkeep1_WalkDraws.l0 N seed l0 n (k : Int) l (l.length : Int) (i : Int) (4096 * seed + k) = some true
  | j, 0, i, k, _, hn, _, _ => by omega
  | j, n + 1, i, k, hj, hn, hi, hk => by
    rw [gamehallkeep1_WalkDraws.l0_s]
    unfold gamehallkeep1_WalkDraws.s0
    by_cases hlt : i < l.length
    · have hw : w64 ((i : Int) + 1) = ((i + 1 : Nat) : Int) := by rw [w64_id (by omega) (by omega)]; omega
      rw [bif_t (by simp [ltI]; omega), chk_of (by simp [leI, ltI]; omega), hw]
      generalize gD (0 : Int) l (i : Int) = x
      obtain ⟨b1, b2⟩ := below_ok N (s := 4096 * seed + k) (n := x) (by omega) (by omega)
      have ih := draws_loop N h0 h1 l0 l hl (j - 1) n (i + 1) k (by omega) (by omega) (by omega) (by omega)
      by_cases hx : x < 1
      · rw [b1 (.inl hx), Option.bind_some, bif_t (by simpa [ltI] using hx)]
        exact ih
      · by_cases hx2 : 100000000 < x
        · rw [b1 (.inr hx2), Option.bind_some, bif_f (c := ltI x 1) (by simpa [ltI] using hx), bif_t (by simpa [ltI] using hx2)]
          exact ih
        · obtain ⟨y, e1, e2⟩ := b2 (by omega) (by omega)
          rw [e2, Option.bind_some, bif_f (c := ltI x 1) (by simpa [ltI] using hx), bif_f (by simpa [ltI] using hx2)]
          have hk1 : w64 ((k : Int) + 1) = ((k + 1 : Nat) : Int) := by rw [w64_id (by omega) (by omega)]; omega
          have ha : w64 ((w64 (4096 * seed)) + (w64 ((k : Int) + 1))) = 4096 * seed + k + 1 := by
            rw [hk1, w64_id (x := 4096 * seed) (by omega) (by omega), w64_id (by omega) (by omega)]
            omega
          rw [ha, e1]
          simp only [Option.bind_some]
          have hz : eqI (IntKind.wrap .u64 x) 0 = false := by
            rw [wrap_id (by omega) (by omega)]
            simp [eqI]
            omega
          rw [hz, hk1]
          have ih2 := draws_loop N h0 h1 l0 l hl (j - 1) n (i + 1) (k + 1) (by omega) (by omega) (by omega) (by omega)
          have e3 : 4096 * seed + (k : Int) + 1 = 4096 * seed + ((k + 1 : Nat) : Int) := by omega
          rw [e3]
          rw [bif_f (by decide), cond_false, bif_f (by simp [eqI])]
          exact ih2
    · rw [bif_f (by simp [ltI]; omega)]

theorem walkDraws_at (seed : Int) (l : List Int) : gamehallkeep1_WalkDraws N0 seed l = some true := by
  unfold gamehallkeep1_WalkDraws gamehallkeep1_WalkDraws.e
  rw [walked_ok, Option.bind_some, bif_f (by decide)]
  unfold walk_NewSource walk_NewSource.e
  by_cases h0 : seed < 0
  · rw [bif_t (c := ltI seed 0) (by simpa [ltI] using h0), Option.bind_some]
    rw [bif_t (c := ltI seed 0) (by simpa [ltI] using h0)]
    rfl
  · rw [bif_f (c := ltI seed 0) (by simpa [ltI] using h0)]
    by_cases h1 : 100000000 < seed
    · rw [bif_t (c := ltI 100000000 seed) (by simpa [ltI] using h1), Option.bind_some]
      rw [bif_f (c := ltI seed 0) (by simpa [ltI] using h0), bif_t (c := ltI 100000000 seed) (by simpa [ltI] using h1)]
      rfl
    · rw [bif_f (c := ltI 100000000 seed) (by simpa [ltI] using h1), Option.bind_some]
      simp only [oCase]
      rw [bif_f (by decide)]
      have hs : w64 (seed * 4096) = 4096 * seed + ((0 : Nat) : Int) := by rw [w64_id (by omega) (by omega)]; omega
      rw [hs]
      have hv : ∀ v : Int, v = (bif (ltI 20 (l.length : Int)) then 20 else (l.length : Int)) → 0 ≤ v ∧ v ≤ 20 ∧ v ≤ l.length := by
        intro v e
        subst e
        by_cases h : (20 : Int) < l.length
        · rw [bif_t (by simpa [ltI] using h)]; omega
        · rw [bif_f (by simpa [ltI] using h)]; omega
      generalize (bif (ltI 20 (l.length : Int)) then (20 : Int) else (l.length : Int)) = v at hv ⊢
      obtain ⟨v0, v1, v2⟩ := hv v rfl
      show chk (true && ((leI 0 v) && (leI v (l.length : Int)))) _ = _
      rw [chk_of (by simp [leI]; omega)]
      have hlen : ((l.take v.toNat).drop (0 : Int).toNat).length ≤ 20 := by simp; omega
      exact draws_loop N0 (by omega) (by omega) l _ hlen _ N0 0 0 rfl (by rw [Nat.sub_zero]; exact Nat.lt_of_le_of_lt hlen (by decide)) (by omega) (Nat.le_refl _)
end Go.Proofs.Ytpielijehhhobaa.Am
