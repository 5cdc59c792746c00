/- The plain law BitsRays: the plain function says true at every input. -/
import Derived.Test.YtbnpbnghpbgjiaaDoorLawBitsS
set_option linter.unusedVariables false
set_option linter.unusedSimpArgs false
namespace Go.Proofs.YtbnpbnghpbgjiaaDoor.Am
open Go

/-- the square behind another, in a direction -/
def nxt (dx dy : Int) (i : Nat) : Option Nat :=
  if 0 ≤ ((i % 8 : Nat) : Int) + dx ∧ ((i % 8 : Nat) : Int) + dx < 8 ∧ 0 ≤ (i : Int) + (8 * dy + dx) ∧ (i : Int) + (8 * dy + dx) < 64 then some ((i : Int) + (8 * dy + dx)).toNat else none
def bit1 : Option Nat → Nat
  | some i => 2 ^ i
  | none => 0
theorem bit1_lt {o : Option Nat} (h : ∀ i, o = some i → i < 64) : bit1 o < 2 ^ 64 := by
  cases o with
  | none => exact Nat.two_pow_pos 64
  | some i => exact Nat.pow_lt_pow_right (by decide) (h i rfl)
theorem nxt_lt {dx dy : Int} {i j : Nat} (h : nxt dx dy i = some j) : j < 64 := by
  unfold nxt at h
  split at h
  · cases h; omega
  · cases h
theorem sh_one {dx dy : Int} {i : Nat} (hi : i < 64) : sh (2 ^ i) dx dy = bit1 (nxt dx dy i) := by
  have hm : 2 ^ i < 2 ^ 64 := Nat.pow_lt_pow_right (by decide) hi
  have hb : bit1 (nxt dx dy i) < 2 ^ 64 := bit1_lt fun j hj => nxt_lt hj
  apply Nat.eq_of_testBit_eq
  intro j
  by_cases hj : j < 64
  · apply Bool.eq_iff_iff.2
    rw [sh_bit hm hj]
    unfold nxt
    constructor
    · rintro ⟨i', g0, g1, g2, g3, g4⟩
      rw [Nat.testBit_two_pow, decide_eq_true_eq] at g1
      subst g1
      rw [if_pos ⟨g2, g3, by omega, by omega⟩]
      show (2 ^ _).testBit j = true
      rw [Nat.testBit_two_pow, decide_eq_true_eq]
      omega
    · intro h
      split at h
      · rename_i hc
        have h : (2 ^ ((i : Int) + (8 * dy + dx)).toNat).testBit j = true := h
        rw [Nat.testBit_two_pow, decide_eq_true_eq] at h
        exact ⟨i, hi, by rw [Nat.testBit_two_pow]; simp, hc.1, hc.2.1, by omega⟩
      · have h : (0 : Nat).testBit j = true := h
        rw [Nat.zero_testBit] at h
        cases h
  · rw [bit_hi (sh_lt dx dy hm) (by omega), bit_hi hb (by omega)]
/-- the squares of a ray on an empty board -/
def path (dx dy : Int) : Nat → Option Nat → List Nat
  | 0, _ => []
  | _ + 1, none => []
  | f + 1, some i => i :: path dx dy f (nxt dx dy i)
/-- .. as far as the first occupied one -/
def cutL (occ : Nat) : List Nat → List Nat
  | [] => []
  | i :: l => if occ.testBit i = true then [i] else i :: cutL occ l
def orL (a : Nat) (l : List Nat) : Nat := l.foldl (fun a i => a ||| 2 ^ i) a
theorem path_end : ∀ i : Nat, i < 64 → ∀ dx : Nat, dx < 3 → ∀ dy : Nat, dy < 3 → ¬ (dx = 1 ∧ dy = 1) → (path ((dx : Int) - 1) ((dy : Int) - 1) 9 (some i)).length < 9 := by decide +kernel
theorem orL_bit : ∀ (l : List Nat) (a j : Nat), (orL a l).testBit j = (a.testBit j || decide (j ∈ l))
  | [], a, j => by simp [orL]
  | i :: l, a, j => by
    show (orL (a ||| 2 ^ i) l).testBit j = _
    rw [orL_bit l, Nat.testBit_or, Nat.testBit_two_pow]
    by_cases h : i = j
    · subst h; simp
    · simp [h, show ¬ j = i by omega]
theorem orL_lt : ∀ (l : List Nat) (a : Nat), a < 2 ^ 64 → (∀ i ∈ l, i < 64) → orL a l < 2 ^ 64
  | [], a, ha, _ => ha
  | i :: l, a, ha, h => orL_lt l _ (Nat.or_lt_two_pow ha (Nat.pow_lt_pow_right (by decide) (h i (by simp)))) fun j hj => h j (by simp [hj])
theorem path_lt {dx dy : Int} : ∀ (f : Nat) (o : Option Nat), (∀ i, o = some i → i < 64) → ∀ j ∈ path dx dy f o, j < 64
  | 0, o, h, j, hj => by simp [path] at hj
  | f + 1, none, h, j, hj => by simp [path] at hj
  | f + 1, some i, h, j, hj => by
    simp only [path, List.mem_cons] at hj
    rcases hj with rfl | hj
    · exact h j rfl
    · exact path_lt f _ (fun k hk => nxt_lt hk) j hj
theorem bit_and {occ i : Nat} (hi : i < 64) : 2 ^ i &&& occ = if occ.testBit i = true then 2 ^ i else 0 := by
  apply Nat.eq_of_testBit_eq
  intro j
  rw [Nat.testBit_and, Nat.testBit_two_pow]
  by_cases h : i = j
  · subst h
    cases hb : occ.testBit i <;> simp [hb]
  · split <;> simp [h]
theorem ray_l0 {N : Nat} {sq dx dy oc : Int} {occ : Nat} (hN : 100 < N) (ho : occ < 2 ^ 64) (hdx : -1 ≤ dx ∧ dx ≤ 1) (hdy : -1 ≤ dy ∧ dy ≤ 1) : ∀ (f : Nat) (o : Option Nat) (out n : Nat), (∀ i, o = some i → i < 64) → out < 2 ^ 64 → (path dx dy f o).length < f → f ≤ n →
    bits_Ray.l0 N sq dx dy (occ : Int) n (out : Int) ((bit1 o : Nat) : Int) = some (((orL out (cutL occ (path dx dy f o)) : Nat) : Int), 0)
  | 0, o, out, n, hi, hout, hl, hn => by simp [path] at hl
  | f + 1, none, out, n, hi, hout, hl, hn => by
    obtain ⟨n, rfl⟩ := nxtS (k := f) (n := n) (by omega)
    rw [bits_Ray.l0_s, bits_Ray.s0, show (!(eqI ((bit1 none : Nat) : Int) 0)) = false from rfl, bif_f rfl]
    rfl
  | f + 1, some i, out, n, hi, hout, hl, hn => by
    obtain ⟨n, rfl⟩ := nxtS (k := f) (n := n) (by omega)
    have hi64 := hi i rfl
    have hp : 2 ^ i < 2 ^ 64 := Nat.pow_lt_pow_right (by decide) hi64
    have hp0 : 0 < 2 ^ i := Nat.two_pow_pos i
    have h1 : (!(eqI ((2 ^ i : Nat) : Int) 0)) = true := by rw [eqI_f (by omega)]; rfl
    have ih := ray_l0 (N := N) (sq := sq) (oc := oc) hN ho hdx hdy f (nxt dx dy i) (out ||| 2 ^ i) n (fun j hj => nxt_lt hj) (Nat.or_lt_two_pow hout hp) (by simp only [path, List.length_cons] at hl; omega) (by omega)
    rw [bits_Ray.l0_s, bits_Ray.s0]
    show (bif !(eqI ((2 ^ i : Nat) : Int) 0) then _ else _) = _
    rw [bif_t h1, show bit1 (some i) = 2 ^ i from rfl]
    simp only
    rw [bOr hout hp, bAnd hp ho, bit_and hi64]
    show _ = some (((orL out (cutL occ (i :: path dx dy f (nxt dx dy i))) : Nat) : Int), 0)
    unfold cutL
    by_cases hb : occ.testBit i = true
    · rw [if_pos hb, if_pos hb, bif_t h1]
      rfl
    · rw [if_neg hb, if_neg hb, show (!(eqI ((0 : Nat) : Int) 0)) = false from rfl, bif_f rfl, shift_eq hN hp ⟨by omega, by omega⟩ ⟨by omega, by omega⟩, Option.bind_some, sh_one hi64]
      exact ih
theorem cutL_mono {a b : Nat} (h : ∀ i, a.testBit i = true → b.testBit i = true) : ∀ l : List Nat, ∀ j ∈ cutL b l, j ∈ cutL a l
  | [], j, hj => hj
  | i :: l, j, hj => by
    unfold cutL at hj ⊢
    by_cases hb : b.testBit i = true
    · rw [if_pos hb, List.mem_singleton] at hj
      subst hj
      split <;> simp
    · have ha : ¬ a.testBit i = true := fun e => hb (h i e)
      rw [if_neg hb, List.mem_cons] at hj
      rw [if_neg ha, List.mem_cons]
      rcases hj with rfl | hj
      · exact .inl rfl
      · exact .inr (cutL_mono h l j hj)
/-- at most one square of it is occupied -/
theorem cutL_occ {occ : Nat} : ∀ l : List Nat, (∀ i ∈ cutL occ l, occ.testBit i = false) ∨ ∃ k, occ.testBit k = true ∧ k ∈ cutL occ l ∧ ∀ i ∈ cutL occ l, occ.testBit i = true → i = k
  | [] => .inl fun i hi => by simp [cutL] at hi
  | i :: l => by
    unfold cutL
    by_cases hb : occ.testBit i = true
    · rw [if_pos hb]
      exact .inr ⟨i, hb, by simp, fun j hj _ => by simpa using hj⟩
    · rw [if_neg hb]
      rcases cutL_occ (occ := occ) l with h | ⟨k, h1, h2, h3⟩
      · refine .inl fun j hj => ?_
        rcases List.mem_cons.1 hj with rfl | hj
        · simpa using hb
        · exact h j hj
      · refine .inr ⟨k, h1, by simp [h2], fun j hj ho => ?_⟩
        rcases List.mem_cons.1 hj with rfl | hj
        · exact absurd ho hb
        · exact h3 j hj ho
theorem cutL_lt {occ : Nat} : ∀ l : List Nat, ∀ j ∈ cutL occ l, j ∈ l
  | [], j, hj => hj
  | i :: l, j, hj => by
    unfold cutL at hj
    split at hj
    · rw [List.mem_singleton] at hj; simp [hj]
    · rcases List.mem_cons.1 hj with rfl | hj
      · simp
      · simp [cutL_lt l j hj]
theorem occ_pc {occ : Nat} (ho : occ < 2 ^ 64) (l : List Nat) (hl : ∀ i ∈ l, i < 64) : pc (orL 0 (cutL occ l) &&& occ) ≤ 1 := by
  have hor := orL_lt (cutL occ l) 0 (by decide) fun i hi => hl i (cutL_lt l i hi)
  rcases cutL_occ (occ := occ) l with h | ⟨k, h1, h2, h3⟩
  · have : orL 0 (cutL occ l) &&& occ = 0 := by
      apply Nat.eq_of_testBit_eq
      intro j
      rw [Nat.testBit_and, orL_bit, Nat.zero_testBit, Bool.false_or]
      by_cases hj : j ∈ cutL occ l
      · rw [h j hj]; simp
      · simp [hj]
    rw [this, pc_zero]
    omega
  · have : orL 0 (cutL occ l) &&& occ = 2 ^ k := by
      apply Nat.eq_of_testBit_eq
      intro j
      rw [Nat.testBit_and, orL_bit, Nat.zero_testBit, Bool.false_or, Nat.testBit_two_pow]
      by_cases hj : j ∈ cutL occ l
      · by_cases hk : k = j
        · subst hk; simp [hj, h1]
        · have : ¬ occ.testBit j = true := fun e => hk (h3 j hj e).symm
          simp [hj, hk, this]
      · have : ¬ k = j := fun e => hj (e ▸ h2)
        simp [hj, this]
    rw [this, pc_two k (hl k (cutL_lt l k h2))]
    exact Nat.le_refl _
theorem orL_zero {l : List Nat} : orL 0 l = 0 ↔ l = [] := by
  constructor
  · intro h
    cases l with
    | nil => rfl
    | cons i l =>
      have := orL_bit (i :: l) 0 i
      rw [h, Nat.zero_testBit] at this
      simp at this
  · rintro rfl; rfl
theorem cutL_nil {occ : Nat} {l : List Nat} : cutL occ l = [] ↔ l = [] := by
  cases l with
  | nil => simp [cutL]
  | cons i l => unfold cutL; split <;> simp
/-- what a ray is -/
theorem ray_eq {N : Nat} (hN : 100 < N) {sq dx dy : Int} {occ : Nat} (ho : occ < 2 ^ 64) :
    (∃ e, e ≠ 0 ∧ ∀ oc, bits_Ray N sq dx dy oc = some (0, e)) ∨ ∃ l : List Nat, (∀ i ∈ l, i < 64) ∧ ∀ oc : Nat, oc < 2 ^ 64 → bits_Ray N sq dx dy (oc : Int) = some (((orL 0 (cutL oc l) : Nat) : Int), 0) := by
  by_cases h1 : sq < 0
  · exact .inl ⟨4, by decide, fun oc => by unfold bits_Ray bits_Ray.e; rw [bif_t (ltI_t h1)]⟩
  by_cases h2 : 64 ≤ sq
  · exact .inl ⟨4, by decide, fun oc => by unfold bits_Ray bits_Ray.e; rw [bif_f (ltI_f (by omega)), bif_t (leI_t h2)]⟩
  by_cases h3 : dx < -1
  · exact .inl ⟨1, by decide, fun oc => by unfold bits_Ray bits_Ray.e; rw [bif_f (ltI_f (by omega)), bif_f (leI_f (by omega)), bif_t (ltI_t h3)]⟩
  by_cases h4 : 1 < dx
  · exact .inl ⟨1, by decide, fun oc => by unfold bits_Ray bits_Ray.e; rw [bif_f (ltI_f (by omega)), bif_f (leI_f (by omega)), bif_f (ltI_f (by omega)), bif_t (ltI_t h4)]⟩
  by_cases h5 : dy < -1
  · exact .inl ⟨1, by decide, fun oc => by unfold bits_Ray bits_Ray.e; rw [bif_f (ltI_f (by omega)), bif_f (leI_f (by omega)), bif_f (ltI_f (by omega)), bif_f (ltI_f (by omega)), bif_t (ltI_t h5)]⟩
  by_cases h6 : 1 < dy
  · exact .inl ⟨1, by decide, fun oc => by unfold bits_Ray bits_Ray.e; rw [bif_f (ltI_f (by omega)), bif_f (leI_f (by omega)), bif_f (ltI_f (by omega)), bif_f (ltI_f (by omega)), bif_f (ltI_f (by omega)), bif_t (ltI_t h6)]⟩
  by_cases h7 : dx = 0 ∧ dy = 0
  · exact .inl ⟨1, by decide, fun oc => by unfold bits_Ray bits_Ray.e; rw [bif_f (ltI_f (by omega)), bif_f (leI_f (by omega)), bif_f (ltI_f (by omega)), bif_f (ltI_f (by omega)), bif_f (ltI_f (by omega)), bif_f (ltI_f (by omega)), bif_t (eqI_t h7.1), bif_t (eqI_t h7.2)]⟩
  obtain ⟨i, rfl⟩ : ∃ i : Nat, sq = i := ⟨sq.toNat, by omega⟩
  have hi : i < 64 := by omega
  have hp : 2 ^ i < 2 ^ 64 := Nat.pow_lt_pow_right (by decide) hi
  have hs : IntKind.wrap .u64 (1 * 2 ^ (min (i : Int).toNat 64)) = ((2 ^ i : Nat) : Int) := by
    rw [Int.toNat_natCast, show min i 64 = i by omega, Int.one_mul]
    have : ((2 : Int) ^ i) = ((2 ^ i : Nat) : Int) := by rw [Int.natCast_pow]; rfl
    rw [this]
    exact u64_id (Int.natCast_nonneg _) (Int.ofNat_lt.2 hp)
  refine .inr ⟨path dx dy 9 (nxt dx dy i), fun j hj => path_lt 9 _ (fun k hk => nxt_lt hk) j hj, fun oc hoc => ?_⟩
  have hlen : (path dx dy 9 (nxt dx dy i)).length < 9 := by
    cases hn : nxt dx dy i with
    | none => simp [path]
    | some j =>
      have := path_end j (nxt_lt hn) (dx + 1).toNat (by omega) (dy + 1).toNat (by omega) (by omega)
      rw [show (((dx + 1).toNat : Nat) : Int) - 1 = dx by omega, show (((dy + 1).toNat : Nat) : Int) - 1 = dy by omega] at this
      exact this
  have hr := ray_l0 (N := N) (sq := (i : Int)) (oc := 0) hN hoc ⟨by omega, by omega⟩ ⟨by omega, by omega⟩ 9 (nxt dx dy i) 0 N (fun k hk => nxt_lt hk) (by decide) hlen (by omega)
  have hsh := shift_eq (dx := dx) (dy := dy) hN hp ⟨by omega, by omega⟩ ⟨by omega, by omega⟩
  rw [sh_one hi] at hsh
  unfold bits_Ray bits_Ray.e
  rw [bif_f (ltI_f (by omega)), bif_f (leI_f (by omega)), bif_f (ltI_f (by omega)), bif_f (ltI_f (by omega)), bif_f (ltI_f (by omega)), bif_f (ltI_f (by omega)), hs, hsh, Option.bind_some]
  by_cases h8 : dx = 0
  · rw [bif_t (eqI_t h8), bif_f (eqI_f (fun e => h7 ⟨h8, e⟩)), bif_f (ltI_f (by omega))]
    exact hr
  · rw [bif_f (eqI_f h8), bif_f (ltI_f (by omega))]
    exact hr
theorem bitsRays_at (sq dx dy o w : Int) (ho0 : 0 ≤ o) (ho1 : o ≤ 18446744073709551615) (hw0 : 0 ≤ w) (hw1 : w ≤ 18446744073709551615) : gamehallkeep1_BitsRays 300000000 sq dx dy o w = some true := by
  obtain ⟨oc, rfl⟩ : ∃ m : Nat, o = m := ⟨o.toNat, by omega⟩
  obtain ⟨mo, rfl⟩ : ∃ m : Nat, w = m := ⟨w.toNat, by omega⟩
  have hoc : oc < 2 ^ 64 := by omega
  have hmo : mo < 2 ^ 64 := by omega
  have hor : oc ||| mo < 2 ^ 64 := Nat.or_lt_two_pow hoc hmo
  unfold gamehallkeep1_BitsRays gamehallkeep1_BitsRays.e
  rw [shifts_true, Option.bind_some, show (!true) = false from rfl, bif_f rfl, bOr hoc hmo]
  rcases ray_eq (N := 300000000) (by omega) (sq := sq) (dx := dx) (dy := dy) hoc with ⟨e, he, h⟩ | ⟨l, hl, h⟩
  · rw [h, h, Option.bind_some, Option.bind_some]
    have h1 : (!(eqI e 0)) = true := by rw [eqI_f he]; rfl
    simp only
    rw [bif_t h1, bif_t (eqI_t rfl)]
    rfl
  · rw [h oc hoc, h (oc ||| mo) hor, Option.bind_some, Option.bind_some]
    simp only
    have ha := orL_lt (cutL oc l) 0 (by decide) fun i hi => hl i (cutL_lt l i hi)
    have hb := orL_lt (cutL (oc ||| mo) l) 0 (by decide) fun i hi => hl i (cutL_lt l i hi)
    rw [show (!(eqI (0 : Int) 0)) = false from rfl, bif_f rfl, bif_t (show eqI (0 : Int) 0 = true from rfl), bNot hb ha]
    have hsub : nn (orL 0 (cutL (oc ||| mo) l)) (orL 0 (cutL oc l)) = 0 := by
      apply Nat.eq_of_testBit_eq
      intro j
      rw [nn_bit hb ha, orL_bit, orL_bit, Nat.zero_testBit, Bool.false_or, Bool.false_or]
      by_cases hj : j ∈ cutL (oc ||| mo) l
      · have := cutL_mono (a := oc) (b := oc ||| mo) (fun i hi => by rw [Nat.testBit_or, hi]; rfl) l j hj
        simp [hj, this]
      · simp [hj]
    have p1 := occ_pc hoc l hl
    have p2 := occ_pc hor l hl
    rw [hsub, bif_t (show eqI ((0 : Nat) : Int) 0 = true from rfl), bAnd ha hoc, count_eq (by omega) (Nat.and_lt_two_pow _ hoc), Option.bind_some, bif_t (leI_t (by omega)), bAnd hb hor, count_eq (by omega) (Nat.and_lt_two_pow _ hor), Option.bind_some, bif_t (leI_t (by omega))]
    by_cases hz : l = []
    · subst hz
      rfl
    · have z1 : orL 0 (cutL oc l) ≠ 0 := fun e => hz (cutL_nil.1 (orL_zero.1 e))
      have z2 : orL 0 (cutL (oc ||| mo) l) ≠ 0 := fun e => hz (cutL_nil.1 (orL_zero.1 e))
      rw [eqI_f (by omega), eqI_f (by omega)]
      rfl
end Go.Proofs.YtbnpbnghpbgjiaaDoor.Am
