/- Plain: positions are checked. -/
import Derived.Test.YtjmcjiklfhmdlaaLawRulesz
set_option linter.unusedVariables false
set_option linter.unusedSimpArgs false
namespace Go.Proofs.Ytjmcjiklfhmdlaa.Am
open Go

abbrev RulesT := ByteArray × (Int × (Int × (List PieceT × (List Int × (Bool × (Bool × (List EndT × (Int × (Int × Int)))))))))
abbrev PosT := List Int × ((List Int × List Int) × (Int × Int))

section
variable (N : Nat) (r : RulesT) (p : PosT)
/-- what stands behind the hands -/
def placeEnd (p : PosT) : Int := if (p.2.2.1 = 0 ∨ p.2.2.1 = 1) ∧ 0 ≤ p.2.2.2 ∧ p.2.2.2 ≤ 200 then 0 else 4
theorem pcheck_l1_end (n : Nat) (hn : 1 ≤ n) : place_Check.l1 N r p n 2 = some (placeEnd p) := by
  obtain ⟨n, rfl⟩ : ∃ m, n = m + 1 := ⟨n - 1, by omega⟩
  rw [place_Check.l1_s, place_Check.s1, bif_f (by rfl)]
  unfold placeEnd
  simp only [eqI, ltI, Bool.cond_eq_ite, Bool.not_eq_true', decide_eq_true_eq, decide_eq_false_iff_not, ite_not]
  repeat' split
  all_goals first | rfl | (exfalso; omega)
theorem pcheck_l2 (i : Int) (hd : List Int) (hl : hd.length ≤ 6) (B : Nat) (v : Int) (hv : ∀ n, B ≤ n → place_Check.l1 N r p n (w64 (i + 1)) = some v) : ∀ (k j n : Nat), j + k = hd.length → k + B + 1 ≤ n →
    place_Check.l2 N r p n i hd (hd.length : Int) (j : Int) = some (if ∀ c ∈ hd.drop j, 0 ≤ c ∧ c ≤ 1000 then v else 4)
  | 0, j, n + 1, hk, hn => by
    rw [place_Check.l2_s, place_Check.s2, bif_f (ltI_f (by omega)), hv n (by omega), List.drop_of_length_le (by omega)]
    simp
  | k + 1, j, n + 1, hk, hn => by
    have hj : j < hd.length := by omega
    have ih := pcheck_l2 i hd hl B v hv k (j + 1) n (by omega) (by omega)
    rw [place_Check.l2_s, place_Check.s2, bif_t (ltI_t (by omega)), chk_of (idx_ok hj), gD_nat hj, w64_id (by omega) (by omega), show ((j : Int) + 1) = ((j + 1 : Nat) : Int) by omega, ih, List.drop_eq_getElem_cons hj]
    by_cases h1 : hd[j] < 0
    · rw [bif_t (ltI_t h1), if_neg (fun h => by have := (h hd[j] (List.mem_cons_self ..)).1; omega)]
    · rw [bif_f (ltI_f (by omega))]
      by_cases h2 : 1000 < hd[j]
      · rw [bif_t (ltI_t h2), if_neg (fun h => by have := (h hd[j] (List.mem_cons_self ..)).2; omega)]
      · rw [bif_f (ltI_f (by omega))]
        congr 1
        by_cases h3 : ∀ c ∈ hd.drop (j + 1), 0 ≤ c ∧ c ≤ 1000
        · rw [if_pos h3, if_pos]
          intro c hc
          rcases List.mem_cons.1 hc with rfl | hc
          · omega
          · exact h3 c hc
        · rw [if_neg h3, if_neg (fun h => h3 fun c hc => h c (List.mem_cons_of_mem _ hc))]
abbrev handOk (l : List Int) : Prop := ∀ c ∈ l, 0 ≤ c ∧ c ≤ 1000
theorem pcheck_l1 (n : Nat) (hn : 50 ≤ n) (h0 : p.2.1.1.length ≤ 6) (h1 : p.2.1.2.length ≤ 6) : place_Check.l1 N r p n 0 = some (if handOk p.2.1.1 then (if handOk p.2.1.2 then placeEnd p else 4) else 4) := by
  obtain ⟨n, rfl⟩ : ∃ m, n = m + 1 := ⟨n - 1, by omega⟩
  have k1 : ∀ n, 30 ≤ n → place_Check.l1 N r p n 1 = some (if handOk p.2.1.2 then placeEnd p else 4) := by
    intro n hn
    obtain ⟨n, rfl⟩ : ∃ m, n = m + 1 := ⟨n - 1, by omega⟩
    rw [place_Check.l1_s, place_Check.s1, bif_t (by rfl), bif_f (by rfl), bif_t (by rfl)]
    have := pcheck_l2 N r p 1 p.2.1.2 h1 1 (placeEnd p) (fun n hn => by rw [show w64 ((1 : Int) + 1) = 2 by decide]; exact pcheck_l1_end N r p n (by omega)) p.2.1.2.length 0 n (by omega) (by omega)
    rw [List.drop_zero, show ((0 : Nat) : Int) = 0 from rfl] at this
    exact this
  rw [place_Check.l1_s, place_Check.s1, bif_t (by rfl), bif_t (by rfl)]
  have k2 : ∀ n, 30 ≤ n → place_Check.l1 N r p n (w64 (0 + 1)) = some (if handOk p.2.1.2 then placeEnd p else 4) := fun n hn => by
    rw [show w64 ((0 : Int) + 1) = 1 by decide]
    exact k1 n hn
  have := pcheck_l2 N r p 0 p.2.1.1 h0 30 _ k2 p.2.1.1.length 0 n (by omega) (by omega)
  rw [List.drop_zero, show ((0 : Nat) : Int) = 0 from rfl] at this
  exact this
abbrev cellsOk (k : Nat) (l : List Int) : Prop := ∀ c ∈ l, 0 ≤ c ∧ c ≤ 2 * (k : Int)
theorem pcheck_l0 (hps : r.2.2.2.1.length ≤ 6) (hst : p.1.length ≤ 64) (v : Int) (hv : ∀ n, 50 ≤ n → place_Check.l1 N r p n 0 = some v) : ∀ (k j n : Nat), j + k = p.1.length → k + 51 ≤ n →
    place_Check.l0 N r p n (j : Int) = some (if cellsOk r.2.2.2.1.length (p.1.drop j) then v else 4)
  | 0, j, n + 1, hk, hn => by
    rw [place_Check.l0_s, place_Check.s0, bif_f (ltI_f (by omega)), hv n (by omega), List.drop_of_length_le (by omega)]
    simp [cellsOk]
  | k + 1, j, n + 1, hk, hn => by
    have hj : j < p.1.length := by omega
    have ih := pcheck_l0 hps hst v hv k (j + 1) n (by omega) (by omega)
    rw [place_Check.l0_s, place_Check.s0, bif_t (ltI_t (by omega)), chk_of (idx_ok hj), gD_nat hj, w64_id (x := 2 * (r.2.2.2.1.length : Int)) (by omega) (by omega), w64_id (by omega) (by omega), show ((j : Int) + 1) = ((j + 1 : Nat) : Int) by omega, ih, List.drop_eq_getElem_cons hj]
    by_cases h1 : p.1[j] < 0
    · rw [bif_t (ltI_t h1), if_neg (fun h => by have := (h p.1[j] (List.mem_cons_self ..)).1; omega)]
    · rw [bif_f (ltI_f (by omega))]
      by_cases h2 : 2 * (r.2.2.2.1.length : Int) < p.1[j]
      · rw [bif_t (ltI_t h2), if_neg (fun h => by have := (h p.1[j] (List.mem_cons_self ..)).2; omega)]
      · rw [bif_f (ltI_f (by omega))]
        congr 1
        by_cases h3 : ∀ c ∈ p.1.drop (j + 1), 0 ≤ c ∧ c ≤ 2 * (r.2.2.2.1.length : Int)
        · rw [if_pos h3, if_pos]
          intro c hc
          rcases List.mem_cons.1 hc with rfl | hc
          · omega
          · exact h3 c hc
        · rw [if_neg h3, if_neg (fun h => h3 fun c hc => h c (List.mem_cons_of_mem _ hc))]
end

/-- a position that is fine on rules of k types and a board of a squares -/
structure PosOk (a k : Nat) (p : PosT) : Prop where
  len : p.1.length = a
  h0 : p.2.1.1.length = k
  h1 : p.2.1.2.length = k
  cells : cellsOk k p.1
  o0 : handOk p.2.1.1
  o1 : handOk p.2.1.2
  e : placeEnd p = 0
instance (a k : Nat) (p : PosT) : Decidable (PosOk a k p) :=
  if h : p.1.length = a ∧ p.2.1.1.length = k ∧ p.2.1.2.length = k ∧ cellsOk k p.1 ∧ handOk p.2.1.1 ∧ handOk p.2.1.2 ∧ placeEnd p = 0 then
    .isTrue ⟨h.1, h.2.1, h.2.2.1, h.2.2.2.1, h.2.2.2.2.1, h.2.2.2.2.2.1, h.2.2.2.2.2.2⟩
  else .isFalse fun c => h ⟨c.1, c.2, c.3, c.4, c.5, c.6, c.7⟩
section
variable {nm : ByteArray} {w h : Nat} {ps : List PieceT} {st : List Int} {fa ke : Bool} {en : List EndT} {bl qu re : Int}
variable (hk : rules_Check 1000 (nm, (w, (h, (ps, (st, (fa, (ke, (en, (bl, (qu, re)))))))))) = some 0) (ho : Okay w h ps st en)
include hk ho
theorem place_check (p : PosT) : ∃ v : Int, place_Check 1000 (nm, (w, (h, (ps, (st, (fa, (ke, (en, (bl, (qu, re)))))))))) p = some v ∧ (v = 0 ↔ PosOk (w * h) ps.length p) := by
  have ha := area_le ho.b
  have hps := ho.np
  have hwh : (w : Int) * (h : Int) = ((w * h : Nat) : Int) := by simp
  unfold place_Check place_Check.e
  rw [hk, Option.bind_some, bif_f (by rfl)]
  dsimp only
  rw [w64_id (by omega) (by omega), hwh]
  by_cases e1 : p.1.length = w * h
  rotate_left
  · rw [bif_t (by rw [eqI_f (by omega)]; rfl)]
    exact ⟨3, rfl, fun h => (by cases h), fun h => absurd h.len e1⟩
  rw [bif_f (by rw [eqI_t (by omega)]; rfl)]
  by_cases e2 : p.2.1.1.length = ps.length
  rotate_left
  · rw [bif_t (by rw [eqI_f (by omega)]; rfl)]
    exact ⟨3, rfl, fun h => (by cases h), fun h => absurd h.h0 e2⟩
  rw [bif_f (by rw [eqI_t (by omega)]; rfl)]
  by_cases e3 : p.2.1.2.length = ps.length
  rotate_left
  · rw [bif_t (by rw [eqI_f (by omega)]; rfl)]
    exact ⟨3, rfl, fun h => (by cases h), fun h => absurd h.h1 e3⟩
  rw [bif_f (by rw [eqI_t (by omega)]; rfl)]
  have := pcheck_l0 1000 (nm, (w, (h, (ps, (st, (fa, (ke, (en, (bl, (qu, re)))))))))) p ho.np (by omega) _ (fun n hn => pcheck_l1 _ _ p n hn (by omega) (by omega)) p.1.length 0 1000 (by omega) (by omega)
  rw [List.drop_zero, show ((0 : Nat) : Int) = 0 from rfl] at this
  refine ⟨_, this, fun hz => ?_, fun hp => ?_⟩
  · dsimp only at hz
    by_cases c1 : cellsOk ps.length p.1
    · by_cases c2 : handOk p.2.1.1
      · by_cases c3 : handOk p.2.1.2
        · rw [if_pos c1, if_pos c2, if_pos c3] at hz
          exact ⟨e1, e2, e3, c1, c2, c3, hz⟩
        · rw [if_pos c1, if_pos c2, if_neg c3] at hz; cases hz
      · rw [if_pos c1, if_neg c2] at hz; cases hz
    · rw [if_neg c1] at hz; cases hz
  · rw [if_pos hp.cells, if_pos hp.o0, if_pos hp.o1, hp.e]
end
theorem pcheck_bad {N : Nat} {r : RulesT} {p : PosT} {v : Int} (hv : rules_Check N r = some v) (h0 : v ≠ 0) : place_Check N r p = some v := by
  unfold place_Check place_Check.e
  rw [hv, Option.bind_some, bif_t (by simp [eqI, h0])]
end Go.Proofs.Ytjmcjiklfhmdlaa.Am
