/- Plain: moves.Do. -/
import Derived.Test.YtpielijehhhobaaLawDof
set_option linter.unusedVariables false
set_option linter.unusedSimpArgs false
set_option linter.unusedSectionVars false
namespace Go.Proofs.Ytpielijehhhobaa.Am
open Go
section
variable {r : RulesT} (hr : ROk r) {p : PosT} (hp : POk r p)
include hr hp
theorem do_eq (N : Nat) {m : MvT} (hm : MoveOk r p m) : Q45 N r p m = some (doI r p m) := by
 have hll := len_le hr hp
 have hl := hp.len
 have h0 := hp.h0
 have h1 := hp.h1
 have hto := hm.to
 have hpi := hm.piece
 have hlast := hp.last
 have hc := cell_ok hp hto
 have hcell : Q74 N m.2.2 p.2.2.1 = some (2 * m.2.2 + p.2.2.1 + 1) := by
  unfold Q74 Q74.e
  simp (disch := omega) only [w64_id]
 have hk : gD 0 p.1 m.2.1 ≠ 0 → Q63 N (gD 0 p.1 m.2.1) = some (kindI (gD 0 p.1 m.2.1)) ∧ 0 ≤ kindI (gD 0 p.1 m.2.1) ∧ kindI (gD 0 p.1 m.2.1) < (r.2.2.2.1).length := fun h => ⟨kind_eq (by omega) (by omega), kind_lt (by omega) hc.2⟩
 have hb0 : ∀ i : Int, 0 ≤ i → i < (r.2.2.2.1).length → 0 ≤ gD 0 (p.2.1.1) i ∧ gD 0 (p.2.1.1) i ≤ 1000 := fun i hi hi' => gD_ok hp.o0 hi (by omega)
 have hb1 : ∀ i : Int, 0 ≤ i → i < (r.2.2.2.1).length → 0 ≤ gD 0 (p.2.1.2) i ∧ gD 0 (p.2.1.2) i ≤ 1000 := fun i hi hi' => gD_ok hp.o1 hi (by omega)
 have hm0 := hb0 _ hpi.1 hpi.2
 have hm1 := hb1 _ hpi.1 hpi.2
 unfold Q45 Q45.e
 rw [copy_eq hr hp, Option.bind_some, hcell]
 unfold doI setH hand2 hand1 cells2 handT
 by_cases hs : m.1 < 0
 ·have hz : gD 0 p.1 m.2.1 = 0 := by
   rcases hm.src with h | h
   ·exact h.2.1
   ·omega
  rw [bif_t (ltI_t hs)]
  rcases hlast.1 with ht | ht
  ·rw [bif_t (eqI_t ht)]
   simp (disch := omega) only [chk_idx, w64_id, hz, eqI_t, Bool.not_true, cond_false, Option.bind_some, if_pos hs, if_pos ht, Bool.cond_false]
   simp [hs]
  ·rw [bif_f (eqI_f (by omega)), bif_t (eqI_t ht)]
   simp (disch := omega) only [chk_idx, w64_id, hz, eqI_t, Bool.not_true, cond_false, Option.bind_some, if_pos hs, if_neg (show ¬ p.2.2.1 = 0 by omega)]
   simp [hs]
 ·have hsrc : 0 ≤ m.1 ∧ m.1 < r.2.1 * r.2.2.1 := by
   rcases hm.src with h | h
   ·omega
   ·exact ⟨h.1, h.2.1⟩
  rw [bif_f (ltI_f (by omega))]
  simp only [if_neg hs]
  by_cases hz : gD 0 p.1 m.2.1 = 0
  ·simp (disch := omega) only [chk_idx, w64_id, hz, eqI_t, Bool.not_true, cond_false, Option.bind_some, List.length_set]
   by_cases h200 : 200 < p.2.2.2 + 1
   ·rcases hlast.1 with ht | ht <;> simp [hs, ht, ltI_t h200, h200]
   ·rcases hlast.1 with ht | ht <;> simp [hs, ht, ltI_f (show p.2.2.2 + 1 ≤ 200 by omega), h200]
  ·obtain ⟨hk1, hk2, hk3⟩ := hk hz
   have hk0 := hb0 _ hk2 hk3
   have hk1' := hb1 _ hk2 hk3
   rw [hk1]
   rcases hlast.1 with ht | ht
   ·simp (disch := omega) only [chk_idx, w64_id, eqI_f hz, eqI_t ht, Bool.not_false, cond_true, Option.bind_some, List.length_set, if_pos ht]
    by_cases h1000 : 1000 < gD 0 p.2.1.1 (kindI (gD 0 p.1 m.2.1)) + 1
    ·cases hK : r.2.2.2.2.2.2.1 <;> simp [hs, ht, hz, ltI_t h1000, h1000]
    ·cases hK : r.2.2.2.2.2.2.1 <;> simp [hs, ht, hz, ltI_f (show gD 0 p.2.1.1 (kindI (gD 0 p.1 m.2.1)) + 1 ≤ 1000 by omega), h1000]
   ·simp (disch := omega) only [chk_idx, w64_id, eqI_f hz, eqI_f (show p.2.2.1 ≠ 0 by omega), eqI_t ht, Bool.not_false, cond_true, cond_false, Option.bind_some, List.length_set, if_neg (show ¬ p.2.2.1 = 0 by omega)]
    by_cases h1000 : 1000 < gD 0 p.2.1.2 (kindI (gD 0 p.1 m.2.1)) + 1
    ·cases hK : r.2.2.2.2.2.2.1 <;> simp [hs, ht, hz, ltI_t h1000, h1000]
    ·cases hK : r.2.2.2.2.2.2.1 <;> simp [hs, ht, hz, ltI_f (show gD 0 p.2.1.2 (kindI (gD 0 p.1 m.2.1)) + 1 ≤ 1000 by omega), h1000]
end
end Go.Proofs.Ytpielijehhhobaa.Am
