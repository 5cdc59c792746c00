/- Plain: boards: a move is made, and taken back. -/
import Derived.Test.YtpielijehhhobaaLawZobf
import Derived.Test.YtpielijehhhobaaLawEndsf
set_option linter.unusedVariables false
set_option linter.unusedSimpArgs false
set_option linter.unusedSectionVars false
namespace Go.Proofs.Ytpielijehhhobaa.Am
open Go
abbrev UndoT := MvT × (Int × (Int × (Bool × (Int × Int))))
abbrev BoardT := RulesT × (PosT × (Int × List UndoT))
abbrev zU : UndoT := (z0, ((0 : Int), ((0 : Int), (false, ((0 : Int), (0 : Int))))))
theorem copy_l0 (N : Nat) {r : RulesT} (hr : ROk r) : ∀ (k j n : Nat) (m : List PieceT), j + k = (r.2.2.2.1).length → m.length = (r.2.2.2.1).length → (∀ i, i < j → m[i]? = (r.2.2.2.1)[i]?) → k < n →
  Q46.l0 N r n ((r.2.2.2.1).length : Int) (j : Int) m = some r
 | 0, j, n, m, hk, hm, hi, hn => by
  obtain ⟨n, rfl⟩ := nxt (n := n) (by omega)
  have ha := area_le' hr.b
  have hs := hr.ns
  have he := hr.ne
  have : m = r.2.2.2.1 := by
   apply List.ext_getElem?
   intro i
   by_cases h : i < j
   ·exact hi i h
   ·rw [List.getElem?_eq_none (by omega), List.getElem?_eq_none (by omega)]
  subst this
  rw [Q46.l0_s, Q46.s0, bif_f (ltI_f (by omega)), chk_cap (by omega), chk_cap (by omega)]
 | k + 1, j, n, m, hk, hm, hi, hn => by
  obtain ⟨n, rfl⟩ := nxt (n := n) (by omega)
  have hj : j < (r.2.2.2.1).length := by omega
  have h6 := hr.ps.le
  have hw := (piece_ok hr (kind := j) (by omega)).2.1
  rw [gD_nat hj] at hw
  rw [Q46.l0_s, Q46.s0, bif_t (ltI_t (by omega)), chk_of (idx_ok hj), gD_nat hj, chk_cap (by omega), chk_of (idx_ok (by omega)), w64_id (by omega) (by omega), show ((j : Int) + 1) = ((j + 1 : Nat) : Int) by omega, Int.toNat_natCast]
  refine copy_l0 N hr k (j + 1) n _ (by omega) (by simp [hm]) (fun i hi' => ?_) (by omega)
  rw [List.getElem?_set]
  by_cases hij : j = i
  ·subst hij
   rw [if_pos rfl, if_pos (by omega), List.getElem?_eq_getElem hj]
  ·rw [if_neg hij]
   exact hi i (by omega)
theorem rcopy_eq {N : Nat} (hN : 1000 ≤ N) {r : RulesT} (hr : ROk r) : Q46 N r = some r := by
 have h6 := hr.ps.le
 unfold Q46 Q46.e
 dsimp only
 rw [chk_of (by
  rw [leI_t (by omega), decide_eq_true (by omega), Bool.true_and, Bool.true_and, Int.toNat_natCast]
  unfold capOk
  exact decide_eq_true (by omega))]
 have := copy_l0 N hr (r.2.2.2.1).length 0 N (List.replicate ((r.2.2.2.1).length : Int).toNat zP) (by omega) (by simp) (fun i hi => by omega) (by omega)
 rw [show ((0 : Nat) : Int) = 0 from rfl] at this
 exact this
structure BOk (b : BoardT) : Prop where
 r : ROk b.1
 p : POk b.1 b.2.1
 key : b.2.2.1 = U (keyS b.2.1)
theorem new_good {N : Nat} (hN : 1000 ≤ N) {r : RulesT} {p : PosT} (hr : ROk r) (hp : POk r p) : Q27 N r p = some (some (r, (p, (U (keyS p), []))), 0) := by
 unfold Q27 Q27.e
 rw [pcheck_ok hN hr hp, Option.bind_some, bif_f (by rfl), rcopy_eq hN hr, Option.bind_some, copy_eq hr hp, Option.bind_some, of_eq hr hp hN, Option.bind_some]
theorem new_bad {N : Nat} {r : RulesT} {p : PosT} {v : Int} (hv : Q37 N r p = some v) (h0 : v ≠ 0) : Q27 N r p = some (none, v) := by
 unfold Q27 Q27.e
 rw [hv, Option.bind_some, bif_t (by simp [eqI, h0])]
def undoI (b : BoardT) (m : MvT) : UndoT :=
 (m, (if m.1 < 0 then 0 else gD 0 b.2.1.1 m.1, (gD 0 b.2.1.1 m.2.1, (decide (gD 0 b.2.1.1 m.2.1 ≠ 0 ∧ b.1.2.2.2.2.2.2.1 = true ∧ gD 0 (handT b.2.1) (kindI (gD 0 b.2.1.1 m.2.1)) < 1000), (b.2.1.2.2.2, b.2.2.1)))))
def makeB (b : BoardT) (m : MvT) : BoardT := (b.1, (doI b.1 b.2.1 m, (nextI b.1 b.2.1 m b.2.2.1, b.2.2.2 ++ [undoI b m])))
theorem set_same {l : List Int} {i : Int} (h0 : 0 ≤ i) (h : i < l.length) : l.set i.toNat (gD 0 l i) = l := by
 obtain ⟨i, rfl⟩ : ∃ a : Nat, i = a := ⟨i.toNat, by omega⟩
 rw [Int.toNat_natCast, gD_nat (by omega), List.set_getElem_self]
section
variable {b : BoardT} (hb : BOk b) (hl : b.2.2.2.length ≤ 100000) {m : MvT} (hm : MoveOk b.1 b.2.1 m)
include hb hl hm
theorem make_eq (N : Nat) : Q50 N b m = some (makeB b m) := by
 obtain ⟨r, p, key, d⟩ := b
 obtain ⟨hr, hp, hkey⟩ := hb
 dsimp only at hr hp hkey hl hm
 have hll := len_le hr hp
 have hlen := hp.len
 have h0 := hp.h0
 have h1 := hp.h1
 have hto := hm.to
 have hpi := hm.piece
 have hlast := hp.last
 have hc := cell_ok hp hto
 have hcell : Q74 N m.2.2 p.2.2.1 = some (2 * m.2.2 + p.2.2.1 + 1) := by
  unfold Q74 Q74.e
  simp (disch := omega) only [w64_id]
 have hk : gD 0 p.1 m.2.1 ≠ 0 → Q63 N (gD 0 p.1 m.2.1) = some (kindI (gD 0 p.1 m.2.1)) ∧ 0 ≤ kindI (gD 0 p.1 m.2.1) ∧ kindI (gD 0 p.1 m.2.1) < (r.2.2.2.1).length := fun h => ⟨kind_eq (by omega) (by omega), kind_lt (by omega) hc.2⟩
 have hb0 : ∀ i : Int, 0 ≤ i → i < (r.2.2.2.1).length → 0 ≤ gD 0 (p.2.1.1) i ∧ gD 0 (p.2.1.1) i ≤ 1000 := fun i hi hi' => gD_ok hp.o0 hi (by omega)
 have hb1 : ∀ i : Int, 0 ≤ i → i < (r.2.2.2.1).length → 0 ≤ gD 0 (p.2.1.2) i ∧ gD 0 (p.2.1.2) i ≤ 1000 := fun i hi hi' => gD_ok hp.o1 hi (by omega)
 have hm0 := hb0 _ hpi.1 hpi.2
 have hm1 := hb1 _ hpi.1 hpi.2
 unfold Q50 Q50.e
 dsimp only
 rw [chk_idx hto.1 (by omega), next_eq hr hp N hm, Option.bind_some, hcell]
 unfold makeB undoI doI setH hand2 hand1 cells2 handT
 dsimp only
 by_cases hs : m.1 < 0
 ·have hz : gD 0 p.1 m.2.1 = 0 := by
   rcases hm.src with h | h
   ·exact h.2.1
   ·omega
  rcases hlast.1 with ht | ht
  ·rw [bif_t (eqI_t ht), bif_t (ltI_t hs)]
   simp (disch := first | omega | (simp; omega)) only [chk_idx, w64_id, chk_cap, hz, eqI_t, Bool.not_true, cond_false, Option.bind_some, if_pos hs, if_pos ht]
   simp [hs]
  ·rw [bif_f (eqI_f (by omega)), bif_t (eqI_t ht), bif_t (ltI_t hs)]
   simp (disch := first | omega | (simp; omega)) only [chk_idx, w64_id, chk_cap, hz, eqI_t, Bool.not_true, cond_false, Option.bind_some, if_pos hs, if_neg (show ¬ p.2.2.1 = 0 by omega)]
   simp [hs]
 ·have hsrc : 0 ≤ m.1 ∧ m.1 < r.2.1 * r.2.2.1 := by
   rcases hm.src with h | h
   ·omega
   ·exact ⟨h.1, h.2.1⟩
  simp only [if_neg hs]
  by_cases hz : gD 0 p.1 m.2.1 = 0
  ·by_cases h200 : 200 < p.2.2.2 + 1
   ·rcases hlast.1 with ht | ht
    ·rw [bif_t (eqI_t ht), bif_f (ltI_f (by omega))]
     simp (disch := first | omega | (simp; omega)) only [chk_idx, w64_id, chk_cap, hz, eqI_t, Bool.not_true, cond_false, Option.bind_some, List.length_set]
     simp [hs, ht, ltI_t h200, h200]
    ·rw [bif_f (eqI_f (by omega)), bif_t (eqI_t ht), bif_f (ltI_f (by omega))]
     simp (disch := first | omega | (simp; omega)) only [chk_idx, w64_id, chk_cap, hz, eqI_t, Bool.not_true, cond_false, Option.bind_some, List.length_set]
     simp [hs, ht, ltI_t h200, h200]
   ·rcases hlast.1 with ht | ht
    ·rw [bif_t (eqI_t ht), bif_f (ltI_f (by omega))]
     simp (disch := first | omega | (simp; omega)) only [chk_idx, w64_id, chk_cap, hz, eqI_t, Bool.not_true, cond_false, Option.bind_some, List.length_set]
     simp [hs, ht, ltI_f (show p.2.2.2 + 1 ≤ 200 by omega), h200]
    ·rw [bif_f (eqI_f (by omega)), bif_t (eqI_t ht), bif_f (ltI_f (by omega))]
     simp (disch := first | omega | (simp; omega)) only [chk_idx, w64_id, chk_cap, hz, eqI_t, Bool.not_true, cond_false, Option.bind_some, List.length_set]
     simp [hs, ht, ltI_f (show p.2.2.2 + 1 ≤ 200 by omega), h200]
  ·obtain ⟨hk1, hk2, hk3⟩ := hk hz
   have hk0 := hb0 _ hk2 hk3
   have hk1' := hb1 _ hk2 hk3
   rw [hk1]
   rcases hlast.1 with ht | ht
   ·rw [bif_t (eqI_t ht), bif_f (ltI_f (by omega))]
    have hsame := set_same (l := p.2.1.1) hk2 (by omega)
    simp (disch := first | omega | (simp; omega)) only [chk_idx, w64_id, chk_cap, eqI_f hz, Bool.not_false, cond_true, Option.bind_some, List.length_set, if_pos ht]
    by_cases h1000 : gD 0 p.2.1.1 (kindI (gD 0 p.1 m.2.1)) < 1000
    ·cases hK : r.2.2.2.2.2.2.1 <;> simp [hs, ht, hz, ltI_t h1000, h1000, show ¬ 1000 < gD 0 p.2.1.1 (kindI (gD 0 p.1 m.2.1)) + 1 by omega]
    ·have e : gD 0 p.2.1.1 (kindI (gD 0 p.1 m.2.1)) = 1000 := by omega
     rw [e] at hsame
     cases hK : r.2.2.2.2.2.2.1 <;> simp [hs, ht, hz, ltI_f (show 1000 ≤ gD 0 p.2.1.1 (kindI (gD 0 p.1 m.2.1)) by omega), h1000, e, hsame, show ltI 1000 1000 = false from rfl]
   ·rw [bif_f (eqI_f (by omega)), bif_t (eqI_t ht), bif_f (ltI_f (by omega))]
    have hsame := set_same (l := p.2.1.2) hk2 (by omega)
    simp (disch := first | omega | (simp; omega)) only [chk_idx, w64_id, chk_cap, eqI_f hz, Bool.not_false, cond_true, Option.bind_some, List.length_set, if_neg (show ¬ p.2.2.1 = 0 by omega)]
    by_cases h1000 : gD 0 p.2.1.2 (kindI (gD 0 p.1 m.2.1)) < 1000
    ·cases hK : r.2.2.2.2.2.2.1 <;> simp [hs, ht, hz, ltI_t h1000, h1000, show ¬ 1000 < gD 0 p.2.1.2 (kindI (gD 0 p.1 m.2.1)) + 1 by omega]
    ·have e : gD 0 p.2.1.2 (kindI (gD 0 p.1 m.2.1)) = 1000 := by omega
     rw [e] at hsame
     cases hK : r.2.2.2.2.2.2.1 <;> simp [hs, ht, hz, ltI_f (show 1000 ≤ gD 0 p.2.1.2 (kindI (gD 0 p.1 m.2.1)) by omega), h1000, e, hsame, show ltI 1000 1000 = false from rfl]
theorem make_ok : BOk (makeB b m) := ⟨hb.r, do_ok hb.r hb.p hm, by
 show nextI b.1 b.2.1 m b.2.2.1 = U (keyS (doI b.1 b.2.1 m))
 rw [key_do hb.r hb.p hm, hb.key]⟩
end
end Go.Proofs.Ytpielijehhhobaa.Am
