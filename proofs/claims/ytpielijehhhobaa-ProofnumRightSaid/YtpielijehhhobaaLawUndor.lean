/- Plain: a move that is taken back leaves the board as it was. -/
import Derived.Test.YtpielijehhhobaaLawBoardr
set_option linter.unusedVariables false
set_option linter.unusedSimpArgs false
set_option linter.unusedSectionVars false
namespace Go.Proofs.Ytpielijehhhobaa.Am
open Go
theorem set_back {l : List Int} {i : Int} {v w : Int} (h0 : 0 ≤ i) (h : i < l.length) (hw : w = gD 0 l i) : (l.set i.toNat v).set i.toNat w = l := by
 rw [List.set_set, hw, set_same h0 h]
section
variable {b : BoardT} (hb : BOk b) (hl : b.2.2.2.length ≤ 100000) {m : MvT} (hm : MoveOk b.1 b.2.1 m)
include hb hl hm
theorem undo_make (N : Nat) : Q51 N (makeB b m) = some (0, b) := by
 obtain ⟨r, p, key, d⟩ := b
 obtain ⟨hr, hp, hkey⟩ := hb
 dsimp only at hr hp hkey hl hm
 have hll := len_le hr hp
 have hlen := hp.len
 have h0 := hp.h0
 have h1 := hp.h1
 have hto := hm.to
 have hpi := hm.piece
 have hlast := hp.last
 have hc := cell_ok hp hto
 have hh := hand_ok hr hp
 have hd2 := hand2_ok hr hp hm
 have hL : ((d ++ [undoI (r, (p, (key, d))) m]).length : Int) = (d.length : Int) + 1 := by simp
 have hG : gD zU (d ++ [undoI (r, (p, (key, d))) m]) (d.length : Int) = undoI (r, (p, (key, d))) m := by rw [gD_nat (by simp)]; simp
 have hT : (d ++ [undoI (r, (p, (key, d))) m]).take (d.length : Int).toNat = d := by rw [Int.toNat_natCast]; simp
 have hcl : (cells2 p m).length = p.1.length := by
  unfold cells2
  rw [List.length_set]
  split
  ·rfl
  ·rw [List.length_set]
 unfold Q51 Q51.e
 unfold makeB
 dsimp only
 rw [hL, bif_f (eqI_f (by omega)), w64_id (x := (d.length : Int) + 1 - 1) (by omega) (by omega), show (d.length : Int) + 1 - 1 = (d.length : Int) by omega, chk_idx (by omega) (by omega), chk_idx' (by omega) (by omega), hT]
 simp only [hG]
 unfold doI undoI
 dsimp only
 rw [hcl]
 have hcells1 : m.1 < 0 → (cells2 p m).set m.2.1.toNat (gD 0 p.1 m.2.1) = p.1 := fun hs => by
  unfold cells2
  rw [if_pos hs]
  exact set_back hto.1 (by omega) rfl
 have hcells2 : ¬ m.1 < 0 → (((cells2 p m).set m.2.1.toNat (gD 0 p.1 m.2.1)).set m.1.toNat (gD 0 p.1 m.1)) = p.1 := fun hs => by
  have hsrc : 0 ≤ m.1 ∧ m.1 < r.2.1 * r.2.2.1 ∧ ownI (gD 0 p.1 m.1) = p.2.2.1 := by
   rcases hm.src with h | h
   ·omega
   ·exact h
  have hne : m.1 ≠ m.2.1 := fun e => hm.own (by rw [← e]; exact hsrc.2.2)
  have e1 : (p.1.set m.1.toNat 0).set m.2.1.toNat (gD 0 p.1 m.2.1) = p.1.set m.1.toNat 0 := by
   rw [List.set_comm _ _ (by omega), set_same hto.1 (by omega)]
  unfold cells2
  rw [if_neg hs, List.set_set, e1, List.set_set]
  exact set_same hsrc.1 (by omega)
 have hz : m.1 < 0 → gD 0 p.1 m.2.1 = 0 := fun hs => by
  rcases hm.src with h | h
  ·exact h.2.1
  ·omega
 have hA : (gD 0 p.1 m.2.1 ≠ 0 ∧ r.2.2.2.2.2.2.1 = true ∧ gD 0 (handT p) (kindI (gD 0 p.1 m.2.1)) < 1000) → ¬ m.1 < 0 ∧ (0 ≤ kindI (gD 0 p.1 m.2.1) ∧ kindI (gD 0 p.1 m.2.1) < (r.2.2.2.1).length) ∧ Q63 N (gD 0 p.1 m.2.1) = some (kindI (gD 0 p.1 m.2.1)) ∧
   w64 (gD 0 (hand2 r p m) (kindI (gD 0 p.1 m.2.1)) - 1) = gD 0 (handT p) (kindI (gD 0 p.1 m.2.1)) ∧ (hand2 r p m).set (kindI (gD 0 p.1 m.2.1)).toNat (gD 0 (handT p) (kindI (gD 0 p.1 m.2.1))) = handT p := fun ⟨k1, k2, k3⟩ => by
  have hs : ¬ m.1 < 0 := fun h => k1 (hz h)
  have hkk := kind_lt (k := (r.2.2.2.1).length) (show 1 ≤ gD 0 p.1 m.2.1 by omega) hc.2
  have hbk := gD_ok hh hkk.1 (by omega)
  have e : hand2 r p m = (handT p).set (kindI (gD 0 p.1 m.2.1)).toNat (gD 0 (handT p) (kindI (gD 0 p.1 m.2.1)) + 1) := by
   unfold hand2 hand1
   rw [if_neg hs, if_pos ⟨k1, k2⟩, if_neg (by omega)]
  have e2 : gD 0 (hand2 r p m) (kindI (gD 0 p.1 m.2.1)) = gD 0 (handT p) (kindI (gD 0 p.1 m.2.1)) + 1 := by
   rw [e]
   obtain ⟨k, hk⟩ : ∃ k : Nat, kindI (gD 0 p.1 m.2.1) = k := ⟨(kindI (gD 0 p.1 m.2.1)).toNat, by omega⟩
   rw [hk, Int.toNat_natCast, gD_nat (by rw [List.length_set]; omega), List.getElem_set_self]
  refine ⟨hs, hkk, kind_eq (by omega) (by omega), by rw [e2, w64_id (by omega) (by omega)]; omega, ?_⟩
  rw [e]
  exact set_back hkk.1 (by omega) rfl
 have hB : ¬ (gD 0 p.1 m.2.1 ≠ 0 ∧ r.2.2.2.2.2.2.1 = true ∧ gD 0 (handT p) (kindI (gD 0 p.1 m.2.1)) < 1000) → ¬ m.1 < 0 → hand2 r p m = handT p := fun hk hs => by
  unfold hand2 hand1
  rw [if_neg hs]
  by_cases h2 : gD 0 p.1 m.2.1 ≠ 0 ∧ r.2.2.2.2.2.2.1 = true
  ·have hkk := kind_lt (k := (r.2.2.2.1).length) (show 1 ≤ gD 0 p.1 m.2.1 by omega) hc.2
   have hbk := gD_ok hh hkk.1 (by omega)
   have : gD 0 (handT p) (kindI (gD 0 p.1 m.2.1)) = 1000 := by
    by_cases h3 : gD 0 (handT p) (kindI (gD 0 p.1 m.2.1)) < 1000
    ·exact absurd ⟨h2.1, h2.2, h3⟩ hk
    ·omega
   have hsm := set_same (l := handT p) hkk.1 (by omega)
   rw [this] at hsm
   rw [if_pos h2, if_pos (by omega), hsm]
  ·rw [if_neg h2]
 have hC : m.1 < 0 → w64 (gD 0 (hand2 r p m) m.2.2 + 1) = gD 0 (handT p) m.2.2 ∧ (hand2 r p m).set m.2.2.toNat (gD 0 (handT p) m.2.2) = handT p := fun hs => by
  have hbk := gD_ok hh hpi.1 (by omega)
  have e : hand2 r p m = (handT p).set m.2.2.toNat (gD 0 (handT p) m.2.2 - 1) := by
   unfold hand2 hand1
   rw [if_neg (fun h => h.1 (hz hs)), if_pos hs]
  have e2 : gD 0 (hand2 r p m) m.2.2 = gD 0 (handT p) m.2.2 - 1 := by
   rw [e]
   obtain ⟨k, hk⟩ : ∃ k : Nat, m.2.2 = k := ⟨m.2.2.toNat, by omega⟩
   rw [hk, Int.toNat_natCast, gD_nat (by rw [List.length_set]; omega), List.getElem_set_self]
  refine ⟨by rw [e2, w64_id (by omega) (by omega)]; omega, ?_⟩
  rw [e]
  exact set_back hpi.1 (by omega) rfl
 have hsrc : ¬ m.1 < 0 → 0 ≤ m.1 ∧ m.1 < r.2.1 * r.2.2.1 := fun hs => by
  rcases hm.src with h | h
  ·omega
  ·exact ⟨h.1, h.2.1⟩
 rw [w64_id (x := 1 - (1 - p.2.2.1)) (by omega) (by omega), show 1 - (1 - p.2.2.1) = p.2.2.1 by omega]
 unfold setH
 rcases hlast.1 with ht | ht
 ·have hTe : handT p = p.2.1.1 := by unfold handT; rw [if_pos ht]
  rw [hTe] at hA hB hC ⊢
  rw [if_pos ht, bif_t (eqI_t ht), chk_idx hto.1 (by omega)]
  dsimp only
  by_cases hk : gD 0 p.1 m.2.1 ≠ 0 ∧ r.2.2.2.2.2.2.1 = true ∧ gD 0 (p.2.1.1) (kindI (gD 0 p.1 m.2.1)) < 1000
  ·obtain ⟨a1, a2, a3, a4, a5⟩ := hA hk
   have := hsrc a1
   rw [bif_t (decide_eq_true hk), a3, Option.bind_some, chk_idx a2.1 (by omega), chk_idx a2.1 (by omega), a4, a5, bif_f (ltI_f (by omega)), chk_idx this.1 (by rw [List.length_set, hcl]; omega), if_neg a1, hcells2 a1]
  ·rw [bif_f (decide_eq_false hk)]
   by_cases hs : m.1 < 0
   ·obtain ⟨c1, c2⟩ := hC hs
    rw [bif_t (ltI_t hs), chk_idx hpi.1 (by omega), chk_idx hpi.1 (by omega), c1, c2, hcells1 hs]
   ·have := hsrc hs
    rw [bif_f (ltI_f (by omega)), chk_idx this.1 (by rw [List.length_set, hcl]; omega), if_neg hs, hcells2 hs, hB hk hs]
 ·have h01 : ¬ p.2.2.1 = 0 := by omega
  have hTe : handT p = p.2.1.2 := by unfold handT; rw [if_neg h01]
  rw [hTe] at hA hB hC ⊢
  rw [if_neg h01, bif_f (eqI_f h01), bif_t (eqI_t ht), chk_idx hto.1 (by omega)]
  dsimp only
  by_cases hk : gD 0 p.1 m.2.1 ≠ 0 ∧ r.2.2.2.2.2.2.1 = true ∧ gD 0 (p.2.1.2) (kindI (gD 0 p.1 m.2.1)) < 1000
  ·obtain ⟨a1, a2, a3, a4, a5⟩ := hA hk
   have := hsrc a1
   rw [bif_t (decide_eq_true hk), a3, Option.bind_some, chk_idx a2.1 (by omega), chk_idx a2.1 (by omega), a4, a5, bif_f (ltI_f (by omega)), chk_idx this.1 (by rw [List.length_set, hcl]; omega), if_neg a1, hcells2 a1]
  ·rw [bif_f (decide_eq_false hk)]
   by_cases hs : m.1 < 0
   ·obtain ⟨c1, c2⟩ := hC hs
    rw [bif_t (ltI_t hs), chk_idx hpi.1 (by omega), chk_idx hpi.1 (by omega), c1, c2, hcells1 hs]
   ·have := hsrc hs
    rw [bif_f (ltI_f (by omega)), chk_idx this.1 (by rw [List.length_set, hcl]; omega), if_neg hs, hcells2 hs, hB hk hs]
end
end Go.Proofs.Ytpielijehhhobaa.Am
