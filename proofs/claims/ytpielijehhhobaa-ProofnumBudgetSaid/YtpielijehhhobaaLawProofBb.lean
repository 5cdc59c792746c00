/- Plain: a step of proofnum's search expands one node and keeps what holds of the tree. -/
import Derived.Test.YtpielijehhhobaaLawProofAb
set_option linter.unusedVariables false
set_option linter.unusedSimpArgs false
set_option linter.unusedSectionVars false
namespace Go.Proofs.Ytpielijehhhobaa.Am
open Go
noncomputable section
def ownB (P : Int) (b : BoardT) : Bool := eqI b.2.1.2.2.1 P
def na (ns : LP) (g : Int → BoardT) (P i : Int) : Int := bif ownB P (g i) then (pn ns i).2.2.1 else (pn ns i).2.2.2.1
def nb (ns : LP) (g : Int → BoardT) (P i : Int) : Int := bif ownB P (g i) then (pn ns i).2.2.2.1 else (pn ns i).2.2.1
structure PI (ns : LP) (g : Int → BoardT) (sz : Int → Int) (r : RulesT) (P D Z : Int) : Prop where
 bo : ∀ i : Int, 0 ≤ i → i < ns.length → BOk (g i) ∧ ((g i).2.2.2.length : Int) ≤ D ∧ (g i).1 = r
 tri : ∀ i : Int, 0 ≤ i → i < ns.length → Tri (pn ns i).2.2.1 (pn ns i).2.2.2.1 (sz i) ∧ 1 ≤ sz i ∧ sz i ≤ Z
 wn : ∀ i : Int, 0 ≤ i → i < ns.length → (na ns g P i = 0 → posV r (g i).2.1) ∧ (nb ns g P i = 0 → negV r (g i).2.1)
 ex : ∀ i : Int, 0 ≤ i → i < ns.length → ((pn ns i).2.2.2.2 = false ∧ (pks ns i).length = 0 ∧ resV r (g i).2.1 = 0) ∨ ((pn ns i).2.2.2.2 = true ∧ (pks ns i).length = 0 ∧ ((pn ns i).2.2.1 = 0 ∨ (pn ns i).2.2.2.1 = 0)) ∨
  ((pn ns i).2.2.2.2 = true ∧ 0 < (pks ns i).length ∧ (pn ns i).1.length = (pks ns i).length ∧ IsGen r (g i).2.1 (pn ns i).1 ∧ resV r (g i).2.1 = 0)
 kd : ∀ i j : Int, 0 ≤ i → i < ns.length → 0 ≤ j → j < (pks ns i).length → i < pkid ns i j ∧ pkid ns i j < ns.length ∧ g (pkid ns i j) = makeB (g i) (gD z0 (pn ns i).1 j)
 un : ∀ i j i' j' : Int, 0 ≤ i → i < ns.length → 0 ≤ j → j < (pks ns i).length → 0 ≤ i' → i' < ns.length → 0 ≤ j' → j' < (pks ns i').length → pkid ns i j = pkid ns i' j' → i = i' ∧ j = j'
structure Ag (ns : LP) (g : Int → BoardT) (sz : Int → Int) (P i : Int) : Prop where
 a : 0 < (pks ns i).length → na ns g P i = leastF (ka ns i (ownB P (g i))) (pks ns i).length
 b : 0 < (pks ns i).length → nb ns g P i = csumF (ka ns i (!(ownB P (g i)))) (pks ns i).length
 s : sumI (fun j => sz (pkid ns i j)) (pks ns i).length ≤ sz i
theorem PI.mono {ns : LP} {g : Int → BoardT} {sz : Int → Int} {r : RulesT} {P D Z D' Z' : Int} (h : PI ns g sz r P D Z) (hD : D ≤ D') (hZ : Z ≤ Z') : PI ns g sz r P D' Z' :=
 ⟨fun i a b => by have := h.bo i a b; exact ⟨this.1, by omega, this.2.2⟩, fun i a b => by have := h.tri i a b; exact ⟨this.1, this.2.1, by omega⟩, h.wn, h.ex, h.kd, h.un⟩
theorem makeB_pl (b : BoardT) (m : MvT) : (makeB b m).2.2.2.length = b.2.2.2.length + 1 := by
 unfold makeB
 simp
theorem turn_flip {b : BoardT} {m : MvT} {P : Int} (hb : BOk b) (p0 : 0 ≤ P) (p1 : P ≤ 1) : ownB P (makeB b m) = !(ownB P b) := by
 have ht := hb.p.last.1
 have e : (makeB b m).2.1.2.2.1 = 1 - b.2.1.2.2.1 := rfl
 unfold ownB
 rw [e]
 by_cases c : b.2.1.2.2.1 = P
 ·rw [eqI_t c, eqI_f (by omega)]; rfl
 ·rw [eqI_f c, eqI_t (by omega)]; rfl
theorem gen_move {r : RulesT} {b : BoardT} (hb : BOk b) (hr : b.1 = r) {ms : List MvT} (hg : IsGen r b.2.1 ms) {j : Int} (j0 : 0 ≤ j) (j1 : j < ms.length) : gD z0 ms j ∈ cand r b.2.1 ∧ MoveOk b.1 b.2.1 (gD z0 ms j) := by
 obtain ⟨j, rfl⟩ : ∃ a : Nat, j = a := ⟨j.toNat, by omega⟩
 have hlt : j < ms.length := by omega
 rw [gD_nat hlt]
 have h := (hg.mem _).1 (List.getElem_mem hlt)
 subst hr
 exact ⟨h, cand_ok hb.r hb.p h⟩
theorem kid_na {ns : LP} {g : Int → BoardT} {sz : Int → Int} {r : RulesT} {P D Z : Int} (hI : PI ns g sz r P D Z) (p0 : 0 ≤ P) (p1 : P ≤ 1) {i j : Int} (i0 : 0 ≤ i) (i1 : i < ns.length) (j0 : 0 ≤ j) (j1 : j < (pks ns i).length) :
  nb ns g P (pkid ns i j) = ka ns i (ownB P (g i)) j ∧ na ns g P (pkid ns i j) = ka ns i (!(ownB P (g i))) j := by
 obtain ⟨k0, k1, kg⟩ := hI.kd i j i0 i1 j0 j1
 have hf := turn_flip (m := gD z0 (pn ns i).1 j) (hI.bo i i0 i1).1 p0 p1
 unfold na nb ka
 rw [kg, hf]
 cases ownB P (g i) <;> exact ⟨rfl, rfl⟩
theorem kid_tri {ns : LP} {g : Int → BoardT} {sz : Int → Int} {r : RulesT} {P D Z : Int} (hI : PI ns g sz r P D Z) {i j : Int} (i0 : 0 ≤ i) (i1 : i < ns.length) (j0 : 0 ≤ j) (j1 : j < (pks ns i).length) (o : Bool) :
  Tri (ka ns i o j) (ka ns i (!o) j) (sz (pkid ns i j)) ∧ 1 ≤ sz (pkid ns i j) ∧ sz (pkid ns i j) ≤ Z := by
 obtain ⟨k0, k1, kg⟩ := hI.kd i j i0 i1 j0 j1
 obtain ⟨h1, h2, h3⟩ := hI.tri _ (by omega) k1
 refine ⟨?_, h2, h3⟩
 unfold ka
 cases o
 ·exact h1.swap
 ·exact h1
theorem kid_mv {ns : LP} {g : Int → BoardT} {sz : Int → Int} {r : RulesT} {P D Z : Int} (hI : PI ns g sz r P D Z) {i : Int} (i0 : 0 ≤ i) (i1 : i < ns.length) (hk : 0 < (pks ns i).length) :
  (pn ns i).2.2.2.2 = true ∧ (pn ns i).1.length = (pks ns i).length ∧ IsGen r (g i).2.1 (pn ns i).1 ∧ resV r (g i).2.1 = 0 := by
 rcases hI.ex i i0 i1 with h | h | h
 ·omega
 ·omega
 ·exact ⟨h.1, h.2.2.1, h.2.2.2.1, h.2.2.2.2⟩
def szu (sz : Int → Int) (n S : Int) : Int → Int := fun i => if i = n then S else sz i
section
variable {ns : LP} {n : Int} (h0 : 0 ≤ n) (h1 : n < ns.length) (o : Bool)
include h0 h1
theorem pup_len : (pup ns n o).length = ns.length := by unfold pup; rw [pset_len]
theorem pup_ne {i : Int} (hi : 0 ≤ i) (ne : i ≠ n) : pn (pup ns n o) i = pn ns i := by
 unfold pup pset
 rw [pn_set h0 h1 hi, if_neg ne]
theorem pup_nd : pn (pup ns n o) n = ((pn ns n).1, ((pn ns n).2.1, bif o then (leastF (ka ns n o) (pks ns n).length, (csumF (ka ns n (!o)) (pks ns n).length, (pn ns n).2.2.2.2)) else (csumF (ka ns n (!o)) (pks ns n).length, (leastF (ka ns n o) (pks ns n).length, (pn ns n).2.2.2.2)))) := by
 unfold pup
 rw [pset_nd h0 h1]
theorem pup_ks {i : Int} (hi : 0 ≤ i) : pks (pup ns n o) i = pks ns i ∧ (pn (pup ns n o) i).1 = (pn ns i).1 ∧ (pn (pup ns n o) i).2.2.2.2 = (pn ns i).2.2.2.2 := by
 unfold pks
 by_cases e : i = n
 ·subst e
  rw [pup_nd h0 h1]
  cases o <;> exact ⟨rfl, rfl, rfl⟩
 ·rw [pup_ne h0 h1 o hi e]
  exact ⟨rfl, rfl, rfl⟩
theorem pup_kid {i : Int} (hi : 0 ≤ i) (j : Int) : pkid (pup ns n o) i j = pkid ns i j := by
 unfold pkid
 rw [(pup_ks h0 h1 o hi).1]
end
theorem ka_ext {ns ns' : LP} {i i' : Int} {j : Int} (h : pn ns' (pkid ns' i' j) = pn ns (pkid ns i j)) (o : Bool) : ka ns' i' o j = ka ns i o j := by
 unfold ka
 rw [h]
theorem pup_inv {ns : LP} {g : Int → BoardT} {sz : Int → Int} {r : RulesT} {P D Z n S : Int} (hI : PI ns g sz r P D Z) (p0 : 0 ≤ P) (p1 : P ≤ 1) (h0 : 0 ≤ n) (h1 : n < ns.length) (hk : 0 < (pks ns n).length)
  (hS : sumI (fun j => sz (pkid ns n j)) (pks ns n).length ≤ S) (hS1 : 1 ≤ S) (hSZ : S ≤ Z) (hZ : Z < NV) :
  PI (pup ns n (ownB P (g n))) g (szu sz n S) r P D Z ∧ Ag (pup ns n (ownB P (g n))) g (szu sz n S) P n ∧
  ∀ i : Int, 0 ≤ i → i < ns.length → i ≠ n → (∀ j : Int, 0 ≤ j → j < (pks ns i).length → pkid ns i j ≠ n) → Ag ns g sz P i → Ag (pup ns n (ownB P (g n))) g (szu sz n S) P i := by
 obtain ⟨hb, hD, hbr⟩ := hI.bo n h0 h1
 obtain ⟨hxe, hml, hg, hr0⟩ := kid_mv hI h0 h1 hk
 have hlen := pup_len h0 h1 (ownB P (g n))
 have hnd := pup_nd h0 h1 (ownB P (g n))
 have hne := fun i hi ne => pup_ne (i := i) h0 h1 (ownB P (g n)) hi ne
 have hks := fun i hi => pup_ks (i := i) h0 h1 (ownB P (g n)) hi
 have hkd := fun i hi j => pup_kid (i := i) h0 h1 (ownB P (g n)) hi j
 have htri : Tri (leastF (ka ns n (ownB P (g n))) (pks ns n).length) (csumF (ka ns n (!(ownB P (g n)))) (pks ns n).length) S :=
  upd_tri (z := fun j => sz (pkid ns n j)) hk (fun j j0 j1 => (kid_tri hI h0 h1 j0 j1 _).1) (fun j j0 j1 => by have := (kid_tri hI h0 h1 j0 j1 true).2.1; omega) hS (by omega)
 have hA : na (pup ns n (ownB P (g n))) g P n = leastF (ka ns n (ownB P (g n))) (pks ns n).length := by
  unfold na
  rw [hnd]
  cases ownB P (g n) <;> rfl
 have hB : nb (pup ns n (ownB P (g n))) g P n = csumF (ka ns n (!(ownB P (g n)))) (pks ns n).length := by
  unfold nb
  rw [hnd]
  cases ownB P (g n) <;> rfl
 have hkn : ∀ j : Int, 0 ≤ j → j < (pks ns n).length → pn (pup ns n (ownB P (g n))) (pkid (pup ns n (ownB P (g n))) n j) = pn ns (pkid ns n j) := fun j j0 j1 => by
  rw [hkd n h0]
  have := (hI.kd n j h0 h1 j0 j1).1
  exact hne _ (by omega) (by omega)
 have hra : ∀ j : Int, 0 ≤ j → j < (pks ns n).length → 0 ≤ ka ns n (!(ownB P (g n))) j ∧ ka ns n (!(ownB P (g n))) j ≤ NV := fun j j0 j1 => by
  obtain ⟨t1, t2, t3⟩ := kid_tri hI h0 h1 j0 j1 (ownB P (g n))
  exact ⟨(t1.range (by omega)).2.2.1, (t1.range (by omega)).2.2.2⟩
 refine ⟨⟨fun i a b => hI.bo i a (by omega), fun i a b => ?_, fun i a b => ?_, fun i a b => ?_, fun i j a b c e => ?_, fun i j i' j' a b c e a' b' c' e' => ?_⟩, ⟨fun _ => ?_, fun _ => ?_, ?_⟩, fun i a b ne hnk hag => ⟨fun c => ?_, fun c => ?_, ?_⟩⟩
 ·unfold szu
  by_cases e : i = n
  ·subst e
   rw [if_pos rfl, hnd]
   refine ⟨?_, hS1, hSZ⟩
   cases ho : ownB P (g i) with
   | true => rw [ho] at htri; exact htri
   | false => rw [ho] at htri; exact htri.swap
  ·rw [if_neg e, hne i a e]
   exact hI.tri i a (by omega)
 ·by_cases e : i = n
  ·subst e
   rw [hA, hB]
   refine ⟨fun z => ?_, fun z => ?_⟩
   ·obtain ⟨j, j0, j1, hj⟩ := least_zero z
    obtain ⟨k0, k1, kg⟩ := hI.kd i j h0 h1 j0 j1
    have hw := (hI.wn _ (by omega) k1).2 (by rw [(kid_na hI p0 p1 h0 h1 j0 j1).1]; exact hj)
    rw [kg] at hw
    have hm := gen_move hb hbr hg j0 (by omega)
    rw [← hbr] at hw hr0 ⊢
    have hm1 := hm.1
    rw [← hbr] at hm1
    exact pos_of hb.r hr0 hm1 hw
   ·have hz := (csumF_spec (ka ns i (!(ownB P (g i)))) (pks ns i).length hra).2.2.1 z
    rw [← hbr] at hr0 ⊢
    refine neg_of hb.r hr0 fun m hm => ?_
    rw [hbr] at hm
    obtain ⟨t, ht, rfl⟩ := List.mem_iff_getElem.1 ((hg.mem m).2 hm)
    obtain ⟨k0, k1, kg⟩ := hI.kd i (t : Int) h0 h1 (by omega) (by omega)
    have hw := (hI.wn _ (by omega) k1).1 (by rw [(kid_na hI p0 p1 h0 h1 (by omega) (by omega)).2]; exact hz (t : Int) (by omega) (by omega))
    rw [kg, gD_nat ht] at hw
    rw [hbr]
    have e2 : (makeB (g i) (pn ns i).1[t]).2.1 = doI (g i).1 (g i).2.1 (pn ns i).1[t] := rfl
    rw [e2, hbr] at hw
    exact hw
  ·have := hI.wn i a (by omega)
   unfold na nb at this ⊢
   rw [hne i a e]
   exact this
 ·rw [(hks i a).1, (hks i a).2.1, (hks i a).2.2]
  by_cases e : i = n
  ·subst e
   exact .inr (.inr ⟨hxe, hk, hml, hg, hr0⟩)
  ·rw [hne i a e]
   exact hI.ex i a (by omega)
 ·rw [(hks i a).1] at e
  rw [hkd i a, (hks i a).2.1, hlen]
  exact hI.kd i j a (by omega) c e
 ·rw [(hks i a).1] at e
  rw [(hks i' a').1] at e'
  rw [hkd i a, hkd i' a']
  exact hI.un i j i' j' a (by omega) c e a' (by omega) c' e'
 ·rw [hA, (hks n h0).1]
  exact leastF_ext fun j j0 j1 => (ka_ext (hkn j j0 j1) _).symm
 ·rw [hB, (hks n h0).1]
  exact csumF_ext fun j j0 j1 => (ka_ext (hkn j j0 j1) _).symm
 ·rw [(hks n h0).1]
  refine Int.le_trans (Int.le_of_eq ?_) (Int.le_trans hS (Int.le_of_eq ?_))
  ·refine sumF_ext fun j j0 j1 => ?_
   have := (hI.kd n j h0 h1 j0 j1).1
   unfold szu
   rw [hkd n h0, if_neg (by omega)]
  ·unfold szu; rw [if_pos rfl]
 ·rw [(hks i a).1] at c ⊢
  have := hag.a c
  have e1 : na (pup ns n (ownB P (g n))) g P i = na ns g P i := by unfold na; rw [hne i a ne]
  rw [e1, this]
  exact leastF_ext fun j j0 j1 => (ka_ext (by rw [hkd i a]; have := (hI.kd i j a b j0 j1).1; exact hne _ (by omega) (hnk j j0 j1)) _).symm
 ·rw [(hks i a).1] at c ⊢
  have := hag.b c
  have e1 : nb (pup ns n (ownB P (g n))) g P i = nb ns g P i := by unfold nb; rw [hne i a ne]
  rw [e1, this]
  exact csumF_ext fun j j0 j1 => (ka_ext (by rw [hkd i a]; have := (hI.kd i j a b j0 j1).1; exact hne _ (by omega) (hnk j j0 j1)) _).symm
 ·rw [(hks i a).1]
  refine Int.le_trans (Int.le_of_eq ?_) (Int.le_trans hag.s (Int.le_of_eq ?_))
  ·refine sumF_ext fun j j0 j1 => ?_
   unfold szu
   rw [hkd i a, if_neg (hnk j j0 j1)]
  ·unfold szu; rw [if_neg ne]
end
end Go.Proofs.Ytpielijehhhobaa.Am
