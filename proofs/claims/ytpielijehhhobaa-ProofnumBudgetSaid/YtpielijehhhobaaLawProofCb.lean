/- Plain: a step of proofnum's search, whole. -/
import Derived.Test.YtpielijehhhobaaLawProofBb
set_option linter.unusedVariables false
set_option linter.unusedSimpArgs false
set_option linter.unusedSectionVars false
namespace Go.Proofs.Ytpielijehhhobaa.Am
open Go
noncomputable section
theorem pgD_range {α : Type} {d : α} {M : Nat} {f : Nat → α} {j : Int} (j0 : 0 ≤ j) (j1 : j < M) : gD d ((List.range M).map f) j = f j.toNat := by
 obtain ⟨j, rfl⟩ : ∃ a : Nat, j = a := ⟨j.toNat, by omega⟩
 rw [gD_nat (by simp; omega)]
 simp
theorem leaf_wn {b : BoardT} (hb : BOk b) {P : Int} (p0 : 0 ≤ P) (p1 : P ≤ 1) : ((bif ownB P b then (lfv (resV b.1 b.2.1) P).1 else (lfv (resV b.1 b.2.1) P).2.1) = 0 → posV b.1 b.2.1) ∧ ((bif ownB P b then (lfv (resV b.1 b.2.1) P).2.1 else (lfv (resV b.1 b.2.1) P).1) = 0 → negV b.1 b.2.1) := by
 have ht : b.2.1.2.2.1 = 0 ∨ b.2.1.2.2.1 = 1 := hb.p.last.1
 have hNV : NV = 1099511627776 := rfl
 unfold lfv
 by_cases c : resV b.1 b.2.1 = 0
 ·rw [if_pos c]
  refine ⟨fun h => ?_, fun h => ?_⟩ <;> (generalize ownB P b = o at h; cases o <;> exact absurd h (by decide))
 ·rw [if_neg c]
  have hv := val_over hb.r c
  have hs : scoreV (resV b.1 b.2.1) b.2.1.2.2.1 = if resV b.1 b.2.1 = 1 + b.2.1.2.2.1 then 1000 else if resV b.1 b.2.1 = 2 - b.2.1.2.2.1 then -1000 else 0 := rfl
  have hv' : ∀ D, val b.1 D b.2.1 = scoreV (resV b.1 b.2.1) b.2.1.2.2.1 := hv
  unfold posV negV ownB
  generalize resV b.1 b.2.1 = x at *
  generalize b.2.1.2.2.1 = t at *
  by_cases o : t = P
  ·subst o
   rw [eqI_self]
   by_cases c2 : x = 1 + t
   ·rw [if_pos c2]
    rw [if_pos c2] at hs
    exact ⟨fun _ D => by rw [hv', hs]; decide, fun h => absurd h (by show NV ≠ 0; omega)⟩
   ·rw [if_neg c2]
    rw [if_neg c2] at hs
    refine ⟨fun h => absurd h (by show NV ≠ 0; omega), fun _ D => ?_⟩
    rw [hv', hs]
    split <;> decide
  ·rw [eqI_f o]
   have e : 1 + P = 2 - t := by omega
   by_cases c2 : x = 1 + P
   ·rw [if_pos c2]
    rw [if_neg (by omega), if_pos (by omega)] at hs
    exact ⟨fun h => absurd h (by show NV ≠ 0; omega), fun _ D => by rw [hv', hs]; decide⟩
   ·rw [if_neg c2]
    rw [if_neg (show ¬ x = 2 - t by omega)] at hs
    refine ⟨fun _ D => ?_, fun h => absurd h (by show NV ≠ 0; omega)⟩
    rw [hv', hs]
    split <;> decide
theorem lfv_tri (x P : Int) : Tri (lfv x P).1 (lfv x P).2.1 1 := by
 unfold lfv
 split
 ·exact .inr (.inr ⟨by decide, by decide, by decide, by decide⟩)
 ·split
  ·exact .inl ⟨rfl, rfl⟩
  ·exact .inr (.inl ⟨rfl, rfl⟩)
theorem lfv_ex (x P : Int) : ((lfv x P).2.2 = false ∧ x = 0) ∨ ((lfv x P).2.2 = true ∧ ((lfv x P).1 = 0 ∨ (lfv x P).2.1 = 0)) := by
 unfold lfv
 by_cases c : x = 0
 ·rw [if_pos c]; exact .inl ⟨rfl, c⟩
 ·rw [if_neg c]
  split
  ·exact .inr ⟨rfl, .inl rfl⟩
  ·exact .inr ⟨rfl, .inr rfl⟩
def psm (ns : LP) (n : Int) (ms : LMv) : LP := (pset ns n fun v => (v.1, (v.2.1, true))).set n.toNat (ms, (pn (pset ns n fun v => (v.1, (v.2.1, true))) n).2)
def pX (ns : LP) (n : Int) (b : BoardT) (ms : LMv) (P : Int) : LP := exP (psm ns n ms) n (lfn b ms P) ms.length
def gxP (ns : LP) (g : Int → BoardT) (n : Int) (ms : LMv) : Int → BoardT := fun i => if i < ns.length then g i else makeB (g n) (gD z0 ms (i - ns.length))
def sxP (ns : LP) (sz : Int → Int) : Int → Int := fun i => if i < ns.length then sz i else 1
theorem psm_nd {ns : LP} {n i : Int} (h0 : 0 ≤ n) (h1 : n < ns.length) (hi : 0 ≤ i) (ms : LMv) : pn (psm ns n ms) i = if i = n then (ms, ((pn ns n).2.1, ((pn ns n).2.2.1, ((pn ns n).2.2.2.1, true)))) else pn ns i := by
 unfold psm
 rw [pn_set h0 (by rw [pset_len]; exact h1) hi, pset_nd h0 h1]
 unfold pset
 rw [pn_set h0 h1 hi]
 split <;> rfl
theorem psm_len (ns : LP) (n : Int) (ms : LMv) : (psm ns n ms).length = ns.length := by
 unfold psm; rw [List.length_set, pset_len]
theorem psm_zero {ns : LP} {n : Int} (h0 : 0 ≤ n) (h1 : n < ns.length) (hk : (pks ns n).length = 0) (ms : LMv) (lf : Nat → PNode) : exP (psm ns n ms) n lf 0 = psm ns n ms := by
 have hk' : (pn ns n).2.1 = [] := List.length_eq_zero_iff.1 hk
 have e := psm_nd h0 h1 h0 ms
 rw [if_pos rfl] at e
 unfold exP
 rw [List.range_zero, List.map_nil, List.append_nil, List.map_nil, e]
 unfold psm
 rw [List.set_set, pset_nd h0 h1]
 dsimp only
 rw [hk']
theorem pX_inv {ns : LP} {g : Int → BoardT} {sz : Int → Int} {r : RulesT} {P D Z n : Int} (hI : PI ns g sz r P D Z) (p0 : 0 ≤ P) (p1 : P ≤ 1) (hD : D ≤ 80000) (h0 : 0 ≤ n) (h1 : n < ns.length) (hk : (pks ns n).length = 0) (hr0 : resV r (g n).2.1 = 0)
  (hp : 0 < (pn ns n).2.2.1) (hd : 0 < (pn ns n).2.2.2.1) {ms : LMv} (hg : IsGen r (g n).2.1 ms) (hm0 : 0 < ms.length) :
  PI (pX ns n (g n) ms P) (gxP ns g n ms) (sxP ns sz) r P (D + 1) Z ∧ (∀ i : Int, 0 ≤ i → i < ns.length → i ≠ n → pn (pX ns n (g n) ms P) i = pn ns i) ∧
  (pks (pX ns n (g n) ms P) n).length = ms.length ∧ (∀ j : Int, 0 ≤ j → j < ms.length → pkid (pX ns n (g n) ms P) n j = ns.length + j) ∧ (pX ns n (g n) ms P).length = ns.length + ms.length := by
 obtain ⟨hb, hl, hbr⟩ := hI.bo n h0 h1
 have hmo := fun (j : Int) (j0 : 0 ≤ j) (j1 : j < ms.length) => gen_move hb hbr hg j0 j1
 have hsl := psm_len ns n ms
 have hnd : ∀ i : Int, 0 ≤ i → pn (pX ns n (g n) ms P) i = if i = n then (ms, ((List.range ms.length).map (fun j : Nat => (ns.length : Int) + (j : Int)), ((pn ns n).2.2.1, ((pn ns n).2.2.2.1, true)))) else if i < ns.length then pn ns i else gD zPN ((List.range ms.length).map (lfn (g n) ms P)) (i - ns.length) := fun i hi => by
  unfold pX
  rw [exP_nd h0 (by omega) hi, hsl, psm_nd h0 h1 h0, if_pos rfl, psm_nd h0 h1 hi]
  by_cases e : i = n
  ·rw [if_pos e, if_pos e]
  ·rw [if_neg e, if_neg e, if_neg e]
 have hlen : (pX ns n (g n) ms P).length = ns.length + ms.length := by unfold pX; rw [exP_len, hsl]
 generalize pX ns n (g n) ms P = X at *
 have kn : pks X n = (List.range ms.length).map (fun j : Nat => (ns.length : Int) + (j : Int)) := by unfold pks; rw [hnd n h0, if_pos rfl]
 have knl : (pks X n).length = ms.length := by rw [kn]; simp
 have kk : ∀ j : Int, 0 ≤ j → j < ms.length → pkid X n j = ns.length + j := fun j j0 j1 => by
  unfold pkid
  rw [kn, pgD_range j0 j1]
  omega
 have hold : ∀ i : Int, 0 ≤ i → i < ns.length → i ≠ n → pn X i = pn ns i := fun i hi hil ne => by rw [hnd i hi, if_neg ne, if_pos hil]
 have hnew : ∀ i : Int, (ns.length : Int) ≤ i → i < ns.length + ms.length → pn X i = ([], ([], lfv (resV (makeB (g n) (gD z0 ms (i - ns.length))).1 (makeB (g n) (gD z0 ms (i - ns.length))).2.1) P)) := fun i hi hil => by
  rw [hnd i (by omega), if_neg (by omega), if_neg (by omega), pgD_range (by omega) (by omega)]
  unfold lfn
  rw [show (((i - (ns.length : Int)).toNat : Nat) : Int) = i - ns.length by omega]
 have ko : ∀ i : Int, 0 ≤ i → i < ns.length → i ≠ n → pks X i = pks ns i := fun i hi hil ne => by unfold pks; rw [hold i hi hil ne]
 have kz : ∀ i : Int, (ns.length : Int) ≤ i → i < ns.length + ms.length → (pks X i).length = 0 := fun i hi hil => by unfold pks; rw [hnew i hi hil]; rfl
 have kq : ∀ i j : Int, 0 ≤ i → i < ns.length → i ≠ n → pkid X i j = pkid ns i j := fun i j hi hil ne => by unfold pkid; rw [ko i hi hil ne]
 have gold : ∀ i : Int, i < ns.length → gxP ns g n ms i = g i := fun i hi => by unfold gxP; rw [if_pos hi]
 have gnew : ∀ i : Int, (ns.length : Int) ≤ i → gxP ns g n ms i = makeB (g n) (gD z0 ms (i - ns.length)) := fun i hi => by unfold gxP; rw [if_neg (by omega)]
 have hnn : ∀ i : Int, (ns.length : Int) ≤ i → i < ns.length + ms.length → BOk (gxP ns g n ms i) := fun i a b => by
  rw [gnew i a]
  exact make_ok hb (by omega) (hmo (i - ns.length) (by omega) (by omega)).2
 refine ⟨⟨fun i a b => ?_, fun i a b => ?_, fun i a b => ?_, fun i a b => ?_, fun i j a b c e => ?_, fun i j i' j' a b c e a' b' c' e' => ?_⟩, hold, knl, kk, hlen⟩
 ·by_cases hi : i < ns.length
  ·rw [gold i hi]
   have := hI.bo i a hi
   exact ⟨this.1, by omega, this.2.2⟩
  ·refine ⟨hnn i (by omega) (by omega), ?_, ?_⟩
   ·rw [gnew i (by omega), makeB_pl]; omega
   ·rw [gnew i (by omega)]; exact hbr
 ·unfold sxP
  by_cases hi : i < ns.length
  ·rw [if_pos hi]
   have := hI.tri i a hi
   by_cases e : i = n
   ·subst e
    rw [hnd i a, if_pos rfl]
    exact this
   ·rw [hold i a hi e]
    exact this
  ·rw [if_neg hi, hnew i (by omega) (by omega)]
   have := hI.tri n h0 h1
   exact ⟨lfv_tri _ _, Int.le_refl _, by omega⟩
 ·unfold na nb
  by_cases hi : i < ns.length
  ·rw [gold i hi]
   by_cases e : i = n
   ·subst e
    rw [hnd i a, if_pos rfl]
    dsimp only
    refine ⟨fun h => ?_, fun h => ?_⟩
    ·cases ho : ownB P (g i) <;> (rw [ho] at h; simp only [cond_true, cond_false] at h; omega)
    ·cases ho : ownB P (g i) <;> (rw [ho] at h; simp only [cond_true, cond_false] at h; omega)
   ·rw [hold i a hi e]
    exact hI.wn i a hi
  ·have hbi := hnn i (by omega) (by omega)
   have hw := leaf_wn hbi p0 p1
   rw [hnew i (by omega) (by omega)]
   rw [gnew i (by omega)] at hw ⊢
   have hr2 : (makeB (g n) (gD z0 ms (i - ns.length))).1 = r := hbr
   rw [hr2] at hw ⊢
   exact hw
 ·by_cases hi : i < ns.length
  ·rw [gold i hi]
   by_cases e : i = n
   ·subst e
    rw [knl, hnd i a, if_pos rfl]
    exact .inr (.inr ⟨rfl, hm0, rfl, hg, hr0⟩)
   ·rw [ko i a hi e, hold i a hi e]
    exact hI.ex i a hi
  ·have hr2 : (makeB (g n) (gD z0 ms (i - ns.length))).1 = r := hbr
   rw [kz i (by omega) (by omega), hnew i (by omega) (by omega), gnew i (by omega), hr2]
   rcases lfv_ex (resV r (makeB (g n) (gD z0 ms (i - ns.length))).2.1) P with ⟨h1, h2⟩ | ⟨h1, h2⟩
   ·exact .inl ⟨h1, rfl, h2⟩
   ·exact .inr (.inl ⟨h1, rfl, h2⟩)
 ·by_cases hi : i < ns.length
  ·by_cases e' : i = n
   ·subst e'
    rw [knl] at e
    rw [kk j c e, hlen, gnew _ (by omega), gold i hi, hnd i a, if_pos rfl, show ((ns.length : Int) + j - ns.length) = j by omega]
    exact ⟨by omega, by omega, rfl⟩
   ·rw [ko i a hi e'] at e
    obtain ⟨x, y, z⟩ := hI.kd i j a hi c e
    rw [kq i j a hi e', hlen, gold _ y, gold i hi, hold i a hi e']
    exact ⟨x, by omega, z⟩
  ·rw [kz i (by omega) (by omega)] at e
   omega
 ·have big : ∀ i j : Int, 0 ≤ i → i < ns.length + ms.length → i ≠ n → 0 ≤ j → j < (pks X i).length → i < ns.length ∧ j < (pks ns i).length ∧ pkid X i j = pkid ns i j ∧ pkid X i j < ns.length := fun i j a b ne c e => by
   by_cases hil : i < ns.length
   ·rw [ko i a hil ne] at e
    have hk := kq i j a hil ne
    exact ⟨hil, e, hk, by rw [hk]; exact (hI.kd i j a hil c e).2.1⟩
   ·rw [kz i (by omega) b] at e
    omega
  by_cases hi : i = n
  ·subst hi
   by_cases hi' : i' = i
   ·subst hi'
    rw [knl] at e e'
    rw [kk j c e, kk j' c' e']
    intro h
    exact ⟨rfl, by omega⟩
   ·have := big i' j' a' (by omega) hi' c' e'
    rw [knl] at e
    rw [kk j c e]
    intro h
    omega
  ·have hb1 := big i j a (by omega) hi c e
   by_cases hi' : i' = n
   ·subst hi'
    rw [knl] at e'
    rw [kk j' c' e']
    intro h
    omega
   ·have hb2 := big i' j' a' (by omega) hi' c' e'
    rw [hb1.2.2.1, hb2.2.2.1]
    exact hI.un i j i' j' a hb1.1 c hb1.2.1 a' hb2.1 c' hb2.2.1
structure PPo (ns ns' : LP) (g g' : Int → BoardT) (sz sz' : Int → Int) (r : RulesT) (P n D Z : Int) : Prop where
 inv : PI ns' g' sz' r P D Z
 len : ns.length ≤ ns'.length
 gg : ∀ i : Int, 0 ≤ i → i < ns.length → g' i = g i
 lo : ∀ i : Int, 0 ≤ i → i < n → pn ns' i = pn ns i ∧ sz' i = sz i
 sib : ∀ p j : Int, 0 ≤ p → p < n → 0 ≤ j → j < (pks ns p).length → pkid ns p j ≠ n → pn ns' (pkid ns p j) = pn ns (pkid ns p j) ∧ sz' (pkid ns p j) = sz (pkid ns p j)
 zn : sz' n ≤ sz n + 8192
 ag : ∀ i : Int, 0 ≤ i → i < ns'.length → (∀ j : Int, 0 ≤ j → j < (pks ns' i).length → pkid ns' i j ≠ n) → Ag ns' g' sz' P i
theorem Ag.nil {ns : LP} {g : Int → BoardT} {sz : Int → Int} {P i : Int} (h : (pks ns i).length = 0) (hz : 0 ≤ sz i) : Ag ns g sz P i := by
 refine ⟨fun c => by omega, fun c => by omega, ?_⟩
 rw [h]
 exact hz
theorem pstep_of {N : Nat} (hN : 200000001 ≤ N) {ns : LP} {g : Int → BoardT} {sz : Int → Int} {r : RulesT} {P D Z n many : Int} (hI : PI ns g sz r P D Z) (hA : ∀ i : Int, 0 ≤ i → i < ns.length → Ag ns g sz P i) (p0 : 0 ≤ P) (p1 : P ≤ 1) (hD : D ≤ 80000) (hZ : Z + 8192 < NV) (hm0 : 0 ≤ many) (hm1 : many ≤ 1000000)
  (h0 : 0 ≤ n) (h1 : n < ns.length) (hp : 0 < (pn ns n).2.2.1) (hd : 0 < (pn ns n).2.2.2.1)
  (hs : ∀ j : Int, 0 ≤ j → j < (pks ns n).length → 0 < (pn ns (pkid ns n j)).2.2.1 → 0 < (pn ns (pkid ns n j)).2.2.2.1 → ∃ ns' g' sz', Q30 N (g (pkid ns n j), (P, many)) (ns, pkid ns n j) = some ((g (pkid ns n j), (P, many + 1)), (ns', pkid ns n j)) ∧ PPo ns ns' g g' sz sz' r P (pkid ns n j) (D + 1) (Z + 8192)) :
  ∃ ns' g' sz', Q30 (N + 1) (g n, (P, many)) (ns, n) = some ((g n, (P, many + 1)), (ns', n)) ∧ PPo ns ns' g g' sz sz' r P n (D + 1) (Z + 8192) := by
 obtain ⟨hb, hl, hbr⟩ := hI.bo n h0 h1
 have hzn := hI.tri n h0 h1
 rw [pstep_e]
 unfold Q28 Q28.e
 dsimp only
 rw [Option.bind_some, leI_t h0, chk_true, show eqI (g n).2.1.2.2.1 P = ownB P (g n) from rfl]
 by_cases hk : (pks ns n).length = 0
 ·
  have hex : (pn ns n).2.2.2.2 = false ∧ resV r (g n).2.1 = 0 := by
   rcases hI.ex n h0 h1 with h | h | h
   ·exact ⟨h.1, h.2.2⟩
   ·omega
   ·omega
  obtain ⟨ms, hms, _, hgen⟩ := bmoves_ret (N := N) (by omega) hb
  rw [hbr] at hgen
  have hg := hgen hex.2
  have hm8 := hg.len
  have hmpos : 0 < ms.length := by
   have hc := cand_ne (hbr ▸ hb.r) (hbr ▸ hb.p) hex.2
   cases hcl : cand r (g n).2.1 with
   | nil => exact absurd hcl hc
   | cons m c => exact List.length_pos_of_mem ((hg.mem m).2 (by rw [hcl]; exact List.mem_cons_self ..))
  obtain ⟨hI1, hold, hkl, hkk, hlen⟩ := pX_inv hI p0 p1 hD h0 h1 hk hex.2 hp hd hg hmpos
  have hexp : Q52 N (g n, (P, many)) (ns, n) = some ((g n, (P, many + 1)), (pX ns n (g n) ms P, n)) := by
   rw [pex_e]
   dsimp only
   rw [hms, Option.bind_some, leI_t h0, chk_true, chk_true, chk_true, w64_id (by omega) (by omega)]
   rw [show (pset ns n fun v => (v.1, (v.2.1, true))).set n.toNat (ms, (pn (pset ns n fun v => (v.1, (v.2.1, true))) n).2) = psm ns n ms from rfl]
   have e1 : (pn (psm ns n ms) n).1 = ms := by rw [psm_nd h0 h1 h0, if_pos rfl]
   have := pexL_ok (N := N) (by omega) (g n, (P, many)) ns (ns := psm ns n ms) h0 (by rw [psm_len]; exact h1) hb (by omega) (P := P) (many := many + 1) p0 p1 (ms := ms) (fun j j0 j1 => (gen_move hb hbr hg j0 j1).2) hm8 ms.length N 0 (by omega) (by omega)
   rw [psm_zero h0 h1 hk] at this
   rw [e1]
   exact this
  rw [hex.1, bif_f (by rfl), hexp, Option.bind_some]
  dsimp only
  have gn : gxP ns g n ms n = g n := by unfold gxP; rw [if_pos h1]
  generalize hX : pX ns n (g n) ms P = X at *
  have h1' : n < X.length := by omega
  have hup := pu_ok (N := N) (by omega) X n (ownB P (g n)) h0 h1' (fun i i0 i1 => by rw [hkk i i0 (by omega)]; omega) (by omega) (fun o i i0 i1 => by
   obtain ⟨t1, t2, t3⟩ := kid_tri hI1 h0 h1' i0 i1 o
   exact ⟨(t1.range (by omega)).1, (t1.range (by omega)).2.1⟩)
  rw [hup, Option.bind_some]
  have hsum : sumI (fun j => sxP ns sz (pkid X n j)) (pks X n).length = ms.length := by
   rw [hkl]
   refine sumF_one fun j j0 j1 => ?_
   rw [hkk j j0 j1]
   unfold sxP
   rw [if_neg (by omega)]
  obtain ⟨hI2, hA2, hA3⟩ := pup_inv (hI1.mono (Int.le_refl _) (show Z ≤ Z + 8192 by omega)) p0 p1 h0 h1' (by omega) (S := sz n + 8192) (by rw [hsum]; omega) (by omega) (by omega) hZ
  rw [gn] at hI2 hA2 hA3
  have hlen2 := pup_len h0 h1' (ownB P (g n))
  refine ⟨pup X n (ownB P (g n)), gxP ns g n ms, szu (sxP ns sz) n (sz n + 8192), rfl, hI2, by omega, fun i a b => ?_, fun i a b => ?_, fun p j a b c e ne => ?_, ?_, fun i a b hnk => ?_⟩
  ·unfold gxP; rw [if_pos b]
  ·refine ⟨?_, ?_⟩
   ·rw [pup_ne h0 h1' _ a (by omega), hold i a (by omega) (by omega)]
   ·unfold szu sxP
    rw [if_neg (by omega), if_pos (by omega)]
  ·obtain ⟨k0, k1, _⟩ := hI.kd p j a (by omega) c e
   refine ⟨?_, ?_⟩
   ·rw [pup_ne h0 h1' _ (by omega) ne, hold _ (by omega) k1 ne]
   ·unfold szu sxP
    rw [if_neg ne, if_pos k1]
  ·unfold szu
   rw [if_pos rfl]
   exact Int.le_refl _
  ·by_cases e : i = n
   ·subst e; exact hA2
   ·have hks := pup_ks h0 h1' (ownB P (g n)) a
    rw [hks.1] at hnk
    refine hA3 i a (by omega) e (fun j j0 j1 => by have := hnk j j0 j1; rw [pup_kid h0 h1' _ a] at this; exact this) ?_
    by_cases hil : i < ns.length
    ·have hag := hA i a hil
     have eo := hold i a hil e
     have ek : pks X i = pks ns i := by unfold pks; rw [eo]
     have ekd : ∀ j, pkid X i j = pkid ns i j := fun j => by unfold pkid; rw [ek]
     have egi : gxP ns g n ms i = g i := by unfold gxP; rw [if_pos hil]
     have hkid : ∀ j : Int, 0 ≤ j → j < (pks ns i).length → pn X (pkid X i j) = pn ns (pkid ns i j) ∧ sxP ns sz (pkid X i j) = sz (pkid ns i j) := fun j j0 j1 => by
      obtain ⟨k0, k1, _⟩ := hI.kd i j a hil j0 j1
      have hne := hnk j j0 (by rw [ek]; exact j1)
      rw [pup_kid h0 h1' _ a, ekd] at hne
      rw [ekd]
      refine ⟨hold _ (by omega) k1 hne, ?_⟩
      unfold sxP
      rw [if_pos k1]
     refine ⟨fun c => ?_, fun c => ?_, ?_⟩
     ·rw [ek] at c ⊢
      have := hag.a c
      unfold na at this ⊢
      rw [egi, eo, this]
      exact leastF_ext fun j j0 j1 => (ka_ext (hkid j j0 j1).1 _).symm
     ·rw [ek] at c ⊢
      have := hag.b c
      unfold nb at this ⊢
      rw [egi, eo, this]
      exact csumF_ext fun j j0 j1 => (ka_ext (hkid j j0 j1).1 _).symm
     ·rw [ek]
      refine Int.le_trans (Int.le_of_eq (sumF_ext fun j j0 j1 => (hkid j j0 j1).2)) (Int.le_trans hag.s (Int.le_of_eq ?_))
      unfold sxP
      rw [if_pos hil]
    ·refine Ag.nil ?_ ?_
     ·have hcase := hI1.ex i a (by omega)
      rcases hcase with h | h | h
      ·exact h.2.1
      ·exact h.2.1
      ·exfalso
       obtain ⟨k0, k1, _⟩ := hI1.kd i 0 a (by omega) (Int.le_refl _) (by omega)
       have e2 : pn X i = lfn (g n) ms P (i - ns.length).toNat := by
        rw [← hX]
        unfold pX
        rw [exP_nd h0 (by rw [psm_len]; exact h1) a, if_neg e, if_neg (by rw [psm_len]; exact hil), psm_len, pgD_range (by omega) (by omega)]
       have : (pks X i).length = 0 := by unfold pks; rw [e2]; rfl
       omega
     ·unfold sxP; rw [if_neg hil]; decide
 ·
  have hkp : 0 < (pks ns n).length := by omega
  obtain ⟨hxe, hml, hg, hr0⟩ := kid_mv hI h0 h1 hkp
  have hm8 := hg.len
  rw [hxe, bif_t rfl]
  obtain ⟨j, e, j0, j1, hj⟩ := ppick_ok N ns n (ownB P (g n)) h0 (fun i i0 i1 => by have := (hI.kd n i h0 h1 i0 i1).1; omega) (by omega) (by omega) hkp
  obtain ⟨k0, k1, kg⟩ := hI.kd n j h0 h1 j0 j1
  have hmo := (gen_move hb hbr hg j0 (by omega)).2
  have hag := hA n h0 h1
  have hopen := pick_open (fun i i0 i1 => (kid_tri hI h0 h1 i0 i1 (ownB P (g n))).1) (fun i i0 i1 => by have := (kid_tri hI h0 h1 i0 i1 true).2.2; omega)
   (by rw [← hag.a hkp]; unfold na; cases ownB P (g n) <;> assumption) (by rw [← hag.b hkp]; unfold nb; cases ownB P (g n) <;> assumption) j0 j1 hj
  have hopen2 : 0 < (pn ns (pkid ns n j)).2.2.1 ∧ 0 < (pn ns (pkid ns n j)).2.2.2.1 := by
   unfold ka at hopen
   cases ho : ownB P (g n) with
   | true => rw [ho] at hopen; exact hopen
   | false => rw [ho] at hopen; exact ⟨hopen.2, hopen.1⟩
  obtain ⟨ns1, g1, sz1, e2, hP⟩ := hs j j0 j1 hopen2.1 hopen2.2
  rw [e, Option.bind_some]
  dsimp only
  rw [chk_true, chk_idx j0 (by omega), make_eq hb (by omega) hmo, Option.bind_some, chk_true, chk_idx j0 (show j < ((pn ns n).2.1.length : Int) from j1), eqI_self, chk_true, ← kg]
  rw [show gD (-1 : Int) (pn ns n).2.1 j = pkid ns n j from rfl, e2, Option.bind_some, kg, undo_make hb (by omega) hmo, Option.bind_some]
  dsimp only
  have h1' : n < ns1.length := by have := hP.len; omega
  have en := (hP.lo n h0 k0).1
  have ek : pks ns1 n = pks ns n := by unfold pks; rw [en]
  have ekd : ∀ a, pkid ns1 n a = pkid ns n a := fun a => by unfold pkid; rw [ek]
  have eg : g1 n = g n := hP.gg n h0 h1
  have hup := pu_ok (N := N) (by omega) ns1 n (ownB P (g n)) h0 h1' (fun i i0 i1 => by rw [ek] at i1; rw [ekd]; have := (hI.kd n i h0 h1 i0 i1).1; omega) (by rw [ek]; omega) (fun o i i0 i1 => by
   obtain ⟨t1, t2, t3⟩ := kid_tri hP.inv h0 h1' i0 i1 o
   exact ⟨(t1.range (by omega)).1, (t1.range (by omega)).2.1⟩)
  rw [hup, Option.bind_some]
  have hsum : sumI (fun i => sz1 (pkid ns1 n i)) (pks ns1 n).length ≤ sz n + 8192 := by
   rw [ek]
   have h3 := sumF_grow (z := fun i => sz (pkid ns n i)) (z' := fun i => sz1 (pkid ns1 n i)) (i := j) (d := 8192) (by omega) (by rw [ekd]; exact hP.zn) (M := (pks ns n).length) (fun i i0 i1 ne => by
    rw [ekd]
    refine (hP.sib n i h0 k0 i0 i1 fun e => ?_).2
    exact ne (hI.un n i n j h0 h1 i0 i1 h0 h1 j0 j1 e).2)
   have h4 := hag.s
   rw [if_pos ⟨j0, j1⟩] at h3
   omega
  obtain ⟨hI2, hA2, hA3⟩ := pup_inv hP.inv p0 p1 h0 h1' (by rw [ek]; exact hkp) (S := sz n + 8192) hsum (by omega) (by omega) hZ
  rw [eg] at hI2 hA2 hA3
  have hlen2 := pup_len h0 h1' (ownB P (g n))
  have hl3 := hP.len
  refine ⟨pup ns1 n (ownB P (g n)), g1, szu sz1 n (sz n + 8192), rfl, hI2, by omega, hP.gg, fun i a b => ?_, fun p i a b c e' ne => ?_, ?_, fun i a b hnk => ?_⟩
  ·rw [pup_ne h0 h1' _ a (by omega)]
   unfold szu
   rw [if_neg (by omega)]
   exact hP.lo i a (by omega)
  ·obtain ⟨q0, q1, _⟩ := hI.kd p i a (by omega) c e'
   rw [pup_ne h0 h1' _ (by omega) ne]
   unfold szu
   rw [if_neg ne]
   refine hP.sib p i a (by omega) c e' fun e3 => ?_
   have := (hI.un p i n j a (by omega) c e' h0 h1 j0 j1 e3).1
   omega
  ·unfold szu
   rw [if_pos rfl]
   exact Int.le_refl _
  ·by_cases e3 : i = n
   ·subst e3; exact hA2
   ·have hks := pup_ks h0 h1' (ownB P (g n)) a
    rw [hks.1] at hnk
    refine hA3 i a (by omega) e3 (fun t t0 t1 => by have := hnk t t0 t1; rw [pup_kid h0 h1' _ a] at this; exact this) ?_
    refine hP.ag i a (by omega) fun t t0 t1 e4 => ?_
    have := (hP.inv.un i t n j a (by omega) t0 t1 h0 h1' j0 (by rw [ek]; exact j1) (by rw [e4, ekd])).1
    exact e3 this
theorem pstep_ok : ∀ (h : Nat) {N : Nat} {ns : LP} {g : Int → BoardT} {sz : Int → Int} {r : RulesT} {P D Z n many : Int}, 200000002 + h ≤ N → PI ns g sz r P D Z → (∀ i : Int, 0 ≤ i → i < ns.length → Ag ns g sz P i) → 0 ≤ P → P ≤ 1 → D ≤ 80000 → Z + 8192 < NV → 0 ≤ many → many ≤ 1000000 →
  0 ≤ n → n < ns.length → 0 < (pn ns n).2.2.1 → 0 < (pn ns n).2.2.2.1 → D ≤ (g n).2.2.2.length + h →
  ∃ ns' g' sz', Q30 N (g n, (P, many)) (ns, n) = some ((g n, (P, many + 1)), (ns', n)) ∧ PPo ns ns' g g' sz sz' r P n (D + 1) (Z + 8192) := by
 intro h
 induction h with
 | zero =>
  intro N ns g sz r P D Z n many hN hI hA p0 p1 hD hZ m0 m1 h0 h1 hp hd hh
  obtain ⟨N, rfl⟩ : ∃ a, N = a + 1 := ⟨N - 1, by omega⟩
  refine pstep_of (by omega) hI hA p0 p1 hD hZ m0 m1 h0 h1 hp hd fun j j0 j1 _ _ => ?_
  obtain ⟨k0, k1, kg⟩ := hI.kd n j h0 h1 j0 j1
  have := (hI.bo _ (by omega) k1).2.1
  rw [kg, makeB_pl] at this
  omega
 | succ h ih =>
  intro N ns g sz r P D Z n many hN hI hA p0 p1 hD hZ m0 m1 h0 h1 hp hd hh
  obtain ⟨N, rfl⟩ : ∃ a, N = a + 1 := ⟨N - 1, by omega⟩
  refine pstep_of (by omega) hI hA p0 p1 hD hZ m0 m1 h0 h1 hp hd fun j j0 j1 hp' hd' => ?_
  obtain ⟨k0, k1, kg⟩ := hI.kd n j h0 h1 j0 j1
  refine ih (by omega) hI hA p0 p1 hD hZ m0 m1 (by omega) k1 hp' hd' ?_
  rw [kg, makeB_pl]
  omega
end
end Go.Proofs.Ytpielijehhhobaa.Am
