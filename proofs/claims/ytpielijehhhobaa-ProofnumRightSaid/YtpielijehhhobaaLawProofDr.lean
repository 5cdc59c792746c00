/- Plain: what proofnum.Prove answers: the search's numbers after so many steps. -/
import Derived.Test.YtpielijehhhobaaLawProofCr
set_option linter.unusedVariables false
set_option linter.unusedSimpArgs false
set_option linter.unusedSectionVars false
namespace Go.Proofs.Ytpielijehhhobaa.Am
open Go
noncomputable section
inductive Pst (N : Nat) (b : BoardT) (P : Int) : Nat → LP → Prop
 | z : Pst N b P 0 [([], ([], lfv (resV b.1 b.2.1) P))]
 | s {t : Nat} {ns ns' : LP} : Pst N b P t ns → 0 < (pn ns 0).2.2.1 → 0 < (pn ns 0).2.2.2.1 → Q30 N (b, (P, (t : Int))) (ns, 0) = some ((b, (P, (t : Int) + 1)), (ns', 0)) → Pst N b P (t + 1) ns'
theorem Pst.eq {N : Nat} {b : BoardT} {P : Int} : ∀ {t : Nat} {ns ns' : LP}, Pst N b P t ns → Pst N b P t ns' → ns = ns'
 | 0, _, _, .z, .z => rfl
 | t + 1, _, _, .s h _ _ e, .s h' _ _ e' => by
  obtain rfl := Pst.eq h h'
  rw [e] at e'
  simp only [Option.some.injEq, Prod.mk.injEq] at e'
  exact e'.2.1
theorem Pst.before {N : Nat} {b : BoardT} {P : Int} : ∀ {t : Nat} {ns : LP}, Pst N b P t ns → ∀ k, k < t → ∃ ns', Pst N b P k ns' ∧ 0 < (pn ns' 0).2.2.1 ∧ 0 < (pn ns' 0).2.2.2.1
 | t + 1, _, .s h hp hd e, k, hk => by
  by_cases c : k = t
  ·subst c; exact ⟨_, h, hp, hd⟩
  ·exact h.before k (by omega)
structure Pgs (b : BoardT) (P : Int) (t : Nat) (ns : LP) : Prop where
 inv : ∃ g sz, g 0 = b ∧ PI ns g sz b.1 P t (1 + 8192 * (t : Int)) ∧ ∀ i : Int, 0 ≤ i → i < ns.length → Ag ns g sz P i
 len : 0 < ns.length
theorem Pgs.z {b : BoardT} (hb : BOk b) (hl : b.2.2.2.length = 0) {P : Int} (p0 : 0 ≤ P) (p1 : P ≤ 1) : Pgs b P 0 [([], ([], lfv (resV b.1 b.2.1) P))] := by
 have hn : pn [([], ([], lfv (resV b.1 b.2.1) P))] 0 = ([], ([], lfv (resV b.1 b.2.1) P)) := rfl
 have h0 : ∀ i : Int, 0 ≤ i → i < (([([], ([], lfv (resV b.1 b.2.1) P))] : LP).length : Int) → i = 0 := fun i a b => by simp at b; omega
 have hk : (pks [([], ([], lfv (resV b.1 b.2.1) P))] 0).length = 0 := rfl
 refine ⟨⟨fun _ => b, fun _ => 1, rfl, ⟨fun i a b => ⟨hb, by omega, rfl⟩, fun i a b => ?_, fun i a b => ?_, fun i a b => ?_, fun i j a b c e => ?_, fun i j i' j' a b c e => ?_⟩, fun i a b => ?_⟩, by simp⟩
 ·rw [h0 i a b, hn]
  exact ⟨lfv_tri _ _, Int.le_refl _, by omega⟩
 ·rw [h0 i a b]
  exact leaf_wn hb p0 p1
 ·rw [h0 i a b, hn, hk]
  rcases lfv_ex (resV _ _) P with ⟨h1, h2⟩ | ⟨h1, h2⟩
  ·exact .inl ⟨h1, rfl, h2⟩
  ·exact .inr (.inl ⟨h1, rfl, h2⟩)
 ·rw [h0 i a b, hk] at e; omega
 ·rw [h0 i a b, hk] at e; omega
 ·rw [h0 i a b]
  exact Ag.nil hk (by decide)
theorem Pgs.s {N : Nat} (hN : 200000200 ≤ N) {b : BoardT} {P : Int} (p0 : 0 ≤ P) (p1 : P ≤ 1) (hl : b.2.2.2.length = 0) {t : Nat} (ht : t ≤ 100) {ns : LP} (hG : Pgs b P t ns) (hp : 0 < (pn ns 0).2.2.1) (hd : 0 < (pn ns 0).2.2.2.1) :
  ∃ ns', Q30 N (b, (P, (t : Int))) (ns, 0) = some ((b, (P, (t : Int) + 1)), (ns', 0)) ∧ Pgs b P (t + 1) ns' := by
 obtain ⟨⟨g, sz, g0, hI, hA⟩, hlen⟩ := hG
 obtain ⟨ns', g', sz', e, hP⟩ := pstep_ok t (N := N) (n := 0) (many := (t : Int)) (by omega) hI hA p0 p1 (by omega) (by have hNV : NV = 1099511627776 := rfl; omega) (by omega) (by omega) (Int.le_refl _) (by omega) hp hd (by rw [g0, hl]; omega)
 rw [g0] at e
 refine ⟨ns', e, ⟨g', sz', by rw [hP.gg 0 (Int.le_refl _) (by omega), g0], hP.inv.mono (by omega) (by omega), fun i a b => hP.ag i a b fun j j0 j1 => ?_⟩, by have := hP.len; omega⟩
 have := (hP.inv.kd i j a b j0 j1).1
 omega
theorem Pgs.tri {b : BoardT} {P : Int} {t : Nat} {ns : LP} (h : Pgs b P t ns) : Tri (pn ns 0).2.2.1 (pn ns 0).2.2.2.1 (1 + 8192 * (t : Int)) := by
 obtain ⟨⟨g, sz, g0, hI, hA⟩, hlen⟩ := h
 have := hI.tri 0 (Int.le_refl _) (by omega)
 exact this.1.mono this.2.2
theorem Pgs.wn {b : BoardT} {P : Int} {t : Nat} {ns : LP} (h : Pgs b P t ns) (ho : b.2.1.2.2.1 = P) : ((pn ns 0).2.2.1 = 0 → posV b.1 b.2.1) ∧ ((pn ns 0).2.2.2.1 = 0 → negV b.1 b.2.1) := by
 obtain ⟨⟨g, sz, g0, hI, hA⟩, hlen⟩ := h
 have := hI.wn 0 (Int.le_refl _) (by omega)
 unfold na nb ownB at this
 rw [g0, eqI_t ho] at this
 exact this
abbrev TRs := Int × (Int × (Int × Int))
def proveL (N : Nat) (r : TRules) (p : TPos) (budget : Int) (n : Nat) (P many : Int) (b : TBoard) (nodes : LP) : Option (TRs × Int) :=
 Q10.l0 N r p budget n b.1.1 b.1.2.1 b.1.2.2.1 b.1.2.2.2.2.2.1 b.1.2.2.2.2.2.2.1 b.1.2.2.2.2.2.2.2.2.1 b.1.2.2.2.2.2.2.2.2.2.1 b.1.2.2.2.2.2.2.2.2.2.2 b.2.1.2.2.1 b.2.1.2.2.2 b.2.2.1 P many b.1.2.2.2.1 b.1.2.2.2.2.1 b.1.2.2.2.2.2.2.2.1 b.2.1.1 b.2.1.2.1.1 b.2.1.2.1.2 b.2.2.2 nodes
def finP (ns : LP) (many : Int) : Option (TRs × Int) :=
 bif (eqI (pn ns 0).2.2.1 0) then some ((0, ((pn ns 0).2.2.1, ((pn ns 0).2.2.2.1, many))), 0)
 else bif (eqI (pn ns 0).2.2.2.1 0) then some ((1, ((pn ns 0).2.2.1, ((pn ns 0).2.2.2.1, many))), 0)
 else some ((2, ((pn ns 0).2.2.1, ((pn ns 0).2.2.2.1, many))), 0)
theorem proveL_s (N : Nat) (r : TRules) (p : TPos) (budget : Int) (n : Nat) (P many : Int) (b : TBoard) (ns : LP) : proveL N r p budget (n + 1) P many b ns =
  bif (ltI 0 (pn ns 0).2.2.1) then (bif (ltI 0 (pn ns 0).2.2.2.1) then (bif (ltI many budget) then ((Q30 N (b, (P, many)) (ns, 0)).bind fun y => proveL N r p budget n y.1.2.1 y.1.2.2 y.1.1 y.2.1) else finP ns many) else finP ns many) else finP ns many := rfl
theorem prove_e (N : Nat) (r : TRules) (p : TPos) (budget : Int) : Q10 N r p budget = (Q27 N r p).bind fun y1 =>
 oCase y1.1 (bif (!(eqI y1.2 0)) then (some ((0, (0, (0, 0))), y1.2))
  else bif (ltI budget 0) then (some ((0, (0, (0, 0))), 1))
  else bif (ltI 5000 budget) then (some ((0, (0, (0, 0))), 1))
  else none) fun b2 =>
 bif (!(eqI y1.2 0)) then (some ((0, (0, (0, 0))), y1.2))
 else bif (ltI budget 0) then (some ((0, (0, (0, 0))), 1))
 else bif (ltI 5000 budget) then (some ((0, (0, (0, 0))), 1))
 else (Q28 N b2).bind fun y3 =>
 (Q29 N (b2, (y3, 0))).bind fun y4 =>
 proveL N r p budget N y4.2.2.1 y4.2.2.2 y4.2.1 [([], ([], y4.1.2.2))] := rfl
def stP (ns : LP) : Int := if (pn ns 0).2.2.1 = 0 then 0 else if (pn ns 0).2.2.2.1 = 0 then 1 else 2
theorem finP_eq (ns : LP) (many : Int) : finP ns many = some ((stP ns, ((pn ns 0).2.2.1, ((pn ns 0).2.2.2.1, many))), 0) := by
 unfold finP stP
 by_cases c : (pn ns 0).2.2.1 = 0
 ·rw [bif_t (eqI_t c), if_pos c]
 ·rw [bif_f (eqI_f c), if_neg c]
  by_cases c2 : (pn ns 0).2.2.2.1 = 0
  ·rw [bif_t (eqI_t c2), if_pos c2]
  ·rw [bif_f (eqI_f c2), if_neg c2]
theorem proveL_ok {N : Nat} (hN : 200000200 ≤ N) {b : BoardT} {P : Int} (p0 : 0 ≤ P) (p1 : P ≤ 1) (hl : b.2.2.2.length = 0) (r : RulesT) (p : PosT) {B : Nat} (hB : B ≤ 100) : ∀ (j n t : Nat) {ns : LP}, t + j = B → j < n → Pst N b P t ns → Pgs b P t ns →
  ∃ t' ns', Pst N b P t' ns' ∧ Pgs b P t' ns' ∧ t' ≤ B ∧ (t' = B ∨ (pn ns' 0).2.2.1 = 0 ∨ (pn ns' 0).2.2.2.1 = 0) ∧ proveL N r p B n P t b ns = some ((stP ns', ((pn ns' 0).2.2.1, ((pn ns' 0).2.2.2.1, (t' : Int)))), 0)
 | j, n, t, ns, ht, hn, hS, hG => by
  obtain ⟨n, rfl⟩ := nxt (n := n) (by omega)
  have hNV : NV = 1099511627776 := rfl
  have hr := hG.tri.range (by omega)
  rw [proveL_s]
  by_cases hp : 0 < (pn ns 0).2.2.1
  ·by_cases hd : 0 < (pn ns 0).2.2.2.1
   ·rw [bif_t (ltI_t hp), bif_t (ltI_t hd)]
    cases j with
    | zero =>
     rw [bif_f (ltI_f (by omega)), finP_eq]
     exact ⟨t, ns, hS, hG, by omega, .inl (by omega), rfl⟩
    | succ j =>
     obtain ⟨ns', e, hG'⟩ := hG.s hN p0 p1 hl (by omega) hp hd
     rw [bif_t (ltI_t (by omega)), e, Option.bind_some]
     obtain ⟨t2, ns2, a1, a2, a3, a4, a5⟩ := proveL_ok hN p0 p1 hl r p hB j n (t + 1) (by omega) (by omega) (.s hS hp hd e) hG'
     refine ⟨t2, ns2, a1, a2, a3, a4, ?_⟩
     rw [← a5]
     rfl
   ·rw [bif_t (ltI_t hp), bif_f (ltI_f (by omega)), finP_eq]
    exact ⟨t, ns, hS, hG, by omega, .inr (.inr (by omega)), rfl⟩
  ·rw [bif_f (ltI_f (by omega)), finP_eq]
   exact ⟨t, ns, hS, hG, by omega, .inr (.inl (by omega)), rfl⟩
theorem prove_ok {N : Nat} (hN : 200000200 ≤ N) (r : RulesT) (p : PosT) :
  (∃ v, v ≠ 0 ∧ ¬ (ROk r ∧ POk r p) ∧ ∀ B : Nat, B ≤ 100 → Q10 N r p B = some ((0, (0, (0, 0))), v)) ∨
  (ROk r ∧ POk r p ∧ ∃ b : BoardT, b = (r, (p, (U (keyS p), []))) ∧ BOk b ∧ 0 ≤ p.2.2.1 ∧ p.2.2.1 ≤ 1 ∧ Q27 N r p = some (some b, 0) ∧ ∀ B : Nat, B ≤ 100 → ∃ t ns, Pst N b p.2.2.1 t ns ∧ Pgs b p.2.2.1 t ns ∧ t ≤ B ∧ (t = B ∨ (pn ns 0).2.2.1 = 0 ∨ (pn ns 0).2.2.2.1 = 0) ∧
   Q10 N r p B = some ((stP ns, ((pn ns 0).2.2.1, ((pn ns 0).2.2.2.1, (t : Int)))), 0)) := by
 obtain ⟨v, hv, hv2⟩ := pcheck (N := N) (by omega) r p
 by_cases h0 : v = 0
 ·obtain ⟨hr, hp⟩ := hv2.1 h0
  have hnew := new_good (N := N) (by omega) hr hp
  have hbk : BOk (r, (p, (U (keyS p), []))) := ⟨hr, hp, rfl⟩
  have ht := hp.last.1
  refine .inr ⟨hr, hp, _, rfl, hbk, by omega, by omega, hnew, fun B hB => ?_⟩
  have hP0 : 0 ≤ p.2.2.1 := by omega
  have hP1 : p.2.2.1 ≤ 1 := by omega
  obtain ⟨t', ns', a1, a2, a3, a4, a5⟩ := proveL_ok hN hP0 hP1 (b := (r, (p, (U (keyS p), [])))) rfl r p hB B N 0 (by omega) (by omega) .z (Pgs.z hbk rfl hP0 hP1)
  refine ⟨t', ns', a1, a2, a3, a4, ?_⟩
  rw [← a5, prove_e, hnew, Option.bind_some]
  dsimp only [oCase]
  rw [bif_f (by rfl), bif_f (ltI_f (by omega)), bif_f (ltI_f (by omega))]
  unfold Q28 Q28.e
  rw [Option.bind_some]
  dsimp only
  rw [leaf_eq (by omega) hbk hP0 hP1, Option.bind_some]
  rfl
 ·refine .inl ⟨v, h0, fun h => h0 (hv2.2 h), fun B hB => ?_⟩
  rw [prove_e, new_bad hv h0, Option.bind_some]
  dsimp only [oCase]
  rw [bif_t (by rw [eqI_f h0]; rfl)]
def pexM (N : Nat) (n_ : LP × Int) : Nat → LMv → Int → Int → Int → Int → TBoard → LP → Option (TXp × (LP × Int))
 | 0, _, _, _, _, _, _, _ => none
 | k + 1, ms, len, i, P, many, b, nodes => bif (ltI i len) then (chk ((leI 0 i) && (ltI i (ms.length : Int))) <|
   (Q50 N b (gD z0 ms i)).bind fun y5 => chk (leI 0 n_.2) <|
   pexB N n_ y5 P many nodes fun P many b ns => pexM N n_ k ms len (w64 (i + 1)) P many b ns)
  else some ((b, (P, many)), (nodes, n_.2))
theorem pexL_eq (N : Nat) (x : TXp) (n_ : LP × Int) : ∀ (k : Nat) (ms : LMv) (len i P many : Int) (b : TBoard) (nodes : LP), pexL N x n_ k ms len i P many b nodes = pexM N n_ k ms len i P many b nodes
 | 0, _, _, _, _, _, _, _ => rfl
 | k + 1, ms, len, i, P, many, b, nodes => by
  have ih := pexL_eq N x n_ k
  rw [pexL_s]
  simp only [bothK_same, ih]
  rfl
theorem pexp_eq (N : Nat) (x : TXp) (n_ : LP × Int) : Q52 N x n_ = chk (leI 0 n_.2) ((Q34 N x.1).bind fun y2 => chk (leI 0 n_.2) <| chk (leI 0 n_.2) <|
  pexM N n_ N (pn ((pset n_.1 n_.2 fun v => (v.1, (v.2.1, true))).set n_.2.toNat (y2, (pn (pset n_.1 n_.2 fun v => (v.1, (v.2.1, true))) n_.2).2)) n_.2).1 ((pn ((pset n_.1 n_.2 fun v => (v.1, (v.2.1, true))).set n_.2.toNat (y2, (pn (pset n_.1 n_.2 fun v => (v.1, (v.2.1, true))) n_.2).2)) n_.2).1.length : Int) 0 x.2.1 (w64 (x.2.2 + 1)) x.1
   ((pset n_.1 n_.2 fun v => (v.1, (v.2.1, true))).set n_.2.toNat (y2, (pn (pset n_.1 n_.2 fun v => (v.1, (v.2.1, true))) n_.2).2))) := by
 rw [pex_e]
 simp only [pexL_eq]
abbrev NA : Nat := 300000000
def aT : TRules := ((⟨#[84, 73, 67]⟩ : ByteArray), (3, (3, ([(65, (5, (0, [])))], ([0, 0, 0, 0, 0, 0, 0, 0, 0], (false, (false, ([(0, (0, (3, false)))], (2, (0, 0))))))))))
def aP : TPos := ([1, 1, 0, 2, 2, 0, 0, 0, 0], (([3], [3]), (0, 0)))
def aB : TBoard := (aT, (aP, (16825452458666462914, [])))
def aM : LMv := [(-1, (2, 0)), (-1, (5, 0)), (-1, (6, 0)), (-1, (7, 0)), (-1, (8, 0))]
def aX : LP := [(aM, ([1, 2, 3, 4, 5], (1, (1, true)))), ([], ([], (0, (NV, true)))), ([], ([], (1, (1, false)))), ([], ([], (1, (1, false)))), ([], ([], (1, (1, false)))), ([], ([], (1, (1, false))))]
def aY : LP := [(aM, ([1, 2, 3, 4, 5], (0, (NV, true)))), ([], ([], (0, (NV, true)))), ([], ([], (1, (1, false)))), ([], ([], (1, (1, false)))), ([], ([], (1, (1, false)))), ([], ([], (1, (1, false))))]
theorem a_three : Q24 NA = some aT := by kernel_rfl
theorem a_near : Q25 NA = some aP := by kernel_rfl
theorem a_new : Q27 NA aT aP = some (some aB, 0) := by kernel_rfl
theorem a_leaf : Q29 NA (aB, (0, 0)) = some (((), ((), (1, (1, false)))), (aB, (0, 0))) := by kernel_rfl
theorem a_exp : Q52 299999999 (aB, (0, 0)) ([([], ([], (1, (1, false))))], 0) = some ((aB, (0, 1)), (aX, 0)) := by
 rw [pexp_eq]
 kernel_rfl
theorem a_upd : Q53 299999999 (aX, 0) true = some (aY, 0) := by kernel_rfl
theorem a_step : Q30 NA (aB, (0, 0)) ([([], ([], (1, (1, false))))], 0) = some ((aB, (0, 1)), (aY, 0)) := by
 rw [show NA = 299999999 + 1 by decide, pstep_e]
 unfold Q28 Q28.e
 rw [Option.bind_some]
 dsimp only
 rw [show (pn [([], ([], (1, (1, false))))] 0).2.2.2.2 = false from rfl, bif_f (by rfl), a_exp]
 rw [show leI 0 0 = true from rfl, chk_true, Option.bind_some]
 dsimp only
 rw [show eqI aB.2.1.2.2.1 0 = true from rfl, a_upd]
 rfl
theorem a_prove : Q10 NA aT aP 10 = some ((0, (0, (NV, 1))), 0) := by
 rw [prove_e, a_new, Option.bind_some]
 dsimp only [oCase]
 rw [bif_f (by rfl), bif_f (by rfl), bif_f (by rfl)]
 unfold Q28 Q28.e
 rw [Option.bind_some, show aB.2.1.2.2.1 = 0 from rfl, a_leaf, Option.bind_some]
 dsimp only
 rw [show proveL NA aT aP 10 NA = proveL NA aT aP 10 (299999999 + 1) by rw [show NA = 299999999 + 1 by decide], proveL_s, bif_t (by rfl), bif_t (by rfl), bif_t (by rfl), a_step, Option.bind_some]
 dsimp only
 rw [show (299999999 : Nat) = 299999998 + 1 by decide, proveL_s, bif_f (by rfl)]
 rfl
def firstL (N : Nat) (r : TRules) (p : TPos) (budget : Int) (n : Nat) (P many : Int) (b : TBoard) (nodes : LP) : Option (TMv × Int) :=
 Q22.l0 N r p budget n b.1.1 b.1.2.1 b.1.2.2.1 b.1.2.2.2.2.2.1 b.1.2.2.2.2.2.2.1 b.1.2.2.2.2.2.2.2.2.1 b.1.2.2.2.2.2.2.2.2.2.1 b.1.2.2.2.2.2.2.2.2.2.2 b.2.1.2.2.1 b.2.1.2.2.2 b.2.2.1 P many b.1.2.2.2.1 b.1.2.2.2.2.1 b.1.2.2.2.2.2.2.2.1 b.2.1.1 b.2.1.2.1.1 b.2.1.2.1.2 b.2.2.2 nodes
theorem firstL_s (N : Nat) (r : TRules) (p : TPos) (budget : Int) (n : Nat) (P many : Int) (b : TBoard) (ns : LP) : firstL N r p budget (n + 1) P many b ns =
  bif (ltI 0 (pn ns 0).2.2.1) then ((Q30 N (b, (P, many)) (ns, 0)).bind fun y => firstL N r p budget n y.1.2.1 y.1.2.2 y.1.1 y.2.1) else Q22.l1 N r p budget n ((pn ns 0).2.1.length : Int) ((pn ns 0).2.1.length : Int) 0 ns := rfl
theorem first_e (N : Nat) (r : TRules) (p : TPos) (budget : Int) : Q22 N r p budget = (Q10 N r p budget).bind fun y1 =>
 bif (!(eqI y1.2 0)) then (some ((0, (0, 0)), y1.2))
 else bif (!(eqI y1.1.1 0)) then (some ((0, (0, 0)), 8))
 else bif (eqI y1.1.2.2.2 0) then (some ((0, (0, 0)), 8))
 else (Q27 N r p).bind fun y2 =>
 oCase y2.1 none fun b3 =>
 (Q28 N b3).bind fun y4 =>
 (Q29 N (b3, (y4, 0))).bind fun y5 =>
 firstL N r p budget N y5.2.2.1 y5.2.2.2 y5.2.1 [([], ([], y5.1.2.2))] := rfl
theorem a_first : Q22 NA aT aP 10 = some ((-1, (2, 0)), 0) := by
 rw [first_e, a_prove, Option.bind_some]
 dsimp only
 rw [bif_f (by rfl), bif_f (by rfl), bif_f (by rfl), a_new, Option.bind_some]
 dsimp only [oCase]
 unfold Q28 Q28.e
 rw [Option.bind_some, show aB.2.1.2.2.1 = 0 from rfl, a_leaf, Option.bind_some]
 dsimp only
 rw [show firstL NA aT aP 10 NA = firstL NA aT aP 10 (299999999 + 1) by rw [show NA = 299999999 + 1 by decide], firstL_s, bif_t (by rfl), a_step, Option.bind_some]
 dsimp only
 rw [show (299999999 : Nat) = 299999998 + 1 by decide, firstL_s, bif_f (by rfl)]
 kernel_rfl
theorem attacked_ok : Q9 NA = some true := by
 unfold Q9 Q9.e
 rw [a_three, a_near]
 simp only [Option.bind_some]
 rw [a_prove, a_first]
 simp only [Option.bind_some]
 kernel_rfl
end
end Go.Proofs.Ytpielijehhhobaa.Am
