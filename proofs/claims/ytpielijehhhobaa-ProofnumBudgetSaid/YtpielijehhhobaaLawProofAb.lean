/- Plain: the parts of a step of proofnum's search, in closed form. -/
import Derived.Test.YtpielijehhhobaaLawProofPb
import Derived.Test.YtpielijehhhobaaFnb1
set_option linter.unusedVariables false
set_option linter.unusedSimpArgs false
set_option linter.unusedSectionVars false
namespace Go.Proofs.Ytpielijehhhobaa.Am
open Go
noncomputable section
abbrev PNode := LMv × (List Int × (Int × (Int × Bool)))
abbrev LP := List PNode
abbrev zPN : PNode := (([] : LMv), ([] : List Int), ((0 : Int), ((0 : Int), false)))
abbrev TXp := TBoard × (Int × Int)
def pn (ns : LP) (i : Int) : PNode := gD zPN ns i
def pks (ns : LP) (n : Int) : List Int := (pn ns n).2.1
def pkid (ns : LP) (n j : Int) : Int := gD (-1 : Int) (pks ns n) j
theorem pn_set {ns : LP} {n i : Int} {v : PNode} (h0 : 0 ≤ n) (h1 : n < ns.length) (hi : 0 ≤ i) : pn (ns.set n.toNat v) i = if i = n then v else pn ns i := by
 unfold pn gD
 rw [List.getD_eq_getElem?_getD, List.getElem?_set]
 by_cases e : i = n
 ·subst e
  rw [if_pos rfl, if_pos (by omega), if_pos rfl]
  rfl
 ·rw [if_neg (by omega), if_neg e, List.getD_eq_getElem?_getD]
theorem pn_app (ns l : LP) {i : Int} (hi : 0 ≤ i) : pn (ns ++ l) i = if i < ns.length then pn ns i else gD zPN l (i - ns.length) := by
 unfold pn gD
 rw [List.getD_eq_getElem?_getD, List.getD_eq_getElem?_getD, List.getElem?_append]
 by_cases h : i < ns.length
 ·rw [if_pos (by omega), if_pos h]
 ·rw [if_neg (by omega), if_neg h, List.getD_eq_getElem?_getD, show (i - (ns.length : Int)).toNat = i.toNat - ns.length by omega]
theorem pn_out {ns : LP} {i : Int} (h : ns.length ≤ i) : pn ns i = zPN := by
 unfold pn gD
 rw [List.getD_eq_getElem?_getD, List.getElem?_eq_none (by omega)]
 rfl
def lfv (x P : Int) : Int × (Int × Bool) := if x = 0 then (1, (1, false)) else if x = 1 + P then (0, (NV, true)) else (NV, (0, true))
theorem leaf_eq {N : Nat} (hN : 200000000 ≤ N) {b : BoardT} (hb : BOk b) {P k : Int} (h0 : 0 ≤ P) (h1 : P ≤ 1) : Q29 N (b, (P, k)) = some (((), ((), lfv (resV b.1 b.2.1) P)), (b, (P, k))) := by
 unfold Q29 Q29.e lfv
 rw [bresult_eq hN hb, Option.bind_some]
 dsimp only
 rw [w64_id (x := 1 + P) (by omega) (by omega)]
 by_cases c : resV b.1 b.2.1 = 0
 ·rw [bif_t (eqI_t c), if_pos c]
 ·rw [bif_f (eqI_f c), if_neg c]
  by_cases c2 : resV b.1 b.2.1 = 1 + P
  ·rw [bif_t (eqI_t c2), if_pos c2]
  ·rw [bif_f (eqI_f c2), if_neg c2]
def ka (ns : LP) (n : Int) (own : Bool) (j : Int) : Int := bif own then (pn ns (pkid ns n j)).2.2.1 else (pn ns (pkid ns n j)).2.2.2.1
def ppickL (N : Nat) (n_ : LP × Int) (own : Bool) (n : Nat) (best i : Int) : Option (Int × (LP × Int)) := Q49.l0 N n_ own n best ((pn n_.1 n_.2).2.1.length : Int) i
theorem ppick_e (N : Nat) (n_ : LP × Int) (own : Bool) : Q49 N n_ own = chk (leI 0 n_.2) (ppickL N n_ own N 0 0) := rfl
theorem ppickL_s (N : Nat) (n_ : LP × Int) (own : Bool) (n : Nat) (best i : Int) : ppickL N n_ own (n + 1) best i =
  bif (ltI i ((pn n_.1 n_.2).2.1.length : Int)) then (chk ((leI 0 i) && (ltI i ((pn n_.1 n_.2).2.1.length : Int))) <|
   chk (eqI ((pn n_.1 n_.2).2.1.length : Int) ((pn n_.1 n_.2).2.1.length : Int)) <|
   chk (leI 0 (gD (-1 : Int) (pn n_.1 n_.2).2.1 i)) <|
   chk (leI 0 n_.2) <|
   chk ((leI 0 best) && (ltI best ((pn n_.1 n_.2).2.1.length : Int))) <|
   chk (eqI ((pn n_.1 n_.2).2.1.length : Int) ((pn n_.1 n_.2).2.1.length : Int)) <|
   chk (leI 0 (gD (-1 : Int) (pn n_.1 n_.2).2.1 best)) <|
   bif (!own) then (chk (leI 0 (gD (-1 : Int) (pn n_.1 n_.2).2.1 i)) <|
    chk (leI 0 n_.2) <|
    chk ((leI 0 best) && (ltI best ((pn n_.1 n_.2).2.1.length : Int))) <|
    chk (eqI ((pn n_.1 n_.2).2.1.length : Int) ((pn n_.1 n_.2).2.1.length : Int)) <|
    chk (leI 0 (gD (-1 : Int) (pn n_.1 n_.2).2.1 best)) <|
    bif (ltI (pn n_.1 (gD (-1 : Int) (pn n_.1 n_.2).2.1 i)).2.2.2.1 (pn n_.1 (gD (-1 : Int) (pn n_.1 n_.2).2.1 best)).2.2.2.1) then (ppickL N n_ own n i (w64 (i + 1)))
    else ppickL N n_ own n best (w64 (i + 1)))
   else bif (ltI (pn n_.1 (gD (-1 : Int) (pn n_.1 n_.2).2.1 i)).2.2.1 (pn n_.1 (gD (-1 : Int) (pn n_.1 n_.2).2.1 best)).2.2.1) then (ppickL N n_ own n i (w64 (i + 1)))
   else ppickL N n_ own n best (w64 (i + 1)))
  else some (best, n_) := rfl
section
variable (N : Nat) (ns : LP) (m : Int) (own : Bool) (hm : 0 ≤ m) (hk : ∀ i : Int, 0 ≤ i → i < (pks ns m).length → 0 ≤ pkid ns m i) (hlen : (pks ns m).length ≤ 8192)
include hm hk hlen
theorem ppickL_ok : ∀ (j n : Nat) (best i : Int), i + j = (pks ns m).length → 0 ≤ i → j < n → 0 ≤ best → best < (pks ns m).length → (∀ a : Int, 0 ≤ a → a < i → ka ns m own best ≤ ka ns m own a) →
  ∃ k, ppickL N (ns, m) own n best i = some (k, (ns, m)) ∧ 0 ≤ k ∧ k < (pks ns m).length ∧ ∀ a : Int, 0 ≤ a → a < (pks ns m).length → ka ns m own k ≤ ka ns m own a
 | 0, n, best, i, hi, h0, hn, hb0, hb1, ha => by
  obtain ⟨n, rfl⟩ := nxt (n := n) (by omega)
  rw [ppickL_s]
  dsimp only
  rw [bif_f (ltI_f (show ((pn ns m).2.1.length : Int) ≤ i by unfold pks at hi; omega))]
  exact ⟨best, rfl, hb0, hb1, fun a a0 a1 => ha a a0 (by omega)⟩
 | j + 1, n, best, i, hi, h0, hn, hb0, hb1, ha => by
  obtain ⟨n, rfl⟩ := nxt (n := n) (by omega)
  have ih := ppickL_ok j n
  rw [ppickL_s]
  dsimp only
  have hki : 0 ≤ gD (-1 : Int) (pn ns m).2.1 i := hk i h0 (by omega)
  have hkb : 0 ≤ gD (-1 : Int) (pn ns m).2.1 best := hk best hb0 hb1
  have hlt : i < ((pn ns m).2.1.length : Int) := by show i < ((pks ns m).length : Int); omega
  have hbl : best < ((pn ns m).2.1.length : Int) := hb1
  rw [bif_t (ltI_t hlt), chk_idx h0 hlt, eqI_self, chk_true, leI_t hki, chk_true, leI_t hm, chk_true, chk_idx hb0 hbl, chk_true, leI_t hkb, chk_true, w64_id (x := i + 1) (by omega) (by omega)]
  have key : ∀ c : Bool, c = ltI (ka ns m own i) (ka ns m own best) → ∃ k, (bif c then ppickL N (ns, m) own n i (i + 1) else ppickL N (ns, m) own n best (i + 1)) = some (k, (ns, m)) ∧ 0 ≤ k ∧ k < (pks ns m).length ∧ ∀ a : Int, 0 ≤ a → a < (pks ns m).length → ka ns m own k ≤ ka ns m own a := fun c hc => by
   by_cases h : ka ns m own i < ka ns m own best
   ·rw [hc, bif_t (ltI_t h)]
    exact ih i (i + 1) (by omega) (by omega) (by omega) h0 (by omega) fun a a0 a1 => by
     by_cases e : a = i
     ·subst e; exact Int.le_refl _
     ·have := ha a a0 (by omega); omega
   ·rw [hc, bif_f (ltI_f (by omega))]
    exact ih best (i + 1) (by omega) (by omega) (by omega) hb0 hb1 fun a a0 a1 => by
     by_cases e : a = i
     ·subst e; omega
     ·exact ha a a0 (by omega)
  cases own with
  | true =>
   rw [bif_f (by rfl)]
   exact key _ rfl
  | false =>
   rw [bif_t (by rfl), chk_true, chk_true, chk_idx hb0 hbl, chk_true, chk_true]
   exact key _ rfl
theorem ppick_ok (hN : 200000000 ≤ N) (hl : 0 < (pks ns m).length) : ∃ k, Q49 N (ns, m) own = some (k, (ns, m)) ∧ 0 ≤ k ∧ k < (pks ns m).length ∧ ∀ a : Int, 0 ≤ a → a < (pks ns m).length → ka ns m own k ≤ ka ns m own a := by
 rw [ppick_e, leI_t hm, chk_true]
 exact ppickL_ok N ns m own hm hk hlen (pks ns m).length N 0 0 (by omega) (by omega) (by omega) (by omega) (by omega) fun a a0 a1 => by omega
omit hm hk hlen in
def puL (N : Nat) (n_ : LP × Int) (own : Bool) (n : Nat) (least sum i : Int) : Option (LP × Int) := Q53.l0 N n_ own n least sum ((pn n_.1 n_.2).2.1.length : Int) i
end
theorem pu_e (N : Nat) (n_ : LP × Int) (own : Bool) : Q53 N n_ own = chk (leI 0 n_.2) (puL N n_ own N NV 0 0) := rfl
def pset (ns : LP) (n : Int) (f : Int × (Int × Bool) → Int × (Int × Bool)) : LP := ns.set n.toNat ((pn ns n).1, ((pn ns n).2.1, f (pn ns n).2.2))
theorem puL_s (N : Nat) (n_ : LP × Int) (own : Bool) (n : Nat) (least sum i : Int) : puL N n_ own (n + 1) least sum i =
  bif (ltI i ((pn n_.1 n_.2).2.1.length : Int)) then (chk ((leI 0 i) && (ltI i ((pn n_.1 n_.2).2.1.length : Int))) <|
   chk (eqI ((pn n_.1 n_.2).2.1.length : Int) ((pn n_.1 n_.2).2.1.length : Int)) <|
   chk (leI 0 (gD (-1 : Int) (pn n_.1 n_.2).2.1 i)) <|
   chk (leI 0 (gD (-1 : Int) (pn n_.1 n_.2).2.1 i)) <|
   bif (!own) then
    puL N n_ own n (bif (ltI (pn n_.1 (gD (-1 : Int) (pn n_.1 n_.2).2.1 i)).2.2.2.1 least) then (pn n_.1 (gD (-1 : Int) (pn n_.1 n_.2).2.1 i)).2.2.2.1 else least) (bif (ltI (w64 (sum + (pn n_.1 (gD (-1 : Int) (pn n_.1 n_.2).2.1 i)).2.2.1)) NV) then w64 (sum + (pn n_.1 (gD (-1 : Int) (pn n_.1 n_.2).2.1 i)).2.2.1) else NV) (w64 (i + 1))
   else puL N n_ own n (bif (ltI (pn n_.1 (gD (-1 : Int) (pn n_.1 n_.2).2.1 i)).2.2.1 least) then (pn n_.1 (gD (-1 : Int) (pn n_.1 n_.2).2.1 i)).2.2.1 else least) (bif (ltI (w64 (sum + (pn n_.1 (gD (-1 : Int) (pn n_.1 n_.2).2.1 i)).2.2.2.1)) NV) then w64 (sum + (pn n_.1 (gD (-1 : Int) (pn n_.1 n_.2).2.1 i)).2.2.2.1) else NV) (w64 (i + 1)))
  else chk (leI 0 n_.2) <| chk (leI 0 n_.2) <|
   bif (!own) then (chk (leI 0 n_.2) <| chk (leI 0 n_.2) <|
    some (pset (pset (pset (pset n_.1 n_.2 fun v => (least, v.2)) n_.2 fun v => (v.1, (sum, v.2.2))) n_.2 fun v => (sum, v.2)) n_.2 fun v => (v.1, (least, v.2.2)), n_.2))
   else some (pset (pset n_.1 n_.2 fun v => (least, v.2)) n_.2 fun v => (v.1, (sum, v.2.2)), n_.2) := rfl
theorem pset_nd {ns : LP} {n : Int} (h0 : 0 ≤ n) (h1 : n < ns.length) (f : Int × (Int × Bool) → Int × (Int × Bool)) : pn (pset ns n f) n = ((pn ns n).1, ((pn ns n).2.1, f (pn ns n).2.2)) := by
 unfold pset
 rw [pn_set h0 h1 h0, if_pos rfl]
theorem pset_len (ns : LP) (n : Int) (f : Int × (Int × Bool) → Int × (Int × Bool)) : (pset ns n f).length = ns.length := by
 unfold pset; simp
theorem pset_set {ns : LP} {n : Int} (h0 : 0 ≤ n) (h1 : n < ns.length) (f f' : Int × (Int × Bool) → Int × (Int × Bool)) : pset (pset ns n f) n f' = pset ns n fun v => f' (f v) := by
 have e := pset_nd h0 h1 f
 unfold pset at e ⊢
 rw [e, List.set_set]
def pup (ns : LP) (n : Int) (own : Bool) : LP := pset ns n fun v => bif own then (leastF (ka ns n own) (pks ns n).length, (csumF (ka ns n (!own)) (pks ns n).length, v.2.2)) else (csumF (ka ns n (!own)) (pks ns n).length, (leastF (ka ns n own) (pks ns n).length, v.2.2))
theorem puL_ok (N : Nat) (ns : LP) (m : Int) (own : Bool) (hm : 0 ≤ m) (hm1 : m < ns.length) (hk : ∀ i : Int, 0 ≤ i → i < (pks ns m).length → 0 ≤ pkid ns m i) (hlen : (pks ns m).length ≤ 8192)
  (hv : ∀ (o : Bool) (i : Int), 0 ≤ i → i < (pks ns m).length → 0 ≤ ka ns m o i ∧ ka ns m o i ≤ NV) : ∀ (j n k : Nat), k + j = (pks ns m).length → j < n →
  puL N (ns, m) own n (leastF (ka ns m own) k) (csumF (ka ns m (!own)) k) (k : Int) = some (pup ns m own, m)
 | 0, n, k, hk2, hn => by
  obtain ⟨n, rfl⟩ := nxt (n := n) (by omega)
  rw [puL_s]
  dsimp only
  rw [bif_f (ltI_f (show ((pn ns m).2.1.length : Int) ≤ k by unfold pks at hk2; omega)), leI_t hm, chk_true, chk_true, chk_true, chk_true, show k = (pks ns m).length by omega]
  rw [pset_set hm hm1, pset_set hm hm1, pset_set hm hm1]
  unfold pup
  cases own <;> rfl
 | j + 1, n, k, hk2, hn => by
  obtain ⟨n, rfl⟩ := nxt (n := n) (by omega)
  have hki : 0 ≤ gD (-1 : Int) (pn ns m).2.1 (k : Int) := hk k (by omega) (by omega)
  have hlt : (k : Int) < ((pn ns m).2.1.length : Int) := by show (k : Int) < ((pks ns m).length : Int); omega
  have ih := puL_ok N ns m own hm hm1 hk hlen hv j n (k + 1) (by omega) (by omega)
  have hc := csumF_spec (ka ns m (!own)) k fun i a b => hv (!own) i a (by omega)
  have hb := hv (!own) k (by omega) (by omega)
  have hNV : NV = 1099511627776 := rfl
  have hw : w64 (csumF (ka ns m (!own)) k + ka ns m (!own) (k : Int)) = csumF (ka ns m (!own)) k + ka ns m (!own) (k : Int) := w64_id (by omega) (by omega)
  rw [puL_s]
  dsimp only
  rw [bif_t (ltI_t hlt), chk_idx (by omega) hlt, eqI_self, chk_true, leI_t hki, chk_true, chk_true, w64_id (x := (k : Int) + 1) (by omega) (by omega), show ((k : Int) + 1) = ((k + 1 : Nat) : Int) by omega, ← ih]
  cases own with
  | true =>
   rw [bif_f (by rfl)]
   have hw' : w64 (csumF (ka ns m (!true)) k + (pn ns (gD (-1 : Int) (pn ns m).2.1 (k : Int))).2.2.2.1) = csumF (ka ns m (!true)) k + ka ns m (!true) (k : Int) := hw
   rw [hw']
   rfl
  | false =>
   rw [bif_t (by rfl)]
   have hw' : w64 (csumF (ka ns m (!false)) k + (pn ns (gD (-1 : Int) (pn ns m).2.1 (k : Int))).2.2.1) = csumF (ka ns m (!false)) k + ka ns m (!false) (k : Int) := hw
   rw [hw']
   rfl
theorem pu_ok {N : Nat} (hN : 200000000 ≤ N) (ns : LP) (m : Int) (own : Bool) (hm : 0 ≤ m) (hm1 : m < ns.length) (hk : ∀ i : Int, 0 ≤ i → i < (pks ns m).length → 0 ≤ pkid ns m i) (hlen : (pks ns m).length ≤ 8192)
  (hv : ∀ (o : Bool) (i : Int), 0 ≤ i → i < (pks ns m).length → 0 ≤ ka ns m o i ∧ ka ns m o i ≤ NV) : Q53 N (ns, m) own = some (pup ns m own, m) := by
 rw [pu_e, leI_t hm, chk_true]
 exact puL_ok N ns m own hm hm1 hk hlen hv (pks ns m).length N 0 (by omega) (by omega)
def pexL (N : Nat) (x : TXp) (n_ : LP × Int) (k : Nat) (ms : LMv) (len i P many : Int) (b : TBoard) (nodes : LP) : Option (TXp × (LP × Int)) :=
 Q52.l0 N x n_ k ms len i P many b.1.1 b.1.2.1 b.1.2.2.1 b.1.2.2.2.2.2.1 b.1.2.2.2.2.2.2.1 b.1.2.2.2.2.2.2.2.2.1 b.1.2.2.2.2.2.2.2.2.2.1 b.1.2.2.2.2.2.2.2.2.2.2 b.2.1.2.2.1 b.2.1.2.2.2 b.2.2.1 b.1.2.2.2.1 b.1.2.2.2.2.1 b.1.2.2.2.2.2.2.2.1 b.2.1.1 b.2.1.2.1.1 b.2.1.2.1.2 b.2.2.2 nodes
def pexB (N : Nat) (n_ : LP × Int) (y5 : TBoard) (P many : Int) (nodes : LP) (K : Int → Int → TBoard → LP → Option (TXp × (LP × Int))) : Option (TXp × (LP × Int)) :=
 (Q29 N (y5, (P, many))).bind fun y6 =>
 chk ((eqI ((pn nodes n_.2).2.1.length : Int) ((pn (nodes ++ [([], ([], y6.1.2.2))]) n_.2).2.1.length : Int)) && (true && capOk 8 ((pn (nodes ++ [([], ([], y6.1.2.2))]) n_.2).2.1.length + 1))) <|
 chk (leI 0 n_.2) <|
 chk ((eqI n_.2 n_.2) && ((eqI n_.2 n_.2) && (eqI (((pn nodes n_.2).2.1.length : Int) + 1) (((pn (nodes ++ [([], ([], y6.1.2.2))]) n_.2).2.1.length : Int) + 1)))) <|
 (Q51 N y6.2.1).bind fun y10 =>
 K y6.2.2.1 y6.2.2.2 y10.2 ((nodes ++ [([], ([], y6.1.2.2))]).set n_.2.toNat ((pn (nodes ++ [([], ([], y6.1.2.2))]) n_.2).1, (((pn (nodes ++ [([], ([], y6.1.2.2))]) n_.2).2.1 ++ [(nodes.length : Int)]), (pn (nodes ++ [([], ([], y6.1.2.2))]) n_.2).2.2)))
theorem pexL_s (N : Nat) (x : TXp) (n_ : LP × Int) (k : Nat) (ms : LMv) (len i P many : Int) (b : TBoard) (nodes : LP) : pexL N x n_ (k + 1) ms len i P many b nodes =
  bif (ltI i len) then (chk ((leI 0 i) && (ltI i (ms.length : Int))) <|
   (Q50 N b (gD z0 ms i)).bind fun y5 => chk (leI 0 n_.2) <|
   bothK (pexB N n_ y5 P many nodes fun P many b ns => pexL N x n_ k ms len (w64 (i + 1)) P many b ns) (pexB N n_ y5 P many nodes fun P many b ns => pexL N x n_ k ms len (w64 (i + 1)) P many b ns))
  else some ((b, (P, many)), (nodes, n_.2)) := rfl
theorem pex_e (N : Nat) (x : TXp) (n_ : LP × Int) : Q52 N x n_ = chk (leI 0 n_.2) ((Q34 N x.1).bind fun y2 => chk (leI 0 n_.2) <| chk (leI 0 n_.2) <|
  pexL N x n_ N (pn ((pset n_.1 n_.2 fun v => (v.1, (v.2.1, true))).set n_.2.toNat (y2, (pn (pset n_.1 n_.2 fun v => (v.1, (v.2.1, true))) n_.2).2)) n_.2).1 ((pn ((pset n_.1 n_.2 fun v => (v.1, (v.2.1, true))).set n_.2.toNat (y2, (pn (pset n_.1 n_.2 fun v => (v.1, (v.2.1, true))) n_.2).2)) n_.2).1.length : Int) 0 x.2.1 (w64 (x.2.2 + 1)) x.1
   ((pset n_.1 n_.2 fun v => (v.1, (v.2.1, true))).set n_.2.toNat (y2, (pn (pset n_.1 n_.2 fun v => (v.1, (v.2.1, true))) n_.2).2))) := rfl
def exP (ns : LP) (n : Int) (lf : Nat → PNode) (t : Nat) : LP := (ns ++ (List.range t).map lf).set n.toNat ((pn ns n).1, ((List.range t).map (fun j : Nat => (ns.length : Int) + (j : Int)), (pn ns n).2.2))
theorem exP_len (ns : LP) (n : Int) (lf : Nat → PNode) (t : Nat) : (exP ns n lf t).length = ns.length + t := by unfold exP; simp
theorem exP_app {ns : LP} {n : Int} (h0 : 0 ≤ n) (h1 : n < ns.length) (lf : Nat → PNode) (t : Nat) (v : PNode) : pn (exP ns n lf t ++ [v]) n = ((pn ns n).1, ((List.range t).map (fun j : Nat => (ns.length : Int) + (j : Int)), (pn ns n).2.2)) := by
 rw [pn_app _ _ h0, if_pos (by rw [exP_len]; omega)]
 unfold exP
 rw [pn_set h0 (by simp; omega) h0, if_pos rfl]
theorem exP_nd {ns : LP} {n i : Int} (h0 : 0 ≤ n) (h1 : n < ns.length) (hi : 0 ≤ i) (lf : Nat → PNode) (t : Nat) : pn (exP ns n lf t) i = if i = n then ((pn ns n).1, ((List.range t).map (fun j : Nat => (ns.length : Int) + (j : Int)), (pn ns n).2.2)) else if i < ns.length then pn ns i else gD zPN ((List.range t).map lf) (i - ns.length) := by
 unfold exP
 rw [pn_set h0 (by simp; omega) hi, pn_app _ _ hi]
theorem exP_nx {ns : LP} {n : Int} (h0 : 0 ≤ n) (h1 : n < ns.length) (lf : Nat → PNode) (t : Nat) :
  (exP ns n lf t ++ [lf t]).set n.toNat ((pn (exP ns n lf t ++ [lf t]) n).1, (((pn (exP ns n lf t ++ [lf t]) n).2.1 ++ [((exP ns n lf t).length : Int)]), (pn (exP ns n lf t ++ [lf t]) n).2.2)) = exP ns n lf (t + 1) := by
 rw [exP_app h0 h1, exP_len]
 unfold exP
 rw [← List.set_append_left _ _ (by simp; omega), List.set_set, List.append_assoc, List.range_succ, List.map_append, List.map_append]
 rfl
def lfn (b : BoardT) (ms : List MvT) (P : Int) (j : Nat) : PNode := ([], ([], lfv (resV (makeB b (gD z0 ms (j : Int))).1 (makeB b (gD z0 ms (j : Int))).2.1) P))
theorem pexL_ok {N : Nat} (hN : 200000000 ≤ N) (x : TXp) (n0 : LP) {ns : LP} {n : Int} (h0 : 0 ≤ n) (h1 : n < ns.length) {b : BoardT} (hb : BOk b) (hl : b.2.2.2.length ≤ 90000) {P many : Int} (p0 : 0 ≤ P) (p1 : P ≤ 1) {ms : List MvT} (hms : ∀ j : Int, 0 ≤ j → j < ms.length → MoveOk b.1 b.2.1 (gD z0 ms j)) (hm8 : ms.length ≤ 8192) : ∀ (j k t : Nat), t + j = ms.length → j < k →
  pexL N x (n0, n) k ms (ms.length : Int) (t : Int) P many b (exP ns n (lfn b ms P) t) = some ((b, (P, many)), (exP ns n (lfn b ms P) ms.length, n))
 | 0, k, t, hm, hk => by
  obtain ⟨k, rfl⟩ := nxt (n := k) (by omega)
  rw [pexL_s, bif_f (ltI_f (by omega)), show t = ms.length by omega]
 | j + 1, k, t, hm, hk => by
  obtain ⟨k, rfl⟩ := nxt (n := k) (by omega)
  have hmo := hms (t : Int) (by omega) (by omega)
  rw [pexL_s, bif_t (ltI_t (by omega)), chk_idx (by omega) (by omega), make_eq hb (by omega) hmo, Option.bind_some, leI_t h0, chk_true, bothK_same]
  unfold pexB
  rw [leaf_eq hN (make_ok hb (by omega) hmo) p0 p1, Option.bind_some]
  dsimp only
  rw [show ([], ([], lfv (resV (makeB b (gD z0 ms (t : Int))).1 (makeB b (gD z0 ms (t : Int))).2.1) P)) = lfn b ms P t from rfl]
  rw [exP_nx h0 h1, exP_app h0 h1, exP_nd h0 h1 h0, if_pos rfl, leI_t h0, eqI_self, eqI_self, eqI_self, Bool.true_and, Bool.true_and, Bool.true_and, chk_cap (by simp; omega), chk_true, Bool.true_and, chk_true, undo_make hb (by omega) hmo, Option.bind_some, w64_id (by omega) (by omega), show ((t : Int) + 1) = ((t + 1 : Nat) : Int) by omega]
  exact pexL_ok hN x n0 h0 h1 hb hl p0 p1 hms hm8 j k (t + 1) (by omega) (by omega)
theorem pstep_e (N : Nat) (x : TXp) (n_ : LP × Int) : Q30 (N + 1) x n_ =
  (Q28 N x.1).bind fun y1 => chk (leI 0 n_.2) <|
  bif (pn n_.1 n_.2).2.2.2.2 then ((Q49 N n_ (eqI y1 x.2.1)).bind fun y2 =>
   chk (leI 0 n_.2) <|
   chk ((leI 0 y2.1) && (ltI y2.1 ((pn y2.2.1 n_.2).1.length : Int))) <|
   (Q50 N x.1 (gD z0 (pn y2.2.1 n_.2).1 y2.1)).bind fun y3 =>
   chk (leI 0 n_.2) <|
   chk ((leI 0 y2.1) && (ltI y2.1 ((pn y2.2.1 n_.2).2.1.length : Int))) <|
   chk (eqI ((pn y2.2.1 n_.2).2.1.length : Int) ((pn y2.2.1 n_.2).2.1.length : Int)) <|
   (Q30 N (y3, x.2) (y2.2.1, (gD (-1 : Int) (pn y2.2.1 n_.2).2.1 y2.1))).bind fun y5 =>
   (Q51 N y5.1.1).bind fun y6 =>
   (Q53 N (y5.2.1, n_.2) (eqI y1 x.2.1)).bind fun y7 =>
   some ((y6.2, y5.1.2), (y7.1, n_.2)))
  else (Q52 N x n_).bind fun y8 =>
   (Q53 N (y8.2.1, n_.2) (eqI y1 x.2.1)).bind fun y9 =>
   some (y8.1, (y9.1, n_.2)) := rfl
end
end Go.Proofs.Ytpielijehhhobaa.Am
