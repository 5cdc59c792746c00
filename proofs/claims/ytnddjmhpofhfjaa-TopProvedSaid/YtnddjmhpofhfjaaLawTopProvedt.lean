/- Plain: the numbers of a proof-number search: least and sum, and what they say of a position's value. -/
import Derived.Test.YtnddjmhpofhfjaaLawMoves0t
import Derived.Test.YtnddjmhpofhfjaaFnt1
import Derived.Test.YtnddjmhpofhfjaaLawCertt
set_option linter.unusedVariables false
set_option linter.unusedSimpArgs false
set_option linter.unusedSectionVars false
namespace Go.Proofs.Ytnddjmhpofhfjaa.Am
open Go
abbrev NV : Int := 1099511627776
def Tri (a b z : Int) : Prop := (a = 0 ∧ b = NV) ∨ (a = NV ∧ b = 0) ∨ (0 < a ∧ a ≤ z ∧ 0 < b ∧ b ≤ z)
theorem Tri.swap {a b z : Int} (h : Tri a b z) : Tri b a z := by
 rcases h with h | h | h
 ·exact .inr (.inl ⟨h.2, h.1⟩)
 ·exact .inl ⟨h.2, h.1⟩
 ·exact .inr (.inr ⟨h.2.2.1, h.2.2.2, h.1, h.2.1⟩)
theorem Tri.mono {a b z z' : Int} (h : Tri a b z) (hz : z ≤ z') : Tri a b z' := by
 rcases h with h | h | h
 ·exact .inl h
 ·exact .inr (.inl h)
 ·exact .inr (.inr ⟨h.1, by omega, h.2.2.1, by omega⟩)
theorem Tri.range {a b z : Int} (h : Tri a b z) (hz : z < NV) : 0 ≤ a ∧ a ≤ NV ∧ 0 ≤ b ∧ b ≤ NV := by
 have hNV : NV = 1099511627776 := rfl
 rcases h with h | h | h <;> omega
def leastF (f : Int → Int) : Nat → Int
 | 0 => NV
 | k + 1 => bif ltI (f (k : Int)) (leastF f k) then f (k : Int) else leastF f k
def csumF (f : Int → Int) : Nat → Int
 | 0 => 0
 | k + 1 => bif ltI (csumF f k + f (k : Int)) NV then csumF f k + f (k : Int) else NV
def sumI (f : Int → Int) : Nat → Int
 | 0 => 0
 | k + 1 => sumI f k + f (k : Int)
theorem leastF_spec (f : Int → Int) : ∀ M : Nat, leastF f M ≤ NV ∧ (∀ j : Int, 0 ≤ j → j < M → leastF f M ≤ f j) ∧ (leastF f M = NV ∨ ∃ j : Int, 0 ≤ j ∧ j < M ∧ leastF f M = f j)
 | 0 => ⟨Int.le_refl _, fun j a b => by omega, .inl rfl⟩
 | k + 1 => by
  obtain ⟨h1, h2, h3⟩ := leastF_spec f k
  unfold leastF
  by_cases c : f (k : Int) < leastF f k
  ·rw [bif_t (ltI_t c)]
   refine ⟨by omega, fun j a b => ?_, .inr ⟨k, by omega, by omega, rfl⟩⟩
   by_cases e : j = k
   ·subst e; exact Int.le_refl _
   ·have := h2 j a (by omega); omega
  ·rw [bif_f (ltI_f (by omega))]
   refine ⟨h1, fun j a b => ?_, ?_⟩
   ·by_cases e : j = k
    ·subst e; omega
    ·exact h2 j a (by omega)
   ·rcases h3 with h | ⟨j, a, b, e⟩
    ·exact .inl h
    ·exact .inr ⟨j, a, by omega, e⟩
theorem csumF_spec (f : Int → Int) : ∀ M : Nat, (∀ j : Int, 0 ≤ j → j < M → 0 ≤ f j ∧ f j ≤ NV) → 0 ≤ csumF f M ∧ csumF f M ≤ NV ∧ (csumF f M = 0 → ∀ j : Int, 0 ≤ j → j < M → f j = 0) ∧ ((∀ j : Int, 0 ≤ j → j < M → f j = 0) → csumF f M = 0) ∧
  ((∃ j : Int, 0 ≤ j ∧ j < M ∧ f j = NV) → csumF f M = NV) ∧ (∀ z : Int → Int, (∀ j : Int, 0 ≤ j → j < M → f j ≤ z j) → sumI z M < NV → csumF f M ≤ sumI z M)
 | 0, _ => ⟨Int.le_refl _, (by decide : (0 : Int) ≤ NV), fun _ j a b => by omega, fun _ => rfl, fun ⟨j, a, b, _⟩ => by omega, fun z _ _ => Int.le_refl _⟩
 | k + 1, hf => by
  obtain ⟨h1, h2, h3, h4, h5, h6⟩ := csumF_spec f k fun j a b => hf j a (by omega)
  obtain ⟨f0, f1⟩ := hf k (by omega) (by omega)
  unfold csumF
  by_cases c : csumF f k + f (k : Int) < NV
  ·rw [bif_t (ltI_t c)]
   refine ⟨by omega, by omega, fun e j a b => ?_, fun h => ?_, fun ⟨j, a, b, e⟩ => ?_, fun z hz hs => ?_⟩
   ·by_cases ej : j = k
    ·subst ej; omega
    ·exact h3 (by omega) j a (by omega)
   ·rw [h4 fun j a b => h j a (by omega), h k (by omega) (by omega)]; rfl
   ·by_cases ej : j = k
    ·subst ej; omega
    ·have := h5 ⟨j, a, by omega, e⟩; omega
   ·unfold sumI at hs ⊢
    have z1 := hz k (by omega) (by omega)
    have := h6 z (fun j a b => hz j a (by omega)) (by omega)
    omega
  ·rw [bif_f (ltI_f (by omega))]
   refine ⟨by decide, Int.le_refl _, fun e => absurd e (by decide), fun h => ?_, fun _ => rfl, fun z hz hs => ?_⟩
   ·have e1 := h4 fun j a b => h j a (by omega)
    have e2 := h k (by omega) (by omega)
    have hNV : NV = 1099511627776 := rfl
    omega
   ·unfold sumI at hs ⊢
    have z1 := hz k (by omega) (by omega)
    have := h6 z (fun j a b => hz j a (by omega)) (by omega)
    omega
theorem sumF_nonneg (z : Int → Int) : ∀ M : Nat, (∀ j : Int, 0 ≤ j → j < M → 0 ≤ z j) → 0 ≤ sumI z M ∧ ∀ j : Int, 0 ≤ j → j < M → z j ≤ sumI z M
 | 0, _ => ⟨Int.le_refl _, fun j a b => by omega⟩
 | k + 1, h => by
  obtain ⟨h1, h2⟩ := sumF_nonneg z k fun j a b => h j a (by omega)
  have h3 := h k (by omega) (by omega)
  unfold sumI
  refine ⟨by omega, fun j a b => ?_⟩
  by_cases e : j = k
  ·subst e; omega
  ·have := h2 j a (by omega); omega
theorem sumF_one {z : Int → Int} : ∀ {M : Nat}, (∀ j : Int, 0 ≤ j → j < M → z j = 1) → sumI z M = M
 | 0, _ => rfl
 | k + 1, h => by
  unfold sumI
  rw [sumF_one fun j a b => h j a (by omega), h k (by omega) (by omega)]
  omega
theorem sumF_grow {z z' : Int → Int} {i d : Int} (d0 : 0 ≤ d) (hi : z' i ≤ z i + d) : ∀ {M : Nat}, (∀ j : Int, 0 ≤ j → j < M → j ≠ i → z' j = z j) → sumI z' M ≤ sumI z M + (if 0 ≤ i ∧ i < M then d else 0)
 | 0, _ => by rw [if_neg (by omega)]; exact Int.le_refl _
 | k + 1, h => by
  have ih := sumF_grow d0 hi (M := k) fun j a b => h j a (by omega)
  unfold sumI
  by_cases e : (k : Int) = i
  ·subst e
   rw [if_neg (by omega)] at ih
   rw [if_pos (by omega)]
   omega
  ·rw [h k (by omega) (by omega) e]
   by_cases c : 0 ≤ i ∧ i < k
   ·rw [if_pos c] at ih
    rw [if_pos (by omega)]; omega
   ·rw [if_neg c] at ih
    rw [if_neg (by omega)]; omega
theorem leastF_ext {f f' : Int → Int} : ∀ {M : Nat}, (∀ j : Int, 0 ≤ j → j < M → f j = f' j) → leastF f M = leastF f' M
 | 0, _ => rfl
 | k + 1, h => by
  unfold leastF
  rw [leastF_ext fun j a b => h j a (by omega), h k (by omega) (by omega)]
theorem csumF_ext {f f' : Int → Int} : ∀ {M : Nat}, (∀ j : Int, 0 ≤ j → j < M → f j = f' j) → csumF f M = csumF f' M
 | 0, _ => rfl
 | k + 1, h => by
  unfold csumF
  rw [csumF_ext fun j a b => h j a (by omega), h k (by omega) (by omega)]
theorem sumF_ext {f f' : Int → Int} : ∀ {M : Nat}, (∀ j : Int, 0 ≤ j → j < M → f j = f' j) → sumI f M = sumI f' M
 | 0, _ => rfl
 | k + 1, h => by
  unfold sumI
  rw [sumF_ext fun j a b => h j a (by omega), h k (by omega) (by omega)]
theorem upd_tri {a b z : Int → Int} {M : Nat} {Z : Int} (hM : 0 < M) (h : ∀ j : Int, 0 ≤ j → j < M → Tri (a j) (b j) (z j)) (hz0 : ∀ j : Int, 0 ≤ j → j < M → 0 ≤ z j) (hz : sumI z M ≤ Z) (hZ : Z < NV) : Tri (leastF a M) (csumF b M) Z := by
 obtain ⟨zn, zl⟩ := sumF_nonneg z M hz0
 have hr : ∀ j : Int, 0 ≤ j → j < M → 0 ≤ a j ∧ a j ≤ NV ∧ 0 ≤ b j ∧ b j ≤ NV := fun j a b => (h j a b).range (by have := zl j a b; omega)
 obtain ⟨l1, l2, l3⟩ := leastF_spec a M
 obtain ⟨c1, c2, c3, c4, c5, c6⟩ := csumF_spec b M fun j a b => (hr j a b).2.2
 by_cases e0 : ∃ j : Int, 0 ≤ j ∧ j < M ∧ a j = 0
 ·obtain ⟨j, j0, j1, e⟩ := e0
  have hb : b j = NV := by
   rcases h j j0 j1 with h | h | h
   ·exact h.2
   ·have := h.1; have hNV : NV = 1099511627776 := rfl; omega
   ·omega
  refine .inl ⟨?_, c5 ⟨j, j0, j1, hb⟩⟩
  have := l2 j j0 j1
  rcases l3 with h | ⟨i, i0, i1, e'⟩
  ·have hNV : NV = 1099511627776 := rfl; omega
  ·have := (hr i i0 i1).1; omega
 ·by_cases e1 : ∀ j : Int, 0 ≤ j → j < M → b j = 0
  ·refine .inr (.inl ⟨?_, c4 e1⟩)
   rcases l3 with h | ⟨i, i0, i1, e'⟩
   ·exact h
   ·rw [e']
    rcases h i i0 i1 with h | h | h
    ·exact absurd ⟨i, i0, i1, h.1⟩ e0
    ·exact h.1
    ·have := e1 i i0 i1; omega
  ·have hex : ∃ j : Int, 0 ≤ j ∧ j < M ∧ b j ≠ 0 := Classical.byContradiction fun hn => e1 fun j a b => Classical.byContradiction fun hne => hn ⟨j, a, b, hne⟩
   obtain ⟨j, j0, j1, hj⟩ := hex
   have hj3 : 0 < a j ∧ a j ≤ z j ∧ 0 < b j ∧ b j ≤ z j := by
    rcases h j j0 j1 with h | h | h
    ·exact absurd ⟨j, j0, j1, h.1⟩ e0
    ·exact absurd h.2 hj
    ·exact h
   have hbz : ∀ i : Int, 0 ≤ i → i < M → b i ≤ z i := fun i i0 i1 => by
    rcases h i i0 i1 with h | h | h
    ·exact absurd ⟨i, i0, i1, h.1⟩ e0
    ·have := hz0 i i0 i1; omega
    ·exact h.2.2.2
   have hs := c6 z hbz (by omega)
   have hl := l2 j j0 j1
   have hzj := zl j j0 j1
   refine .inr (.inr ⟨?_, by omega, ?_, by omega⟩)
   ·rcases l3 with h | ⟨i, i0, i1, e'⟩
    ·have hNV : NV = 1099511627776 := rfl; omega
    ·have h1 := (hr i i0 i1).1
     have h2 : a i ≠ 0 := fun e => e0 ⟨i, i0, i1, e⟩
     omega
   ·have : csumF b M ≠ 0 := fun e => hj (c3 e j j0 j1)
    omega
theorem least_zero {a : Int → Int} {M : Nat} (h : leastF a M = 0) : ∃ j : Int, 0 ≤ j ∧ j < M ∧ a j = 0 := by
 obtain ⟨l1, l2, l3⟩ := leastF_spec a M
 rcases l3 with h' | ⟨i, i0, i1, e'⟩
 ·have hNV : NV = 1099511627776 := rfl; omega
 ·exact ⟨i, i0, i1, by omega⟩
theorem pick_open {a b z : Int → Int} {M : Nat} (h : ∀ j : Int, 0 ≤ j → j < M → Tri (a j) (b j) (z j)) (hz : ∀ j : Int, 0 ≤ j → j < M → z j < NV) (h1 : 0 < leastF a M) (h2 : 0 < csumF b M) {k : Int} (k0 : 0 ≤ k) (k1 : k < M) (hk : ∀ j : Int, 0 ≤ j → j < M → a k ≤ a j) : 0 < a k ∧ 0 < b k := by
 obtain ⟨l1, l2, l3⟩ := leastF_spec a M
 have hr : ∀ j : Int, 0 ≤ j → j < M → 0 ≤ a j ∧ a j ≤ NV ∧ 0 ≤ b j ∧ b j ≤ NV := fun j a b => (h j a b).range (hz j a b)
 obtain ⟨c1, c2, c3, c4, c5, c6⟩ := csumF_spec b M fun j a b => (hr j a b).2.2
 have hlk := l2 k k0 k1
 rcases h k k0 k1 with h' | h' | h'
 ·omega
 ·have : ∀ j : Int, 0 ≤ j → j < M → b j = 0 := fun j j0 j1 => by
   have e1 := hk j j0 j1
   have e2 := hz j j0 j1
   rcases h j j0 j1 with h | h | h
   ·have := h'.1; have hNV : NV = 1099511627776 := rfl; omega
   ·exact h.2
   ·omega
  have := c4 this
  omega
 ·omega
def posV (r : RulesT) (q : PosT) : Prop := ∀ D, 0 ≤ val r D q
def negV (r : RulesT) (q : PosT) : Prop := ∀ D, val r D q ≤ 0
theorem pos_of {r : RulesT} (hr : ROk r) {q : PosT} (h0 : resV r q = 0) {m : MvT} (hm : m ∈ cand r q) (h : negV r (doI r q m)) : posV r q
 | 0 => by
  unfold val
  rw [if_neg (by omega)]
  exact Int.le_refl _
 | D + 1 => by
  rw [val_open hr h0]
  have h1 := (foldMax_spec ((cand r q).map fun m => near (-(val r D (doI r q m)))) (-1000)).2.1 _ (List.mem_map_of_mem hm)
  have h2 := h D
  have h3 := near_cases (-(val r D (doI r q m)))
  omega
theorem neg_of {r : RulesT} (hr : ROk r) {q : PosT} (h0 : resV r q = 0) (h : ∀ m ∈ cand r q, posV r (doI r q m)) : negV r q
 | 0 => by
  unfold val
  rw [if_neg (by omega)]
  exact Int.le_refl _
 | D + 1 => by
  rw [val_open hr h0]
  rcases (foldMax_spec ((cand r q).map fun m => near (-(val r D (doI r q m)))) (-1000)).2.2 with e | e
  ·rw [e]; decide
  ·obtain ⟨m, hm, e⟩ := List.mem_map.1 e
   rw [← e]
   have h2 := h m hm D
   have h3 := near_cases (-(val r D (doI r q m)))
   omega
end Go.Proofs.Ytnddjmhpofhfjaa.Am
set_option linter.unusedVariables false
set_option linter.unusedSimpArgs false
set_option linter.unusedSectionVars false
namespace Go.Proofs.Ytnddjmhpofhfjaa.Am
open Go
noncomputable section
abbrev PNode := LMv × (List Int × (Int × (Int × Bool)))
abbrev LP := List PNode
abbrev zPN : PNode := dP
abbrev TXp := TBoard × (Int × Int)
def pn (ns : LP) (i : Int) : PNode := gD zPN ns i
def pks (ns : LP) (n : Int) : List Int := (pn ns n).2.1
def pkid (ns : LP) (n j : Int) : Int := gD (-1 : Int) (pks ns n) j
theorem pn_set {ns : LP} {n i : Int} {v : PNode} (h0 : 0 ≤ n) (h1 : n < ns.length) (hi : 0 ≤ i) : pn (ns.set n.toNat v) i = if i = n then v else pn ns i := by
 unfold pn gD
 rw [List.getD_eq_getElem?_getD, List.getElem?_set]
 by_cases e : i = n
 ·subst e
  rw [if_pos rfl, if_pos (by omega), if_pos rfl]
  rfl
 ·rw [if_neg (by omega), if_neg e, List.getD_eq_getElem?_getD]
theorem pn_app (ns l : LP) {i : Int} (hi : 0 ≤ i) : pn (ns ++ l) i = if i < ns.length then pn ns i else gD zPN l (i - ns.length) := by
 unfold pn gD
 rw [List.getD_eq_getElem?_getD, List.getD_eq_getElem?_getD, List.getElem?_append]
 by_cases h : i < ns.length
 ·rw [if_pos (by omega), if_pos h]
 ·rw [if_neg (by omega), if_neg h, List.getD_eq_getElem?_getD, show (i - (ns.length : Int)).toNat = i.toNat - ns.length by omega]
def lfv (x P : Int) : Int × (Int × Bool) := if x = 0 then (1, (1, false)) else if x = 1 + P then (0, (NV, true)) else (NV, (0, true))
theorem leaf_eq {N : Nat} (hN : 200000000 ≤ N) {b : BoardT} (hb : BOk b) {P k : Int} (h0 : 0 ≤ P) (h1 : P ≤ 1) : Q40 N (b, (P, k)) = some (((), ((), lfv (resV b.1 b.2.1) P)), (b, (P, k))) := by
 unfold Q40 Q40.e lfv
 rw [bresult_eq hN hb, ob]
 dsimp only
 rw [w64_id (x := 1 + P) (by omega) (by omega)]
 by_cases c : resV b.1 b.2.1 = 0
 ·rw [bif_t (eqI_t c), if_pos c]
 ·rw [bif_f (eqI_f c), if_neg c]
  by_cases c2 : resV b.1 b.2.1 = 1 + P
  ·rw [bif_t (eqI_t c2), if_pos c2]
  ·rw [bif_f (eqI_f c2), if_neg c2]
def ka (ns : LP) (n : Int) (own : Bool) (j : Int) : Int := bif own then (pn ns (pkid ns n j)).2.2.1 else (pn ns (pkid ns n j)).2.2.2.1
def ppickL (N : Nat) (n_ : LP × Int) (own : Bool) (n : Nat) (best i : Int) : Option (Int × (LP × Int)) := Q64.l0 N n_ own n best ((pn n_.1 n_.2).2.1.length : Int) i
theorem ppick_e (N : Nat) (n_ : LP × Int) (own : Bool) : Q64 N n_ own = chk (leI 0 n_.2) (ppickL N n_ own N 0 0) := rfl
theorem ppickL_s (N : Nat) (n_ : LP × Int) (own : Bool) (n : Nat) (best i : Int) : ppickL N n_ own (n + 1) best i =
  bif (ltI i ((pn n_.1 n_.2).2.1.length : Int)) then (chk ((leI 0 i) && (ltI i ((pn n_.1 n_.2).2.1.length : Int))) <|
   chk (eqI ((pn n_.1 n_.2).2.1.length : Int) ((pn n_.1 n_.2).2.1.length : Int)) <|
   chk (leI 0 (gD (-1 : Int) (pn n_.1 n_.2).2.1 i)) <|
   chk (leI 0 n_.2) <|
   chk ((leI 0 best) && (ltI best ((pn n_.1 n_.2).2.1.length : Int))) <|
   chk (eqI ((pn n_.1 n_.2).2.1.length : Int) ((pn n_.1 n_.2).2.1.length : Int)) <|
   chk (leI 0 (gD (-1 : Int) (pn n_.1 n_.2).2.1 best)) <|
   bif (!own) then (chk (leI 0 (gD (-1 : Int) (pn n_.1 n_.2).2.1 i)) <|
    chk (leI 0 n_.2) <|
    chk ((leI 0 best) && (ltI best ((pn n_.1 n_.2).2.1.length : Int))) <|
    chk (eqI ((pn n_.1 n_.2).2.1.length : Int) ((pn n_.1 n_.2).2.1.length : Int)) <|
    chk (leI 0 (gD (-1 : Int) (pn n_.1 n_.2).2.1 best)) <|
    bif (ltI (pn n_.1 (gD (-1 : Int) (pn n_.1 n_.2).2.1 i)).2.2.2.1 (pn n_.1 (gD (-1 : Int) (pn n_.1 n_.2).2.1 best)).2.2.2.1) then (ppickL N n_ own n i (w64 (i + 1)))
    else ppickL N n_ own n best (w64 (i + 1)))
   else bif (ltI (pn n_.1 (gD (-1 : Int) (pn n_.1 n_.2).2.1 i)).2.2.1 (pn n_.1 (gD (-1 : Int) (pn n_.1 n_.2).2.1 best)).2.2.1) then (ppickL N n_ own n i (w64 (i + 1)))
   else ppickL N n_ own n best (w64 (i + 1)))
  else some (best, n_) := rfl
section
variable (N : Nat) (ns : LP) (m : Int) (own : Bool) (hm : 0 ≤ m) (hk : ∀ i : Int, 0 ≤ i → i < (pks ns m).length → 0 ≤ pkid ns m i) (hlen : (pks ns m).length ≤ 8192)
include hm hk hlen
theorem ppickL_ok : ∀ (j n : Nat) (best i : Int), i + j = (pks ns m).length → 0 ≤ i → j < n → 0 ≤ best → best < (pks ns m).length → (∀ a : Int, 0 ≤ a → a < i → ka ns m own best ≤ ka ns m own a) →
  ∃ k, ppickL N (ns, m) own n best i = some (k, (ns, m)) ∧ 0 ≤ k ∧ k < (pks ns m).length ∧ ∀ a : Int, 0 ≤ a → a < (pks ns m).length → ka ns m own k ≤ ka ns m own a
 | 0, n, best, i, hi, h0, hn, hb0, hb1, ha => by
  obtain ⟨n, rfl⟩ := nxt (n := n) (by omega)
  rw [ppickL_s]
  dsimp only
  rw [bif_f (ltI_f (show ((pn ns m).2.1.length : Int) ≤ i by unfold pks at hi; omega))]
  exact ⟨best, rfl, hb0, hb1, fun a a0 a1 => ha a a0 (by omega)⟩
 | j + 1, n, best, i, hi, h0, hn, hb0, hb1, ha => by
  obtain ⟨n, rfl⟩ := nxt (n := n) (by omega)
  have ih := ppickL_ok j n
  rw [ppickL_s]
  dsimp only
  have hki : 0 ≤ gD (-1 : Int) (pn ns m).2.1 i := hk i h0 (by omega)
  have hkb : 0 ≤ gD (-1 : Int) (pn ns m).2.1 best := hk best hb0 hb1
  have hlt : i < ((pn ns m).2.1.length : Int) := by show i < ((pks ns m).length : Int); omega
  have hbl : best < ((pn ns m).2.1.length : Int) := hb1
  rw [bif_t (ltI_t hlt), chk_idx h0 hlt, eqI_self, chk_true, leI_t hki, chk_true, leI_t hm, chk_true, chk_idx hb0 hbl, chk_true, leI_t hkb, chk_true, w64_id (x := i + 1) (by omega) (by omega)]
  have key : ∀ c : Bool, c = ltI (ka ns m own i) (ka ns m own best) → ∃ k, (bif c then ppickL N (ns, m) own n i (i + 1) else ppickL N (ns, m) own n best (i + 1)) = some (k, (ns, m)) ∧ 0 ≤ k ∧ k < (pks ns m).length ∧ ∀ a : Int, 0 ≤ a → a < (pks ns m).length → ka ns m own k ≤ ka ns m own a := fun c hc => by
   by_cases h : ka ns m own i < ka ns m own best
   ·rw [hc, bif_t (ltI_t h)]
    exact ih i (i + 1) (by omega) (by omega) (by omega) h0 (by omega) fun a a0 a1 => by
     by_cases e : a = i
     ·subst e; exact Int.le_refl _
     ·have := ha a a0 (by omega); omega
   ·rw [hc, bif_f (ltI_f (by omega))]
    exact ih best (i + 1) (by omega) (by omega) (by omega) hb0 hb1 fun a a0 a1 => by
     by_cases e : a = i
     ·subst e; omega
     ·exact ha a a0 (by omega)
  cases own with
  | true =>
   rw [bif_f (by rfl)]
   exact key _ rfl
  | false =>
   rw [bif_t (by rfl), chk_true, chk_true, chk_idx hb0 hbl, chk_true, chk_true]
   exact key _ rfl
theorem ppick_ok (hN : 200000000 ≤ N) (hl : 0 < (pks ns m).length) : ∃ k, Q64 N (ns, m) own = some (k, (ns, m)) ∧ 0 ≤ k ∧ k < (pks ns m).length ∧ ∀ a : Int, 0 ≤ a → a < (pks ns m).length → ka ns m own k ≤ ka ns m own a := by
 rw [ppick_e, leI_t hm, chk_true]
 exact ppickL_ok N ns m own hm hk hlen (pks ns m).length N 0 0 (by omega) (by omega) (by omega) (by omega) (by omega) fun a a0 a1 => by omega
omit hm hk hlen in
def puL (N : Nat) (n_ : LP × Int) (own : Bool) (n : Nat) (least sum i : Int) : Option (LP × Int) := Q66.l0 N n_ own n least sum ((pn n_.1 n_.2).2.1.length : Int) i
end
theorem pu_e (N : Nat) (n_ : LP × Int) (own : Bool) : Q66 N n_ own = chk (leI 0 n_.2) (puL N n_ own N NV 0 0) := rfl
def pset (ns : LP) (n : Int) (f : Int × (Int × Bool) → Int × (Int × Bool)) : LP := ns.set n.toNat ((pn ns n).1, ((pn ns n).2.1, f (pn ns n).2.2))
theorem puL_s (N : Nat) (n_ : LP × Int) (own : Bool) (n : Nat) (least sum i : Int) : puL N n_ own (n + 1) least sum i =
  bif (ltI i ((pn n_.1 n_.2).2.1.length : Int)) then (chk ((leI 0 i) && (ltI i ((pn n_.1 n_.2).2.1.length : Int))) <|
   chk (eqI ((pn n_.1 n_.2).2.1.length : Int) ((pn n_.1 n_.2).2.1.length : Int)) <|
   chk (leI 0 (gD (-1 : Int) (pn n_.1 n_.2).2.1 i)) <|
   chk (leI 0 (gD (-1 : Int) (pn n_.1 n_.2).2.1 i)) <|
   bif (!own) then
    puL N n_ own n (bif (ltI (pn n_.1 (gD (-1 : Int) (pn n_.1 n_.2).2.1 i)).2.2.2.1 least) then (pn n_.1 (gD (-1 : Int) (pn n_.1 n_.2).2.1 i)).2.2.2.1 else least) (bif (ltI (w64 (sum + (pn n_.1 (gD (-1 : Int) (pn n_.1 n_.2).2.1 i)).2.2.1)) NV) then w64 (sum + (pn n_.1 (gD (-1 : Int) (pn n_.1 n_.2).2.1 i)).2.2.1) else NV) (w64 (i + 1))
   else puL N n_ own n (bif (ltI (pn n_.1 (gD (-1 : Int) (pn n_.1 n_.2).2.1 i)).2.2.1 least) then (pn n_.1 (gD (-1 : Int) (pn n_.1 n_.2).2.1 i)).2.2.1 else least) (bif (ltI (w64 (sum + (pn n_.1 (gD (-1 : Int) (pn n_.1 n_.2).2.1 i)).2.2.2.1)) NV) then w64 (sum + (pn n_.1 (gD (-1 : Int) (pn n_.1 n_.2).2.1 i)).2.2.2.1) else NV) (w64 (i + 1)))
  else chk (leI 0 n_.2) <| chk (leI 0 n_.2) <|
   bif (!own) then (chk (leI 0 n_.2) <| chk (leI 0 n_.2) <|
    some (pset (pset (pset (pset n_.1 n_.2 fun v => (least, v.2)) n_.2 fun v => (v.1, (sum, v.2.2))) n_.2 fun v => (sum, v.2)) n_.2 fun v => (v.1, (least, v.2.2)), n_.2))
   else some (pset (pset n_.1 n_.2 fun v => (least, v.2)) n_.2 fun v => (v.1, (sum, v.2.2)), n_.2) := rfl
theorem pset_nd {ns : LP} {n : Int} (h0 : 0 ≤ n) (h1 : n < ns.length) (f : Int × (Int × Bool) → Int × (Int × Bool)) : pn (pset ns n f) n = ((pn ns n).1, ((pn ns n).2.1, f (pn ns n).2.2)) := by
 unfold pset
 rw [pn_set h0 h1 h0, if_pos rfl]
theorem pset_len (ns : LP) (n : Int) (f : Int × (Int × Bool) → Int × (Int × Bool)) : (pset ns n f).length = ns.length := by
 unfold pset; simp
theorem pset_set {ns : LP} {n : Int} (h0 : 0 ≤ n) (h1 : n < ns.length) (f f' : Int × (Int × Bool) → Int × (Int × Bool)) : pset (pset ns n f) n f' = pset ns n fun v => f' (f v) := by
 have e := pset_nd h0 h1 f
 unfold pset at e ⊢
 rw [e, List.set_set]
def pup (ns : LP) (n : Int) (own : Bool) : LP := pset ns n fun v => bif own then (leastF (ka ns n own) (pks ns n).length, (csumF (ka ns n (!own)) (pks ns n).length, v.2.2)) else (csumF (ka ns n (!own)) (pks ns n).length, (leastF (ka ns n own) (pks ns n).length, v.2.2))
theorem puL_ok (N : Nat) (ns : LP) (m : Int) (own : Bool) (hm : 0 ≤ m) (hm1 : m < ns.length) (hk : ∀ i : Int, 0 ≤ i → i < (pks ns m).length → 0 ≤ pkid ns m i) (hlen : (pks ns m).length ≤ 8192)
  (hv : ∀ (o : Bool) (i : Int), 0 ≤ i → i < (pks ns m).length → 0 ≤ ka ns m o i ∧ ka ns m o i ≤ NV) : ∀ (j n k : Nat), k + j = (pks ns m).length → j < n →
  puL N (ns, m) own n (leastF (ka ns m own) k) (csumF (ka ns m (!own)) k) (k : Int) = some (pup ns m own, m)
 | 0, n, k, hk2, hn => by
  obtain ⟨n, rfl⟩ := nxt (n := n) (by omega)
  rw [puL_s]
  dsimp only
  rw [bif_f (ltI_f (show ((pn ns m).2.1.length : Int) ≤ k by unfold pks at hk2; omega)), leI_t hm, chk_true, chk_true, chk_true, chk_true, show k = (pks ns m).length by omega]
  rw [pset_set hm hm1, pset_set hm hm1, pset_set hm hm1]
  unfold pup
  cases own <;> rfl
 | j + 1, n, k, hk2, hn => by
  obtain ⟨n, rfl⟩ := nxt (n := n) (by omega)
  have hki : 0 ≤ gD (-1 : Int) (pn ns m).2.1 (k : Int) := hk k (by omega) (by omega)
  have hlt : (k : Int) < ((pn ns m).2.1.length : Int) := by show (k : Int) < ((pks ns m).length : Int); omega
  have ih := puL_ok N ns m own hm hm1 hk hlen hv j n (k + 1) (by omega) (by omega)
  have hc := csumF_spec (ka ns m (!own)) k fun i a b => hv (!own) i a (by omega)
  have hb := hv (!own) k (by omega) (by omega)
  have hNV : NV = 1099511627776 := rfl
  have hw : w64 (csumF (ka ns m (!own)) k + ka ns m (!own) (k : Int)) = csumF (ka ns m (!own)) k + ka ns m (!own) (k : Int) := w64_id (by omega) (by omega)
  rw [puL_s]
  dsimp only
  rw [bif_t (ltI_t hlt), chk_idx (by omega) hlt, eqI_self, chk_true, leI_t hki, chk_true, chk_true, w64_id (x := (k : Int) + 1) (by omega) (by omega), show ((k : Int) + 1) = ((k + 1 : Nat) : Int) by omega, ← ih]
  cases own with
  | true =>
   rw [bif_f (by rfl)]
   have hw' : w64 (csumF (ka ns m (!true)) k + (pn ns (gD (-1 : Int) (pn ns m).2.1 (k : Int))).2.2.2.1) = csumF (ka ns m (!true)) k + ka ns m (!true) (k : Int) := hw
   rw [hw']
   rfl
  | false =>
   rw [bif_t (by rfl)]
   have hw' : w64 (csumF (ka ns m (!false)) k + (pn ns (gD (-1 : Int) (pn ns m).2.1 (k : Int))).2.2.1) = csumF (ka ns m (!false)) k + ka ns m (!false) (k : Int) := hw
   rw [hw']
   rfl
theorem pu_ok {N : Nat} (hN : 200000000 ≤ N) (ns : LP) (m : Int) (own : Bool) (hm : 0 ≤ m) (hm1 : m < ns.length) (hk : ∀ i : Int, 0 ≤ i → i < (pks ns m).length → 0 ≤ pkid ns m i) (hlen : (pks ns m).length ≤ 8192)
  (hv : ∀ (o : Bool) (i : Int), 0 ≤ i → i < (pks ns m).length → 0 ≤ ka ns m o i ∧ ka ns m o i ≤ NV) : Q66 N (ns, m) own = some (pup ns m own, m) := by
 rw [pu_e, leI_t hm, chk_true]
 exact puL_ok N ns m own hm hm1 hk hlen hv (pks ns m).length N 0 (by omega) (by omega)
def pexL (N : Nat) (x : TXp) (n_ : LP × Int) (k : Nat) (ms : LMv) (len i P many : Int) (b : TBoard) (nodes : LP) : Option (TXp × (LP × Int)) :=
 Q65.l0 N x n_ k ms len i P many b.1.1 b.1.2.1 b.1.2.2.1 b.1.2.2.2.2.2.1 b.1.2.2.2.2.2.2.1 b.1.2.2.2.2.2.2.2.2.1 b.1.2.2.2.2.2.2.2.2.2.1 b.1.2.2.2.2.2.2.2.2.2.2 b.2.1.2.2.1 b.2.1.2.2.2 b.2.2.1 b.1.2.2.2.1 b.1.2.2.2.2.1 b.1.2.2.2.2.2.2.2.1 b.2.1.1 b.2.1.2.1.1 b.2.1.2.1.2 b.2.2.2 nodes
def pexB (N : Nat) (n_ : LP × Int) (y5 : TBoard) (P many : Int) (nodes : LP) (K : Int → Int → TBoard → LP → Option (TXp × (LP × Int))) : Option (TXp × (LP × Int)) :=
 (Q40 N (y5, (P, many))).bind fun y6 =>
 chk ((eqI ((pn nodes n_.2).2.1.length : Int) ((pn (nodes ++ [([], ([], y6.1.2.2))]) n_.2).2.1.length : Int)) && (true && capOk 8 ((pn (nodes ++ [([], ([], y6.1.2.2))]) n_.2).2.1.length + 1))) <|
 chk (leI 0 n_.2) <|
 chk ((eqI n_.2 n_.2) && ((eqI n_.2 n_.2) && (eqI (((pn nodes n_.2).2.1.length : Int) + 1) (((pn (nodes ++ [([], ([], y6.1.2.2))]) n_.2).2.1.length : Int) + 1)))) <|
 (Q48 N y6.2.1).bind fun y10 =>
 K y6.2.2.1 y6.2.2.2 y10.2 ((nodes ++ [([], ([], y6.1.2.2))]).set n_.2.toNat ((pn (nodes ++ [([], ([], y6.1.2.2))]) n_.2).1, (((pn (nodes ++ [([], ([], y6.1.2.2))]) n_.2).2.1 ++ [(nodes.length : Int)]), (pn (nodes ++ [([], ([], y6.1.2.2))]) n_.2).2.2)))
theorem pexL_s (N : Nat) (x : TXp) (n_ : LP × Int) (k : Nat) (ms : LMv) (len i P many : Int) (b : TBoard) (nodes : LP) : pexL N x n_ (k + 1) ms len i P many b nodes =
  bif (ltI i len) then (chk ((leI 0 i) && (ltI i (ms.length : Int))) <|
   (Q47 N b (gD z0 ms i)).bind fun y5 => chk (leI 0 n_.2) <|
   bothK (pexB N n_ y5 P many nodes fun P many b ns => pexL N x n_ k ms len (w64 (i + 1)) P many b ns) (pexB N n_ y5 P many nodes fun P many b ns => pexL N x n_ k ms len (w64 (i + 1)) P many b ns))
  else some ((b, (P, many)), (nodes, n_.2)) := rfl
theorem pex_e (N : Nat) (x : TXp) (n_ : LP × Int) : Q65 N x n_ = chk (leI 0 n_.2) ((Q24 N x.1).bind fun y2 => chk (leI 0 n_.2) <| chk (leI 0 n_.2) <|
  pexL N x n_ N (pn ((pset n_.1 n_.2 fun v => (v.1, (v.2.1, true))).set n_.2.toNat (y2, (pn (pset n_.1 n_.2 fun v => (v.1, (v.2.1, true))) n_.2).2)) n_.2).1 ((pn ((pset n_.1 n_.2 fun v => (v.1, (v.2.1, true))).set n_.2.toNat (y2, (pn (pset n_.1 n_.2 fun v => (v.1, (v.2.1, true))) n_.2).2)) n_.2).1.length : Int) 0 x.2.1 (w64 (x.2.2 + 1)) x.1
   ((pset n_.1 n_.2 fun v => (v.1, (v.2.1, true))).set n_.2.toNat (y2, (pn (pset n_.1 n_.2 fun v => (v.1, (v.2.1, true))) n_.2).2))) := rfl
def exP (ns : LP) (n : Int) (lf : Nat → PNode) (t : Nat) : LP := (ns ++ (List.range t).map lf).set n.toNat ((pn ns n).1, ((List.range t).map (fun j : Nat => (ns.length : Int) + (j : Int)), (pn ns n).2.2))
theorem exP_len (ns : LP) (n : Int) (lf : Nat → PNode) (t : Nat) : (exP ns n lf t).length = ns.length + t := by unfold exP; simp
theorem exP_app {ns : LP} {n : Int} (h0 : 0 ≤ n) (h1 : n < ns.length) (lf : Nat → PNode) (t : Nat) (v : PNode) : pn (exP ns n lf t ++ [v]) n = ((pn ns n).1, ((List.range t).map (fun j : Nat => (ns.length : Int) + (j : Int)), (pn ns n).2.2)) := by
 rw [pn_app _ _ h0, if_pos (by rw [exP_len]; omega)]
 unfold exP
 rw [pn_set h0 (by simp; omega) h0, if_pos rfl]
theorem exP_nd {ns : LP} {n i : Int} (h0 : 0 ≤ n) (h1 : n < ns.length) (hi : 0 ≤ i) (lf : Nat → PNode) (t : Nat) : pn (exP ns n lf t) i = if i = n then ((pn ns n).1, ((List.range t).map (fun j : Nat => (ns.length : Int) + (j : Int)), (pn ns n).2.2)) else if i < ns.length then pn ns i else gD zPN ((List.range t).map lf) (i - ns.length) := by
 unfold exP
 rw [pn_set h0 (by simp; omega) hi, pn_app _ _ hi]
theorem exP_nx {ns : LP} {n : Int} (h0 : 0 ≤ n) (h1 : n < ns.length) (lf : Nat → PNode) (t : Nat) :
  (exP ns n lf t ++ [lf t]).set n.toNat ((pn (exP ns n lf t ++ [lf t]) n).1, (((pn (exP ns n lf t ++ [lf t]) n).2.1 ++ [((exP ns n lf t).length : Int)]), (pn (exP ns n lf t ++ [lf t]) n).2.2)) = exP ns n lf (t + 1) := by
 rw [exP_app h0 h1, exP_len]
 unfold exP
 rw [← List.set_append_left _ _ (by simp; omega), List.set_set, List.append_assoc, List.range_succ, List.map_append, List.map_append]
 rfl
def lfn (b : BoardT) (ms : List MvT) (P : Int) (j : Nat) : PNode := ([], ([], lfv (resV (makeB b (gD z0 ms (j : Int))).1 (makeB b (gD z0 ms (j : Int))).2.1) P))
theorem pexL_ok {N : Nat} (hN : 200000000 ≤ N) (x : TXp) (n0 : LP) {ns : LP} {n : Int} (h0 : 0 ≤ n) (h1 : n < ns.length) {b : BoardT} (hb : BOk b) (hl : b.2.2.2.length ≤ 90000) {P many : Int} (p0 : 0 ≤ P) (p1 : P ≤ 1) {ms : List MvT} (hms : ∀ j : Int, 0 ≤ j → j < ms.length → MoveOk b.1 b.2.1 (gD z0 ms j)) (hm8 : ms.length ≤ 8192) : ∀ (j k t : Nat), t + j = ms.length → j < k →
  pexL N x (n0, n) k ms (ms.length : Int) (t : Int) P many b (exP ns n (lfn b ms P) t) = some ((b, (P, many)), (exP ns n (lfn b ms P) ms.length, n))
 | 0, k, t, hm, hk => by
  obtain ⟨k, rfl⟩ := nxt (n := k) (by omega)
  rw [pexL_s, bif_f (ltI_f (by omega)), show t = ms.length by omega]
 | j + 1, k, t, hm, hk => by
  obtain ⟨k, rfl⟩ := nxt (n := k) (by omega)
  have hmo := hms (t : Int) (by omega) (by omega)
  rw [pexL_s, bif_t (ltI_t (by omega)), chk_idx (by omega) (by omega), make_eq hb (by omega) hmo, ob, leI_t h0, chk_true, bothK_same]
  unfold pexB
  rw [leaf_eq hN (make_ok hb (by omega) hmo) p0 p1, ob]
  dsimp only
  rw [show ([], ([], lfv (resV (makeB b (gD z0 ms (t : Int))).1 (makeB b (gD z0 ms (t : Int))).2.1) P)) = lfn b ms P t from rfl]
  rw [exP_nx h0 h1, exP_app h0 h1, exP_nd h0 h1 h0, if_pos rfl, leI_t h0, eqI_self, eqI_self, eqI_self, Bool.true_and, Bool.true_and, Bool.true_and, chk_cap (by simp; omega), chk_true, Bool.true_and, chk_true, undo_make hb (by omega) hmo, ob, w64_id (by omega) (by omega), show ((t : Int) + 1) = ((t + 1 : Nat) : Int) by omega]
  exact pexL_ok hN x n0 h0 h1 hb hl p0 p1 hms hm8 j k (t + 1) (by omega) (by omega)
theorem pstep_e (N : Nat) (x : TXp) (n_ : LP × Int) : Q41 (N + 1) x n_ =
  (Q39 N x.1).bind fun y1 => chk (leI 0 n_.2) <|
  bif (pn n_.1 n_.2).2.2.2.2 then ((Q64 N n_ (eqI y1 x.2.1)).bind fun y2 =>
   chk (leI 0 n_.2) <|
   chk ((leI 0 y2.1) && (ltI y2.1 ((pn y2.2.1 n_.2).1.length : Int))) <|
   (Q47 N x.1 (gD z0 (pn y2.2.1 n_.2).1 y2.1)).bind fun y3 =>
   chk (leI 0 n_.2) <|
   chk ((leI 0 y2.1) && (ltI y2.1 ((pn y2.2.1 n_.2).2.1.length : Int))) <|
   chk (eqI ((pn y2.2.1 n_.2).2.1.length : Int) ((pn y2.2.1 n_.2).2.1.length : Int)) <|
   (Q41 N (y3, x.2) (y2.2.1, (gD (-1 : Int) (pn y2.2.1 n_.2).2.1 y2.1))).bind fun y5 =>
   (Q48 N y5.1.1).bind fun y6 =>
   (Q66 N (y5.2.1, n_.2) (eqI y1 x.2.1)).bind fun y7 =>
   some ((y6.2, y5.1.2), (y7.1, n_.2)))
  else (Q65 N x n_).bind fun y8 =>
   (Q66 N (y8.2.1, n_.2) (eqI y1 x.2.1)).bind fun y9 =>
   some (y8.1, (y9.1, n_.2)) := rfl
end
end Go.Proofs.Ytnddjmhpofhfjaa.Am
set_option linter.unusedVariables false
set_option linter.unusedSimpArgs false
set_option linter.unusedSectionVars false
namespace Go.Proofs.Ytnddjmhpofhfjaa.Am
open Go
noncomputable section
def ownB (P : Int) (b : BoardT) : Bool := eqI b.2.1.2.2.1 P
def na (ns : LP) (g : Int → BoardT) (P i : Int) : Int := bif ownB P (g i) then (pn ns i).2.2.1 else (pn ns i).2.2.2.1
def nb (ns : LP) (g : Int → BoardT) (P i : Int) : Int := bif ownB P (g i) then (pn ns i).2.2.2.1 else (pn ns i).2.2.1
structure PI (ns : LP) (g : Int → BoardT) (sz : Int → Int) (r : RulesT) (P D Z : Int) : Prop where
 bo : ∀ i : Int, 0 ≤ i → i < ns.length → BOk (g i) ∧ ((g i).2.2.2.length : Int) ≤ D ∧ (g i).1 = r
 tri : ∀ i : Int, 0 ≤ i → i < ns.length → Tri (pn ns i).2.2.1 (pn ns i).2.2.2.1 (sz i) ∧ 1 ≤ sz i ∧ sz i ≤ Z
 wn : ∀ i : Int, 0 ≤ i → i < ns.length → (na ns g P i = 0 → posV r (g i).2.1) ∧ (nb ns g P i = 0 → negV r (g i).2.1)
 ex : ∀ i : Int, 0 ≤ i → i < ns.length → ((pn ns i).2.2.2.2 = false ∧ (pks ns i).length = 0 ∧ resV r (g i).2.1 = 0) ∨ ((pn ns i).2.2.2.2 = true ∧ (pks ns i).length = 0 ∧ ((pn ns i).2.2.1 = 0 ∨ (pn ns i).2.2.2.1 = 0)) ∨
  ((pn ns i).2.2.2.2 = true ∧ 0 < (pks ns i).length ∧ (pn ns i).1.length = (pks ns i).length ∧ IsGen r (g i).2.1 (pn ns i).1 ∧ resV r (g i).2.1 = 0)
 kd : ∀ i j : Int, 0 ≤ i → i < ns.length → 0 ≤ j → j < (pks ns i).length → i < pkid ns i j ∧ pkid ns i j < ns.length ∧ g (pkid ns i j) = makeB (g i) (gD z0 (pn ns i).1 j)
 un : ∀ i j i' j' : Int, 0 ≤ i → i < ns.length → 0 ≤ j → j < (pks ns i).length → 0 ≤ i' → i' < ns.length → 0 ≤ j' → j' < (pks ns i').length → pkid ns i j = pkid ns i' j' → i = i' ∧ j = j'
structure Ag (ns : LP) (g : Int → BoardT) (sz : Int → Int) (P i : Int) : Prop where
 a : 0 < (pks ns i).length → na ns g P i = leastF (ka ns i (ownB P (g i))) (pks ns i).length
 b : 0 < (pks ns i).length → nb ns g P i = csumF (ka ns i (!(ownB P (g i)))) (pks ns i).length
 s : sumI (fun j => sz (pkid ns i j)) (pks ns i).length ≤ sz i
theorem PI.mono {ns : LP} {g : Int → BoardT} {sz : Int → Int} {r : RulesT} {P D Z D' Z' : Int} (h : PI ns g sz r P D Z) (hD : D ≤ D') (hZ : Z ≤ Z') : PI ns g sz r P D' Z' :=
 ⟨fun i a b => by have := h.bo i a b; exact ⟨this.1, by omega, this.2.2⟩, fun i a b => by have := h.tri i a b; exact ⟨this.1, this.2.1, by omega⟩, h.wn, h.ex, h.kd, h.un⟩
theorem makeB_pl (b : BoardT) (m : MvT) : (makeB b m).2.2.2.length = b.2.2.2.length + 1 := by
 unfold makeB
 simp
theorem turn_flip {b : BoardT} {m : MvT} {P : Int} (hb : BOk b) (p0 : 0 ≤ P) (p1 : P ≤ 1) : ownB P (makeB b m) = !(ownB P b) := by
 have ht := hb.p.last.1
 have e : (makeB b m).2.1.2.2.1 = 1 - b.2.1.2.2.1 := rfl
 unfold ownB
 rw [e]
 by_cases c : b.2.1.2.2.1 = P
 ·rw [eqI_t c, eqI_f (by omega)]; rfl
 ·rw [eqI_f c, eqI_t (by omega)]; rfl
theorem gen_move {r : RulesT} {b : BoardT} (hb : BOk b) (hr : b.1 = r) {ms : List MvT} (hg : IsGen r b.2.1 ms) {j : Int} (j0 : 0 ≤ j) (j1 : j < ms.length) : gD z0 ms j ∈ cand r b.2.1 ∧ MoveOk b.1 b.2.1 (gD z0 ms j) := by
 obtain ⟨j, rfl⟩ : ∃ a : Nat, j = a := ⟨j.toNat, by omega⟩
 have hlt : j < ms.length := by omega
 rw [gD_nat hlt]
 have h := (hg.mem _).1 (List.getElem_mem hlt)
 subst hr
 exact ⟨h, cand_ok hb.r hb.p h⟩
theorem kid_na {ns : LP} {g : Int → BoardT} {sz : Int → Int} {r : RulesT} {P D Z : Int} (hI : PI ns g sz r P D Z) (p0 : 0 ≤ P) (p1 : P ≤ 1) {i j : Int} (i0 : 0 ≤ i) (i1 : i < ns.length) (j0 : 0 ≤ j) (j1 : j < (pks ns i).length) :
  nb ns g P (pkid ns i j) = ka ns i (ownB P (g i)) j ∧ na ns g P (pkid ns i j) = ka ns i (!(ownB P (g i))) j := by
 obtain ⟨k0, k1, kg⟩ := hI.kd i j i0 i1 j0 j1
 have hf := turn_flip (m := gD z0 (pn ns i).1 j) (hI.bo i i0 i1).1 p0 p1
 unfold na nb ka
 rw [kg, hf]
 cases ownB P (g i) <;> exact ⟨rfl, rfl⟩
theorem kid_tri {ns : LP} {g : Int → BoardT} {sz : Int → Int} {r : RulesT} {P D Z : Int} (hI : PI ns g sz r P D Z) {i j : Int} (i0 : 0 ≤ i) (i1 : i < ns.length) (j0 : 0 ≤ j) (j1 : j < (pks ns i).length) (o : Bool) :
  Tri (ka ns i o j) (ka ns i (!o) j) (sz (pkid ns i j)) ∧ 1 ≤ sz (pkid ns i j) ∧ sz (pkid ns i j) ≤ Z := by
 obtain ⟨k0, k1, kg⟩ := hI.kd i j i0 i1 j0 j1
 obtain ⟨h1, h2, h3⟩ := hI.tri _ (by omega) k1
 refine ⟨?_, h2, h3⟩
 unfold ka
 cases o
 ·exact h1.swap
 ·exact h1
theorem kid_mv {ns : LP} {g : Int → BoardT} {sz : Int → Int} {r : RulesT} {P D Z : Int} (hI : PI ns g sz r P D Z) {i : Int} (i0 : 0 ≤ i) (i1 : i < ns.length) (hk : 0 < (pks ns i).length) :
  (pn ns i).2.2.2.2 = true ∧ (pn ns i).1.length = (pks ns i).length ∧ IsGen r (g i).2.1 (pn ns i).1 ∧ resV r (g i).2.1 = 0 := by
 rcases hI.ex i i0 i1 with h | h | h
 ·omega
 ·omega
 ·exact ⟨h.1, h.2.2.1, h.2.2.2.1, h.2.2.2.2⟩
def szu (sz : Int → Int) (n S : Int) : Int → Int := fun i => if i = n then S else sz i
section
variable {ns : LP} {n : Int} (h0 : 0 ≤ n) (h1 : n < ns.length) (o : Bool)
include h0 h1
theorem pup_len : (pup ns n o).length = ns.length := by unfold pup; rw [pset_len]
theorem pup_ne {i : Int} (hi : 0 ≤ i) (ne : i ≠ n) : pn (pup ns n o) i = pn ns i := by
 unfold pup pset
 rw [pn_set h0 h1 hi, if_neg ne]
theorem pup_nd : pn (pup ns n o) n = ((pn ns n).1, ((pn ns n).2.1, bif o then (leastF (ka ns n o) (pks ns n).length, (csumF (ka ns n (!o)) (pks ns n).length, (pn ns n).2.2.2.2)) else (csumF (ka ns n (!o)) (pks ns n).length, (leastF (ka ns n o) (pks ns n).length, (pn ns n).2.2.2.2)))) := by
 unfold pup
 rw [pset_nd h0 h1]
theorem pup_ks {i : Int} (hi : 0 ≤ i) : pks (pup ns n o) i = pks ns i ∧ (pn (pup ns n o) i).1 = (pn ns i).1 ∧ (pn (pup ns n o) i).2.2.2.2 = (pn ns i).2.2.2.2 := by
 unfold pks
 by_cases e : i = n
 ·subst e
  rw [pup_nd h0 h1]
  cases o <;> exact ⟨rfl, rfl, rfl⟩
 ·rw [pup_ne h0 h1 o hi e]
  exact ⟨rfl, rfl, rfl⟩
theorem pup_kid {i : Int} (hi : 0 ≤ i) (j : Int) : pkid (pup ns n o) i j = pkid ns i j := by
 unfold pkid
 rw [(pup_ks h0 h1 o hi).1]
end
theorem ka_ext {ns ns' : LP} {i i' : Int} {j : Int} (h : pn ns' (pkid ns' i' j) = pn ns (pkid ns i j)) (o : Bool) : ka ns' i' o j = ka ns i o j := by
 unfold ka
 rw [h]
theorem pup_inv {ns : LP} {g : Int → BoardT} {sz : Int → Int} {r : RulesT} {P D Z n S : Int} (hI : PI ns g sz r P D Z) (p0 : 0 ≤ P) (p1 : P ≤ 1) (h0 : 0 ≤ n) (h1 : n < ns.length) (hk : 0 < (pks ns n).length)
  (hS : sumI (fun j => sz (pkid ns n j)) (pks ns n).length ≤ S) (hS1 : 1 ≤ S) (hSZ : S ≤ Z) (hZ : Z < NV) :
  PI (pup ns n (ownB P (g n))) g (szu sz n S) r P D Z ∧ Ag (pup ns n (ownB P (g n))) g (szu sz n S) P n ∧
  ∀ i : Int, 0 ≤ i → i < ns.length → i ≠ n → (∀ j : Int, 0 ≤ j → j < (pks ns i).length → pkid ns i j ≠ n) → Ag ns g sz P i → Ag (pup ns n (ownB P (g n))) g (szu sz n S) P i := by
 obtain ⟨hb, hD, hbr⟩ := hI.bo n h0 h1
 obtain ⟨hxe, hml, hg, hr0⟩ := kid_mv hI h0 h1 hk
 have hlen := pup_len h0 h1 (ownB P (g n))
 have hnd := pup_nd h0 h1 (ownB P (g n))
 have hne := fun i hi ne => pup_ne (i := i) h0 h1 (ownB P (g n)) hi ne
 have hks := fun i hi => pup_ks (i := i) h0 h1 (ownB P (g n)) hi
 have hkd := fun i hi j => pup_kid (i := i) h0 h1 (ownB P (g n)) hi j
 have htri : Tri (leastF (ka ns n (ownB P (g n))) (pks ns n).length) (csumF (ka ns n (!(ownB P (g n)))) (pks ns n).length) S :=
  upd_tri (z := fun j => sz (pkid ns n j)) hk (fun j j0 j1 => (kid_tri hI h0 h1 j0 j1 _).1) (fun j j0 j1 => by have := (kid_tri hI h0 h1 j0 j1 true).2.1; omega) hS (by omega)
 have hA : na (pup ns n (ownB P (g n))) g P n = leastF (ka ns n (ownB P (g n))) (pks ns n).length := by
  unfold na
  rw [hnd]
  cases ownB P (g n) <;> rfl
 have hB : nb (pup ns n (ownB P (g n))) g P n = csumF (ka ns n (!(ownB P (g n)))) (pks ns n).length := by
  unfold nb
  rw [hnd]
  cases ownB P (g n) <;> rfl
 have hkn : ∀ j : Int, 0 ≤ j → j < (pks ns n).length → pn (pup ns n (ownB P (g n))) (pkid (pup ns n (ownB P (g n))) n j) = pn ns (pkid ns n j) := fun j j0 j1 => by
  rw [hkd n h0]
  have := (hI.kd n j h0 h1 j0 j1).1
  exact hne _ (by omega) (by omega)
 have hra : ∀ j : Int, 0 ≤ j → j < (pks ns n).length → 0 ≤ ka ns n (!(ownB P (g n))) j ∧ ka ns n (!(ownB P (g n))) j ≤ NV := fun j j0 j1 => by
  obtain ⟨t1, t2, t3⟩ := kid_tri hI h0 h1 j0 j1 (ownB P (g n))
  exact ⟨(t1.range (by omega)).2.2.1, (t1.range (by omega)).2.2.2⟩
 refine ⟨⟨fun i a b => hI.bo i a (by omega), fun i a b => ?_, fun i a b => ?_, fun i a b => ?_, fun i j a b c e => ?_, fun i j i' j' a b c e a' b' c' e' => ?_⟩, ⟨fun _ => ?_, fun _ => ?_, ?_⟩, fun i a b ne hnk hag => ⟨fun c => ?_, fun c => ?_, ?_⟩⟩
 ·unfold szu
  by_cases e : i = n
  ·subst e
   rw [if_pos rfl, hnd]
   refine ⟨?_, hS1, hSZ⟩
   cases ho : ownB P (g i) with
   | true => rw [ho] at htri; exact htri
   | false => rw [ho] at htri; exact htri.swap
  ·rw [if_neg e, hne i a e]
   exact hI.tri i a (by omega)
 ·by_cases e : i = n
  ·subst e
   rw [hA, hB]
   refine ⟨fun z => ?_, fun z => ?_⟩
   ·obtain ⟨j, j0, j1, hj⟩ := least_zero z
    obtain ⟨k0, k1, kg⟩ := hI.kd i j h0 h1 j0 j1
    have hw := (hI.wn _ (by omega) k1).2 (by rw [(kid_na hI p0 p1 h0 h1 j0 j1).1]; exact hj)
    rw [kg] at hw
    have hm := gen_move hb hbr hg j0 (by omega)
    rw [← hbr] at hw hr0 ⊢
    have hm1 := hm.1
    rw [← hbr] at hm1
    exact pos_of hb.r hr0 hm1 hw
   ·have hz := (csumF_spec (ka ns i (!(ownB P (g i)))) (pks ns i).length hra).2.2.1 z
    rw [← hbr] at hr0 ⊢
    refine neg_of hb.r hr0 fun m hm => ?_
    rw [hbr] at hm
    obtain ⟨t, ht, rfl⟩ := List.mem_iff_getElem.1 ((hg.mem m).2 hm)
    obtain ⟨k0, k1, kg⟩ := hI.kd i (t : Int) h0 h1 (by omega) (by omega)
    have hw := (hI.wn _ (by omega) k1).1 (by rw [(kid_na hI p0 p1 h0 h1 (by omega) (by omega)).2]; exact hz (t : Int) (by omega) (by omega))
    rw [kg, gD_nat ht] at hw
    rw [hbr]
    have e2 : (makeB (g i) (pn ns i).1[t]).2.1 = doI (g i).1 (g i).2.1 (pn ns i).1[t] := rfl
    rw [e2, hbr] at hw
    exact hw
  ·have := hI.wn i a (by omega)
   unfold na nb at this ⊢
   rw [hne i a e]
   exact this
 ·rw [(hks i a).1, (hks i a).2.1, (hks i a).2.2]
  by_cases e : i = n
  ·subst e
   exact .inr (.inr ⟨hxe, hk, hml, hg, hr0⟩)
  ·rw [hne i a e]
   exact hI.ex i a (by omega)
 ·rw [(hks i a).1] at e
  rw [hkd i a, (hks i a).2.1, hlen]
  exact hI.kd i j a (by omega) c e
 ·rw [(hks i a).1] at e
  rw [(hks i' a').1] at e'
  rw [hkd i a, hkd i' a']
  exact hI.un i j i' j' a (by omega) c e a' (by omega) c' e'
 ·rw [hA, (hks n h0).1]
  exact leastF_ext fun j j0 j1 => (ka_ext (hkn j j0 j1) _).symm
 ·rw [hB, (hks n h0).1]
  exact csumF_ext fun j j0 j1 => (ka_ext (hkn j j0 j1) _).symm
 ·rw [(hks n h0).1]
  refine Int.le_trans (Int.le_of_eq ?_) (Int.le_trans hS (Int.le_of_eq ?_))
  ·refine sumF_ext fun j j0 j1 => ?_
   have := (hI.kd n j h0 h1 j0 j1).1
   unfold szu
   rw [hkd n h0, if_neg (by omega)]
  ·unfold szu; rw [if_pos rfl]
 ·rw [(hks i a).1] at c ⊢
  have := hag.a c
  have e1 : na (pup ns n (ownB P (g n))) g P i = na ns g P i := by unfold na; rw [hne i a ne]
  rw [e1, this]
  exact leastF_ext fun j j0 j1 => (ka_ext (by rw [hkd i a]; have := (hI.kd i j a b j0 j1).1; exact hne _ (by omega) (hnk j j0 j1)) _).symm
 ·rw [(hks i a).1] at c ⊢
  have := hag.b c
  have e1 : nb (pup ns n (ownB P (g n))) g P i = nb ns g P i := by unfold nb; rw [hne i a ne]
  rw [e1, this]
  exact csumF_ext fun j j0 j1 => (ka_ext (by rw [hkd i a]; have := (hI.kd i j a b j0 j1).1; exact hne _ (by omega) (hnk j j0 j1)) _).symm
 ·rw [(hks i a).1]
  refine Int.le_trans (Int.le_of_eq ?_) (Int.le_trans hag.s (Int.le_of_eq ?_))
  ·refine sumF_ext fun j j0 j1 => ?_
   unfold szu
   rw [hkd i a, if_neg (hnk j j0 j1)]
  ·unfold szu; rw [if_neg ne]
end
end Go.Proofs.Ytnddjmhpofhfjaa.Am
set_option linter.unusedVariables false
set_option linter.unusedSimpArgs false
set_option linter.unusedSectionVars false
namespace Go.Proofs.Ytnddjmhpofhfjaa.Am
open Go
noncomputable section
theorem pgD_range {α : Type} {d : α} {M : Nat} {f : Nat → α} {j : Int} (j0 : 0 ≤ j) (j1 : j < M) : gD d ((List.range M).map f) j = f j.toNat := by
 obtain ⟨j, rfl⟩ : ∃ a : Nat, j = a := ⟨j.toNat, by omega⟩
 rw [gD_nat (by simp; omega)]
 simp
theorem leaf_wn {b : BoardT} (hb : BOk b) {P : Int} (p0 : 0 ≤ P) (p1 : P ≤ 1) : ((bif ownB P b then (lfv (resV b.1 b.2.1) P).1 else (lfv (resV b.1 b.2.1) P).2.1) = 0 → posV b.1 b.2.1) ∧ ((bif ownB P b then (lfv (resV b.1 b.2.1) P).2.1 else (lfv (resV b.1 b.2.1) P).1) = 0 → negV b.1 b.2.1) := by
 have ht : b.2.1.2.2.1 = 0 ∨ b.2.1.2.2.1 = 1 := hb.p.last.1
 have hNV : NV = 1099511627776 := rfl
 unfold lfv
 by_cases c : resV b.1 b.2.1 = 0
 ·rw [if_pos c]
  refine ⟨fun h => ?_, fun h => ?_⟩ <;> (generalize ownB P b = o at h; cases o <;> exact absurd h (by decide))
 ·rw [if_neg c]
  have hv := val_over hb.r c
  have hs : scoreV (resV b.1 b.2.1) b.2.1.2.2.1 = if resV b.1 b.2.1 = 1 + b.2.1.2.2.1 then 1000 else if resV b.1 b.2.1 = 2 - b.2.1.2.2.1 then -1000 else 0 := rfl
  have hv' : ∀ D, val b.1 D b.2.1 = scoreV (resV b.1 b.2.1) b.2.1.2.2.1 := hv
  unfold posV negV ownB
  generalize resV b.1 b.2.1 = x at *
  generalize b.2.1.2.2.1 = t at *
  by_cases o : t = P
  ·subst o
   rw [eqI_self]
   by_cases c2 : x = 1 + t
   ·rw [if_pos c2]
    rw [if_pos c2] at hs
    exact ⟨fun _ D => by rw [hv', hs]; decide, fun h => absurd h (by show NV ≠ 0; omega)⟩
   ·rw [if_neg c2]
    rw [if_neg c2] at hs
    refine ⟨fun h => absurd h (by show NV ≠ 0; omega), fun _ D => ?_⟩
    rw [hv', hs]
    split <;> decide
  ·rw [eqI_f o]
   have e : 1 + P = 2 - t := by omega
   by_cases c2 : x = 1 + P
   ·rw [if_pos c2]
    rw [if_neg (by omega), if_pos (by omega)] at hs
    exact ⟨fun h => absurd h (by show NV ≠ 0; omega), fun _ D => by rw [hv', hs]; decide⟩
   ·rw [if_neg c2]
    rw [if_neg (show ¬ x = 2 - t by omega)] at hs
    refine ⟨fun _ D => ?_, fun h => absurd h (by show NV ≠ 0; omega)⟩
    rw [hv', hs]
    split <;> decide
theorem lfv_tri (x P : Int) : Tri (lfv x P).1 (lfv x P).2.1 1 := by
 unfold lfv
 split
 ·exact .inr (.inr ⟨by decide, by decide, by decide, by decide⟩)
 ·split
  ·exact .inl ⟨rfl, rfl⟩
  ·exact .inr (.inl ⟨rfl, rfl⟩)
theorem lfv_ex (x P : Int) : ((lfv x P).2.2 = false ∧ x = 0) ∨ ((lfv x P).2.2 = true ∧ ((lfv x P).1 = 0 ∨ (lfv x P).2.1 = 0)) := by
 unfold lfv
 by_cases c : x = 0
 ·rw [if_pos c]; exact .inl ⟨rfl, c⟩
 ·rw [if_neg c]
  split
  ·exact .inr ⟨rfl, .inl rfl⟩
  ·exact .inr ⟨rfl, .inr rfl⟩
def psm (ns : LP) (n : Int) (ms : LMv) : LP := (pset ns n fun v => (v.1, (v.2.1, true))).set n.toNat (ms, (pn (pset ns n fun v => (v.1, (v.2.1, true))) n).2)
def pX (ns : LP) (n : Int) (b : BoardT) (ms : LMv) (P : Int) : LP := exP (psm ns n ms) n (lfn b ms P) ms.length
def gxP (ns : LP) (g : Int → BoardT) (n : Int) (ms : LMv) : Int → BoardT := fun i => if i < ns.length then g i else makeB (g n) (gD z0 ms (i - ns.length))
def sxP (ns : LP) (sz : Int → Int) : Int → Int := fun i => if i < ns.length then sz i else 1
theorem psm_nd {ns : LP} {n i : Int} (h0 : 0 ≤ n) (h1 : n < ns.length) (hi : 0 ≤ i) (ms : LMv) : pn (psm ns n ms) i = if i = n then (ms, ((pn ns n).2.1, ((pn ns n).2.2.1, ((pn ns n).2.2.2.1, true)))) else pn ns i := by
 unfold psm
 rw [pn_set h0 (by rw [pset_len]; exact h1) hi, pset_nd h0 h1]
 unfold pset
 rw [pn_set h0 h1 hi]
 split <;> rfl
theorem psm_len (ns : LP) (n : Int) (ms : LMv) : (psm ns n ms).length = ns.length := by
 unfold psm; rw [List.length_set, pset_len]
theorem psm_zero {ns : LP} {n : Int} (h0 : 0 ≤ n) (h1 : n < ns.length) (hk : (pks ns n).length = 0) (ms : LMv) (lf : Nat → PNode) : exP (psm ns n ms) n lf 0 = psm ns n ms := by
 have hk' : (pn ns n).2.1 = [] := List.length_eq_zero_iff.1 hk
 have e := psm_nd h0 h1 h0 ms
 rw [if_pos rfl] at e
 unfold exP
 rw [List.range_zero, List.map_nil, List.append_nil, List.map_nil, e]
 unfold psm
 rw [List.set_set, pset_nd h0 h1]
 dsimp only
 rw [hk']
theorem pX_inv {ns : LP} {g : Int → BoardT} {sz : Int → Int} {r : RulesT} {P D Z n : Int} (hI : PI ns g sz r P D Z) (p0 : 0 ≤ P) (p1 : P ≤ 1) (hD : D ≤ 80000) (h0 : 0 ≤ n) (h1 : n < ns.length) (hk : (pks ns n).length = 0) (hr0 : resV r (g n).2.1 = 0)
  (hp : 0 < (pn ns n).2.2.1) (hd : 0 < (pn ns n).2.2.2.1) {ms : LMv} (hg : IsGen r (g n).2.1 ms) (hm0 : 0 < ms.length) :
  PI (pX ns n (g n) ms P) (gxP ns g n ms) (sxP ns sz) r P (D + 1) Z ∧ (∀ i : Int, 0 ≤ i → i < ns.length → i ≠ n → pn (pX ns n (g n) ms P) i = pn ns i) ∧
  (pks (pX ns n (g n) ms P) n).length = ms.length ∧ (∀ j : Int, 0 ≤ j → j < ms.length → pkid (pX ns n (g n) ms P) n j = ns.length + j) ∧ (pX ns n (g n) ms P).length = ns.length + ms.length := by
 obtain ⟨hb, hl, hbr⟩ := hI.bo n h0 h1
 have hmo := fun (j : Int) (j0 : 0 ≤ j) (j1 : j < ms.length) => gen_move hb hbr hg j0 j1
 have hsl := psm_len ns n ms
 have hnd : ∀ i : Int, 0 ≤ i → pn (pX ns n (g n) ms P) i = if i = n then (ms, ((List.range ms.length).map (fun j : Nat => (ns.length : Int) + (j : Int)), ((pn ns n).2.2.1, ((pn ns n).2.2.2.1, true)))) else if i < ns.length then pn ns i else gD zPN ((List.range ms.length).map (lfn (g n) ms P)) (i - ns.length) := fun i hi => by
  unfold pX
  rw [exP_nd h0 (by omega) hi, hsl, psm_nd h0 h1 h0, if_pos rfl, psm_nd h0 h1 hi]
  by_cases e : i = n
  ·rw [if_pos e, if_pos e]
  ·rw [if_neg e, if_neg e, if_neg e]
 have hlen : (pX ns n (g n) ms P).length = ns.length + ms.length := by unfold pX; rw [exP_len, hsl]
 generalize pX ns n (g n) ms P = X at *
 have kn : pks X n = (List.range ms.length).map (fun j : Nat => (ns.length : Int) + (j : Int)) := by unfold pks; rw [hnd n h0, if_pos rfl]
 have knl : (pks X n).length = ms.length := by rw [kn]; simp
 have kk : ∀ j : Int, 0 ≤ j → j < ms.length → pkid X n j = ns.length + j := fun j j0 j1 => by
  unfold pkid
  rw [kn, pgD_range j0 j1]
  omega
 have hold : ∀ i : Int, 0 ≤ i → i < ns.length → i ≠ n → pn X i = pn ns i := fun i hi hil ne => by rw [hnd i hi, if_neg ne, if_pos hil]
 have hnew : ∀ i : Int, (ns.length : Int) ≤ i → i < ns.length + ms.length → pn X i = ([], ([], lfv (resV (makeB (g n) (gD z0 ms (i - ns.length))).1 (makeB (g n) (gD z0 ms (i - ns.length))).2.1) P)) := fun i hi hil => by
  rw [hnd i (by omega), if_neg (by omega), if_neg (by omega), pgD_range (by omega) (by omega)]
  unfold lfn
  rw [show (((i - (ns.length : Int)).toNat : Nat) : Int) = i - ns.length by omega]
 have ko : ∀ i : Int, 0 ≤ i → i < ns.length → i ≠ n → pks X i = pks ns i := fun i hi hil ne => by unfold pks; rw [hold i hi hil ne]
 have kz : ∀ i : Int, (ns.length : Int) ≤ i → i < ns.length + ms.length → (pks X i).length = 0 := fun i hi hil => by unfold pks; rw [hnew i hi hil]; rfl
 have kq : ∀ i j : Int, 0 ≤ i → i < ns.length → i ≠ n → pkid X i j = pkid ns i j := fun i j hi hil ne => by unfold pkid; rw [ko i hi hil ne]
 have gold : ∀ i : Int, i < ns.length → gxP ns g n ms i = g i := fun i hi => by unfold gxP; rw [if_pos hi]
 have gnew : ∀ i : Int, (ns.length : Int) ≤ i → gxP ns g n ms i = makeB (g n) (gD z0 ms (i - ns.length)) := fun i hi => by unfold gxP; rw [if_neg (by omega)]
 have hnn : ∀ i : Int, (ns.length : Int) ≤ i → i < ns.length + ms.length → BOk (gxP ns g n ms i) := fun i a b => by
  rw [gnew i a]
  exact make_ok hb (by omega) (hmo (i - ns.length) (by omega) (by omega)).2
 refine ⟨⟨fun i a b => ?_, fun i a b => ?_, fun i a b => ?_, fun i a b => ?_, fun i j a b c e => ?_, fun i j i' j' a b c e a' b' c' e' => ?_⟩, hold, knl, kk, hlen⟩
 ·by_cases hi : i < ns.length
  ·rw [gold i hi]
   have := hI.bo i a hi
   exact ⟨this.1, by omega, this.2.2⟩
  ·refine ⟨hnn i (by omega) (by omega), ?_, ?_⟩
   ·rw [gnew i (by omega), makeB_pl]; omega
   ·rw [gnew i (by omega)]; exact hbr
 ·unfold sxP
  by_cases hi : i < ns.length
  ·rw [if_pos hi]
   have := hI.tri i a hi
   by_cases e : i = n
   ·subst e
    rw [hnd i a, if_pos rfl]
    exact this
   ·rw [hold i a hi e]
    exact this
  ·rw [if_neg hi, hnew i (by omega) (by omega)]
   have := hI.tri n h0 h1
   exact ⟨lfv_tri _ _, Int.le_refl _, by omega⟩
 ·unfold na nb
  by_cases hi : i < ns.length
  ·rw [gold i hi]
   by_cases e : i = n
   ·subst e
    rw [hnd i a, if_pos rfl]
    dsimp only
    refine ⟨fun h => ?_, fun h => ?_⟩
    ·cases ho : ownB P (g i) <;> (rw [ho] at h; simp only [cond_true, cond_false] at h; omega)
    ·cases ho : ownB P (g i) <;> (rw [ho] at h; simp only [cond_true, cond_false] at h; omega)
   ·rw [hold i a hi e]
    exact hI.wn i a hi
  ·have hbi := hnn i (by omega) (by omega)
   have hw := leaf_wn hbi p0 p1
   rw [hnew i (by omega) (by omega)]
   rw [gnew i (by omega)] at hw ⊢
   have hr2 : (makeB (g n) (gD z0 ms (i - ns.length))).1 = r := hbr
   rw [hr2] at hw ⊢
   exact hw
 ·by_cases hi : i < ns.length
  ·rw [gold i hi]
   by_cases e : i = n
   ·subst e
    rw [knl, hnd i a, if_pos rfl]
    exact .inr (.inr ⟨rfl, hm0, rfl, hg, hr0⟩)
   ·rw [ko i a hi e, hold i a hi e]
    exact hI.ex i a hi
  ·have hr2 : (makeB (g n) (gD z0 ms (i - ns.length))).1 = r := hbr
   rw [kz i (by omega) (by omega), hnew i (by omega) (by omega), gnew i (by omega), hr2]
   rcases lfv_ex (resV r (makeB (g n) (gD z0 ms (i - ns.length))).2.1) P with ⟨h1, h2⟩ | ⟨h1, h2⟩
   ·exact .inl ⟨h1, rfl, h2⟩
   ·exact .inr (.inl ⟨h1, rfl, h2⟩)
 ·by_cases hi : i < ns.length
  ·by_cases e' : i = n
   ·subst e'
    rw [knl] at e
    rw [kk j c e, hlen, gnew _ (by omega), gold i hi, hnd i a, if_pos rfl, show ((ns.length : Int) + j - ns.length) = j by omega]
    exact ⟨by omega, by omega, rfl⟩
   ·rw [ko i a hi e'] at e
    obtain ⟨x, y, z⟩ := hI.kd i j a hi c e
    rw [kq i j a hi e', hlen, gold _ y, gold i hi, hold i a hi e']
    exact ⟨x, by omega, z⟩
  ·rw [kz i (by omega) (by omega)] at e
   omega
 ·have big : ∀ i j : Int, 0 ≤ i → i < ns.length + ms.length → i ≠ n → 0 ≤ j → j < (pks X i).length → i < ns.length ∧ j < (pks ns i).length ∧ pkid X i j = pkid ns i j ∧ pkid X i j < ns.length := fun i j a b ne c e => by
   by_cases hil : i < ns.length
   ·rw [ko i a hil ne] at e
    have hk := kq i j a hil ne
    exact ⟨hil, e, hk, by rw [hk]; exact (hI.kd i j a hil c e).2.1⟩
   ·rw [kz i (by omega) b] at e
    omega
  by_cases hi : i = n
  ·subst hi
   by_cases hi' : i' = i
   ·subst hi'
    rw [knl] at e e'
    rw [kk j c e, kk j' c' e']
    intro h
    exact ⟨rfl, by omega⟩
   ·have := big i' j' a' (by omega) hi' c' e'
    rw [knl] at e
    rw [kk j c e]
    intro h
    omega
  ·have hb1 := big i j a (by omega) hi c e
   by_cases hi' : i' = n
   ·subst hi'
    rw [knl] at e'
    rw [kk j' c' e']
    intro h
    omega
   ·have hb2 := big i' j' a' (by omega) hi' c' e'
    rw [hb1.2.2.1, hb2.2.2.1]
    exact hI.un i j i' j' a hb1.1 c hb1.2.1 a' hb2.1 c' hb2.2.1
structure PPo (ns ns' : LP) (g g' : Int → BoardT) (sz sz' : Int → Int) (r : RulesT) (P n D Z : Int) : Prop where
 inv : PI ns' g' sz' r P D Z
 len : ns.length ≤ ns'.length
 gg : ∀ i : Int, 0 ≤ i → i < ns.length → g' i = g i
 lo : ∀ i : Int, 0 ≤ i → i < n → pn ns' i = pn ns i ∧ sz' i = sz i
 sib : ∀ p j : Int, 0 ≤ p → p < n → 0 ≤ j → j < (pks ns p).length → pkid ns p j ≠ n → pn ns' (pkid ns p j) = pn ns (pkid ns p j) ∧ sz' (pkid ns p j) = sz (pkid ns p j)
 zn : sz' n ≤ sz n + 8192
 ag : ∀ i : Int, 0 ≤ i → i < ns'.length → (∀ j : Int, 0 ≤ j → j < (pks ns' i).length → pkid ns' i j ≠ n) → Ag ns' g' sz' P i
theorem Ag.nil {ns : LP} {g : Int → BoardT} {sz : Int → Int} {P i : Int} (h : (pks ns i).length = 0) (hz : 0 ≤ sz i) : Ag ns g sz P i := by
 refine ⟨fun c => by omega, fun c => by omega, ?_⟩
 rw [h]
 exact hz
theorem pstep_of {N : Nat} (hN : 200000001 ≤ N) {ns : LP} {g : Int → BoardT} {sz : Int → Int} {r : RulesT} {P D Z n many : Int} (hI : PI ns g sz r P D Z) (hA : ∀ i : Int, 0 ≤ i → i < ns.length → Ag ns g sz P i) (p0 : 0 ≤ P) (p1 : P ≤ 1) (hD : D ≤ 80000) (hZ : Z + 8192 < NV) (hm0 : 0 ≤ many) (hm1 : many ≤ 1000000)
  (h0 : 0 ≤ n) (h1 : n < ns.length) (hp : 0 < (pn ns n).2.2.1) (hd : 0 < (pn ns n).2.2.2.1)
  (hs : ∀ j : Int, 0 ≤ j → j < (pks ns n).length → 0 < (pn ns (pkid ns n j)).2.2.1 → 0 < (pn ns (pkid ns n j)).2.2.2.1 → ∃ ns' g' sz', Q41 N (g (pkid ns n j), (P, many)) (ns, pkid ns n j) = some ((g (pkid ns n j), (P, many + 1)), (ns', pkid ns n j)) ∧ PPo ns ns' g g' sz sz' r P (pkid ns n j) (D + 1) (Z + 8192)) :
  ∃ ns' g' sz', Q41 (N + 1) (g n, (P, many)) (ns, n) = some ((g n, (P, many + 1)), (ns', n)) ∧ PPo ns ns' g g' sz sz' r P n (D + 1) (Z + 8192) := by
 obtain ⟨hb, hl, hbr⟩ := hI.bo n h0 h1
 have hzn := hI.tri n h0 h1
 rw [pstep_e]
 unfold Q39 Q39.e
 dsimp only
 rw [ob, leI_t h0, chk_true, show eqI (g n).2.1.2.2.1 P = ownB P (g n) from rfl]
 by_cases hk : (pks ns n).length = 0
 ·
  have hex : (pn ns n).2.2.2.2 = false ∧ resV r (g n).2.1 = 0 := by
   rcases hI.ex n h0 h1 with h | h | h
   ·exact ⟨h.1, h.2.2⟩
   ·omega
   ·omega
  obtain ⟨ms, hms, _, hgen⟩ := bmoves_ret (N := N) (by omega) hb
  rw [hbr] at hgen
  have hg := hgen hex.2
  have hm8 := hg.len
  have hmpos : 0 < ms.length := by
   have hc := cand_ne (hbr ▸ hb.r) (hbr ▸ hb.p) hex.2
   cases hcl : cand r (g n).2.1 with
   | nil => exact absurd hcl hc
   | cons m c => exact List.length_pos_of_mem ((hg.mem m).2 (by rw [hcl]; exact List.mem_cons_self ..))
  obtain ⟨hI1, hold, hkl, hkk, hlen⟩ := pX_inv hI p0 p1 hD h0 h1 hk hex.2 hp hd hg hmpos
  have hexp : Q65 N (g n, (P, many)) (ns, n) = some ((g n, (P, many + 1)), (pX ns n (g n) ms P, n)) := by
   rw [pex_e]
   dsimp only
   rw [hms, ob, leI_t h0, chk_true, chk_true, chk_true, w64_id (by omega) (by omega)]
   rw [show (pset ns n fun v => (v.1, (v.2.1, true))).set n.toNat (ms, (pn (pset ns n fun v => (v.1, (v.2.1, true))) n).2) = psm ns n ms from rfl]
   have e1 : (pn (psm ns n ms) n).1 = ms := by rw [psm_nd h0 h1 h0, if_pos rfl]
   have := pexL_ok (N := N) (by omega) (g n, (P, many)) ns (ns := psm ns n ms) h0 (by rw [psm_len]; exact h1) hb (by omega) (P := P) (many := many + 1) p0 p1 (ms := ms) (fun j j0 j1 => (gen_move hb hbr hg j0 j1).2) hm8 ms.length N 0 (by omega) (by omega)
   rw [psm_zero h0 h1 hk] at this
   rw [e1]
   exact this
  rw [hex.1, bif_f (by rfl), hexp, ob]
  dsimp only
  have gn : gxP ns g n ms n = g n := by unfold gxP; rw [if_pos h1]
  generalize hX : pX ns n (g n) ms P = X at *
  have h1' : n < X.length := by omega
  have hup := pu_ok (N := N) (by omega) X n (ownB P (g n)) h0 h1' (fun i i0 i1 => by rw [hkk i i0 (by omega)]; omega) (by omega) (fun o i i0 i1 => by
   obtain ⟨t1, t2, t3⟩ := kid_tri hI1 h0 h1' i0 i1 o
   exact ⟨(t1.range (by omega)).1, (t1.range (by omega)).2.1⟩)
  rw [hup, ob]
  have hsum : sumI (fun j => sxP ns sz (pkid X n j)) (pks X n).length = ms.length := by
   rw [hkl]
   refine sumF_one fun j j0 j1 => ?_
   rw [hkk j j0 j1]
   unfold sxP
   rw [if_neg (by omega)]
  obtain ⟨hI2, hA2, hA3⟩ := pup_inv (hI1.mono (Int.le_refl _) (show Z ≤ Z + 8192 by omega)) p0 p1 h0 h1' (by omega) (S := sz n + 8192) (by rw [hsum]; omega) (by omega) (by omega) hZ
  rw [gn] at hI2 hA2 hA3
  have hlen2 := pup_len h0 h1' (ownB P (g n))
  refine ⟨pup X n (ownB P (g n)), gxP ns g n ms, szu (sxP ns sz) n (sz n + 8192), rfl, hI2, by omega, fun i a b => ?_, fun i a b => ?_, fun p j a b c e ne => ?_, ?_, fun i a b hnk => ?_⟩
  ·unfold gxP; rw [if_pos b]
  ·refine ⟨?_, ?_⟩
   ·rw [pup_ne h0 h1' _ a (by omega), hold i a (by omega) (by omega)]
   ·unfold szu sxP
    rw [if_neg (by omega), if_pos (by omega)]
  ·obtain ⟨k0, k1, _⟩ := hI.kd p j a (by omega) c e
   refine ⟨?_, ?_⟩
   ·rw [pup_ne h0 h1' _ (by omega) ne, hold _ (by omega) k1 ne]
   ·unfold szu sxP
    rw [if_neg ne, if_pos k1]
  ·unfold szu
   rw [if_pos rfl]
   exact Int.le_refl _
  ·by_cases e : i = n
   ·subst e; exact hA2
   ·have hks := pup_ks h0 h1' (ownB P (g n)) a
    rw [hks.1] at hnk
    refine hA3 i a (by omega) e (fun j j0 j1 => by have := hnk j j0 j1; rw [pup_kid h0 h1' _ a] at this; exact this) ?_
    by_cases hil : i < ns.length
    ·have hag := hA i a hil
     have eo := hold i a hil e
     have ek : pks X i = pks ns i := by unfold pks; rw [eo]
     have ekd : ∀ j, pkid X i j = pkid ns i j := fun j => by unfold pkid; rw [ek]
     have egi : gxP ns g n ms i = g i := by unfold gxP; rw [if_pos hil]
     have hkid : ∀ j : Int, 0 ≤ j → j < (pks ns i).length → pn X (pkid X i j) = pn ns (pkid ns i j) ∧ sxP ns sz (pkid X i j) = sz (pkid ns i j) := fun j j0 j1 => by
      obtain ⟨k0, k1, _⟩ := hI.kd i j a hil j0 j1
      have hne := hnk j j0 (by rw [ek]; exact j1)
      rw [pup_kid h0 h1' _ a, ekd] at hne
      rw [ekd]
      refine ⟨hold _ (by omega) k1 hne, ?_⟩
      unfold sxP
      rw [if_pos k1]
     refine ⟨fun c => ?_, fun c => ?_, ?_⟩
     ·rw [ek] at c ⊢
      have := hag.a c
      unfold na at this ⊢
      rw [egi, eo, this]
      exact leastF_ext fun j j0 j1 => (ka_ext (hkid j j0 j1).1 _).symm
     ·rw [ek] at c ⊢
      have := hag.b c
      unfold nb at this ⊢
      rw [egi, eo, this]
      exact csumF_ext fun j j0 j1 => (ka_ext (hkid j j0 j1).1 _).symm
     ·rw [ek]
      refine Int.le_trans (Int.le_of_eq (sumF_ext fun j j0 j1 => (hkid j j0 j1).2)) (Int.le_trans hag.s (Int.le_of_eq ?_))
      unfold sxP
      rw [if_pos hil]
    ·refine Ag.nil ?_ ?_
     ·have hcase := hI1.ex i a (by omega)
      rcases hcase with h | h | h
      ·exact h.2.1
      ·exact h.2.1
      ·exfalso
       obtain ⟨k0, k1, _⟩ := hI1.kd i 0 a (by omega) (Int.le_refl _) (by omega)
       have e2 : pn X i = lfn (g n) ms P (i - ns.length).toNat := by
        rw [← hX]
        unfold pX
        rw [exP_nd h0 (by rw [psm_len]; exact h1) a, if_neg e, if_neg (by rw [psm_len]; exact hil), psm_len, pgD_range (by omega) (by omega)]
       have : (pks X i).length = 0 := by unfold pks; rw [e2]; rfl
       omega
     ·unfold sxP; rw [if_neg hil]; decide
 ·
  have hkp : 0 < (pks ns n).length := by omega
  obtain ⟨hxe, hml, hg, hr0⟩ := kid_mv hI h0 h1 hkp
  have hm8 := hg.len
  rw [hxe, bif_t rfl]
  obtain ⟨j, e, j0, j1, hj⟩ := ppick_ok N ns n (ownB P (g n)) h0 (fun i i0 i1 => by have := (hI.kd n i h0 h1 i0 i1).1; omega) (by omega) (by omega) hkp
  obtain ⟨k0, k1, kg⟩ := hI.kd n j h0 h1 j0 j1
  have hmo := (gen_move hb hbr hg j0 (by omega)).2
  have hag := hA n h0 h1
  have hopen := pick_open (fun i i0 i1 => (kid_tri hI h0 h1 i0 i1 (ownB P (g n))).1) (fun i i0 i1 => by have := (kid_tri hI h0 h1 i0 i1 true).2.2; omega)
   (by rw [← hag.a hkp]; unfold na; cases ownB P (g n) <;> assumption) (by rw [← hag.b hkp]; unfold nb; cases ownB P (g n) <;> assumption) j0 j1 hj
  have hopen2 : 0 < (pn ns (pkid ns n j)).2.2.1 ∧ 0 < (pn ns (pkid ns n j)).2.2.2.1 := by
   unfold ka at hopen
   cases ho : ownB P (g n) with
   | true => rw [ho] at hopen; exact hopen
   | false => rw [ho] at hopen; exact ⟨hopen.2, hopen.1⟩
  obtain ⟨ns1, g1, sz1, e2, hP⟩ := hs j j0 j1 hopen2.1 hopen2.2
  rw [e, ob]
  dsimp only
  rw [chk_true, chk_idx j0 (by omega), make_eq hb (by omega) hmo, ob, chk_true, chk_idx j0 (show j < ((pn ns n).2.1.length : Int) from j1), eqI_self, chk_true, ← kg]
  rw [show gD (-1 : Int) (pn ns n).2.1 j = pkid ns n j from rfl, e2, ob, kg, undo_make hb (by omega) hmo, ob]
  dsimp only
  have h1' : n < ns1.length := by have := hP.len; omega
  have en := (hP.lo n h0 k0).1
  have ek : pks ns1 n = pks ns n := by unfold pks; rw [en]
  have ekd : ∀ a, pkid ns1 n a = pkid ns n a := fun a => by unfold pkid; rw [ek]
  have eg : g1 n = g n := hP.gg n h0 h1
  have hup := pu_ok (N := N) (by omega) ns1 n (ownB P (g n)) h0 h1' (fun i i0 i1 => by rw [ek] at i1; rw [ekd]; have := (hI.kd n i h0 h1 i0 i1).1; omega) (by rw [ek]; omega) (fun o i i0 i1 => by
   obtain ⟨t1, t2, t3⟩ := kid_tri hP.inv h0 h1' i0 i1 o
   exact ⟨(t1.range (by omega)).1, (t1.range (by omega)).2.1⟩)
  rw [hup, ob]
  have hsum : sumI (fun i => sz1 (pkid ns1 n i)) (pks ns1 n).length ≤ sz n + 8192 := by
   rw [ek]
   have h3 := sumF_grow (z := fun i => sz (pkid ns n i)) (z' := fun i => sz1 (pkid ns1 n i)) (i := j) (d := 8192) (by omega) (by rw [ekd]; exact hP.zn) (M := (pks ns n).length) (fun i i0 i1 ne => by
    rw [ekd]
    refine (hP.sib n i h0 k0 i0 i1 fun e => ?_).2
    exact ne (hI.un n i n j h0 h1 i0 i1 h0 h1 j0 j1 e).2)
   have h4 := hag.s
   rw [if_pos ⟨j0, j1⟩] at h3
   omega
  obtain ⟨hI2, hA2, hA3⟩ := pup_inv hP.inv p0 p1 h0 h1' (by rw [ek]; exact hkp) (S := sz n + 8192) hsum (by omega) (by omega) hZ
  rw [eg] at hI2 hA2 hA3
  have hlen2 := pup_len h0 h1' (ownB P (g n))
  have hl3 := hP.len
  refine ⟨pup ns1 n (ownB P (g n)), g1, szu sz1 n (sz n + 8192), rfl, hI2, by omega, hP.gg, fun i a b => ?_, fun p i a b c e' ne => ?_, ?_, fun i a b hnk => ?_⟩
  ·rw [pup_ne h0 h1' _ a (by omega)]
   unfold szu
   rw [if_neg (by omega)]
   exact hP.lo i a (by omega)
  ·obtain ⟨q0, q1, _⟩ := hI.kd p i a (by omega) c e'
   rw [pup_ne h0 h1' _ (by omega) ne]
   unfold szu
   rw [if_neg ne]
   refine hP.sib p i a (by omega) c e' fun e3 => ?_
   have := (hI.un p i n j a (by omega) c e' h0 h1 j0 j1 e3).1
   omega
  ·unfold szu
   rw [if_pos rfl]
   exact Int.le_refl _
  ·by_cases e3 : i = n
   ·subst e3; exact hA2
   ·have hks := pup_ks h0 h1' (ownB P (g n)) a
    rw [hks.1] at hnk
    refine hA3 i a (by omega) e3 (fun t t0 t1 => by have := hnk t t0 t1; rw [pup_kid h0 h1' _ a] at this; exact this) ?_
    refine hP.ag i a (by omega) fun t t0 t1 e4 => ?_
    have := (hP.inv.un i t n j a (by omega) t0 t1 h0 h1' j0 (by rw [ek]; exact j1) (by rw [e4, ekd])).1
    exact e3 this
theorem pstep_ok : ∀ (h : Nat) {N : Nat} {ns : LP} {g : Int → BoardT} {sz : Int → Int} {r : RulesT} {P D Z n many : Int}, 200000002 + h ≤ N → PI ns g sz r P D Z → (∀ i : Int, 0 ≤ i → i < ns.length → Ag ns g sz P i) → 0 ≤ P → P ≤ 1 → D ≤ 80000 → Z + 8192 < NV → 0 ≤ many → many ≤ 1000000 →
  0 ≤ n → n < ns.length → 0 < (pn ns n).2.2.1 → 0 < (pn ns n).2.2.2.1 → D ≤ (g n).2.2.2.length + h →
  ∃ ns' g' sz', Q41 N (g n, (P, many)) (ns, n) = some ((g n, (P, many + 1)), (ns', n)) ∧ PPo ns ns' g g' sz sz' r P n (D + 1) (Z + 8192) := by
 intro h
 induction h with
 | zero =>
  intro N ns g sz r P D Z n many hN hI hA p0 p1 hD hZ m0 m1 h0 h1 hp hd hh
  obtain ⟨N, rfl⟩ : ∃ a, N = a + 1 := ⟨N - 1, by omega⟩
  refine pstep_of (by omega) hI hA p0 p1 hD hZ m0 m1 h0 h1 hp hd fun j j0 j1 _ _ => ?_
  obtain ⟨k0, k1, kg⟩ := hI.kd n j h0 h1 j0 j1
  have := (hI.bo _ (by omega) k1).2.1
  rw [kg, makeB_pl] at this
  omega
 | succ h ih =>
  intro N ns g sz r P D Z n many hN hI hA p0 p1 hD hZ m0 m1 h0 h1 hp hd hh
  obtain ⟨N, rfl⟩ : ∃ a, N = a + 1 := ⟨N - 1, by omega⟩
  refine pstep_of (by omega) hI hA p0 p1 hD hZ m0 m1 h0 h1 hp hd fun j j0 j1 hp' hd' => ?_
  obtain ⟨k0, k1, kg⟩ := hI.kd n j h0 h1 j0 j1
  refine ih (by omega) hI hA p0 p1 hD hZ m0 m1 (by omega) k1 hp' hd' ?_
  rw [kg, makeB_pl]
  omega
end
end Go.Proofs.Ytnddjmhpofhfjaa.Am
set_option linter.unusedVariables false
set_option linter.unusedSimpArgs false
set_option linter.unusedSectionVars false
namespace Go.Proofs.Ytnddjmhpofhfjaa.Am
open Go
noncomputable section
inductive Pst (N : Nat) (b : BoardT) (P : Int) : Nat → LP → Prop
 | z : Pst N b P 0 [([], ([], lfv (resV b.1 b.2.1) P))]
 | s {t : Nat} {ns ns' : LP} : Pst N b P t ns → 0 < (pn ns 0).2.2.1 → 0 < (pn ns 0).2.2.2.1 → Q41 N (b, (P, (t : Int))) (ns, 0) = some ((b, (P, (t : Int) + 1)), (ns', 0)) → Pst N b P (t + 1) ns'
theorem Pst.eq {N : Nat} {b : BoardT} {P : Int} : ∀ {t : Nat} {ns ns' : LP}, Pst N b P t ns → Pst N b P t ns' → ns = ns'
 | 0, _, _, .z, .z => rfl
 | t + 1, _, _, .s h _ _ e, .s h' _ _ e' => by
  obtain rfl := Pst.eq h h'
  rw [e] at e'
  simp only [Option.some.injEq, Prod.mk.injEq] at e'
  exact e'.2.1
theorem Pst.before {N : Nat} {b : BoardT} {P : Int} : ∀ {t : Nat} {ns : LP}, Pst N b P t ns → ∀ k, k < t → ∃ ns', Pst N b P k ns' ∧ 0 < (pn ns' 0).2.2.1 ∧ 0 < (pn ns' 0).2.2.2.1
 | t + 1, _, .s h hp hd e, k, hk => by
  by_cases c : k = t
  ·subst c; exact ⟨_, h, hp, hd⟩
  ·exact h.before k (by omega)
structure Pgs (b : BoardT) (P : Int) (t : Nat) (ns : LP) : Prop where
 inv : ∃ g sz, g 0 = b ∧ PI ns g sz b.1 P t (1 + 8192 * (t : Int)) ∧ ∀ i : Int, 0 ≤ i → i < ns.length → Ag ns g sz P i
 len : 0 < ns.length
theorem Pgs.z {b : BoardT} (hb : BOk b) (hl : b.2.2.2.length = 0) {P : Int} (p0 : 0 ≤ P) (p1 : P ≤ 1) : Pgs b P 0 [([], ([], lfv (resV b.1 b.2.1) P))] := by
 have hn : pn [([], ([], lfv (resV b.1 b.2.1) P))] 0 = ([], ([], lfv (resV b.1 b.2.1) P)) := rfl
 have h0 : ∀ i : Int, 0 ≤ i → i < (([([], ([], lfv (resV b.1 b.2.1) P))] : LP).length : Int) → i = 0 := fun i a b => by simp at b; omega
 have hk : (pks [([], ([], lfv (resV b.1 b.2.1) P))] 0).length = 0 := rfl
 refine ⟨⟨fun _ => b, fun _ => 1, rfl, ⟨fun i a b => ⟨hb, by omega, rfl⟩, fun i a b => ?_, fun i a b => ?_, fun i a b => ?_, fun i j a b c e => ?_, fun i j i' j' a b c e => ?_⟩, fun i a b => ?_⟩, by simp⟩
 ·rw [h0 i a b, hn]
  exact ⟨lfv_tri _ _, Int.le_refl _, by omega⟩
 ·rw [h0 i a b]
  exact leaf_wn hb p0 p1
 ·rw [h0 i a b, hn, hk]
  rcases lfv_ex (resV _ _) P with ⟨h1, h2⟩ | ⟨h1, h2⟩
  ·exact .inl ⟨h1, rfl, h2⟩
  ·exact .inr (.inl ⟨h1, rfl, h2⟩)
 ·rw [h0 i a b, hk] at e; omega
 ·rw [h0 i a b, hk] at e; omega
 ·rw [h0 i a b]
  exact Ag.nil hk (by decide)
theorem Pgs.s {N : Nat} (hN : 200000200 ≤ N) {b : BoardT} {P : Int} (p0 : 0 ≤ P) (p1 : P ≤ 1) (hl : b.2.2.2.length = 0) {t : Nat} (ht : t ≤ 100) {ns : LP} (hG : Pgs b P t ns) (hp : 0 < (pn ns 0).2.2.1) (hd : 0 < (pn ns 0).2.2.2.1) :
  ∃ ns', Q41 N (b, (P, (t : Int))) (ns, 0) = some ((b, (P, (t : Int) + 1)), (ns', 0)) ∧ Pgs b P (t + 1) ns' := by
 obtain ⟨⟨g, sz, g0, hI, hA⟩, hlen⟩ := hG
 obtain ⟨ns', g', sz', e, hP⟩ := pstep_ok t (N := N) (n := 0) (many := (t : Int)) (by omega) hI hA p0 p1 (by omega) (by have hNV : NV = 1099511627776 := rfl; omega) (by omega) (by omega) (Int.le_refl _) (by omega) hp hd (by rw [g0, hl]; omega)
 rw [g0] at e
 refine ⟨ns', e, ⟨g', sz', by rw [hP.gg 0 (Int.le_refl _) (by omega), g0], hP.inv.mono (by omega) (by omega), fun i a b => hP.ag i a b fun j j0 j1 => ?_⟩, by have := hP.len; omega⟩
 have := (hP.inv.kd i j a b j0 j1).1
 omega
theorem Pgs.tri {b : BoardT} {P : Int} {t : Nat} {ns : LP} (h : Pgs b P t ns) : Tri (pn ns 0).2.2.1 (pn ns 0).2.2.2.1 (1 + 8192 * (t : Int)) := by
 obtain ⟨⟨g, sz, g0, hI, hA⟩, hlen⟩ := h
 have := hI.tri 0 (Int.le_refl _) (by omega)
 exact this.1.mono this.2.2
theorem Pgs.wn {b : BoardT} {P : Int} {t : Nat} {ns : LP} (h : Pgs b P t ns) (ho : b.2.1.2.2.1 = P) : ((pn ns 0).2.2.1 = 0 → posV b.1 b.2.1) ∧ ((pn ns 0).2.2.2.1 = 0 → negV b.1 b.2.1) := by
 obtain ⟨⟨g, sz, g0, hI, hA⟩, hlen⟩ := h
 have := hI.wn 0 (Int.le_refl _) (by omega)
 unfold na nb ownB at this
 rw [g0, eqI_t ho] at this
 exact this
abbrev TRs := Int × (Int × (Int × Int))
def proveL (N : Nat) (r : TRules) (p : TPos) (budget : Int) (n : Nat) (P many : Int) (b : TBoard) (nodes : LP) : Option (TRs × Int) :=
 Q19.l0 N r p budget n b.1.1 b.1.2.1 b.1.2.2.1 b.1.2.2.2.2.2.1 b.1.2.2.2.2.2.2.1 b.1.2.2.2.2.2.2.2.2.1 b.1.2.2.2.2.2.2.2.2.2.1 b.1.2.2.2.2.2.2.2.2.2.2 b.2.1.2.2.1 b.2.1.2.2.2 b.2.2.1 P many b.1.2.2.2.1 b.1.2.2.2.2.1 b.1.2.2.2.2.2.2.2.1 b.2.1.1 b.2.1.2.1.1 b.2.1.2.1.2 b.2.2.2 nodes
def finP (ns : LP) (many : Int) : Option (TRs × Int) :=
 bif (eqI (pn ns 0).2.2.1 0) then some ((0, ((pn ns 0).2.2.1, ((pn ns 0).2.2.2.1, many))), 0)
 else bif (eqI (pn ns 0).2.2.2.1 0) then some ((1, ((pn ns 0).2.2.1, ((pn ns 0).2.2.2.1, many))), 0)
 else some ((2, ((pn ns 0).2.2.1, ((pn ns 0).2.2.2.1, many))), 0)
theorem proveL_s (N : Nat) (r : TRules) (p : TPos) (budget : Int) (n : Nat) (P many : Int) (b : TBoard) (ns : LP) : proveL N r p budget (n + 1) P many b ns =
  bif (ltI 0 (pn ns 0).2.2.1) then (bif (ltI 0 (pn ns 0).2.2.2.1) then (bif (ltI many budget) then ((Q41 N (b, (P, many)) (ns, 0)).bind fun y => proveL N r p budget n y.1.2.1 y.1.2.2 y.1.1 y.2.1) else finP ns many) else finP ns many) else finP ns many := rfl
theorem prove_e (N : Nat) (r : TRules) (p : TPos) (budget : Int) : Q19 N r p budget = (Q20 N r p).bind fun y1 =>
 oCase y1.1 (bif (!(eqI y1.2 0)) then (some ((0, (0, (0, 0))), y1.2))
  else bif (ltI budget 0) then (some ((0, (0, (0, 0))), 1))
  else bif (ltI 5000 budget) then (some ((0, (0, (0, 0))), 1))
  else none) fun b2 =>
 bif (!(eqI y1.2 0)) then (some ((0, (0, (0, 0))), y1.2))
 else bif (ltI budget 0) then (some ((0, (0, (0, 0))), 1))
 else bif (ltI 5000 budget) then (some ((0, (0, (0, 0))), 1))
 else (Q39 N b2).bind fun y3 =>
 (Q40 N (b2, (y3, 0))).bind fun y4 =>
 proveL N r p budget N y4.2.2.1 y4.2.2.2 y4.2.1 [([], ([], y4.1.2.2))] := rfl
def stP (ns : LP) : Int := if (pn ns 0).2.2.1 = 0 then 0 else if (pn ns 0).2.2.2.1 = 0 then 1 else 2
theorem finP_eq (ns : LP) (many : Int) : finP ns many = some ((stP ns, ((pn ns 0).2.2.1, ((pn ns 0).2.2.2.1, many))), 0) := by
 unfold finP stP
 by_cases c : (pn ns 0).2.2.1 = 0
 ·rw [bif_t (eqI_t c), if_pos c]
 ·rw [bif_f (eqI_f c), if_neg c]
  by_cases c2 : (pn ns 0).2.2.2.1 = 0
  ·rw [bif_t (eqI_t c2), if_pos c2]
  ·rw [bif_f (eqI_f c2), if_neg c2]
theorem proveL_ok {N : Nat} (hN : 200000200 ≤ N) {b : BoardT} {P : Int} (p0 : 0 ≤ P) (p1 : P ≤ 1) (hl : b.2.2.2.length = 0) (r : RulesT) (p : PosT) {B : Nat} (hB : B ≤ 100) : ∀ (j n t : Nat) {ns : LP}, t + j = B → j < n → Pst N b P t ns → Pgs b P t ns →
  ∃ t' ns', Pst N b P t' ns' ∧ Pgs b P t' ns' ∧ t' ≤ B ∧ (t' = B ∨ (pn ns' 0).2.2.1 = 0 ∨ (pn ns' 0).2.2.2.1 = 0) ∧ proveL N r p B n P t b ns = some ((stP ns', ((pn ns' 0).2.2.1, ((pn ns' 0).2.2.2.1, (t' : Int)))), 0)
 | j, n, t, ns, ht, hn, hS, hG => by
  obtain ⟨n, rfl⟩ := nxt (n := n) (by omega)
  have hNV : NV = 1099511627776 := rfl
  have hr := hG.tri.range (by omega)
  rw [proveL_s]
  by_cases hp : 0 < (pn ns 0).2.2.1
  ·by_cases hd : 0 < (pn ns 0).2.2.2.1
   ·rw [bif_t (ltI_t hp), bif_t (ltI_t hd)]
    cases j with
    | zero =>
     rw [bif_f (ltI_f (by omega)), finP_eq]
     exact ⟨t, ns, hS, hG, by omega, .inl (by omega), rfl⟩
    | succ j =>
     obtain ⟨ns', e, hG'⟩ := hG.s hN p0 p1 hl (by omega) hp hd
     rw [bif_t (ltI_t (by omega)), e, ob]
     obtain ⟨t2, ns2, a1, a2, a3, a4, a5⟩ := proveL_ok hN p0 p1 hl r p hB j n (t + 1) (by omega) (by omega) (.s hS hp hd e) hG'
     refine ⟨t2, ns2, a1, a2, a3, a4, ?_⟩
     rw [← a5]
     rfl
   ·rw [bif_t (ltI_t hp), bif_f (ltI_f (by omega)), finP_eq]
    exact ⟨t, ns, hS, hG, by omega, .inr (.inr (by omega)), rfl⟩
  ·rw [bif_f (ltI_f (by omega)), finP_eq]
   exact ⟨t, ns, hS, hG, by omega, .inr (.inl (by omega)), rfl⟩
theorem prove_ok {N : Nat} (hN : 200000200 ≤ N) (r : RulesT) (p : PosT) :
  (∃ v, v ≠ 0 ∧ ¬ (ROk r ∧ POk r p) ∧ ∀ B : Nat, B ≤ 100 → Q19 N r p B = some ((0, (0, (0, 0))), v)) ∨
  (ROk r ∧ POk r p ∧ ∃ b : BoardT, b = (r, (p, (U (keyS p), []))) ∧ BOk b ∧ 0 ≤ p.2.2.1 ∧ p.2.2.1 ≤ 1 ∧ Q20 N r p = some (some b, 0) ∧ ∀ B : Nat, B ≤ 100 → ∃ t ns, Pst N b p.2.2.1 t ns ∧ Pgs b p.2.2.1 t ns ∧ t ≤ B ∧ (t = B ∨ (pn ns 0).2.2.1 = 0 ∨ (pn ns 0).2.2.2.1 = 0) ∧
   Q19 N r p B = some ((stP ns, ((pn ns 0).2.2.1, ((pn ns 0).2.2.2.1, (t : Int)))), 0)) := by
 obtain ⟨v, hv, hv2⟩ := pcheck (N := N) (by omega) r p
 by_cases h0 : v = 0
 ·obtain ⟨hr, hp⟩ := hv2.1 h0
  have hnew := new_good (N := N) (by omega) hr hp
  have hbk : BOk (r, (p, (U (keyS p), []))) := ⟨hr, hp, rfl⟩
  have ht := hp.last.1
  refine .inr ⟨hr, hp, _, rfl, hbk, by omega, by omega, hnew, fun B hB => ?_⟩
  have hP0 : 0 ≤ p.2.2.1 := by omega
  have hP1 : p.2.2.1 ≤ 1 := by omega
  obtain ⟨t', ns', a1, a2, a3, a4, a5⟩ := proveL_ok hN hP0 hP1 (b := (r, (p, (U (keyS p), [])))) rfl r p hB B N 0 (by omega) (by omega) .z (Pgs.z hbk rfl hP0 hP1)
  refine ⟨t', ns', a1, a2, a3, a4, ?_⟩
  rw [← a5, prove_e, hnew, ob]
  dsimp only [oCase]
  rw [bif_f (by rfl), bif_f (ltI_f (by omega)), bif_f (ltI_f (by omega))]
  unfold Q39 Q39.e
  rw [ob]
  dsimp only
  rw [leaf_eq (by omega) hbk hP0 hP1, ob]
  rfl
 ·refine .inl ⟨v, h0, fun h => h0 (hv2.2 h), fun B hB => ?_⟩
  rw [prove_e, new_bad hv h0, ob]
  dsimp only [oCase]
  rw [bif_t (by rw [eqI_f h0]; rfl)]
def pexM (N : Nat) (n_ : LP × Int) : Nat → LMv → Int → Int → Int → Int → TBoard → LP → Option (TXp × (LP × Int))
 | 0, _, _, _, _, _, _, _ => none
 | k + 1, ms, len, i, P, many, b, nodes => bif (ltI i len) then (chk ((leI 0 i) && (ltI i (ms.length : Int))) <|
   (Q47 N b (gD z0 ms i)).bind fun y5 => chk (leI 0 n_.2) <|
   pexB N n_ y5 P many nodes fun P many b ns => pexM N n_ k ms len (w64 (i + 1)) P many b ns)
  else some ((b, (P, many)), (nodes, n_.2))
theorem pexL_eq (N : Nat) (x : TXp) (n_ : LP × Int) : ∀ (k : Nat) (ms : LMv) (len i P many : Int) (b : TBoard) (nodes : LP), pexL N x n_ k ms len i P many b nodes = pexM N n_ k ms len i P many b nodes
 | 0, _, _, _, _, _, _, _ => rfl
 | k + 1, ms, len, i, P, many, b, nodes => by
  have ih := pexL_eq N x n_ k
  rw [pexL_s]
  simp only [bothK_same, ih]
  rfl
theorem pexp_eq (N : Nat) (x : TXp) (n_ : LP × Int) : Q65 N x n_ = chk (leI 0 n_.2) ((Q24 N x.1).bind fun y2 => chk (leI 0 n_.2) <| chk (leI 0 n_.2) <|
  pexM N n_ N (pn ((pset n_.1 n_.2 fun v => (v.1, (v.2.1, true))).set n_.2.toNat (y2, (pn (pset n_.1 n_.2 fun v => (v.1, (v.2.1, true))) n_.2).2)) n_.2).1 ((pn ((pset n_.1 n_.2 fun v => (v.1, (v.2.1, true))).set n_.2.toNat (y2, (pn (pset n_.1 n_.2 fun v => (v.1, (v.2.1, true))) n_.2).2)) n_.2).1.length : Int) 0 x.2.1 (w64 (x.2.2 + 1)) x.1
   ((pset n_.1 n_.2 fun v => (v.1, (v.2.1, true))).set n_.2.toNat (y2, (pn (pset n_.1 n_.2 fun v => (v.1, (v.2.1, true))) n_.2).2))) := by
 rw [pex_e]
 simp only [pexL_eq]
abbrev NA : Nat := 300000000
def aT : TRules := ((⟨#[84, 73, 67]⟩ : ByteArray), (3, (3, ([(65, (5, (0, [])))], ([0, 0, 0, 0, 0, 0, 0, 0, 0], (false, (false, ([(0, (0, (3, false)))], (2, (0, 0))))))))))
def aP : TPos := ([1, 1, 0, 2, 2, 0, 0, 0, 0], (([3], [3]), (0, 0)))
def aB : TBoard := (aT, (aP, (16825452458666462914, [])))
def aM : LMv := [(-1, (2, 0)), (-1, (5, 0)), (-1, (6, 0)), (-1, (7, 0)), (-1, (8, 0))]
def aX : LP := [(aM, ([1, 2, 3, 4, 5], (1, (1, true)))), ([], ([], (0, (NV, true)))), ([], ([], (1, (1, false)))), ([], ([], (1, (1, false)))), ([], ([], (1, (1, false)))), ([], ([], (1, (1, false))))]
def aY : LP := [(aM, ([1, 2, 3, 4, 5], (0, (NV, true)))), ([], ([], (0, (NV, true)))), ([], ([], (1, (1, false)))), ([], ([], (1, (1, false)))), ([], ([], (1, (1, false)))), ([], ([], (1, (1, false))))]
theorem a_three : Q6 NA = some aT := by kernel_rfl
theorem a_near : Q7 NA = some aP := by kernel_rfl
theorem a_new : Q20 NA aT aP = some (some aB, 0) := by kernel_rfl
theorem a_leaf : Q40 NA (aB, (0, 0)) = some (((), ((), (1, (1, false)))), (aB, (0, 0))) := by kernel_rfl
theorem a_exp : Q65 299999999 (aB, (0, 0)) ([([], ([], (1, (1, false))))], 0) = some ((aB, (0, 1)), (aX, 0)) := by
 rw [pexp_eq]
 kernel_rfl
theorem a_upd : Q66 299999999 (aX, 0) true = some (aY, 0) := by kernel_rfl
theorem a_step : Q41 NA (aB, (0, 0)) ([([], ([], (1, (1, false))))], 0) = some ((aB, (0, 1)), (aY, 0)) := by
 rw [show NA = 299999999 + 1 by decide, pstep_e]
 unfold Q39 Q39.e
 rw [ob]
 dsimp only
 rw [show (pn [([], ([], (1, (1, false))))] 0).2.2.2.2 = false from rfl, bif_f (by rfl), a_exp]
 rw [show leI 0 0 = true from rfl, chk_true, ob]
 dsimp only
 rw [show eqI aB.2.1.2.2.1 0 = true from rfl, a_upd]
 rfl
theorem a_prove : Q19 NA aT aP 10 = some ((0, (0, (NV, 1))), 0) := by
 rw [prove_e, a_new, ob]
 dsimp only [oCase]
 rw [bif_f (by rfl), bif_f (by rfl), bif_f (by rfl)]
 unfold Q39 Q39.e
 rw [ob, show aB.2.1.2.2.1 = 0 from rfl, a_leaf, ob]
 dsimp only
 rw [show proveL NA aT aP 10 NA = proveL NA aT aP 10 (299999999 + 1) by rw [show NA = 299999999 + 1 by decide], proveL_s, bif_t (by rfl), bif_t (by rfl), bif_t (by rfl), a_step, ob]
 dsimp only
 rw [show (299999999 : Nat) = 299999998 + 1 by decide, proveL_s, bif_f (by rfl)]
 rfl
end
end Go.Proofs.Ytnddjmhpofhfjaa.Am
set_option linter.unusedVariables false
set_option linter.unusedSimpArgs false
set_option linter.unusedSectionVars false
namespace Go.Proofs.Ytnddjmhpofhfjaa.Am
open Go
theorem mod50 (x : Int) : ∃ k : Nat, k < 50 ∧ Int.tmod (w64 ((Int.tmod x 50) + 50)) 50 = k := by
 have b1 := Int.tmod_lt_of_pos x (show (0 : Int) < 50 by decide)
 have b2 : -50 < Int.tmod x 50 := by
  have := Int.tmod_lt_of_pos (-x) (show (0 : Int) < 50 by decide)
  rw [Int.neg_tmod] at this
  omega
 rw [w64_id (x := Int.tmod x 50 + 50) (by omega) (by omega)]
 have c1 := Int.tmod_lt_of_pos (Int.tmod x 50 + 50) (show (0 : Int) < 50 by decide)
 have c2 := Int.tmod_nonneg 50 (show 0 ≤ Int.tmod x 50 + 50 by omega)
 exact ⟨(Int.tmod (Int.tmod x 50 + 50) 50).toNat, by omega, by omega⟩
theorem scored_trueT : Q9 300000000 = some true := by decide +kernel
theorem certs_true : (Q6 300000000).bind (fun y1 => (Q7 300000000).bind fun y2 => (Q17 300000000 y1 y2 3).bind fun y3 => (Q18 300000000 y1 y2 y3.1).bind fun y6 => some (eqI y3.2 0 && (eqI y6.2 0 && eqI y6.1 1))) = some true := by decide +kernel
theorem make_all (r : RulesT) (p : PosT) (depth : Int) : ∃ z y : Int × Int, ∃ S : List NodeT, Q13 300000000 r p depth = some z ∧ Q17 300000000 r p depth = some (S, y.2) ∧
  ((z.2 ≠ 0 ∧ y.2 = z.2 ∧ S = []) ∨ (z.2 = 0 ∧ ROk r ∧ POk r p ∧ 0 ≤ depth ∧ z.1 = val r depth.toNat p ∧
   ((y.2 ≠ 0 ∧ (z.1 ≤ 0 ∨ (z.1 = 1000 ∧ y.2 = 14) ∨ y.2 = 2)) ∨ (y.2 = 0 ∧ 0 < z.1 ∧ z.1 ≤ 1000 ∧ Q18 300000000 r p S = some (1000 - z.1, 0))))) := by
 obtain ⟨e, he, he2⟩ := mcheck_ret (N := 300000000) (by decide) r p depth
 by_cases h0 : e = 0
 ·subst h0
  obtain ⟨hr, hp, d1, d2⟩ := he2 rfl
  obtain ⟨d, rfl⟩ : ∃ d : Nat, depth = d := ⟨depth.toNat, by omega⟩
  have hsz : sizeP r d p ≤ 50000 := by
   have := mcheck_size (N := 300000000) (by decide) hr hp (d := d) (by omega)
   rw [he] at this
   by_cases q : sizeP r d p ≤ 50000
   ·exact q
   ·rw [if_neg q] at this; cases this
  have hsc := score_good (N := 300000000) (by decide) r p (d : Int) he hr hp d1 d2
  rw [Int.toNat_natCast] at hsc
  have vb := val_bound hr d (by omega) hp
  unfold Q17 Q17.e
  rw [hsc, ob, bif_f (by rfl), res_mvP (by decide) hr hp, ob]
  by_cases hres : resV r p = 0
  ·rw [bif_f (by rw [eqI_t hres]; rfl)]
   by_cases hval : val r d p ≤ 0
   ·rw [bif_t (leI_t hval)]
    exact ⟨_, (0, 8), _, rfl, rfl, .inr ⟨rfl, hr, hp, by omega, by rw [Int.toNat_natCast], .inl ⟨by decide, .inl hval⟩⟩⟩
   ·rw [bif_f (leI_f (by omega))]
    have hd1 : 1 ≤ d := by
     cases d with
     | zero => unfold val at hval; rw [if_neg (by simp [hres])] at hval; omega
     | succ d => omega
    have ht := hp.last.1
    obtain ⟨z, hz, hz1, hz2, hz3⟩ := add_ok hr (1 + p.2.2.1) d 300000000 p [] hd1 (by omega) (by omega) hp hres (by omega) hsz (by simp)
    rw [hz, ob]
    rcases hz3 with hf | ⟨hf, hk, S, hS, hA⟩
    ·rw [hf, bif_t rfl]
     exact ⟨_, (0, 2), _, rfl, rfl, .inr ⟨rfl, hr, hp, by omega, by rw [Int.toNat_natCast], .inl ⟨by decide, .inr (.inr rfl)⟩⟩⟩
    ·have hS : z.2.2.1 = S := hS
     have hne := hA.ne
     have hle := hA.le
     have hle : S.length ≤ 5000 := by simpa using hle
     rw [hf, bif_f rfl, hS]
     have hcert : CertP r (1 + p.2.2.1) S d 0 p := hA.cl S fun i hi => by simp
     have htree : Q37 300000000 S = some true := by
      unfold Q37 Q37.e
      have hsum := sumN_le S hA.few
      rw [leI_t (by omega), decide_eq_true (by omega)]
      have hc : capOk 8 (S.length : Int).toNat = true := by unfold capOk; exact decide_eq_true (by omega)
      rw [hc, chk_of (by rfl), Int.toNat_natCast]
      refine tree_l0 300000000 S hle hA.few (fun i x hx a ha => ?_) S.length 0 300000000 _ (by omega) (by rw [List.drop_zero]; omega) (by simp) (fun j hj => ?_) (fun j hj => ?_)
      ·rcases hA.ord i x hx a ha with g | g
       ·exact Or.inl g
       ·exact Or.inr ⟨by have := g.1; simp at this; omega, by have := g.2; simp at this; omega⟩
      ·rw [List.drop_zero, hA.cnt j, gD_nat (by simpa using hj), List.getElem_replicate]
       by_cases c : 0 < j
       ·rw [if_pos ⟨by simpa using c, by simpa using hj⟩, if_pos c]; rfl
       ·rw [if_neg (by simp; omega), if_neg c]; rfl
      ·rw [gD_nat (by simpa using hj), List.getElem_replicate]; omega
     have hnode := node_cert hr (1 + p.2.2.1) S hle d (by omega) 300000000 0 p (by omega) hp hres (by omega) rfl hcert
     have vo := val_open_le hr hp hres (D := d) (by omega)
     have hchk : Q18 300000000 r p S = some (1000 - val r d p, 0) := by
      unfold Q18 Q18.e
      rw [pcheck_ok (by decide) hr hp, ob, bif_f (by rfl), bif_f (ltI_f (by omega)), bif_f (eqI_f (by omega)), res_mvP (by decide) hr hp, ob, bif_f (by rw [eqI_t hres]; rfl), htree, ob, bif_f (by rfl), w64_id (x := 1 + p.2.2.1) (by omega) (by omega)]
      rw [show ((0 : Nat) : Int) = 0 from rfl] at hnode
      rw [hnode, ob, bif_f (eqI_f (by omega))]
     exact ⟨_, (0, 0), _, rfl, rfl, .inr ⟨rfl, hr, hp, by omega, by rw [Int.toNat_natCast], .inr ⟨rfl, by dsimp only; omega, by dsimp only; omega, hchk⟩⟩⟩
  ·rw [bif_t (by rw [eqI_f hres]; rfl)]
   refine ⟨_, (0, 14), _, rfl, rfl, .inr ⟨rfl, hr, hp, by omega, by rw [Int.toNat_natCast], .inl ⟨by decide, ?_⟩⟩⟩
   dsimp only
   rcases score_cases hr (resV r p) (p.2.2.1) with h | h | h
   ·exact .inr (.inl ⟨by rw [val_over hr hres]; exact h, rfl⟩)
   ·exact .inl (by rw [val_over hr hres, h]; decide)
   ·exact .inl (by rw [val_over hr hres, h]; decide)
 ·have hsc := score_bad (N := 300000000) (by decide) r p depth he h0
  unfold Q17 Q17.e
  rw [hsc, ob]
  dsimp only
  rw [bif_t (by rw [eqI_f h0]; rfl)]
  exact ⟨_, (0, e), _, rfl, rfl, .inl ⟨h0, rfl, rfl⟩⟩
theorem topProved_at (r : RulesT) (p : PosT) (depth budget : Int) : Q4 300000000 r p depth budget = some true := by
 have hce := certs_true
 have hth : Q6 300000000 = some aT := a_three
 have hne : Q7 300000000 = some aP := a_near
 rw [hth, hne, ob, ob] at hce
 obtain ⟨hv, hh, _⟩ := heavy_ret (N := 300000000) (by decide) r p depth
 unfold Q4 Q4.e
 rw [hth, hne]
 simp only [ob]
 cases hm : Q17 300000000 aT aP 3 with
 | none => rw [hm] at hce; cases hce
 | some y3 =>
  rw [hm, ob] at hce
  simp only [ob]
  cases hc : Q18 300000000 aT aP y3.1 with
  | none => rw [hc] at hce; cases hce
  | some y6 =>
   rw [hc, ob] at hce
   simp only [Option.some.injEq, Bool.and_eq_true, eqI_iff] at hce
   simp only [ob]
   rw [fine_eq (by simp) (by simp), ob, decide_eq_true (by simp [hce.1, hce.2.1]), bif_f (by rfl), bif_f (by rw [eqI_t hce.2.2]; rfl), scored_trueT, ob, bif_f (by rfl)]
   rw [show Q19 300000000 aT aP 10 = some ((0, (0, (NV, 1))), 0) from a_prove, ob, bif_f (by rfl), bif_f (by rfl), bif_f (by rfl), hh, ob]
   cases hv with
   | true => rfl
   | false =>
    rw [bif_f rfl]
    obtain ⟨B, hB, e1⟩ := mod50 budget
    obtain ⟨z, y, S, hz, hy, hcase⟩ := make_all r p depth
    rw [hz, hy, e1, ob, ob]
    rcases hcase with ⟨k0, k1, k2⟩ | ⟨k0, hr, hp, d0, kv, hcase⟩
    ·have hret : ∃ x, Q19 300000000 r p B = some x := by
      rcases prove_ok (N := 300000000) (by decide) r p with ⟨v, _, _, hh⟩ | ⟨_, _, b, _, _, _, _, _, hh⟩
      ·exact ⟨_, hh B (by omega)⟩
      ·obtain ⟨t1, ns1, _, _, _, _, p1⟩ := hh B (by omega)
       exact ⟨_, p1⟩
     obtain ⟨x, hx⟩ := hret
     rw [hx, ob, bif_t (by rw [eqI_f k0]; rfl)]
     dsimp only
     rw [bif_t (eqI_t k1), k2]
     rfl
    ·rcases prove_ok (N := 300000000) (by decide) r p with ⟨v, hv, hn, hh⟩ | ⟨_, _, b, rfl, hb, q0, q1, _, hh⟩
     ·exact absurd ⟨hr, hp⟩ hn
     obtain ⟨t1, ns1, s1, g1, l1, o1, p1⟩ := hh B (by omega)
     have hw := g1.wn rfl
     have hyes : stP ns1 = 0 → 0 ≤ z.1 := fun e => by
      have : (pn ns1 0).2.2.1 = 0 := by
       unfold stP at e
       by_cases c : (pn ns1 0).2.2.1 = 0
       ·exact c
       ·rw [if_neg c] at e
        by_cases c2 : (pn ns1 0).2.2.2.1 = 0
        ·rw [if_pos c2] at e; omega
        ·rw [if_neg c2] at e; omega
      rw [kv]
      exact hw.1 this depth.toNat
     have hno : stP ns1 = 1 → z.1 ≤ 0 := fun e => by
      have : (pn ns1 0).2.2.2.1 = 0 := by
       unfold stP at e
       by_cases c : (pn ns1 0).2.2.1 = 0
       ·rw [if_pos c] at e; omega
       ·rw [if_neg c] at e
        by_cases c2 : (pn ns1 0).2.2.2.1 = 0
        ·exact c2
        ·rw [if_neg c2] at e; omega
      rw [kv]
      exact hw.2 this depth.toNat
     rw [p1, ob, bif_f (by rw [eqI_t k0]; rfl)]
     dsimp only
     rw [bif_f (by rfl)]
     have rest : ∀ c : Option Bool, c = (bif (!(eqI y.2 0)) then (bif (leI z.1 0) then some true
       else bif (eqI z.1 1000) then (bif (eqI y.2 14) then some true else some (eqI y.2 2)) else some (eqI y.2 2))
      else (Q18 300000000 r p S).bind fun y18 => bif (ltI 0 z.1) then (bif (eqI y18.2 0) then (some (eqI y18.1 (w64 (1000 - z.1)))) else some false) else some false) → c = some true := fun c hc => by
      rw [hc]
      rcases hcase with ⟨m0, m1⟩ | ⟨m0, m1, m2, m3⟩
      ·rw [bif_t (by rw [eqI_f m0]; rfl)]
       by_cases c : z.1 ≤ 0
       ·rw [bif_t (leI_t c)]
       ·rw [bif_f (leI_f (by omega))]
        rcases m1 with m | ⟨ma, mb⟩ | m
        ·exact absurd m c
        ·rw [bif_t (eqI_t ma), bif_t (eqI_t mb)]
        ·rw [eqI_t m]
         cases eqI z.1 1000
         ·rfl
         ·cases eqI y.2 14 <;> rfl
      ·rw [bif_f (by rw [eqI_t m0]; rfl), m3, ob, bif_t (ltI_t m1), bif_t (by rfl), w64_id (by omega) (by omega), eqI_self]
     by_cases zp : 0 < z.1
     ·have h1 : stP ns1 ≠ 1 := fun e => by have := hno e; omega
      rw [bif_t (ltI_t zp), bif_f (eqI_f h1), bif_f (ltI_f (by omega))]
      exact rest _ rfl
     ·rw [bif_f (ltI_f (by omega))]
      by_cases zn : z.1 < 0
      ·have h1 : stP ns1 ≠ 0 := fun e => by have := hyes e; omega
       rw [bif_t (ltI_t zn), bif_f (eqI_f h1)]
       exact rest _ rfl
      ·rw [bif_f (ltI_f (by omega))]
       exact rest _ rfl
end Go.Proofs.Ytnddjmhpofhfjaa.Am
