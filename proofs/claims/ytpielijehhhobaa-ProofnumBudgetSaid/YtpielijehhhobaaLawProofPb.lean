/- Plain: the numbers of a proof-number search: least and sum, and what they say of a position's value. -/
import Derived.Test.YtpielijehhhobaaLawGameb
import Derived.Test.YtpielijehhhobaaLawMoves0b
set_option linter.unusedVariables false
set_option linter.unusedSimpArgs false
set_option linter.unusedSectionVars false
namespace Go.Proofs.Ytpielijehhhobaa.Am
open Go
abbrev NV : Int := 1099511627776
def Tri (a b z : Int) : Prop := (a = 0 ∧ b = NV) ∨ (a = NV ∧ b = 0) ∨ (0 < a ∧ a ≤ z ∧ 0 < b ∧ b ≤ z)
theorem Tri.swap {a b z : Int} (h : Tri a b z) : Tri b a z := by
 rcases h with h | h | h
 ·exact .inr (.inl ⟨h.2, h.1⟩)
 ·exact .inl ⟨h.2, h.1⟩
 ·exact .inr (.inr ⟨h.2.2.1, h.2.2.2, h.1, h.2.1⟩)
theorem Tri.mono {a b z z' : Int} (h : Tri a b z) (hz : z ≤ z') : Tri a b z' := by
 rcases h with h | h | h
 ·exact .inl h
 ·exact .inr (.inl h)
 ·exact .inr (.inr ⟨h.1, by omega, h.2.2.1, by omega⟩)
theorem Tri.range {a b z : Int} (h : Tri a b z) (hz : z < NV) : 0 ≤ a ∧ a ≤ NV ∧ 0 ≤ b ∧ b ≤ NV := by
 have hNV : NV = 1099511627776 := rfl
 rcases h with h | h | h <;> omega
def leastF (f : Int → Int) : Nat → Int
 | 0 => NV
 | k + 1 => bif ltI (f (k : Int)) (leastF f k) then f (k : Int) else leastF f k
def csumF (f : Int → Int) : Nat → Int
 | 0 => 0
 | k + 1 => bif ltI (csumF f k + f (k : Int)) NV then csumF f k + f (k : Int) else NV
def sumI (f : Int → Int) : Nat → Int
 | 0 => 0
 | k + 1 => sumI f k + f (k : Int)
theorem leastF_spec (f : Int → Int) : ∀ M : Nat, leastF f M ≤ NV ∧ (∀ j : Int, 0 ≤ j → j < M → leastF f M ≤ f j) ∧ (leastF f M = NV ∨ ∃ j : Int, 0 ≤ j ∧ j < M ∧ leastF f M = f j)
 | 0 => ⟨Int.le_refl _, fun j a b => by omega, .inl rfl⟩
 | k + 1 => by
  obtain ⟨h1, h2, h3⟩ := leastF_spec f k
  unfold leastF
  by_cases c : f (k : Int) < leastF f k
  ·rw [bif_t (ltI_t c)]
   refine ⟨by omega, fun j a b => ?_, .inr ⟨k, by omega, by omega, rfl⟩⟩
   by_cases e : j = k
   ·subst e; exact Int.le_refl _
   ·have := h2 j a (by omega); omega
  ·rw [bif_f (ltI_f (by omega))]
   refine ⟨h1, fun j a b => ?_, ?_⟩
   ·by_cases e : j = k
    ·subst e; omega
    ·exact h2 j a (by omega)
   ·rcases h3 with h | ⟨j, a, b, e⟩
    ·exact .inl h
    ·exact .inr ⟨j, a, by omega, e⟩
theorem csumF_spec (f : Int → Int) : ∀ M : Nat, (∀ j : Int, 0 ≤ j → j < M → 0 ≤ f j ∧ f j ≤ NV) → 0 ≤ csumF f M ∧ csumF f M ≤ NV ∧ (csumF f M = 0 → ∀ j : Int, 0 ≤ j → j < M → f j = 0) ∧ ((∀ j : Int, 0 ≤ j → j < M → f j = 0) → csumF f M = 0) ∧
  ((∃ j : Int, 0 ≤ j ∧ j < M ∧ f j = NV) → csumF f M = NV) ∧ (∀ z : Int → Int, (∀ j : Int, 0 ≤ j → j < M → f j ≤ z j) → sumI z M < NV → csumF f M ≤ sumI z M)
 | 0, _ => ⟨Int.le_refl _, (by decide : (0 : Int) ≤ NV), fun _ j a b => by omega, fun _ => rfl, fun ⟨j, a, b, _⟩ => by omega, fun z _ _ => Int.le_refl _⟩
 | k + 1, hf => by
  obtain ⟨h1, h2, h3, h4, h5, h6⟩ := csumF_spec f k fun j a b => hf j a (by omega)
  obtain ⟨f0, f1⟩ := hf k (by omega) (by omega)
  unfold csumF
  by_cases c : csumF f k + f (k : Int) < NV
  ·rw [bif_t (ltI_t c)]
   refine ⟨by omega, by omega, fun e j a b => ?_, fun h => ?_, fun ⟨j, a, b, e⟩ => ?_, fun z hz hs => ?_⟩
   ·by_cases ej : j = k
    ·subst ej; omega
    ·exact h3 (by omega) j a (by omega)
   ·rw [h4 fun j a b => h j a (by omega), h k (by omega) (by omega)]; rfl
   ·by_cases ej : j = k
    ·subst ej; omega
    ·have := h5 ⟨j, a, by omega, e⟩; omega
   ·unfold sumI at hs ⊢
    have z1 := hz k (by omega) (by omega)
    have := h6 z (fun j a b => hz j a (by omega)) (by omega)
    omega
  ·rw [bif_f (ltI_f (by omega))]
   refine ⟨by decide, Int.le_refl _, fun e => absurd e (by decide), fun h => ?_, fun _ => rfl, fun z hz hs => ?_⟩
   ·have e1 := h4 fun j a b => h j a (by omega)
    have e2 := h k (by omega) (by omega)
    have hNV : NV = 1099511627776 := rfl
    omega
   ·unfold sumI at hs ⊢
    have z1 := hz k (by omega) (by omega)
    have := h6 z (fun j a b => hz j a (by omega)) (by omega)
    omega
theorem sumF_nonneg (z : Int → Int) : ∀ M : Nat, (∀ j : Int, 0 ≤ j → j < M → 0 ≤ z j) → 0 ≤ sumI z M ∧ ∀ j : Int, 0 ≤ j → j < M → z j ≤ sumI z M
 | 0, _ => ⟨Int.le_refl _, fun j a b => by omega⟩
 | k + 1, h => by
  obtain ⟨h1, h2⟩ := sumF_nonneg z k fun j a b => h j a (by omega)
  have h3 := h k (by omega) (by omega)
  unfold sumI
  refine ⟨by omega, fun j a b => ?_⟩
  by_cases e : j = k
  ·subst e; omega
  ·have := h2 j a (by omega); omega
theorem sumF_one {z : Int → Int} : ∀ {M : Nat}, (∀ j : Int, 0 ≤ j → j < M → z j = 1) → sumI z M = M
 | 0, _ => rfl
 | k + 1, h => by
  unfold sumI
  rw [sumF_one fun j a b => h j a (by omega), h k (by omega) (by omega)]
  omega
theorem sumF_grow {z z' : Int → Int} {i d : Int} (d0 : 0 ≤ d) (hi : z' i ≤ z i + d) : ∀ {M : Nat}, (∀ j : Int, 0 ≤ j → j < M → j ≠ i → z' j = z j) → sumI z' M ≤ sumI z M + (if 0 ≤ i ∧ i < M then d else 0)
 | 0, _ => by rw [if_neg (by omega)]; exact Int.le_refl _
 | k + 1, h => by
  have ih := sumF_grow d0 hi (M := k) fun j a b => h j a (by omega)
  unfold sumI
  by_cases e : (k : Int) = i
  ·subst e
   rw [if_neg (by omega)] at ih
   rw [if_pos (by omega)]
   omega
  ·rw [h k (by omega) (by omega) e]
   by_cases c : 0 ≤ i ∧ i < k
   ·rw [if_pos c] at ih
    rw [if_pos (by omega)]; omega
   ·rw [if_neg c] at ih
    rw [if_neg (by omega)]; omega
theorem leastF_ext {f f' : Int → Int} : ∀ {M : Nat}, (∀ j : Int, 0 ≤ j → j < M → f j = f' j) → leastF f M = leastF f' M
 | 0, _ => rfl
 | k + 1, h => by
  unfold leastF
  rw [leastF_ext fun j a b => h j a (by omega), h k (by omega) (by omega)]
theorem csumF_ext {f f' : Int → Int} : ∀ {M : Nat}, (∀ j : Int, 0 ≤ j → j < M → f j = f' j) → csumF f M = csumF f' M
 | 0, _ => rfl
 | k + 1, h => by
  unfold csumF
  rw [csumF_ext fun j a b => h j a (by omega), h k (by omega) (by omega)]
theorem sumF_ext {f f' : Int → Int} : ∀ {M : Nat}, (∀ j : Int, 0 ≤ j → j < M → f j = f' j) → sumI f M = sumI f' M
 | 0, _ => rfl
 | k + 1, h => by
  unfold sumI
  rw [sumF_ext fun j a b => h j a (by omega), h k (by omega) (by omega)]
theorem upd_tri {a b z : Int → Int} {M : Nat} {Z : Int} (hM : 0 < M) (h : ∀ j : Int, 0 ≤ j → j < M → Tri (a j) (b j) (z j)) (hz0 : ∀ j : Int, 0 ≤ j → j < M → 0 ≤ z j) (hz : sumI z M ≤ Z) (hZ : Z < NV) : Tri (leastF a M) (csumF b M) Z := by
 obtain ⟨zn, zl⟩ := sumF_nonneg z M hz0
 have hr : ∀ j : Int, 0 ≤ j → j < M → 0 ≤ a j ∧ a j ≤ NV ∧ 0 ≤ b j ∧ b j ≤ NV := fun j a b => (h j a b).range (by have := zl j a b; omega)
 obtain ⟨l1, l2, l3⟩ := leastF_spec a M
 obtain ⟨c1, c2, c3, c4, c5, c6⟩ := csumF_spec b M fun j a b => (hr j a b).2.2
 by_cases e0 : ∃ j : Int, 0 ≤ j ∧ j < M ∧ a j = 0
 ·obtain ⟨j, j0, j1, e⟩ := e0
  have hb : b j = NV := by
   rcases h j j0 j1 with h | h | h
   ·exact h.2
   ·have := h.1; have hNV : NV = 1099511627776 := rfl; omega
   ·omega
  refine .inl ⟨?_, c5 ⟨j, j0, j1, hb⟩⟩
  have := l2 j j0 j1
  rcases l3 with h | ⟨i, i0, i1, e'⟩
  ·have hNV : NV = 1099511627776 := rfl; omega
  ·have := (hr i i0 i1).1; omega
 ·by_cases e1 : ∀ j : Int, 0 ≤ j → j < M → b j = 0
  ·refine .inr (.inl ⟨?_, c4 e1⟩)
   rcases l3 with h | ⟨i, i0, i1, e'⟩
   ·exact h
   ·rw [e']
    rcases h i i0 i1 with h | h | h
    ·exact absurd ⟨i, i0, i1, h.1⟩ e0
    ·exact h.1
    ·have := e1 i i0 i1; omega
  ·have hex : ∃ j : Int, 0 ≤ j ∧ j < M ∧ b j ≠ 0 := Classical.byContradiction fun hn => e1 fun j a b => Classical.byContradiction fun hne => hn ⟨j, a, b, hne⟩
   obtain ⟨j, j0, j1, hj⟩ := hex
   have hj3 : 0 < a j ∧ a j ≤ z j ∧ 0 < b j ∧ b j ≤ z j := by
    rcases h j j0 j1 with h | h | h
    ·exact absurd ⟨j, j0, j1, h.1⟩ e0
    ·exact absurd h.2 hj
    ·exact h
   have hbz : ∀ i : Int, 0 ≤ i → i < M → b i ≤ z i := fun i i0 i1 => by
    rcases h i i0 i1 with h | h | h
    ·exact absurd ⟨i, i0, i1, h.1⟩ e0
    ·have := hz0 i i0 i1; omega
    ·exact h.2.2.2
   have hs := c6 z hbz (by omega)
   have hl := l2 j j0 j1
   have hzj := zl j j0 j1
   refine .inr (.inr ⟨?_, by omega, ?_, by omega⟩)
   ·rcases l3 with h | ⟨i, i0, i1, e'⟩
    ·have hNV : NV = 1099511627776 := rfl; omega
    ·have h1 := (hr i i0 i1).1
     have h2 : a i ≠ 0 := fun e => e0 ⟨i, i0, i1, e⟩
     omega
   ·have : csumF b M ≠ 0 := fun e => hj (c3 e j j0 j1)
    omega
theorem least_zero {a : Int → Int} {M : Nat} (h : leastF a M = 0) : ∃ j : Int, 0 ≤ j ∧ j < M ∧ a j = 0 := by
 obtain ⟨l1, l2, l3⟩ := leastF_spec a M
 rcases l3 with h' | ⟨i, i0, i1, e'⟩
 ·have hNV : NV = 1099511627776 := rfl; omega
 ·exact ⟨i, i0, i1, by omega⟩
theorem pick_open {a b z : Int → Int} {M : Nat} (h : ∀ j : Int, 0 ≤ j → j < M → Tri (a j) (b j) (z j)) (hz : ∀ j : Int, 0 ≤ j → j < M → z j < NV) (h1 : 0 < leastF a M) (h2 : 0 < csumF b M) {k : Int} (k0 : 0 ≤ k) (k1 : k < M) (hk : ∀ j : Int, 0 ≤ j → j < M → a k ≤ a j) : 0 < a k ∧ 0 < b k := by
 obtain ⟨l1, l2, l3⟩ := leastF_spec a M
 have hr : ∀ j : Int, 0 ≤ j → j < M → 0 ≤ a j ∧ a j ≤ NV ∧ 0 ≤ b j ∧ b j ≤ NV := fun j a b => (h j a b).range (hz j a b)
 obtain ⟨c1, c2, c3, c4, c5, c6⟩ := csumF_spec b M fun j a b => (hr j a b).2.2
 have hlk := l2 k k0 k1
 rcases h k k0 k1 with h' | h' | h'
 ·omega
 ·have : ∀ j : Int, 0 ≤ j → j < M → b j = 0 := fun j j0 j1 => by
   have e1 := hk j j0 j1
   have e2 := hz j j0 j1
   rcases h j j0 j1 with h | h | h
   ·have := h'.1; have hNV : NV = 1099511627776 := rfl; omega
   ·exact h.2
   ·omega
  have := c4 this
  omega
 ·omega
def posV (r : RulesT) (q : PosT) : Prop := ∀ D, 0 ≤ val r D q
def negV (r : RulesT) (q : PosT) : Prop := ∀ D, val r D q ≤ 0
theorem pos_of {r : RulesT} (hr : ROk r) {q : PosT} (h0 : resV r q = 0) {m : MvT} (hm : m ∈ cand r q) (h : negV r (doI r q m)) : posV r q
 | 0 => by
  unfold val
  rw [if_neg (by omega)]
  exact Int.le_refl _
 | D + 1 => by
  rw [val_open hr h0]
  have h1 := (foldMax_spec ((cand r q).map fun m => near (-(val r D (doI r q m)))) (-1000)).2.1 _ (List.mem_map_of_mem hm)
  have h2 := h D
  have h3 := near_cases (-(val r D (doI r q m)))
  omega
theorem neg_of {r : RulesT} (hr : ROk r) {q : PosT} (h0 : resV r q = 0) (h : ∀ m ∈ cand r q, posV r (doI r q m)) : negV r q
 | 0 => by
  unfold val
  rw [if_neg (by omega)]
  exact Int.le_refl _
 | D + 1 => by
  rw [val_open hr h0]
  rcases (foldMax_spec ((cand r q).map fun m => near (-(val r D (doI r q m)))) (-1000)).2.2 with e | e
  ·rw [e]; decide
  ·obtain ⟨m, hm, e⟩ := List.mem_map.1 e
   rw [← e]
   have h2 := h m hm D
   have h3 := near_cases (-(val r D (doI r q m)))
   omega
end Go.Proofs.Ytpielijehhhobaa.Am
