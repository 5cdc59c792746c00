/- Plain: the sort of moves sorts, first part: the order, what is written where, insertion sort. -/
import Derived.Test.YtiacnffpgdikoaaLawSortM4m
set_option linter.unusedVariables false
set_option linter.unusedSimpArgs false
set_option linter.unusedSectionVars false
namespace Go.Proofs.Ytiacnffpgdikoaa.Am
open Go

theorem cmpM_lt (x y : MvT) : cmpM x y < 0 ↔ x.1 < y.1 ∨ (x.1 = y.1 ∧ (x.2.1 < y.2.1 ∨ (x.2.1 = y.2.1 ∧ x.2.2 < y.2.2))) := by
  have h : ∀ a b : Int, (a < b ∧ cmpI a b = -1) ∨ (b < a ∧ cmpI a b = 1) ∨ (a = b ∧ cmpI a b = 0) := by
    intro a b
    unfold cmpI
    by_cases c : a < b
    · rw [bif_t (ltI_t c)]; exact Or.inl ⟨c, rfl⟩
    · rw [bif_f (ltI_f (by omega))]
      by_cases c2 : b < a
      · rw [bif_t (ltI_t c2)]; exact Or.inr (Or.inl ⟨c2, rfl⟩)
      · rw [bif_f (ltI_f (by omega))]; exact Or.inr (Or.inr ⟨by omega, rfl⟩)
  have h1 := h x.1 y.1
  have h2 := h x.2.1 y.2.1
  have h3 := h x.2.2 y.2.2
  unfold cmpM
  by_cases c1 : cmpI x.1 y.1 = 0
  · rw [bif_f (by rw [eqI_t c1]; rfl)]
    by_cases c2 : cmpI x.2.1 y.2.1 = 0
    · rw [bif_f (by rw [eqI_t c2]; rfl)]; omega
    · rw [bif_t (by rw [eqI_f c2]; rfl)]; omega
  · rw [bif_t (by rw [eqI_f c1]; rfl)]; omega
/-- not after -/
def leM (x y : MvT) : Prop := ¬ cmpM y x < 0
theorem leM_iff (x y : MvT) : leM x y ↔ x.1 < y.1 ∨ (x.1 = y.1 ∧ (x.2.1 < y.2.1 ∨ (x.2.1 = y.2.1 ∧ x.2.2 ≤ y.2.2))) := by
  unfold leM
  rw [cmpM_lt]
  omega
theorem leM.refl (x : MvT) : leM x x := by rw [leM_iff]; omega
theorem leM.trans {x y z : MvT} (h1 : leM x y) (h2 : leM y z) : leM x z := by rw [leM_iff] at *; omega
theorem leM.of_lt {x y : MvT} (h : cmpM x y < 0) : leM x y := by rw [leM_iff]; rw [cmpM_lt] at h; omega
theorem leM.anti {x y : MvT} (h1 : leM x y) (h2 : leM y x) : x = y := by
  rw [leM_iff] at *
  obtain ⟨a, b, c⟩ := x
  obtain ⟨a', b', c'⟩ := y
  dsimp only at *
  obtain rfl : a = a' := by omega
  obtain rfl : b = b' := by omega
  obtain rfl : c = c' := by omega
  rfl
theorem gD_set' {d : List MvT} {i k : Int} {v : MvT} (hi : 0 ≤ i) (hk : 0 ≤ k) (hk' : k < d.length) : gD z0 (d.set i.toNat v) k = if k = i then v else gD z0 d k := by
  obtain ⟨i, rfl⟩ : ∃ q : Nat, i = q := ⟨i.toNat, by omega⟩
  obtain ⟨k, rfl⟩ : ∃ q : Nat, k = q := ⟨k.toNat, by omega⟩
  rw [Int.toNat_natCast, gD_nat (by rw [List.length_set]; omega), gD_nat (by omega), List.getElem_set]
  by_cases h : i = k
  · rw [if_pos h, if_pos (by omega)]
  · rw [if_neg h, if_neg (by omega)]
theorem swp_at {d : List MvT} {i j k : Int} (hi : 0 ≤ i) (hj : 0 ≤ j) (hk : 0 ≤ k) (hk' : k < d.length) : gD z0 ((d.set i.toNat (gD z0 d j)).set j.toNat (gD z0 d i)) k = if k = j then gD z0 d i else if k = i then gD z0 d j else gD z0 d k := by
  rw [gD_set' hj hk (by rw [List.length_set]; exact hk'), gD_set' hi hk hk']
/-- written only from a on, below b -/
structure W (a b : Int) (d d' : List MvT) : Prop where
  pm : d'.Perm d
  out : ∀ i : Int, 0 ≤ i → i < (d.length : Int) → (i < a ∨ b ≤ i) → gD z0 d' i = gD z0 d i
  sub : ∀ i, a ≤ i → i < b → ∃ j, a ≤ j ∧ j < b ∧ gD z0 d' i = gD z0 d j
theorem W.len {a b : Int} {d d' : List MvT} (h : W a b d d') : d'.length = d.length := h.pm.length_eq
theorem W.refl (a b : Int) (d : List MvT) : W a b d d := ⟨List.Perm.refl _, fun _ _ _ _ => rfl, fun i h1 h2 => ⟨i, h1, h2, rfl⟩⟩
theorem W.trans {a b : Int} {d d' d'' : List MvT} (h : W a b d d') (h2 : W a b d' d'') : W a b d d'' := by
  have := h.len
  refine ⟨h2.pm.trans h.pm, fun i h0 h1 ho => (h2.out i h0 (by omega) ho).trans (h.out i h0 h1 ho), fun i g1 g2 => ?_⟩
  obtain ⟨j, k1, k2, k3⟩ := h2.sub i g1 g2
  obtain ⟨q, l1, l2, l3⟩ := h.sub j k1 k2
  exact ⟨q, l1, l2, k3.trans l3⟩
theorem W.mono {a b a' b' : Int} {d d' : List MvT} (h : W a b d d') (h0 : 0 ≤ a') (h1 : a' ≤ a) (h2 : b ≤ b') (h3 : b' ≤ d.length) : W a' b' d d' := by
  refine ⟨h.pm, fun i g0 g1 ho => h.out i g0 g1 (by omega), fun i g1 g2 => ?_⟩
  by_cases c : a ≤ i ∧ i < b
  · obtain ⟨j, k1, k2, k3⟩ := h.sub i c.1 c.2
    exact ⟨j, by omega, by omega, k3⟩
  · exact ⟨i, g1, g2, h.out i (by omega) (by omega) (by omega)⟩
theorem W.swp {a b : Int} {d d' : List MvT} (h : W a b d d') (ha : 0 ≤ a) (hb : b ≤ d.length) {i j : Int} (hi : a ≤ i) (hi' : i < b) (hj : a ≤ j) (hj' : j < b) : W a b d ((d'.set i.toNat (gD z0 d' j)).set j.toNat (gD z0 d' i)) := by
  have hl := h.len
  refine h.trans ⟨swp_perm (by omega) (by omega) (by omega) (by omega), fun k g0 g1 ho => ?_, fun k g1 g2 => ?_⟩
  · rw [swp_at (by omega) (by omega) g0 g1, if_neg (by omega), if_neg (by omega)]
  · rw [swp_at (by omega) (by omega) (by omega) (by omega)]
    by_cases c1 : k = j
    · rw [if_pos c1]; exact ⟨i, hi, hi', rfl⟩
    · rw [if_neg c1]
      by_cases c2 : k = i
      · rw [if_pos c2]; exact ⟨j, hj, hj', rfl⟩
      · rw [if_neg c2]; exact ⟨k, g1, g2, rfl⟩
/-- what is true of all stays true of all -/
theorem W.all {a b : Int} {d d' : List MvT} (h : W a b d d') {P : MvT → Prop} (hP : ∀ i, a ≤ i → i < b → P (gD z0 d i)) : ∀ i, a ≤ i → i < b → P (gD z0 d' i) := by
  intro i h1 h2
  obtain ⟨j, k1, k2, k3⟩ := h.sub i h1 h2
  rw [k3]
  exact hP j k1 k2
/-- sorted, from a on, below b -/
def Sd (a b : Int) (d : List MvT) : Prop := ∀ i j, a ≤ i → i ≤ j → j < b → leM (gD z0 d i) (gD z0 d j)
theorem Sd.out {a b a' b' : Int} {d d' : List MvT} (h : Sd a b d) (hw : W a' b' d d') (h0 : 0 ≤ a) (hb : b ≤ d.length) (ho : b ≤ a' ∨ b' ≤ a) : Sd a b d' := by
  intro i j h1 h2 h3
  rw [hw.out i (by omega) (by omega) (by omega), hw.out j (by omega) (by omega) (by omega)]
  exact h i j h1 h2 h3
/-- nothing is less than what lies below a -/
def Lo (a b : Int) (d : List MvT) : Prop := 0 < a → ∀ i, a ≤ i → i < b → leM (gD z0 d (a - 1)) (gD z0 d i)
theorem Lo.W {a b : Int} {d d' : List MvT} (h : Lo a b d) (hw : W a b d d') (hb : b ≤ d.length) : Lo a b d' := by
  intro h0 i h1 h2
  rw [hw.out (a - 1) (by omega) (by omega) (by omega)]
  exact hw.all (P := fun x => leM (gD z0 d (a - 1)) x) (fun j g1 g2 => h h0 j g1 g2) i h1 h2
/-- sorted but for the one at j -/
def Ins (a i j : Int) (d : List MvT) : Prop := ∀ p q, a ≤ p → p < q → q ≤ i → q ≠ j → leM (gD z0 d p) (gD z0 d q)
theorem Ins.step {a i j : Int} {d : List MvT} (h : Ins a i j d) (ha : 0 ≤ a) (h1 : a < j) (h2 : j ≤ i) (h3 : i < d.length) (hc : cmpM (gD z0 d j) (gD z0 d (j - 1)) < 0) : Ins a i (j - 1) ((d.set j.toNat (gD z0 d (j - 1))).set (j - 1).toNat (gD z0 d j)) := by
  intro p q g1 g2 g3 g4
  rw [swp_at (by omega) (by omega) (by omega) (by omega), swp_at (by omega) (by omega) (by omega) (by omega), if_neg (c := q = j - 1) g4]
  by_cases c1 : q = j
  · rw [if_pos c1]
    by_cases c2 : p = j - 1
    · rw [if_pos c2]; exact leM.of_lt hc
    · rw [if_neg c2, if_neg (by omega)]
      exact h p (j - 1) g1 (by omega) (by omega) (by omega)
  · rw [if_neg c1]
    by_cases c2 : p = j - 1
    · rw [if_pos c2]; exact h j q (by omega) (by omega) g3 c1
    · rw [if_neg c2]
      by_cases c3 : p = j
      · rw [if_pos c3]; exact h (j - 1) q (by omega) (by omega) g3 c1
      · rw [if_neg c3]; exact h p q g1 g2 g3 c1
theorem Ins.fin {a i j : Int} {d : List MvT} (h : Ins a i j d) (hc : j ≤ a ∨ leM (gD z0 d (j - 1)) (gD z0 d j)) : Sd a (i + 1) d := by
  intro p q g1 g2 g3
  by_cases c0 : p = q
  · rw [c0]; exact leM.refl _
  · by_cases c1 : q = j
    · rcases hc with hc | hc
      · omega
      · by_cases c2 : p = j - 1
        · rw [c1, c2]; exact hc
        · refine leM.trans (h p (j - 1) g1 (by omega) (by omega) (by omega)) ?_
          rw [c1]; exact hc
    · exact h p q g1 (by omega) (by omega) c1
theorem Sd.ins {a i : Int} {d : List MvT} (h : Sd a i d) : Ins a i i d := fun p q g1 g2 g3 g4 => h p q g1 (by omega) (by omega)

section
variable {N : Nat} (hN : 4 ≤ N) (d : List MvT) (hd : d.length ≤ 1000000)
include hN hd
/-! ### insertion sort -/
theorem insS_l1 {d0 : List MvT} {a b : Int} (ha : 0 ≤ a) (hb : b ≤ d.length) {i : Int} (hi : i < b) {B : Nat} {Q : List MvT → Prop} (hB : ∀ n d', B ≤ n → W a b d d' → Sd a (i + 1) d' → Ret (slices_insertionSortCmpFunc_api_Move'.l0 N d0 a b n (w64 (i + 1)) d') Q) :
    ∀ (k n : Nat) (j : Int) (d' : List MvT), j - a ≤ k → a ≤ j → j ≤ i → B + k + 1 ≤ n → W a b d d' → Ins a i j d' → Ret (slices_insertionSortCmpFunc_api_Move'.l1 N d0 a b n i j d') Q := by
  intro k
  induction k with
  | zero =>
    intro n j d' hk h1 h2 hn hp hI
    obtain ⟨n, rfl⟩ : ∃ m, n = m + 1 := ⟨n - 1, by omega⟩
    rw [slices_insertionSortCmpFunc_api_Move'.l1_s, slices_insertionSortCmpFunc_api_Move'.s1, bif_f (ltI_f (by omega))]
    exact hB n d' (by omega) hp (hI.fin (Or.inl (by omega)))
  | succ k ih =>
    intro n j d' hk h1 h2 hn hp hI
    have hl := hp.len
    obtain ⟨n, rfl⟩ : ∃ m, n = m + 1 := ⟨n - 1, by omega⟩
    rw [slices_insertionSortCmpFunc_api_Move'.l1_s, slices_insertionSortCmpFunc_api_Move'.s1]
    refine Ret.bif (fun c => ?_) (fun c => hB n d' (by omega) hp (hI.fin (Or.inl (by rw [ltI_iff'] at c; omega))))
    rw [ltI_iff] at c
    simp (disch := omega) only [w64_id, chk_idx, List.length_set, cmpM_eq hN, Option.bind_some]
    refine Ret.bif (fun c2 => ?_) (fun c2 => ?_)
    · rw [ltI_iff] at c2
      exact ih n (j - 1) _ (by omega) (by omega) (by omega) (by omega) (hp.swp ha hb (by omega) (by omega) (by omega) (by omega)) (hI.step ha c h2 (by omega) c2)
    · rw [ltI_iff'] at c2
      have := hB n d' (by omega) hp (hI.fin (Or.inr (Int.not_lt.2 c2)))
      simpa (disch := omega) only [w64_id] using this
theorem insS_l0 {d0 : List MvT} {a b : Int} (ha : 0 ≤ a) (hb : b ≤ d.length) (hab : b - a ≤ 12) : ∀ (k n : Nat) (i : Int) (d' : List MvT), b - i ≤ k → a ≤ i → 20 * k + 1 ≤ n → W a b d d' → Sd a i d' → Ret (slices_insertionSortCmpFunc_api_Move'.l0 N d0 a b n i d') fun y => W a b d y ∧ Sd a b y := by
  intro k
  induction k with
  | zero =>
    intro n i d' hk h1 hn hp hS
    obtain ⟨n, rfl⟩ : ∃ m, n = m + 1 := ⟨n - 1, by omega⟩
    rw [slices_insertionSortCmpFunc_api_Move'.l0_s, slices_insertionSortCmpFunc_api_Move'.s0, bif_f (ltI_f (by omega))]
    exact Ret.ret ⟨hp, fun p q g1 g2 g3 => hS p q g1 g2 (by omega)⟩
  | succ k ih =>
    intro n i d' hk h1 hn hp hS
    obtain ⟨n, rfl⟩ : ∃ m, n = m + 1 := ⟨n - 1, by omega⟩
    rw [slices_insertionSortCmpFunc_api_Move'.l0_s, slices_insertionSortCmpFunc_api_Move'.s0]
    refine Ret.bif (fun c => ?_) (fun c => Ret.ret ⟨hp, fun p q g1 g2 g3 => hS p q g1 g2 (by rw [ltI_iff'] at c; omega)⟩)
    rw [ltI_iff] at c
    refine insS_l1 hN d hd ha hb c (B := 20 * k + 1) (fun n' d'' hn' hp' hS' => ?_) 12 n i d' (by omega) h1 (Int.le_refl _) (by omega) hp hS.ins
    simpa (disch := omega) only [w64_id] using ih n' (i + 1) d'' (by omega) (by omega) hn' hp' hS'
theorem insS {a b : Int} (ha : 0 ≤ a) (hab0 : a ≤ b) (hb : b ≤ d.length) (hab : b - a ≤ 12) (hN' : 300 ≤ N) {d0 : List MvT} (hp : W a b d d0) : Ret (slices_insertionSortCmpFunc_api_Move' N d0 a b) fun y => W a b d y ∧ Sd a b y := by
  unfold slices_insertionSortCmpFunc_api_Move' slices_insertionSortCmpFunc_api_Move'.e
  simpa (disch := omega) only [w64_id] using insS_l0 hN d hd ha hb hab 12 N (a + 1) d0 (by omega) (by omega) (by omega) hp (fun p q g1 g2 g3 => by
    obtain rfl : p = q := by omega
    exact leM.refl _)
end
end Go.Proofs.Ytiacnffpgdikoaa.Am
