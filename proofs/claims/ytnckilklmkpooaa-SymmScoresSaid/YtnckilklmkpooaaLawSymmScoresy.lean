/- The plain law SymmScores (with the sort of moves sorts, no move twice): the plain function says true at every input. -/
import Derived.Test.YtnckilklmkpooaaLawSortM4y
import Derived.Test.YtnckilklmkpooaaLawCompacty
import Derived.Test.YtnckilklmkpooaaLawGeny
import Derived.Test.YtnckilklmkpooaaLawTree0y
import Derived.Test.YtnckilklmkpooaaLawMiry
import Derived.Test.YtnckilklmkpooaaLawChecky
set_option linter.unusedVariables false
set_option linter.unusedSimpArgs false
set_option linter.unusedSectionVars false
namespace Go.Proofs.Ytnckilklmkpooaa.Am
open Go

/-! ### SortA -/
theorem cmpM_lt (x y : MvT) : cmpM x y < 0 ↔ x.1 < y.1 ∨ (x.1 = y.1 ∧ (x.2.1 < y.2.1 ∨ (x.2.1 = y.2.1 ∧ x.2.2 < y.2.2))) := by
  have h : ∀ a b : Int, (a < b ∧ cmpI a b = -1) ∨ (b < a ∧ cmpI a b = 1) ∨ (a = b ∧ cmpI a b = 0) := by
    intro a b
    unfold cmpI
    by_cases c : a < b
    · rw [bif_t (ltI_t c)]; exact Or.inl ⟨c, rfl⟩
    · rw [bif_f (ltI_f (by omega))]
      by_cases c2 : b < a
      · rw [bif_t (ltI_t c2)]; exact Or.inr (Or.inl ⟨c2, rfl⟩)
      · rw [bif_f (ltI_f (by omega))]; exact Or.inr (Or.inr ⟨by omega, rfl⟩)
  have h1 := h x.1 y.1
  have h2 := h x.2.1 y.2.1
  have h3 := h x.2.2 y.2.2
  unfold cmpM
  by_cases c1 : cmpI x.1 y.1 = 0
  · rw [bif_f (by rw [eqI_t c1]; rfl)]
    by_cases c2 : cmpI x.2.1 y.2.1 = 0
    · rw [bif_f (by rw [eqI_t c2]; rfl)]; omega
    · rw [bif_t (by rw [eqI_f c2]; rfl)]; omega
  · rw [bif_t (by rw [eqI_f c1]; rfl)]; omega
/-- not after -/
def leM (x y : MvT) : Prop := ¬ cmpM y x < 0
theorem leM_iff (x y : MvT) : leM x y ↔ x.1 < y.1 ∨ (x.1 = y.1 ∧ (x.2.1 < y.2.1 ∨ (x.2.1 = y.2.1 ∧ x.2.2 ≤ y.2.2))) := by
  unfold leM
  rw [cmpM_lt]
  omega
theorem leM.refl (x : MvT) : leM x x := by rw [leM_iff]; omega
theorem leM.trans {x y z : MvT} (h1 : leM x y) (h2 : leM y z) : leM x z := by rw [leM_iff] at *; omega
theorem leM.of_lt {x y : MvT} (h : cmpM x y < 0) : leM x y := by rw [leM_iff]; rw [cmpM_lt] at h; omega
theorem leM.anti {x y : MvT} (h1 : leM x y) (h2 : leM y x) : x = y := by
  rw [leM_iff] at *
  obtain ⟨a, b, c⟩ := x
  obtain ⟨a', b', c'⟩ := y
  dsimp only at *
  obtain rfl : a = a' := by omega
  obtain rfl : b = b' := by omega
  obtain rfl : c = c' := by omega
  rfl
theorem gD_set' {d : List MvT} {i k : Int} {v : MvT} (hi : 0 ≤ i) (hk : 0 ≤ k) (hk' : k < d.length) : gD z0 (d.set i.toNat v) k = if k = i then v else gD z0 d k := by
  obtain ⟨i, rfl⟩ : ∃ q : Nat, i = q := ⟨i.toNat, by omega⟩
  obtain ⟨k, rfl⟩ : ∃ q : Nat, k = q := ⟨k.toNat, by omega⟩
  rw [Int.toNat_natCast, gD_nat (by rw [List.length_set]; omega), gD_nat (by omega), List.getElem_set]
  by_cases h : i = k
  · rw [if_pos h, if_pos (by omega)]
  · rw [if_neg h, if_neg (by omega)]
theorem swp_at {d : List MvT} {i j k : Int} (hi : 0 ≤ i) (hj : 0 ≤ j) (hk : 0 ≤ k) (hk' : k < d.length) : gD z0 ((d.set i.toNat (gD z0 d j)).set j.toNat (gD z0 d i)) k = if k = j then gD z0 d i else if k = i then gD z0 d j else gD z0 d k := by
  rw [gD_set' hj hk (by rw [List.length_set]; exact hk'), gD_set' hi hk hk']
/-- written only from a on, below b -/
structure W (a b : Int) (d d' : List MvT) : Prop where
  pm : d'.Perm d
  out : ∀ i : Int, 0 ≤ i → i < (d.length : Int) → (i < a ∨ b ≤ i) → gD z0 d' i = gD z0 d i
  sub : ∀ i, a ≤ i → i < b → ∃ j, a ≤ j ∧ j < b ∧ gD z0 d' i = gD z0 d j
theorem W.len {a b : Int} {d d' : List MvT} (h : W a b d d') : d'.length = d.length := h.pm.length_eq
theorem W.refl (a b : Int) (d : List MvT) : W a b d d := ⟨List.Perm.refl _, fun _ _ _ _ => rfl, fun i h1 h2 => ⟨i, h1, h2, rfl⟩⟩
theorem W.trans {a b : Int} {d d' d'' : List MvT} (h : W a b d d') (h2 : W a b d' d'') : W a b d d'' := by
  have := h.len
  refine ⟨h2.pm.trans h.pm, fun i h0 h1 ho => (h2.out i h0 (by omega) ho).trans (h.out i h0 h1 ho), fun i g1 g2 => ?_⟩
  obtain ⟨j, k1, k2, k3⟩ := h2.sub i g1 g2
  obtain ⟨q, l1, l2, l3⟩ := h.sub j k1 k2
  exact ⟨q, l1, l2, k3.trans l3⟩
theorem W.mono {a b a' b' : Int} {d d' : List MvT} (h : W a b d d') (h0 : 0 ≤ a') (h1 : a' ≤ a) (h2 : b ≤ b') (h3 : b' ≤ d.length) : W a' b' d d' := by
  refine ⟨h.pm, fun i g0 g1 ho => h.out i g0 g1 (by omega), fun i g1 g2 => ?_⟩
  by_cases c : a ≤ i ∧ i < b
  · obtain ⟨j, k1, k2, k3⟩ := h.sub i c.1 c.2
    exact ⟨j, by omega, by omega, k3⟩
  · exact ⟨i, g1, g2, h.out i (by omega) (by omega) (by omega)⟩
theorem W.swp {a b : Int} {d d' : List MvT} (h : W a b d d') (ha : 0 ≤ a) (hb : b ≤ d.length) {i j : Int} (hi : a ≤ i) (hi' : i < b) (hj : a ≤ j) (hj' : j < b) : W a b d ((d'.set i.toNat (gD z0 d' j)).set j.toNat (gD z0 d' i)) := by
  have hl := h.len
  refine h.trans ⟨swp_perm (by omega) (by omega) (by omega) (by omega), fun k g0 g1 ho => ?_, fun k g1 g2 => ?_⟩
  · rw [swp_at (by omega) (by omega) g0 g1, if_neg (by omega), if_neg (by omega)]
  · rw [swp_at (by omega) (by omega) (by omega) (by omega)]
    by_cases c1 : k = j
    · rw [if_pos c1]; exact ⟨i, hi, hi', rfl⟩
    · rw [if_neg c1]
      by_cases c2 : k = i
      · rw [if_pos c2]; exact ⟨j, hj, hj', rfl⟩
      · rw [if_neg c2]; exact ⟨k, g1, g2, rfl⟩
/-- what is true of all stays true of all -/
theorem W.all {a b : Int} {d d' : List MvT} (h : W a b d d') {P : MvT → Prop} (hP : ∀ i, a ≤ i → i < b → P (gD z0 d i)) : ∀ i, a ≤ i → i < b → P (gD z0 d' i) := by
  intro i h1 h2
  obtain ⟨j, k1, k2, k3⟩ := h.sub i h1 h2
  rw [k3]
  exact hP j k1 k2
/-- sorted, from a on, below b -/
def Sd (a b : Int) (d : List MvT) : Prop := ∀ i j, a ≤ i → i ≤ j → j < b → leM (gD z0 d i) (gD z0 d j)
theorem Sd.out {a b a' b' : Int} {d d' : List MvT} (h : Sd a b d) (hw : W a' b' d d') (h0 : 0 ≤ a) (hb : b ≤ d.length) (ho : b ≤ a' ∨ b' ≤ a) : Sd a b d' := by
  intro i j h1 h2 h3
  rw [hw.out i (by omega) (by omega) (by omega), hw.out j (by omega) (by omega) (by omega)]
  exact h i j h1 h2 h3
/-- nothing is less than what lies below a -/
def Lo (a b : Int) (d : List MvT) : Prop := 0 < a → ∀ i, a ≤ i → i < b → leM (gD z0 d (a - 1)) (gD z0 d i)
theorem Lo.W {a b : Int} {d d' : List MvT} (h : Lo a b d) (hw : W a b d d') (hb : b ≤ d.length) : Lo a b d' := by
  intro h0 i h1 h2
  rw [hw.out (a - 1) (by omega) (by omega) (by omega)]
  exact hw.all (P := fun x => leM (gD z0 d (a - 1)) x) (fun j g1 g2 => h h0 j g1 g2) i h1 h2
/-- sorted but for the one at j -/
def Ins (a i j : Int) (d : List MvT) : Prop := ∀ p q, a ≤ p → p < q → q ≤ i → q ≠ j → leM (gD z0 d p) (gD z0 d q)
theorem Ins.step {a i j : Int} {d : List MvT} (h : Ins a i j d) (ha : 0 ≤ a) (h1 : a < j) (h2 : j ≤ i) (h3 : i < d.length) (hc : cmpM (gD z0 d j) (gD z0 d (j - 1)) < 0) : Ins a i (j - 1) ((d.set j.toNat (gD z0 d (j - 1))).set (j - 1).toNat (gD z0 d j)) := by
  intro p q g1 g2 g3 g4
  rw [swp_at (by omega) (by omega) (by omega) (by omega), swp_at (by omega) (by omega) (by omega) (by omega), if_neg (c := q = j - 1) g4]
  by_cases c1 : q = j
  · rw [if_pos c1]
    by_cases c2 : p = j - 1
    · rw [if_pos c2]; exact leM.of_lt hc
    · rw [if_neg c2, if_neg (by omega)]
      exact h p (j - 1) g1 (by omega) (by omega) (by omega)
  · rw [if_neg c1]
    by_cases c2 : p = j - 1
    · rw [if_pos c2]; exact h j q (by omega) (by omega) g3 c1
    · rw [if_neg c2]
      by_cases c3 : p = j
      · rw [if_pos c3]; exact h (j - 1) q (by omega) (by omega) g3 c1
      · rw [if_neg c3]; exact h p q g1 g2 g3 c1
theorem Ins.fin {a i j : Int} {d : List MvT} (h : Ins a i j d) (hc : j ≤ a ∨ leM (gD z0 d (j - 1)) (gD z0 d j)) : Sd a (i + 1) d := by
  intro p q g1 g2 g3
  by_cases c0 : p = q
  · rw [c0]; exact leM.refl _
  · by_cases c1 : q = j
    · rcases hc with hc | hc
      · omega
      · by_cases c2 : p = j - 1
        · rw [c1, c2]; exact hc
        · refine leM.trans (h p (j - 1) g1 (by omega) (by omega) (by omega)) ?_
          rw [c1]; exact hc
    · exact h p q g1 (by omega) (by omega) c1
theorem Sd.ins {a i : Int} {d : List MvT} (h : Sd a i d) : Ins a i i d := fun p q g1 g2 g3 g4 => h p q g1 (by omega) (by omega)

section
variable {N : Nat} (hN : 4 ≤ N) (d : List MvT) (hd : d.length ≤ 1000000)
include hN hd
/-! ### insertion sort -/
theorem insS_l1 {d0 : List MvT} {a b : Int} (ha : 0 ≤ a) (hb : b ≤ d.length) {i : Int} (hi : i < b) {B : Nat} {Q : List MvT → Prop} (hB : ∀ n d', B ≤ n → W a b d d' → Sd a (i + 1) d' → Ret (slices_insertionSortCmpFunc_api_Move'.l0 N d0 a b n (w64 (i + 1)) d') Q) :
    ∀ (k n : Nat) (j : Int) (d' : List MvT), j - a ≤ k → a ≤ j → j ≤ i → B + k + 1 ≤ n → W a b d d' → Ins a i j d' → Ret (slices_insertionSortCmpFunc_api_Move'.l1 N d0 a b n i j d') Q := by
  intro k
  induction k with
  | zero =>
    intro n j d' hk h1 h2 hn hp hI
    obtain ⟨n, rfl⟩ : ∃ m, n = m + 1 := ⟨n - 1, by omega⟩
    rw [slices_insertionSortCmpFunc_api_Move'.l1_s, slices_insertionSortCmpFunc_api_Move'.s1, bif_f (ltI_f (by omega))]
    exact hB n d' (by omega) hp (hI.fin (Or.inl (by omega)))
  | succ k ih =>
    intro n j d' hk h1 h2 hn hp hI
    have hl := hp.len
    obtain ⟨n, rfl⟩ : ∃ m, n = m + 1 := ⟨n - 1, by omega⟩
    rw [slices_insertionSortCmpFunc_api_Move'.l1_s, slices_insertionSortCmpFunc_api_Move'.s1]
    refine Ret.bif (fun c => ?_) (fun c => hB n d' (by omega) hp (hI.fin (Or.inl (by rw [ltI_iff'] at c; omega))))
    rw [ltI_iff] at c
    simp (disch := omega) only [w64_id, chk_idx, List.length_set, cmpM_eq hN, Option.bind_some]
    refine Ret.bif (fun c2 => ?_) (fun c2 => ?_)
    · rw [ltI_iff] at c2
      exact ih n (j - 1) _ (by omega) (by omega) (by omega) (by omega) (hp.swp ha hb (by omega) (by omega) (by omega) (by omega)) (hI.step ha c h2 (by omega) c2)
    · rw [ltI_iff'] at c2
      have := hB n d' (by omega) hp (hI.fin (Or.inr (Int.not_lt.2 c2)))
      simpa (disch := omega) only [w64_id] using this
theorem insS_l0 {d0 : List MvT} {a b : Int} (ha : 0 ≤ a) (hb : b ≤ d.length) (hab : b - a ≤ 12) : ∀ (k n : Nat) (i : Int) (d' : List MvT), b - i ≤ k → a ≤ i → 20 * k + 1 ≤ n → W a b d d' → Sd a i d' → Ret (slices_insertionSortCmpFunc_api_Move'.l0 N d0 a b n i d') fun y => W a b d y ∧ Sd a b y := by
  intro k
  induction k with
  | zero =>
    intro n i d' hk h1 hn hp hS
    obtain ⟨n, rfl⟩ : ∃ m, n = m + 1 := ⟨n - 1, by omega⟩
    rw [slices_insertionSortCmpFunc_api_Move'.l0_s, slices_insertionSortCmpFunc_api_Move'.s0, bif_f (ltI_f (by omega))]
    exact Ret.ret ⟨hp, fun p q g1 g2 g3 => hS p q g1 g2 (by omega)⟩
  | succ k ih =>
    intro n i d' hk h1 hn hp hS
    obtain ⟨n, rfl⟩ : ∃ m, n = m + 1 := ⟨n - 1, by omega⟩
    rw [slices_insertionSortCmpFunc_api_Move'.l0_s, slices_insertionSortCmpFunc_api_Move'.s0]
    refine Ret.bif (fun c => ?_) (fun c => Ret.ret ⟨hp, fun p q g1 g2 g3 => hS p q g1 g2 (by rw [ltI_iff'] at c; omega)⟩)
    rw [ltI_iff] at c
    refine insS_l1 hN d hd ha hb c (B := 20 * k + 1) (fun n' d'' hn' hp' hS' => ?_) 12 n i d' (by omega) h1 (Int.le_refl _) (by omega) hp hS.ins
    simpa (disch := omega) only [w64_id] using ih n' (i + 1) d'' (by omega) (by omega) hn' hp' hS'
theorem insS {a b : Int} (ha : 0 ≤ a) (hab0 : a ≤ b) (hb : b ≤ d.length) (hab : b - a ≤ 12) (hN' : 300 ≤ N) {d0 : List MvT} (hp : W a b d d0) : Ret (slices_insertionSortCmpFunc_api_Move' N d0 a b) fun y => W a b d y ∧ Sd a b y := by
  unfold slices_insertionSortCmpFunc_api_Move' slices_insertionSortCmpFunc_api_Move'.e
  simpa (disch := omega) only [w64_id] using insS_l0 hN d hd ha hb hab 12 N (a + 1) d0 (by omega) (by omega) (by omega) hp (fun p q g1 g2 g3 => by
    obtain rfl : p = q := by omega
    exact leM.refl _)
end

/-! ### SortB -/
/-- no child is greater, from lo on -/
def Hp (f lo hi : Int) (d : List MvT) : Prop := ∀ p c, lo ≤ p → (c = 2 * p + 1 ∨ c = 2 * p + 2) → c < hi → leM (gD z0 d (f + c)) (gD z0 d (f + p))
/-- .. but for those of root -/
structure HpX (f lo hi root : Int) (d : List MvT) : Prop where
  h : ∀ p c, lo ≤ p → p ≠ root → (c = 2 * p + 1 ∨ c = 2 * p + 2) → c < hi → leM (gD z0 d (f + c)) (gD z0 d (f + p))
  br : ∀ p c, lo ≤ p → (root = 2 * p + 1 ∨ root = 2 * p + 2) → (c = 2 * root + 1 ∨ c = 2 * root + 2) → c < hi → leM (gD z0 d (f + c)) (gD z0 d (f + p))
theorem Hp.x {f i hi : Int} {d : List MvT} (h : Hp f (i + 1) hi d) (h0 : 0 ≤ i) : HpX f i hi i d :=
  ⟨fun p c g1 g2 g3 g4 => h p c (by omega) g3 g4, fun p c g1 g2 g3 g4 => by omega⟩
theorem HpX.fin {f lo hi root : Int} {d : List MvT} (h : HpX f lo hi root d) (hc : ∀ c, (c = 2 * root + 1 ∨ c = 2 * root + 2) → c < hi → leM (gD z0 d (f + c)) (gD z0 d (f + root))) : Hp f lo hi d := by
  intro p c g1 g2 g3
  by_cases e : p = root
  · subst e; exact hc c g2 g3
  · exact h.h p c g1 e g2 g3
theorem HpX.step {f lo hi root ch : Int} {d : List MvT} (h : HpX f lo hi root d) (hf : 0 ≤ f) (hlo : 0 ≤ lo) (hr : lo ≤ root) (hch : ch = 2 * root + 1 ∨ ch = 2 * root + 2) (hhi : ch < hi) (hl : f + hi ≤ d.length)
    (hlt : leM (gD z0 d (f + root)) (gD z0 d (f + ch))) (hmax : ∀ c, (c = 2 * root + 1 ∨ c = 2 * root + 2) → c < hi → leM (gD z0 d (f + c)) (gD z0 d (f + ch))) :
    HpX f lo hi ch ((d.set (f + root).toNat (gD z0 d (f + ch))).set (f + ch).toNat (gD z0 d (f + root))) := by
  refine ⟨fun p c g1 g2 g3 g4 => ?_, fun p c g1 g2 g3 g4 => ?_⟩
  · rw [swp_at (by omega) (by omega) (by omega) (by omega), swp_at (by omega) (by omega) (by omega) (by omega), if_neg (c := f + p = f + ch) (by omega)]
    by_cases e1 : p = root
    · rw [if_pos (c := f + p = f + root) (by omega)]
      by_cases e2 : c = ch
      · rw [if_pos (by omega)]; exact hlt
      · rw [if_neg (by omega), if_neg (by omega)]
        exact hmax c (by omega) g4
    · rw [if_neg (c := f + p = f + root) (by omega), if_neg (by omega)]
      by_cases e2 : c = root
      · rw [if_pos (by omega)]
        exact h.br p ch g1 (by omega) hch hhi
      · rw [if_neg (by omega)]
        exact h.h p c g1 e1 g3 g4
  · rw [swp_at (by omega) (by omega) (by omega) (by omega), swp_at (by omega) (by omega) (by omega) (by omega), if_neg (by omega), if_neg (by omega), if_neg (by omega), if_pos (by omega)]
    exact h.h ch c (by omega) (by omega) g3 g4
theorem Hp.max {f hi : Int} {d : List MvT} (h : Hp f 0 hi d) : ∀ (n : Nat) (c : Int), c < n → 0 ≤ c → c < hi → leM (gD z0 d (f + c)) (gD z0 d f)
  | 0, c, h1, h2, _ => by omega
  | n + 1, c, h1, h2, h3 => by
    by_cases e : c = 0
    · rw [e, Int.add_zero]; exact leM.refl _
    · have hp := Hp.max h n ((c - 1) / 2) (by omega) (by omega) (by omega)
      exact (h ((c - 1) / 2) c (by omega) (by omega) h3).trans hp
section
variable {N : Nat} (hN : 2000000 ≤ N)
include hN
theorem siftS_l0 (d : List MvT) (hd : d.length ≤ 1000000) {d0 : List MvT} {lo hi first : Int} (hf : 0 ≤ first) (hlo : 0 ≤ lo) (hh : first + hi ≤ d.length) : ∀ (k n : Nat) (root : Int) (d' : List MvT), hi - root ≤ k → lo ≤ root → first + root < d.length → root < 1000001 → k + 1 ≤ n → W first (first + hi) d d' → HpX first lo hi root d' →
    Ret (slices_siftDownCmpFunc_api_Move'.l0 N d0 lo hi first n root d') fun y => W first (first + hi) d y ∧ Hp first lo hi y := by
  intro k
  induction k with
  | zero =>
    intro n root d' hk h1 h2 h3 hn hp hx
    obtain ⟨n, rfl⟩ : ∃ m, n = m + 1 := ⟨n - 1, by omega⟩
    rw [slices_siftDownCmpFunc_api_Move'.l0_s, slices_siftDownCmpFunc_api_Move'.s0]
    simp (disch := omega) only [w64_id]
    rw [bif_t (leI_t (by omega))]
    exact Ret.ret ⟨hp, hx.fin fun c g1 g2 => by omega⟩
  | succ k ih =>
    intro n root d' hk h1 h2 h3 hn hp hx
    have hl := hp.len
    obtain ⟨n, rfl⟩ : ∃ m, n = m + 1 := ⟨n - 1, by omega⟩
    rw [slices_siftDownCmpFunc_api_Move'.l0_s, slices_siftDownCmpFunc_api_Move'.s0]
    simp (disch := omega) only [w64_id]
    refine Ret.bif (fun c => Ret.ret ⟨hp, hx.fin fun q g1 g2 => by rw [leI_iff] at c; omega⟩) (fun c => ?_)
    rw [leI_iff'] at c
    refine Ret.bif (fun c2 => ?_) (fun c2 => ?_)
    · rw [ltI_iff] at c2
      simp (disch := omega) only [w64_id, chk_idx, List.length_set, cmpM_eq (show 4 ≤ N by omega), Option.bind_some]
      have e2 : first + (2 * root + 1) + 1 = first + (2 * root + 2) := by omega
      have e3 : first + (2 * root + 1 + 1) = first + (2 * root + 2) := by omega
      refine Ret.bif (fun c3 => ?_) (fun c3 => ?_)
      · rw [ltI_iff, e2] at c3
        rw [e3]
        have hmax : ∀ q, (q = 2 * root + 1 ∨ q = 2 * root + 2) → q < hi → leM (gD z0 d' (first + q)) (gD z0 d' (first + (2 * root + 2))) := by
          intro q g1 g2
          rcases g1 with g1 | g1
          · rw [g1]; exact leM.of_lt c3
          · rw [g1]; exact leM.refl _
        refine Ret.bif (fun c4 => Ret.ret ⟨hp, hx.fin fun q g1 g2 => ?_⟩) (fun c4 => ?_)
        · rw [not_t, ltI_iff'] at c4
          exact (hmax q g1 g2).trans (Int.not_lt.2 c4)
        · rw [not_f, ltI_iff] at c4
          rw [show 2 * root + 1 + 1 = 2 * root + 2 by omega]
          exact ih n _ _ (by omega) (by omega) (by omega) (by omega) (by omega) (hp.swp hf hh (by omega) (by omega) (by omega) (by omega)) (hx.step hf hlo h1 (Or.inr rfl) (by omega) (by omega) (leM.of_lt c4) hmax)
      · rw [ltI_iff', e2] at c3
        have hmax : ∀ q, (q = 2 * root + 1 ∨ q = 2 * root + 2) → q < hi → leM (gD z0 d' (first + q)) (gD z0 d' (first + (2 * root + 1))) := by
          intro q g1 g2
          rcases g1 with g1 | g1
          · rw [g1]; exact leM.refl _
          · rw [g1]; exact Int.not_lt.2 c3
        refine Ret.bif (fun c4 => Ret.ret ⟨hp, hx.fin fun q g1 g2 => ?_⟩) (fun c4 => ?_)
        · rw [not_t, ltI_iff'] at c4
          exact (hmax q g1 g2).trans (Int.not_lt.2 c4)
        · rw [not_f, ltI_iff] at c4
          exact ih n _ _ (by omega) (by omega) (by omega) (by omega) (by omega) (hp.swp hf hh (by omega) (by omega) (by omega) (by omega)) (hx.step hf hlo h1 (Or.inl rfl) (by omega) (by omega) (leM.of_lt c4) hmax)
    · rw [ltI_iff'] at c2
      simp (disch := omega) only [w64_id, chk_idx, List.length_set, cmpM_eq (show 4 ≤ N by omega), Option.bind_some]
      have hmax : ∀ q, (q = 2 * root + 1 ∨ q = 2 * root + 2) → q < hi → leM (gD z0 d' (first + q)) (gD z0 d' (first + (2 * root + 1))) := by
        intro q g1 g2
        obtain rfl : q = 2 * root + 1 := by omega
        exact leM.refl _
      refine Ret.bif (fun c4 => Ret.ret ⟨hp, hx.fin fun q g1 g2 => ?_⟩) (fun c4 => ?_)
      · rw [not_t, ltI_iff'] at c4
        exact (hmax q g1 g2).trans (Int.not_lt.2 c4)
      · rw [not_f, ltI_iff] at c4
        exact ih n _ _ (by omega) (by omega) (by omega) (by omega) (by omega) (hp.swp hf hh (by omega) (by omega) (by omega) (by omega)) (hx.step hf hlo h1 (Or.inl rfl) (by omega) (by omega) (leM.of_lt c4) hmax)
theorem siftS (d : List MvT) (hd : d.length ≤ 1000000) {lo hi first : Int} (hf : 0 ≤ first) (hlo : 0 ≤ lo) (hh : first + hi ≤ d.length) (h2 : first + lo < d.length) (hx : HpX first lo hi lo d) : Ret (slices_siftDownCmpFunc_api_Move' N d lo hi first) fun y => W first (first + hi) d y ∧ Hp first lo hi y := by
  unfold slices_siftDownCmpFunc_api_Move' slices_siftDownCmpFunc_api_Move'.e
  exact siftS_l0 hN d hd hf hlo hh 1000001 N lo d (by omega) (Int.le_refl _) h2 (by omega) (by omega) (W.refl _ _ _) hx
theorem heapS_l1 (d : List MvT) (hd : d.length ≤ 1000000) {d0 : List MvT} {a b : Int} (ha : 0 ≤ a) (hb : b ≤ d.length) : ∀ (k n : Nat) (i : Int) (d' : List MvT), i + 1 ≤ k → -1 ≤ i → a + i < b → k + 1 ≤ n → W a b d d' → Hp a 0 (i + 1) d' → Sd (a + i + 1) b d' → (∀ p q, a ≤ p → p < a + i + 1 → a + i + 1 ≤ q → q < b → leM (gD z0 d' p) (gD z0 d' q)) →
    Ret (slices_heapSortCmpFunc_api_Move'.l1 N d0 a b n i d') fun y => W a b d y ∧ Sd a b y := by
  intro k
  induction k with
  | zero =>
    intro n i d' hk h1 h2 hn hp hh hS hc
    obtain ⟨n, rfl⟩ : ∃ m, n = m + 1 := ⟨n - 1, by omega⟩
    rw [slices_heapSortCmpFunc_api_Move'.l1_s, slices_heapSortCmpFunc_api_Move'.s1, bif_f (leI_f (by omega))]
    exact Ret.ret ⟨hp, fun p q g1 g2 g3 => hS p q (by omega) g2 g3⟩
  | succ k ih =>
    intro n i d' hk h1 h2 hn hp hh hS hc
    have hl := hp.len
    obtain ⟨n, rfl⟩ : ∃ m, n = m + 1 := ⟨n - 1, by omega⟩
    rw [slices_heapSortCmpFunc_api_Move'.l1_s, slices_heapSortCmpFunc_api_Move'.s1]
    refine Ret.bif (fun c => ?_) (fun c => Ret.ret ⟨hp, fun p q g1 g2 g3 => hS p q (by rw [leI_iff'] at c; omega) g2 g3⟩)
    rw [leI_iff] at c
    simp (disch := omega) only [w64_id, chk_idx, List.length_set]
    have hw := hp.swp ha hb (i := a) (j := a + i) (by omega) (by omega) (by omega) (by omega)
    have hat : ∀ q : Int, 0 ≤ q → q < d'.length → gD z0 ((d'.set a.toNat (gD z0 d' (a + i))).set (a + i).toNat (gD z0 d' a)) q = if q = a + i then gD z0 d' a else if q = a then gD z0 d' (a + i) else gD z0 d' q := fun q g1 g2 => swp_at (by omega) (by omega) g1 g2
    show Ret ((slices_siftDownCmpFunc_api_Move' N ((d'.set a.toNat (gD z0 d' (a + i))).set (a + i).toNat (gD z0 d' a)) 0 i a).bind _) _
    generalize hx : (d'.set a.toNat (gD z0 d' (a + i))).set (a + i).toNat (gD z0 d' a) = x at hw hat
    have hlx := hw.len
    have hX : HpX a 0 i 0 x := by
      refine ⟨fun p q g1 g2 g3 g4 => ?_, fun p q g1 g2 g3 g4 => by omega⟩
      rw [hat _ (by omega) (by omega), hat _ (by omega) (by omega), if_neg (by omega), if_neg (by omega), if_neg (by omega), if_neg (by omega)]
      exact hh p q g1 g3 (by omega)
    refine Ret.bnd (siftS hN x (by omega) ha (Int.le_refl _) (by omega) (by omega) hX) fun y hy => ?_
    obtain ⟨hy1, hy2⟩ := hy
    have hmax : ∀ p, a ≤ p → p < a + i + 1 → leM (gD z0 d' p) (gD z0 d' a) := by
      intro p g1 g2
      have := hh.max (p - a + 1).toNat (p - a) (by omega) (by omega) (by omega)
      rw [show a + (p - a) = p by omega] at this
      exact this
    have hlow : ∀ p, a ≤ p → p < a + i → leM (gD z0 y p) (gD z0 d' a) ∧ ∀ q, a + i + 1 ≤ q → q < b → leM (gD z0 y p) (gD z0 d' q) := by
      intro p g1 g2
      obtain ⟨j, k1, k2, k3⟩ := hy1.sub p g1 g2
      rw [k3, hat j (by omega) (by omega), if_neg (by omega)]
      by_cases e : j = a
      · rw [if_pos e]; exact ⟨hmax _ (by omega) (by omega), fun q l1 l2 => hc _ _ (by omega) (by omega) l1 l2⟩
      · rw [if_neg e]; exact ⟨hmax _ (by omega) (by omega), fun q l1 l2 => hc _ _ (by omega) (by omega) l1 l2⟩
    have hup : ∀ q, a + i ≤ q → q < b → gD z0 y q = if q = a + i then gD z0 d' a else gD z0 d' q := by
      intro q g1 g2
      rw [hy1.out q (by omega) (by omega) (by omega), hat q (by omega) (by omega)]
      by_cases e : q = a + i
      · rw [if_pos e, if_pos e]
      · rw [if_neg e, if_neg e, if_neg (by omega)]
    refine ih n (i - 1) y (by omega) (by omega) (by omega) (by omega) (hw.trans (hy1.mono ha (Int.le_refl _) (by omega) (by omega))) (by rw [show i - 1 + 1 = i by omega]; exact hy2) (fun p q g1 g2 g3 => ?_) (fun p q g1 g2 g3 g4 => ?_)
    · rw [hup p (by omega) (by omega), hup q (by omega) g3]
      by_cases e1 : p = a + i
      · rw [if_pos e1]
        by_cases e2 : q = a + i
        · rw [if_pos e2]; exact leM.refl _
        · rw [if_neg e2]; exact hc a q (by omega) (by omega) (by omega) g3
      · rw [if_neg e1, if_neg (by omega)]
        exact hS p q (by omega) g2 g3
    · rw [hup q (by omega) g4]
      by_cases e2 : q = a + i
      · rw [if_pos e2]; exact (hlow p g1 (by omega)).1
      · rw [if_neg e2]; exact (hlow p g1 (by omega)).2 q (by omega) g4
theorem heapS_l0 (d : List MvT) (hd : d.length ≤ 1000000) {d0 : List MvT} {a b : Int} (ha : 0 ≤ a) (hab : a < b) (hb : b ≤ d.length) : ∀ (k n : Nat) (i : Int) (d' : List MvT), i + 1 ≤ k → -1 ≤ i → a + i < b → k + 1000002 ≤ n → W a b d d' → Hp a (i + 1) (b - a) d' → Ret (slices_heapSortCmpFunc_api_Move'.l0 N d0 a b n i d') fun y => W a b d y ∧ Sd a b y := by
  intro k
  induction k with
  | zero =>
    intro n i d' hk h1 h2 hn hp hh
    obtain ⟨n, rfl⟩ : ∃ m, n = m + 1 := ⟨n - 1, by omega⟩
    rw [slices_heapSortCmpFunc_api_Move'.l0_s, slices_heapSortCmpFunc_api_Move'.s0, bif_f (leI_f (by omega))]
    simp (disch := omega) only [w64_id]
    obtain rfl : i = -1 := by omega
    exact heapS_l1 hN d hd ha hb 1000000 n _ d' (by omega) (by omega) (by omega) (by omega) hp (by rw [show b - a - 1 + 1 = b - a by omega]; exact hh) (fun p q g1 g2 g3 => by omega) (fun p q g1 g2 g3 g4 => by omega)
  | succ k ih =>
    intro n i d' hk h1 h2 hn hp hh
    have hl := hp.len
    obtain ⟨n, rfl⟩ : ∃ m, n = m + 1 := ⟨n - 1, by omega⟩
    rw [slices_heapSortCmpFunc_api_Move'.l0_s, slices_heapSortCmpFunc_api_Move'.s0]
    simp (disch := omega) only [w64_id]
    refine Ret.bif (fun c => ?_) (fun c => ?_)
    · rw [leI_iff] at c
      refine Ret.bnd (siftS hN d' (by omega) ha c (by omega) (by omega) (hh.x c)) fun y hy => ?_
      exact ih n (i - 1) y (by omega) (by omega) (by omega) (by omega) (hp.trans (by have := hy.1; rw [show a + (b - a) = b by omega] at this; exact this)) (by rw [show i - 1 + 1 = i by omega]; exact hy.2)
    · rw [leI_iff'] at c
      obtain rfl : i = -1 := by omega
      exact heapS_l1 hN d hd ha hb 1000000 n _ d' (by omega) (by omega) (by omega) (by omega) hp (by rw [show b - a - 1 + 1 = b - a by omega]; exact hh) (fun p q g1 g2 g3 => by omega) (fun p q g1 g2 g3 g4 => by omega)
theorem heapS (d : List MvT) (hd : d.length ≤ 1000000) {a b : Int} (ha : 0 ≤ a) (hab : a < b) (hb : b ≤ d.length) {d0 : List MvT} (hp : W a b d d0) : Ret (slices_heapSortCmpFunc_api_Move' N d0 a b) fun y => W a b d y ∧ Sd a b y := by
  unfold slices_heapSortCmpFunc_api_Move' slices_heapSortCmpFunc_api_Move'.e
  rw [w64_id (x := b - a) (by omega) (by omega), w64_id (x := b - a - 1) (by omega) (by omega), Int.tdiv_eq_ediv_of_nonneg (by omega), w64_id (by omega) (by omega)]
  exact heapS_l0 hN d hd ha hab hb 500001 N _ d0 (by omega) (by omega) (by omega) (by omega) hp (fun p c g1 g2 g3 => by omega)
end
section
variable (d : List MvT) (hd : d.length ≤ 1000000)
include hd
theorem reverseS_l0 {N : Nat} {d0 : List MvT} {a b : Int} (ha : 0 ≤ a) (hb : b ≤ d.length) : ∀ (k n : Nat) (i j : Int) (d' : List MvT), j - i ≤ k → a ≤ i → a - 1 ≤ j → j < b → i ≤ 2000000 → k + 1 ≤ n → W a b d d' → Ret (slices_reverseRangeCmpFunc_api_Move'.l0 N d0 a b n i j d') (W a b d) := by
  intro k
  induction k with
  | zero =>
    intro n i j d' hk h1 h2 h3 h4 hn hp
    obtain ⟨n, rfl⟩ : ∃ m, n = m + 1 := ⟨n - 1, by omega⟩
    rw [slices_reverseRangeCmpFunc_api_Move'.l0_s, slices_reverseRangeCmpFunc_api_Move'.s0, bif_f (ltI_f (by omega))]
    exact Ret.ret hp
  | succ k ih =>
    intro n i j d' hk h1 h2 h3 h4 hn hp
    have hl := hp.len
    obtain ⟨n, rfl⟩ : ∃ m, n = m + 1 := ⟨n - 1, by omega⟩
    rw [slices_reverseRangeCmpFunc_api_Move'.l0_s, slices_reverseRangeCmpFunc_api_Move'.s0]
    refine Ret.bif (fun c => ?_) (fun _ => Ret.ret hp)
    rw [ltI_iff] at c
    simp (disch := omega) only [w64_id, chk_idx, List.length_set]
    exact ih n (i + 1) (j - 1) _ (by omega) (by omega) (by omega) (by omega) (by omega) (by omega) (hp.swp ha hb (by omega) (by omega) (by omega) (by omega))
theorem reverseS {N : Nat} (hN : 2000000 ≤ N) {d0 : List MvT} {a b : Int} (ha : 0 ≤ a) (hab : a < b) (hb : b ≤ d.length) (hp : W a b d d0) : Ret (slices_reverseRangeCmpFunc_api_Move' N d0 a b) (W a b d) := by
  unfold slices_reverseRangeCmpFunc_api_Move' slices_reverseRangeCmpFunc_api_Move'.e
  rw [w64_id (by omega) (by omega)]
  exact reverseS_l0 d hd ha hb 1000000 N a (b - 1) d0 (by omega) (Int.le_refl _) (by omega) (by omega) (by omega) (by omega) hp
end
section
variable {N : Nat} (hN : 100000000 ≤ N) (d : List MvT) (hd : d.length ≤ 8192)
include hN hd
theorem breakS_l0 {d0 : List MvT} {a b : Int} (ha : 0 ≤ a) (hab : 8 ≤ b - a) (hb : b ≤ d.length) {m : Nat} (hm1 : 1 ≤ m) (hm : m ≤ 2 * (b - a)) : ∀ (k n : Nat) (idx : Int) (d' : List MvT) (rnd : Int), a + (b - a) / 4 * 2 + 2 - idx ≤ k → a ≤ idx → k + 1 ≤ n → W a b d d' → Ret (slices_breakPatternsCmpFunc_api_Move'.l0 N d0 a b n (m : Int) idx d' rnd) (W a b d) := by
  have ht : Int.tdiv (b - a) 4 = (b - a) / 4 := Int.tdiv_eq_ediv_of_nonneg (by omega)
  intro k
  induction k with
  | zero =>
    intro n idx d' rnd hk h1 hn hp
    obtain ⟨n, rfl⟩ : ∃ m, n = m + 1 := ⟨n - 1, by omega⟩
    rw [slices_breakPatternsCmpFunc_api_Move'.l0_s, slices_breakPatternsCmpFunc_api_Move'.s0]
    rw [w64_id (x := b - a) (by omega) (by omega), ht]
    simp (disch := omega) only [w64_id]
    rw [bif_f (leI_f (by omega))]
    exact Ret.ret hp
  | succ k ih =>
    intro n idx d' rnd hk h1 hn hp
    have hl := hp.len
    obtain ⟨n, rfl⟩ : ∃ m, n = m + 1 := ⟨n - 1, by omega⟩
    rw [slices_breakPatternsCmpFunc_api_Move'.l0_s, slices_breakPatternsCmpFunc_api_Move'.s0]
    rw [w64_id (x := b - a) (by omega) (by omega), ht]
    simp (disch := omega) only [w64_id]
    refine Ret.bif (fun c => ?_) (fun _ => Ret.ret hp)
    rw [leI_iff] at c
    obtain ⟨y, hy⟩ : ∃ y, slices_xorshift_Next N rnd = some y := ⟨_, rfl⟩
    rw [hy, Option.bind_some]
    have hmm : IntKind.wrap .u64 ((m : Int) - 1) = ((m - 1 : Nat) : Int) := by
      unfold IntKind.wrap
      have e : (2 : Int) ^ IntKind.bits .u64 = 18446744073709551616 := by decide
      simp only [e]
      have : ((m : Int) - 1) % 18446744073709551616 = ((m - 1 : Nat) : Int) := by omega
      simp [IntKind.signed, this]
    rw [hmm]
    obtain ⟨q1, q2⟩ := and_le y.1 (m - 1) (by omega)
    generalize Go.bits .and .u64 y.1 ((m - 1 : Nat) : Int) = v at q1 q2
    simp (disch := omega) only [w64_id]
    refine Ret.bif (fun c2 => ?_) (fun c2 => ?_)
    · rw [leI_iff] at c2
      simp (disch := omega) only [w64_id, chk_idx, List.length_set]
      exact ih n (idx + 1) _ _ (by omega) (by omega) (by omega) (hp.swp ha hb (by omega) (by omega) (by omega) (by omega))
    · rw [leI_iff'] at c2
      simp (disch := omega) only [w64_id, chk_idx, List.length_set]
      exact ih n (idx + 1) _ _ (by omega) (by omega) (by omega) (hp.swp ha hb (by omega) (by omega) (by omega) (by omega))
theorem breakS {d0 : List MvT} {a b : Int} (ha : 0 ≤ a) (hab : a ≤ b) (hb : b ≤ d.length) (hp : W a b d d0) : Ret (slices_breakPatternsCmpFunc_api_Move' N d0 a b) (W a b d) := by
  unfold slices_breakPatternsCmpFunc_api_Move' slices_breakPatternsCmpFunc_api_Move'.e
  have ht : Int.tdiv (b - a) 4 = (b - a) / 4 := Int.tdiv_eq_ediv_of_nonneg (by omega)
  rw [w64_id (x := b - a) (by omega) (by omega), ht]
  simp (disch := omega) only [w64_id]
  refine Ret.bif (fun c => ?_) (fun _ => Ret.ret hp)
  rw [leI_iff] at c
  obtain ⟨l, hl⟩ : ∃ l : Nat, b - a = l := ⟨(b - a).toNat, by omega⟩
  obtain ⟨v, v1, v2, v3, v4⟩ := bitsLen_le N (k := l) (by omega) (by omega)
  unfold slices_nextPowerOfTwo slices_nextPowerOfTwo.e
  rw [hl, v1, Option.bind_some, bif_f (ltI_f v2), Option.bind_some]
  have hpw : (1 : Nat) ≤ 2 ^ v.toNat := Nat.one_le_two_pow
  have hw : IntKind.wrap .u64 (1 * 2 ^ (min v.toNat 64)) = ((2 ^ v.toNat : Nat) : Int) := by
    rw [Nat.min_eq_left (by omega), wrapU]
    have e2 : (1 : Int) * 2 ^ v.toNat = ((2 ^ v.toNat : Nat) : Int) := by simp
    rw [e2]
    exact Int.emod_eq_of_lt (by omega) (by omega)
  rw [hw, ← hl]
  exact breakS_l0 hN d hd ha c hb hpw (by omega) 10000 N _ d0 _ (by omega) (by omega) (by omega) hp
end

/-! ### SortC -/
section
variable {N : Nat} (hN : 100000000 ≤ N) (d : List MvT) (hd : d.length ≤ 1000000)
include hN hd
/-- sorted, if it says so -/
abbrev SdB (a b : Int) (d : List MvT) (y : Bool × List MvT) : Prop := W a b d y.2 ∧ (y.1 = true → Sd a b y.2)
omit hN hd in
theorem Sd.above {a i p q : Int} {d : List MvT} (h : Sd a i d) (ha : 0 ≤ a) (hi : i ≤ d.length) (hp : i ≤ p) (hq : i ≤ q) : Sd a i ((d.set p.toNat (gD z0 d q)).set q.toNat (gD z0 d p)) := by
  intro s t g1 g2 g3
  rw [swp_at (by omega) (by omega) (by omega) (by omega), swp_at (by omega) (by omega) (by omega) (by omega), if_neg (by omega), if_neg (by omega), if_neg (by omega), if_neg (by omega)]
  exact h s t g1 g2 g3
theorem partS_l3 {d0 : List MvT} {a b i j : Int} {B : Nat} (ha : 0 ≤ a) (hai : a ≤ i) (hib : i ≤ b) (hb : b ≤ d.length) (hj : 0 ≤ j ∧ j ≤ 5) (h0 : ∀ n d', B ≤ n → W a b d d' → Sd a i d' → Ret (slices_partialInsertionSortCmpFunc_api_Move'.l0 N d0 a b n i (j + 1) d') (SdB a b d)) :
    ∀ (k n : Nat) (t : Int) (d' : List MvT), b - t ≤ k → i < t → t ≤ 1000001 → B + k + 1 ≤ n → W a b d d' → Sd a i d' → Ret (slices_partialInsertionSortCmpFunc_api_Move'.l3 N d0 a b n i j t d') (SdB a b d) := by
  intro k
  induction k with
  | zero =>
    intro n t d' hk h1 h2 hn hp hS
    obtain ⟨n, rfl⟩ : ∃ m, n = m + 1 := ⟨n - 1, by omega⟩
    rw [slices_partialInsertionSortCmpFunc_api_Move'.l3_s, slices_partialInsertionSortCmpFunc_api_Move'.s3, bif_f (ltI_f (by omega))]
    simp (disch := omega) only [w64_id]
    exact h0 n d' (by omega) hp hS
  | succ k ih =>
    intro n t d' hk h1 h2 hn hp hS
    have hl := hp.len
    obtain ⟨n, rfl⟩ : ∃ m, n = m + 1 := ⟨n - 1, by omega⟩
    rw [slices_partialInsertionSortCmpFunc_api_Move'.l3_s, slices_partialInsertionSortCmpFunc_api_Move'.s3]
    refine Ret.bif (fun c => ?_) (fun _ => by simpa (disch := omega) only [w64_id] using h0 n d' (by omega) hp hS)
    rw [ltI_iff] at c
    simp (disch := omega) only [w64_id, chk_idx, List.length_set, cmpM_eq (show 4 ≤ N by omega), Option.bind_some]
    refine Ret.bif (fun _ => h0 n d' (by omega) hp hS) (fun _ => ?_)
    exact ih n (t + 1) _ (by omega) (by omega) (by omega) (by omega) (hp.swp ha hb (by omega) (by omega) (by omega) (by omega)) (hS.above ha (by omega) (by omega) (by omega))
theorem partS_l2 {d0 : List MvT} {a b i j : Int} {B : Nat} (ha : 0 ≤ a) (hai : a + 1 ≤ i) (hib : i ≤ b) (hb : b ≤ d.length) (hLo : Lo a b d) (hab : a < b) (hj : 0 ≤ j ∧ j ≤ 5) (h0 : ∀ n d', B ≤ n → W a b d d' → Sd a i d' → Ret (slices_partialInsertionSortCmpFunc_api_Move'.l0 N d0 a b n i (j + 1) d') (SdB a b d)) :
    ∀ (k n : Nat) (t : Int) (d' : List MvT), t ≤ k → a ≤ t → t < i → B + 1000010 + k + 1 ≤ n → W a b d d' → Ins a (i - 1) t d' → Ret (slices_partialInsertionSortCmpFunc_api_Move'.l2 N d0 a b n i j t d') (SdB a b d) := by
  have fin : ∀ (n : Nat) (d' : List MvT), B + 1000010 ≤ n → W a b d d' → Sd a i d' → Ret (bif (leI 2 (b - i)) then (slices_partialInsertionSortCmpFunc_api_Move'.l3 N d0 a b n i j (i + 1) d') else slices_partialInsertionSortCmpFunc_api_Move'.l0 N d0 a b n i (j + 1) d') (SdB a b d) := by
    intro n d' hn hp hS
    refine Ret.bif (fun _ => ?_) (fun _ => h0 n d' (by omega) hp hS)
    exact partS_l3 hN d hd ha (by omega) hib hb hj h0 1000001 n (i + 1) d' (by omega) (by omega) (by omega) (by omega) hp hS
  intro k
  induction k with
  | zero =>
    intro n t d' hk h1 h2 hn hp hI
    obtain ⟨n, rfl⟩ : ∃ m, n = m + 1 := ⟨n - 1, by omega⟩
    rw [slices_partialInsertionSortCmpFunc_api_Move'.l2_s, slices_partialInsertionSortCmpFunc_api_Move'.s2, bif_f (leI_f (by omega))]
    simp (disch := omega) only [w64_id]
    exact fin n d' (by omega) hp (by have := hI.fin (Or.inl (by omega)); rwa [show i - 1 + 1 = i by omega] at this)
  | succ k ih =>
    intro n t d' hk h1 h2 hn hp hI
    have hl := hp.len
    obtain ⟨n, rfl⟩ : ∃ m, n = m + 1 := ⟨n - 1, by omega⟩
    rw [slices_partialInsertionSortCmpFunc_api_Move'.l2_s, slices_partialInsertionSortCmpFunc_api_Move'.s2]
    refine Ret.bif (fun c => ?_) (fun c => ?_)
    · rw [leI_iff] at c
      simp (disch := omega) only [w64_id, chk_idx, List.length_set, cmpM_eq (show 4 ≤ N by omega), Option.bind_some]
      refine Ret.bif (fun c2 => fin n d' (by omega) hp ?_) (fun c2 => ?_)
      · rw [not_t, ltI_iff'] at c2
        have := hI.fin (Or.inr (Int.not_lt.2 c2))
        rwa [show i - 1 + 1 = i by omega] at this
      · rw [not_f, ltI_iff] at c2
        by_cases hta : t = a
        · exfalso
          have := (hLo.W hp hb) (by omega) a (Int.le_refl _) hab
          rw [hta] at c2
          exact this c2
        · exact ih n (t - 1) _ (by omega) (by omega) (by omega) (by omega) (hp.swp ha hb (by omega) (by omega) (by omega) (by omega)) (hI.step ha (by omega) (by omega) (by omega) c2)
    · rw [leI_iff'] at c
      have := fin n d' (by omega) hp (by have := hI.fin (Or.inl (by omega)); rwa [show i - 1 + 1 = i by omega] at this)
      simpa (disch := omega) only [w64_id] using this
theorem partS_l1 {d0 : List MvT} {a b j : Int} {B : Nat} (ha : 0 ≤ a) (hab : a < b) (hb : b ≤ d.length) (hLo : Lo a b d) (hj : 0 ≤ j ∧ j ≤ 4) (h0 : ∀ n i d', a + 1 ≤ i → i ≤ b → B ≤ n → W a b d d' → Sd a i d' → Ret (slices_partialInsertionSortCmpFunc_api_Move'.l0 N d0 a b n i (j + 1) d') (SdB a b d)) :
    ∀ (k n : Nat) (i : Int) (d' : List MvT), b - i ≤ k → a + 1 ≤ i → i ≤ b → B + 2000030 + k + 1 ≤ n → W a b d d' → Sd a i d' → Ret (slices_partialInsertionSortCmpFunc_api_Move'.l1 N d0 a b n i j d') (SdB a b d) := by
  intro k
  induction k with
  | zero =>
    intro n i d' hk h1 h2 hn hp hS
    obtain ⟨n, rfl⟩ : ∃ m, n = m + 1 := ⟨n - 1, by omega⟩
    rw [slices_partialInsertionSortCmpFunc_api_Move'.l1_s, slices_partialInsertionSortCmpFunc_api_Move'.s1, bif_f (ltI_f (by omega)), bif_t (eqI_t (by omega))]
    obtain rfl : i = b := by omega
    exact Ret.ret ⟨hp, fun _ => hS⟩
  | succ k ih =>
    intro n i d' hk h1 h2 hn hp hS
    have hl := hp.len
    obtain ⟨n, rfl⟩ : ∃ m, n = m + 1 := ⟨n - 1, by omega⟩
    rw [slices_partialInsertionSortCmpFunc_api_Move'.l1_s, slices_partialInsertionSortCmpFunc_api_Move'.s1]
    refine Ret.bif (fun c => ?_) (fun c => ?_)
    · rw [ltI_iff] at c
      simp (disch := omega) only [w64_id, chk_idx, List.length_set, cmpM_eq (show 4 ≤ N by omega), Option.bind_some]
      refine Ret.bif (fun c2 => ih n (i + 1) d' (by omega) (by omega) (by omega) (by omega) hp ?_) (fun c2 => ?_)
      · rw [not_t, ltI_iff'] at c2
        exact hS.ins.fin (Or.inr (Int.not_lt.2 c2))
      refine Ret.bif (fun c3 => Ret.ret ⟨hp, fun _ => by rw [eqI_iff] at c3; omega⟩) (fun _ => Ret.bif (fun _ => Ret.ret ⟨hp, fun h => by cases h⟩) (fun _ => ?_))
      have hp' := hp.swp ha hb (i := i) (j := i - 1) (by omega) (by omega) (by omega) (by omega)
      have hI : Ins a (i - 1) (i - 1) ((d'.set i.toNat (gD z0 d' (i - 1))).set (i - 1).toNat (gD z0 d' i)) := by
        intro p q g1 g2 g3 g4
        rw [swp_at (by omega) (by omega) (by omega) (by omega), swp_at (by omega) (by omega) (by omega) (by omega), if_neg (by omega), if_neg (by omega), if_neg (by omega), if_neg (by omega)]
        exact hS p q g1 (by omega) (by omega)
      refine Ret.bif (fun _ => ?_) (fun c4 => ?_)
      · exact partS_l2 hN d hd ha h1 h2 hb hLo hab (by omega) (fun n d' h hp hS => h0 n i d' h1 h2 h hp hS) 1000000 n (i - 1) _ (by omega) (by omega) (by omega) (by omega) hp' hI
      · rw [leI_iff'] at c4
        have hS' : Sd a i ((d'.set i.toNat (gD z0 d' (i - 1))).set (i - 1).toNat (gD z0 d' i)) := fun p q g1 g2 g3 => by
          obtain rfl : p = q := by omega
          exact leM.refl _
        refine Ret.bif (fun _ => ?_) (fun _ => h0 n i _ h1 h2 (by omega) hp' hS')
        exact partS_l3 hN d hd ha (by omega) h2 hb (by omega) (fun n d' h hp hS => h0 n i d' h1 h2 h hp hS) 1000000 n (i + 1) _ (by omega) (by omega) (by omega) (by omega) hp' hS'
    · rw [ltI_iff'] at c
      rw [bif_t (eqI_t (by omega))]
      obtain rfl : i = b := by omega
      exact Ret.ret ⟨hp, fun _ => hS⟩
theorem partS_l0 {d0 : List MvT} {a b : Int} (ha : 0 ≤ a) (hab : a < b) (hb : b ≤ d.length) (hLo : Lo a b d) : ∀ (k n : Nat) (i j : Int) (d' : List MvT), 5 - j ≤ k → 0 ≤ j → j ≤ 5 → a + 1 ≤ i → i ≤ b → 4000100 * k + 1 ≤ n → W a b d d' → Sd a i d' → Ret (slices_partialInsertionSortCmpFunc_api_Move'.l0 N d0 a b n i j d') (SdB a b d) := by
  intro k
  induction k with
  | zero =>
    intro n i j d' hk h1 h2 h3 h4 hn hp hS
    obtain ⟨n, rfl⟩ : ∃ m, n = m + 1 := ⟨n - 1, by omega⟩
    rw [slices_partialInsertionSortCmpFunc_api_Move'.l0_s, slices_partialInsertionSortCmpFunc_api_Move'.s0, bif_f (ltI_f (by omega))]
    exact Ret.ret ⟨hp, fun h => by cases h⟩
  | succ k ih =>
    intro n i j d' hk h1 h2 h3 h4 hn hp hS
    obtain ⟨n, rfl⟩ : ∃ m, n = m + 1 := ⟨n - 1, by omega⟩
    rw [slices_partialInsertionSortCmpFunc_api_Move'.l0_s, slices_partialInsertionSortCmpFunc_api_Move'.s0]
    refine Ret.bif (fun c => ?_) (fun _ => Ret.ret ⟨hp, fun h => by cases h⟩)
    rw [ltI_iff] at c
    exact partS_l1 hN d hd (B := 4000100 * k + 1) ha hab hb hLo (by omega) (fun n i d' g1 g2 g3 hp hS => ih n i (j + 1) d' (by omega) (by omega) (by omega) g1 g2 g3 hp hS) 1000000 n i d' (by omega) h3 h4 (by omega) hp hS
theorem partS {d0 : List MvT} {a b : Int} (ha : 0 ≤ a) (hab : a < b) (hb : b ≤ d.length) (hLo : Lo a b d) (hp : W a b d d0) : Ret (slices_partialInsertionSortCmpFunc_api_Move' N d0 a b) (SdB a b d) := by
  unfold slices_partialInsertionSortCmpFunc_api_Move' slices_partialInsertionSortCmpFunc_api_Move'.e
  rw [w64_id (by omega) (by omega)]
  exact partS_l0 hN d hd ha hab hb hLo 5 N (a + 1) 0 d0 (by omega) (by omega) (by omega) (by omega) (by omega) (by omega) hp (fun p q g1 g2 g3 => by
    obtain rfl : p = q := by omega
    exact leM.refl _)

/-! ### equal elements first -/
/-- what is not greater stands ahead of i, what is greater behind j -/
structure EqI (a b i j : Int) (pv : MvT) (d d' : List MvT) : Prop where
  w : W a b d d'
  pe : gD z0 d' a = pv
  lo : ∀ k, a < k → k < i → leM (gD z0 d' k) pv
  hi : ∀ k, j < k → k < b → cmpM pv (gD z0 d' k) < 0
abbrev EqQ (a b : Int) (pv : MvT) (d : List MvT) (y : Int × List MvT) : Prop := (a < y.1 ∧ y.1 ≤ b) ∧ W a b d y.2 ∧ (∀ k, a ≤ k → k < y.1 → leM (gD z0 y.2 k) pv) ∧ ∀ k, y.1 ≤ k → k < b → cmpM pv (gD z0 y.2 k) < 0
omit hN hd in
theorem EqI.fin {a b i j : Int} {pv : MvT} {d d' : List MvT} (h : EqI a b i j pv d d') (h1 : a < i) (h2 : i ≤ b) (h3 : j < i) : EqQ a b pv d (i, d') :=
  ⟨⟨h1, h2⟩, h.w, fun k g1 g2 => by
    by_cases e : k = a
    · rw [e, h.pe]; exact leM.refl _
    · exact h.lo k (by omega) g2, fun k g1 g2 => h.hi k (by omega) g2⟩
theorem equS_l {d0 : List MvT} {a b p : Int} {pv : MvT} (ha : 0 ≤ a) (hb : b ≤ d.length) : ∀ (n : Nat) (i j : Int) (d' : List MvT), a < i → i ≤ j + 2 → i ≤ b → j < b → EqI a b i j pv d d' →
    (3 * (j - i + 2) + 1 ≤ n → (i ≤ j → cmpM pv (gD z0 d' i) < 0) → Ret (slices_partitionEqualCmpFunc_api_Move'.l2 N d0 a b p n i j d') (EqQ a b pv d)) ∧
    (3 * (j - i + 2) + 2 ≤ n → Ret (slices_partitionEqualCmpFunc_api_Move'.l1 N d0 a b p n i j d') (EqQ a b pv d)) ∧
    (3 * (j - i + 2) + 3 ≤ n → Ret (slices_partitionEqualCmpFunc_api_Move'.l0 N d0 a b p n i j d') (EqQ a b pv d)) := by
  intro n
  induction n with
  | zero => exact fun i j d' h1 h2 hib h3 hp => ⟨fun h => by omega, fun h => by omega, fun h => by omega⟩
  | succ n ih =>
    intro i j d' h1 h2 hib h3 hp
    have hl := hp.w.len
    have hpv : gD ((0 : Int), ((0 : Int), (0 : Int))) d' a = pv := hp.pe
    refine ⟨fun h hx => ?_, fun h => ?_, fun h => ?_⟩
    · rw [slices_partitionEqualCmpFunc_api_Move'.l2_s, slices_partitionEqualCmpFunc_api_Move'.s2]
      refine Ret.bif (fun c => ?_) (fun c => ?_)
      · rw [leI_iff] at c
        simp (disch := omega) only [w64_id, chk_idx, List.length_set, cmpM_eq (show 4 ≤ N by omega), Option.bind_some]
        rw [hpv]
        refine Ret.bif (fun c2 => (ih i (j - 1) d' h1 (by omega) hib (by omega) ⟨hp.w, hp.pe, hp.lo, fun k g1 g2 => ?_⟩).1 (by omega) (fun _ => hx c)) (fun c2 => ?_)
        · rw [ltI_iff] at c2
          by_cases e : k = j
          · rw [e]; exact c2
          · exact hp.hi k (by omega) g2
        · rw [ltI_iff'] at c2
          refine Ret.bif (fun c => Ret.ret (by rw [ltI_iff] at c; omega)) (fun c3 => ?_)
          have hat : ∀ q : Int, 0 ≤ q → q < d'.length → gD z0 ((d'.set i.toNat (gD z0 d' j)).set j.toNat (gD z0 d' i)) q = if q = j then gD z0 d' i else if q = i then gD z0 d' j else gD z0 d' q := fun q g1 g2 => swp_at (by omega) (by omega) g1 g2
          refine (ih (i + 1) (j - 1) ((d'.set i.toNat (gD z0 d' j)).set j.toNat (gD z0 d' i)) (by omega) (by omega) (by omega) (by omega) ⟨hp.w.swp ha hb (by omega) (by omega) (by omega) (by omega), ?_, fun k g1 g2 => ?_, fun k g1 g2 => ?_⟩).2.2 (by omega)
          · rw [hat a ha (by omega), if_neg (by omega), if_neg (by omega)]; exact hp.pe
          · rw [hat k (by omega) (by omega)]
            by_cases e1 : k = j
            · rw [if_pos e1]
              obtain rfl : i = j := by omega
              exact Int.not_lt.2 c2
            · rw [if_neg e1]
              by_cases e2 : k = i
              · rw [if_pos e2]; exact Int.not_lt.2 c2
              · rw [if_neg e2]; exact hp.lo k g1 (by omega)
          · rw [hat k (by omega) (by omega)]
            by_cases e1 : k = j
            · rw [if_pos e1]; exact hx c
            · rw [if_neg e1, if_neg (by omega)]; exact hp.hi k (by omega) g2
      · rw [leI_iff'] at c
        rw [bif_t (ltI_t c)]
        exact Ret.ret (hp.fin h1 hib c)
    · rw [slices_partitionEqualCmpFunc_api_Move'.l1_s, slices_partitionEqualCmpFunc_api_Move'.s1]
      refine Ret.bif (fun c => ?_) (fun c => (ih i j d' h1 h2 hib h3 hp).1 (by omega) (fun g => by rw [leI_iff'] at c; omega))
      rw [leI_iff] at c
      simp (disch := omega) only [w64_id, chk_idx, List.length_set, cmpM_eq (show 4 ≤ N by omega), Option.bind_some]
      rw [hpv]
      refine Ret.bif (fun c2 => (ih (i + 1) j d' (by omega) (by omega) (by omega) h3 ⟨hp.w, hp.pe, fun k g1 g2 => ?_, hp.hi⟩).2.1 (by omega)) (fun c2 => (ih i j d' h1 h2 hib h3 hp).1 (by omega) (fun _ => ?_))
      · rw [not_t, ltI_iff'] at c2
        by_cases e : k = i
        · rw [e]; exact Int.not_lt.2 c2
        · exact hp.lo k g1 (by omega)
      · rw [not_f, ltI_iff] at c2
        exact c2
    · rw [slices_partitionEqualCmpFunc_api_Move'.l0_s, slices_partitionEqualCmpFunc_api_Move'.s0]
      exact (ih i j d' h1 h2 hib h3 hp).2.1 (by omega)
theorem equS {d0 : List MvT} {a b p : Int} (ha : 0 ≤ a) (hab : a < b) (hb : b ≤ d.length) (hpv : a ≤ p ∧ p < b) (hp : W a b d d0) : Ret (slices_partitionEqualCmpFunc_api_Move' N d0 a b p) (EqQ a b (gD z0 d0 p) d) := by
  unfold slices_partitionEqualCmpFunc_api_Move' slices_partitionEqualCmpFunc_api_Move'.e
  have hl := hp.len
  simp (disch := omega) only [w64_id, chk_idx, List.length_set]
  refine (equS_l hN d hd (pv := gD z0 d0 p) ha hb N (a + 1) (b - 1) ((d0.set a.toNat (gD z0 d0 p)).set p.toNat (gD z0 d0 a)) (by omega) (by omega) (by omega) (by omega) ⟨hp.swp ha hb (by omega) (by omega) (by omega) (by omega), ?_, fun k g1 g2 => by omega, fun k g1 g2 => by omega⟩).2.2 (by omega)
  rw [swp_at (by omega) (by omega) ha (by omega)]
  by_cases e : a = p
  · rw [if_pos e, e]
  · rw [if_neg e, if_pos rfl]

/-! ### the partition -/
structure PaI (a b i j : Int) (pv : MvT) (d d' : List MvT) : Prop where
  w : W a b d d'
  pe : gD z0 d' a = pv
  lo : ∀ k, a < k → k < i → cmpM (gD z0 d' k) pv < 0
  hi : ∀ k, j < k → k < b → leM pv (gD z0 d' k)
abbrev PaQ (a b : Int) (d : List MvT) (y : Int × (Bool × List MvT)) : Prop := (a ≤ y.1 ∧ y.1 < b) ∧ W a b d y.2.2 ∧ (∀ k, a ≤ k → k < y.1 → leM (gD z0 y.2.2 k) (gD z0 y.2.2 y.1)) ∧ ∀ k, y.1 < k → k < b → leM (gD z0 y.2.2 y.1) (gD z0 y.2.2 k)
omit hN hd in
theorem PaI.fin {a b i j : Int} {pv : MvT} {d d' : List MvT} (h : PaI a b i j pv d d') (ha : 0 ≤ a) (hb : b ≤ d.length) (h1 : a ≤ j) (h2 : j < b) (h3 : j < i) (f : Bool) : PaQ a b d (j, (f, (d'.set j.toNat (gD z0 d' a)).set a.toNat (gD z0 d' j))) := by
  have hl := h.w.len
  have hat : ∀ q : Int, 0 ≤ q → q < d'.length → gD z0 ((d'.set j.toNat (gD z0 d' a)).set a.toNat (gD z0 d' j)) q = if q = a then gD z0 d' j else if q = j then gD z0 d' a else gD z0 d' q := fun q g1 g2 => swp_at (by omega) (by omega) g1 g2
  have hjv : gD z0 ((d'.set j.toNat (gD z0 d' a)).set a.toNat (gD z0 d' j)) j = pv := by
    rw [hat j (by omega) (by omega)]
    by_cases e : j = a
    · rw [if_pos e, e]; exact h.pe
    · rw [if_neg e, if_pos rfl]; exact h.pe
  refine ⟨⟨h1, h2⟩, h.w.swp ha hb h1 h2 (by omega) (by omega), fun k g1 g2 => ?_, fun k g1 g2 => ?_⟩
  · dsimp only at g2 ⊢
    rw [hjv, hat k (by omega) (by omega)]
    by_cases e : k = a
    · rw [if_pos e]
      exact leM.of_lt (h.lo j (by omega) (by omega))
    · rw [if_neg e, if_neg (by omega)]
      exact leM.of_lt (h.lo k (by omega) (by omega))
  · dsimp only at g1 ⊢
    rw [hjv, hat k (by omega) (by omega), if_neg (by omega), if_neg (by omega)]
    exact h.hi k g1 g2
omit hN hd in
theorem PaI.swap {a b i j : Int} {pv : MvT} {d d' : List MvT} (h : PaI a b i j pv d d') (ha : 0 ≤ a) (hb : b ≤ d.length) (h1 : a < i) (h2 : i ≤ j) (h3 : j < b) (hi : leM pv (gD z0 d' i)) (hj : cmpM (gD z0 d' j) pv < 0) : PaI a b (i + 1) (j - 1) pv d ((d'.set i.toNat (gD z0 d' j)).set j.toNat (gD z0 d' i)) := by
  have hl := h.w.len
  have hat : ∀ q : Int, 0 ≤ q → q < d'.length → gD z0 ((d'.set i.toNat (gD z0 d' j)).set j.toNat (gD z0 d' i)) q = if q = j then gD z0 d' i else if q = i then gD z0 d' j else gD z0 d' q := fun q g1 g2 => swp_at (by omega) (by omega) g1 g2
  refine ⟨h.w.swp ha hb (by omega) (by omega) (by omega) (by omega), ?_, fun k g1 g2 => ?_, fun k g1 g2 => ?_⟩
  · rw [hat a ha (by omega), if_neg (by omega), if_neg (by omega)]; exact h.pe
  · rw [hat k (by omega) (by omega)]
    by_cases e1 : k = j
    · rw [if_pos e1]
      obtain rfl : i = j := by omega
      exact hj
    · rw [if_neg e1]
      by_cases e2 : k = i
      · rw [if_pos e2]; exact hj
      · rw [if_neg e2]; exact h.lo k g1 (by omega)
  · rw [hat k (by omega) (by omega)]
    by_cases e1 : k = j
    · rw [if_pos e1]; exact hi
    · rw [if_neg e1, if_neg (by omega)]; exact h.hi k (by omega) g2
omit hN hd in
theorem PaI.down {a b i j : Int} {pv : MvT} {d d' : List MvT} (h : PaI a b i j pv d d') (c2 : 0 ≤ cmpM (gD z0 d' j) pv) : PaI a b i (j - 1) pv d d' :=
  ⟨h.w, h.pe, h.lo, fun k g1 g2 => by
    by_cases e : k = j
    · rw [e]; exact Int.not_lt.2 c2
    · exact h.hi k (by omega) g2⟩
omit hN hd in
theorem PaI.up {a b i j : Int} {pv : MvT} {d d' : List MvT} (h : PaI a b i j pv d d') (c2 : cmpM (gD z0 d' i) pv < 0) : PaI a b (i + 1) j pv d d' :=
  ⟨h.w, h.pe, fun k g1 g2 => by
    by_cases e : k = i
    · rw [e]; exact c2
    · exact h.lo k g1 (by omega), h.hi⟩
theorem parS_l {d0 : List MvT} {a b p : Int} {pv : MvT} (ha : 0 ≤ a) (hb : b ≤ d.length) : ∀ (n : Nat) (i j : Int) (d' : List MvT), a < i → i ≤ j + 2 → a ≤ j → i ≤ b → j < b → PaI a b i j pv d d' →
    (3 * (j - i + 2) + 1 ≤ n → (i ≤ j → leM pv (gD z0 d' i)) → Ret (slices_partitionCmpFunc_api_Move'.l4 N d0 a b p n i j d') (PaQ a b d)) ∧
    (3 * (j - i + 2) + 2 ≤ n → Ret (slices_partitionCmpFunc_api_Move'.l3 N d0 a b p n i j d') (PaQ a b d)) ∧
    (3 * (j - i + 2) + 3 ≤ n → Ret (slices_partitionCmpFunc_api_Move'.l2 N d0 a b p n i j d') (PaQ a b d)) := by
  intro n
  induction n with
  | zero => exact fun i j d' h1 h2 hja hib h3 hp => ⟨fun h => by omega, fun h => by omega, fun h => by omega⟩
  | succ n ih =>
    intro i j d' h1 h2 hja hib h3 hp
    have hl := hp.w.len
    have hpv : gD ((0 : Int), ((0 : Int), (0 : Int))) d' a = pv := hp.pe
    refine ⟨fun h hx => ?_, fun h => ?_, fun h => ?_⟩
    · rw [slices_partitionCmpFunc_api_Move'.l4_s, slices_partitionCmpFunc_api_Move'.s4]
      refine Ret.bif (fun c => ?_) (fun c => ?_)
      · rw [leI_iff] at c
        simp (disch := omega) only [w64_id, chk_idx, List.length_set, cmpM_eq (show 4 ≤ N by omega), Option.bind_some]
        refine Ret.bif (fun c2 => (ih i (j - 1) d' h1 (by omega) (by omega) hib (by omega) (hp.down (by rw [not_t, ltI_iff', hpv] at c2; exact c2))).1 (by omega) (fun _ => hx c)) (fun c2 => ?_)
        rw [not_f, ltI_iff, hpv] at c2
        refine Ret.bif (fun c3 => by rw [ltI_iff] at c3; omega) (fun c3 => ?_)
        exact (ih (i + 1) (j - 1) _ (by omega) (by omega) (by omega) (by omega) (by omega) (hp.swap ha hb h1 c h3 (hx c) c2)).2.2 (by omega)
      · rw [leI_iff'] at c
        rw [bif_t (ltI_t c)]
        simp (disch := omega) only [w64_id, chk_idx, List.length_set]
        exact Ret.ret (hp.fin ha hb hja h3 c _)
    · rw [slices_partitionCmpFunc_api_Move'.l3_s, slices_partitionCmpFunc_api_Move'.s3]
      refine Ret.bif (fun c => ?_) (fun c => (ih i j d' h1 h2 hja hib h3 hp).1 (by omega) (fun g => by rw [leI_iff'] at c; omega))
      rw [leI_iff] at c
      simp (disch := omega) only [w64_id, chk_idx, List.length_set, cmpM_eq (show 4 ≤ N by omega), Option.bind_some]
      refine Ret.bif (fun c2 => (ih (i + 1) j d' (by omega) (by omega) hja (by omega) h3 (hp.up (by rw [ltI_iff, hpv] at c2; exact c2))).2.1 (by omega)) (fun c2 => (ih i j d' h1 h2 hja hib h3 hp).1 (by omega) (fun _ => by rw [ltI_iff', hpv] at c2; exact Int.not_lt.2 c2))
    · rw [slices_partitionCmpFunc_api_Move'.l2_s, slices_partitionCmpFunc_api_Move'.s2]
      exact (ih i j d' h1 h2 hja hib h3 hp).2.1 (by omega)
theorem parS_l1 {d0 : List MvT} {a b p : Int} {pv : MvT} (ha : 0 ≤ a) (hb : b ≤ d.length) : ∀ (n : Nat) (i j : Int) (d' : List MvT), a < i → i ≤ j + 2 → a ≤ j → i ≤ b → j < b → PaI a b i j pv d d' → (i ≤ j → leM pv (gD z0 d' i)) →
    3 * (j - i + 2) + 4 ≤ n → Ret (slices_partitionCmpFunc_api_Move'.l1 N d0 a b p n i j d') (PaQ a b d) := by
  intro n
  induction n with
  | zero => exact fun i j d' h1 h2 hja hib h3 hp hx h => by omega
  | succ n ih =>
    intro i j d' h1 h2 hja hib h3 hp hx h
    have hl := hp.w.len
    have hpv : gD ((0 : Int), ((0 : Int), (0 : Int))) d' a = pv := hp.pe
    rw [slices_partitionCmpFunc_api_Move'.l1_s, slices_partitionCmpFunc_api_Move'.s1]
    refine Ret.bif (fun c => ?_) (fun c => ?_)
    · rw [leI_iff] at c
      simp (disch := omega) only [w64_id, chk_idx, List.length_set, cmpM_eq (show 4 ≤ N by omega), Option.bind_some]
      refine Ret.bif (fun c2 => ih i (j - 1) d' h1 (by omega) (by omega) hib (by omega) (hp.down (by rw [not_t, ltI_iff', hpv] at c2; exact c2)) (fun _ => hx c) (by omega)) (fun c2 => ?_)
      rw [not_f, ltI_iff, hpv] at c2
      refine Ret.bif (fun c3 => by rw [ltI_iff] at c3; omega) (fun c3 => ?_)
      exact (parS_l hN d hd ha hb n (i + 1) (j - 1) _ (by omega) (by omega) (by omega) (by omega) (by omega) (hp.swap ha hb h1 c h3 (hx c) c2)).2.2 (by omega)
    · rw [leI_iff'] at c
      rw [bif_t (ltI_t c)]
      simp (disch := omega) only [w64_id, chk_idx, List.length_set]
      exact Ret.ret (hp.fin ha hb hja h3 c _)
theorem parS_l0 {d0 : List MvT} {a b p : Int} {pv : MvT} (ha : 0 ≤ a) (hab : a < b) (hb : b ≤ d.length) : ∀ (k n : Nat) (i : Int) (d' : List MvT), b - i ≤ k → a < i → i ≤ b → 3000010 + k + 1 ≤ n → PaI a b i (b - 1) pv d d' → Ret (slices_partitionCmpFunc_api_Move'.l0 N d0 a b p n i d') (PaQ a b d) := by
  intro k
  induction k with
  | zero =>
    intro n i d' hk h1 h2 hn hp
    obtain ⟨n, rfl⟩ : ∃ m, n = m + 1 := ⟨n - 1, by omega⟩
    rw [slices_partitionCmpFunc_api_Move'.l0_s, slices_partitionCmpFunc_api_Move'.s0]
    simp (disch := omega) only [w64_id]
    rw [bif_f (leI_f (by omega))]
    exact parS_l1 hN d hd ha hb n i (b - 1) d' h1 (by omega) (by omega) h2 (by omega) hp (fun g => by omega) (by omega)
  | succ k ih =>
    intro n i d' hk h1 h2 hn hp
    have hl := hp.w.len
    have hpv : gD ((0 : Int), ((0 : Int), (0 : Int))) d' a = pv := hp.pe
    obtain ⟨n, rfl⟩ : ∃ m, n = m + 1 := ⟨n - 1, by omega⟩
    rw [slices_partitionCmpFunc_api_Move'.l0_s, slices_partitionCmpFunc_api_Move'.s0]
    simp (disch := omega) only [w64_id]
    refine Ret.bif (fun c => ?_) (fun c => parS_l1 hN d hd ha hb n i (b - 1) d' h1 (by omega) (by omega) h2 (by omega) hp (fun g => by rw [leI_iff'] at c; omega) (by omega))
    rw [leI_iff] at c
    simp (disch := omega) only [w64_id, chk_idx, List.length_set, cmpM_eq (show 4 ≤ N by omega), Option.bind_some]
    exact Ret.bif (fun c2 => ih n (i + 1) d' (by omega) (by omega) (by omega) (by omega) (hp.up (by rw [ltI_iff, hpv] at c2; exact c2))) (fun c2 => parS_l1 hN d hd ha hb n i (b - 1) d' h1 (by omega) (by omega) h2 (by omega) hp (fun _ => by rw [ltI_iff', hpv] at c2; exact Int.not_lt.2 c2) (by omega))
theorem parS {d0 : List MvT} {a b p : Int} (ha : 0 ≤ a) (hab : a < b) (hb : b ≤ d.length) (hpv : a ≤ p ∧ p < b) (hp : W a b d d0) : Ret (slices_partitionCmpFunc_api_Move' N d0 a b p) (PaQ a b d) := by
  unfold slices_partitionCmpFunc_api_Move' slices_partitionCmpFunc_api_Move'.e
  have hl := hp.len
  simp (disch := omega) only [w64_id, chk_idx, List.length_set]
  refine parS_l0 hN d hd (pv := gD z0 d0 p) ha hab hb 1000000 N (a + 1) ((d0.set a.toNat (gD z0 d0 p)).set p.toNat (gD z0 d0 a)) (by omega) (by omega) (by omega) (by omega) ⟨hp.swp ha hb (by omega) (by omega) (by omega) (by omega), ?_, fun k g1 g2 => by omega, fun k g1 g2 => by omega⟩
  rw [swp_at (by omega) (by omega) ha (by omega)]
  by_cases e : a = p
  · rw [if_pos e, e]
  · rw [if_neg e, if_pos rfl]
end

/-! ### SortD -/
abbrev SQ (a b : Int) (d : List MvT) (y : List MvT) : Prop := W a b d y ∧ Sd a b y
theorem Lo.sub {a b b' : Int} {d : List MvT} (h : Lo a b d) (hb : b' ≤ b) : Lo a b' d := fun h0 i g1 g2 => h h0 i g1 (by omega)
/-- sorted on both sides of the pivot -/
theorem Sd.join {a b m : Int} {x z : List MvT} (h1 : ∀ k, a ≤ k → k < m → leM (gD z0 x k) (gD z0 x m)) (h2 : ∀ k, m < k → k < b → leM (gD z0 x m) (gD z0 x k)) (e : gD z0 z m = gD z0 x m)
    (l : ∀ i, a ≤ i → i < m → ∃ k, a ≤ k ∧ k < m ∧ gD z0 z i = gD z0 x k) (r : ∀ i, m + 1 ≤ i → i < b → ∃ k, m + 1 ≤ k ∧ k < b ∧ gD z0 z i = gD z0 x k) (sl : Sd a m z) (sr : Sd (m + 1) b z) : Sd a b z := by
  have L : ∀ i, a ≤ i → i < m → leM (gD z0 z i) (gD z0 z m) := fun i g1 g2 => by
    obtain ⟨k, k1, k2, k3⟩ := l i g1 g2
    rw [k3, e]; exact h1 k k1 k2
  have R : ∀ i, m < i → i < b → leM (gD z0 z m) (gD z0 z i) := fun i g1 g2 => by
    obtain ⟨k, k1, k2, k3⟩ := r i (by omega) g2
    rw [k3, e]; exact h2 k (by omega) k2
  intro i j g1 g2 g3
  by_cases c1 : j < m
  · exact sl i j g1 g2 c1
  · by_cases c2 : m < i
    · exact sr i j (by omega) g2 g3
    · by_cases c3 : i = m
      · rw [c3]
        by_cases c4 : j = m
        · rw [c4]; exact leM.refl _
        · exact R j (by omega) g3
      · by_cases c4 : j = m
        · rw [c4]; exact L i g1 (by omega)
        · exact (L i g1 (by omega)).trans (R j (by omega) g3)
section
variable {N : Nat} (hN : 100000000 ≤ N)
include hN
theorem pdTail_S {self : List MvT → Int → Int → Int → Option (List MvT)} {r0 : Int → Int → Int → Bool → Bool → List MvT → Option (List MvT)} {a b : Int} (y : List MvT) (hy : y.length ≤ 8192) (ha : 0 ≤ a) (hab : a < b) (hb : b ≤ y.length)
    (hs : ∀ a' b' l x, a ≤ a' → a' ≤ b' → b' ≤ b → b' - a' < b - a → x.length = y.length → Lo a' b' x → Ret (self x a' b' l) (SQ a' b' x))
    (hr : ∀ a' b' l wB wP x, a ≤ a' → a' ≤ b' → b' ≤ b → b' - a' < b - a → x.length = y.length → Lo a' b' x → Ret (r0 a' b' l wB wP x) (SQ a' b' x))
    (lim : Int) (wB wP : Bool) (hLo : Lo a b y) {p : Int} (hpv : a ≤ p ∧ p < b) : Ret (pdTail N self r0 a b lim wB wP y p) (SQ a b y) := by
  have hpart : Ret ((slices_partitionCmpFunc_api_Move' N y a b p).bind fun y11 =>
    let v12 : Int := (w64 (Int.tdiv (w64 (b - a)) 8))
    bif (ltI (w64 (y11.1 - a)) (w64 (b - y11.1))) then ((self y11.2.2 a y11.1 lim).bind fun y15 =>
      r0 (w64 (y11.1 + 1)) b lim (leI v12 (w64 (y11.1 - a))) y11.2.1 y15)
    else (self y11.2.2 (w64 (y11.1 + 1)) b lim).bind fun y17 =>
    r0 a y11.1 lim (leI v12 (w64 (b - y11.1))) y11.2.1 y17) (SQ a b y) := by
    refine Ret.bnd (parS hN y (by omega) ha hab hb hpv (W.refl _ _ _)) fun y11 h11 => ?_
    obtain ⟨⟨g1, g2⟩, g3, g4, g5⟩ := h11
    have hlx := g3.len
    have hLx : Lo a b y11.2.2 := hLo.W g3 hb
    have e : w64 (y11.1 + 1) = y11.1 + 1 := w64_id (by omega) (by omega)
    simp only [e]
    refine Ret.bif (fun _ => ?_) (fun _ => ?_)
    · refine Ret.bnd (hs a y11.1 _ y11.2.2 (by omega) g1 (by omega) (by omega) hlx (hLx.sub (by omega))) fun y15 h15 => ?_
      obtain ⟨q1, q2⟩ := h15
      have hl15 := q1.len
      have hout : ∀ k, y11.1 ≤ k → k < b → gD z0 y15 k = gD z0 y11.2.2 k := fun k l1 l2 => q1.out k (by omega) (by omega) (by omega)
      refine Ret.mono (hr (y11.1 + 1) b _ _ _ y15 (by omega) (by omega) (by omega) (by omega) (by omega) (fun _ i l1 l2 => by
        rw [show y11.1 + 1 - 1 = y11.1 by omega, hout _ (by omega) (by omega), hout _ (by omega) (by omega)]
        exact g5 i (by omega) l2)) fun z hz => ?_
      obtain ⟨r1, r2⟩ := hz
      have hlz := r1.len
      refine ⟨g3.trans ((q1.mono ha (Int.le_refl _) (by omega) (by omega)).trans (r1.mono ha (by omega) (by omega) (by omega))), ?_⟩
      refine Sd.join g4 (fun k l1 l2 => g5 k l1 l2) ?_ (fun i l1 l2 => ?_) (fun i l1 l2 => ?_) ?_ r2
      · rw [r1.out _ (by omega) (by omega) (by omega), hout _ (by omega) (by omega)]
      · rw [r1.out _ (by omega) (by omega) (by omega)]
        exact q1.sub i l1 l2
      · obtain ⟨k, k1, k2, k3⟩ := r1.sub i l1 l2
        exact ⟨k, k1, k2, by rw [k3, hout _ (by omega) (by omega)]⟩
      · exact q2.out r1 ha (by omega) (Or.inl (by omega))
    · refine Ret.bnd (hs (y11.1 + 1) b _ y11.2.2 (by omega) (by omega) (by omega) (by omega) hlx (fun _ i l1 l2 => by
        rw [show y11.1 + 1 - 1 = y11.1 by omega]
        exact g5 i (by omega) l2)) fun y17 h17 => ?_
      obtain ⟨q1, q2⟩ := h17
      have hl17 := q1.len
      have hout : ∀ k, 0 ≤ k → k ≤ y11.1 → gD z0 y17 k = gD z0 y11.2.2 k := fun k l1 l2 => q1.out k (by omega) (by omega) (by omega)
      refine Ret.mono (hr a y11.1 _ _ _ y17 (by omega) g1 (by omega) (by omega) (by omega) (fun h0 i l1 l2 => by
        rw [hout _ (by omega) (by omega), hout _ (by omega) (by omega)]
        exact hLx h0 i l1 (by omega))) fun z hz => ?_
      obtain ⟨r1, r2⟩ := hz
      have hlz := r1.len
      refine ⟨g3.trans ((q1.mono ha (by omega) (by omega) (by omega)).trans (r1.mono ha (by omega) (by omega) (by omega))), ?_⟩
      refine Sd.join g4 (fun k l1 l2 => g5 k l1 l2) ?_ (fun i l1 l2 => ?_) (fun i l1 l2 => ?_) r2 ?_
      · rw [r1.out _ (by omega) (by omega) (by omega), hout _ (by omega) (by omega)]
      · obtain ⟨k, k1, k2, k3⟩ := r1.sub i l1 l2
        exact ⟨k, k1, k2, by rw [k3, hout _ (by omega) (by omega)]⟩
      · rw [r1.out _ (by omega) (by omega) (by omega)]
        exact q1.sub i l1 l2
      · exact q2.out r1 (by omega) (by omega) (Or.inr (by omega))
  unfold pdTail
  refine Ret.bif (fun c => ?_) (fun _ => hpart)
  rw [ltI_iff] at c
  simp (disch := omega) only [w64_id, chk_idx, cmpM_eq (show 4 ≤ N by omega), Option.bind_some]
  refine Ret.bif (fun c2 => ?_) (fun _ => ?_)
  · rw [not_t, ltI_iff'] at c2
    refine Ret.bnd (equS hN y (by omega) ha hab hb hpv (W.refl _ _ _)) fun y10 h10 => ?_
    obtain ⟨⟨g1, g2⟩, g3, g4, g5⟩ := h10
    have hlx := g3.len
    have hall : ∀ k, a ≤ k → k < b → leM (gD z0 y p) (gD z0 y10.2 k) := g3.all fun k l1 l2 => (show leM (gD z0 y p) (gD z0 y (a - 1)) from Int.not_lt.2 c2).trans (hLo c k l1 l2)
    refine Ret.mono (hr y10.1 b _ _ _ y10.2 (by omega) g2 (by omega) (by omega) hlx (fun _ i l1 l2 => (g4 (y10.1 - 1) (by omega) (by omega)).trans (leM.of_lt (g5 i l1 l2)))) fun z hz => ?_
    obtain ⟨r1, r2⟩ := hz
    have hout : ∀ k, 0 ≤ k → k < y10.1 → gD z0 z k = gD z0 y10.2 k := fun k l1 l2 => r1.out k (by omega) (by omega) (by omega)
    refine ⟨g3.trans (r1.mono ha (by omega) (by omega) (by omega)), fun i j l1 l2 l3 => ?_⟩
    by_cases c3 : j < y10.1
    · rw [hout _ (by omega) (by omega), hout _ (by omega) c3]
      exact (g4 i l1 (by omega)).trans (hall j (by omega) l3)
    · by_cases c4 : i < y10.1
      · rw [hout _ (by omega) c4]
        obtain ⟨k, k1, k2, k3⟩ := r1.sub j (by omega) l3
        rw [k3]
        exact (g4 i l1 c4).trans (leM.of_lt (g5 k k1 k2))
      · exact r2 i j (by omega) l2 l3
  · have := hpart
    simpa (disch := omega) only [w64_id] using this
theorem pdqS_l0 {d0 : List MvT} {a0 b0 l0 : Int} {self : List MvT → Int → Int → Int → Option (List MvT)} {K : Int} {L : Nat} (hL : L ≤ 8192)
    (hs : ∀ (a' b' l : Int) (x : List MvT), 0 ≤ a' → a' ≤ b' → b' ≤ (L : Int) → b' - a' < K → x.length = L → Lo a' b' x → Ret (self x a' b' l) (SQ a' b' x)) :
    ∀ (m n : Nat) (a b lim : Int) (wB wP : Bool) (d : List MvT), b - a ≤ m → b - a ≤ K → 0 ≤ a → a ≤ b → b ≤ (L : Int) → m + 1 ≤ n → d.length = L → Lo a b d → Ret (slices_pdqsortCmpFunc_api_Move'.l0 N self d0 a0 b0 l0 n a b lim wB wP d) (SQ a b d) := by
  intro m
  induction m using Nat.strongRecOn with
  | _ m ih =>
  intro n a b lim wB wP d hm hK ha hab hb hn hl hLo
  obtain ⟨n, rfl⟩ : ∃ q, n = q + 1 := ⟨n - 1, by omega⟩
  have hp := W.refl a b d
  have hb : b ≤ d.length := by omega
  rw [slices_pdqsortCmpFunc_api_Move'.l0_s, slices_pdqsortCmpFunc_api_Move'.s0]
  refine Ret.bif (fun c => Ret.bnd (insS (by omega) d (by omega) ha hab hb (by rw [leI_iff, w64_id (by omega) (by omega)] at c; exact c) (by omega) hp) fun y hy => Ret.ret hy) (fun c => ?_)
  rw [leI_iff', w64_id (by omega) (by omega)] at c
  have hab' : a < b := by omega
  refine Ret.bif (fun _ => Ret.bnd (heapS (by omega) d (by omega) ha hab' hb hp) fun y hy => Ret.ret hy) (fun _ => ?_)
  have tail : ∀ (lim : Int) (wB wP : Bool) {y : List MvT}, W a b d y → ∀ {p : Int}, (a ≤ p ∧ p < b) → Ret (pdTail N self (slices_pdqsortCmpFunc_api_Move'.l0 N self d0 a0 b0 l0 n) a b lim wB wP y p) (SQ a b d) := fun lim wB wP y hy p hpv => by
    have hly := hy.len
    refine Ret.mono (pdTail_S hN y (by omega) ha hab' (by omega) (fun a' b' l x h1 h2 h3 h4 h5 h6 => hs a' b' l x (by omega) h2 (by omega) (by omega) (by omega) h6) (fun a' b' l wB wP x h1 h2 h3 h4 h5 h6 => ih (b' - a').toNat (by omega) n a' b' l wB wP x (by omega) (by omega) (by omega) h2 (by omega) (by omega) (by omega) h6) lim wB wP (hLo.W hy hb) hpv) fun z hz => ⟨hy.trans hz.1, hz.2⟩
  have piv : ∀ {y : List MvT}, W a b d y → Ret (slices_choosePivotCmpFunc_api_Move N y a b) fun z => a ≤ z.1 ∧ z.1 < b := fun hy => pivotM (by omega) d (by omega) hy.len ha (by omega) hb
  have rev : ∀ {y : List MvT}, W a b d y → Ret (slices_reverseRangeCmpFunc_api_Move' N y a b) (W a b d) := fun hy => reverseS d (by omega) (by omega) ha hab' hb hy
  have prt : ∀ {y : List MvT}, W a b d y → Ret (slices_partialInsertionSortCmpFunc_api_Move' N y a b) (SdB a b d) := fun hy => partS hN d (by omega) ha hab' hb hLo hy
  have v7 : ∀ z : Int, a ≤ z ∧ z < b → w64 (w64 (b - 1) - w64 (z - a)) = b - 1 - (z - a) := fun z hz => by
    rw [w64_id (x := b - 1) (by omega) (by omega), w64_id (x := z - a) (by omega) (by omega), w64_id (by omega) (by omega)]
  refine Ret.bif (fun _ => ?_) (fun _ => ?_)
  · refine Ret.bnd (breakS hN d (by omega) ha hab hb hp) fun y4 h4 => ?_
    refine Ret.bnd (piv h4) fun y5 h5 => ?_
    refine Ret.bif (fun _ => ?_) (fun _ => ?_)
    · refine Ret.bnd (rev h4) fun y6 h6 => ?_
      simp only [v7 y5.1 h5]
      refine Ret.bif (fun _ => Ret.bif (fun _ => Ret.bnd (prt h6) fun y8 h8 => Ret.bif (fun f => Ret.ret ⟨h8.1, h8.2 f⟩) (fun _ => ?_)) (fun _ => ?_)) (fun _ => ?_)
      · exact tail _ _ _ h8.1 (by omega)
      · exact tail _ _ _ h6 (by omega)
      · exact tail _ _ _ h6 (by omega)
    · refine Ret.bif (fun _ => Ret.bif (fun _ => Ret.bif (fun _ => Ret.bnd (prt h4) fun y8 h8 => Ret.bif (fun f => Ret.ret ⟨h8.1, h8.2 f⟩) (fun _ => ?_)) (fun _ => ?_)) (fun _ => ?_)) (fun _ => ?_)
      · exact tail _ _ _ h8.1 h5
      · exact tail _ _ _ h4 h5
      · exact tail _ _ _ h4 h5
      · exact tail _ _ _ h4 h5
  · refine Ret.bnd (piv hp) fun y5 h5 => ?_
    refine Ret.bif (fun _ => ?_) (fun _ => ?_)
    · refine Ret.bnd (rev hp) fun y6 h6 => ?_
      simp only [v7 y5.1 h5]
      refine Ret.bif (fun _ => Ret.bif (fun _ => Ret.bnd (prt h6) fun y8 h8 => Ret.bif (fun f => Ret.ret ⟨h8.1, h8.2 f⟩) (fun _ => ?_)) (fun _ => ?_)) (fun _ => ?_)
      · exact tail _ _ _ h8.1 (by omega)
      · exact tail _ _ _ h6 (by omega)
      · exact tail _ _ _ h6 (by omega)
    · refine Ret.bif (fun _ => Ret.bif (fun _ => Ret.bif (fun _ => Ret.bnd (prt hp) fun y8 h8 => Ret.bif (fun f => Ret.ret ⟨h8.1, h8.2 f⟩) (fun _ => ?_)) (fun _ => ?_)) (fun _ => ?_)) (fun _ => ?_)
      · exact tail _ _ _ h8.1 h5
      · exact tail _ _ _ hp h5
      · exact tail _ _ _ hp h5
      · exact tail _ _ _ hp h5
end
theorem pdqS {L : Nat} (hL : L ≤ 8192) : ∀ (k N : Nat) (d : List MvT) (a b lim : Int), b - a ≤ k → 100000000 + k < N → 0 ≤ a → a ≤ b → b ≤ (L : Int) → d.length = L → Lo a b d → Ret (slices_pdqsortCmpFunc_api_Move' N d a b lim) (SQ a b d) := by
  intro k
  induction k using Nat.strongRecOn with
  | _ k ih =>
  intro N d a b lim hk hN ha hab hb hl hLo
  obtain ⟨N, rfl⟩ : ∃ q, N = q + 1 := ⟨N - 1, by omega⟩
  rw [slices_pdqsortCmpFunc_api_Move'_s, slices_pdqsortCmpFunc_api_Move'.e]
  refine pdqS_l0 (by omega) hL (K := b - a) (fun a' b' l x h1 h2 h3 h4 h5 h6 => ?_) (b - a).toNat N a b lim true true d (by omega) (Int.le_refl _) ha hab hb (by omega) hl hLo
  exact ih (b' - a').toNat (by omega) N x a' b' l (by omega) (by omega) h1 h2 h3 h5 h6
/-- the sort of moves sorts -/
theorem sortS {N : Nat} (hN : 200000000 ≤ N) (d : List MvT) (hd : d.length ≤ 8192) : Ret (slices_SortFunc_api_Move_api_Move' N d) fun y => y.Perm d ∧ Sd 0 (d.length : Int) y := by
  unfold slices_SortFunc_api_Move_api_Move' slices_SortFunc_api_Move_api_Move'.e
  have lo : Lo 0 (d.length : Int) d := fun h => by omega
  by_cases h0 : d.length = 0
  · obtain rfl := List.length_eq_zero_iff.1 h0
    obtain ⟨v, hv⟩ : ∃ v, math_bits_Len N (IntKind.wrap .u64 (([] : List MvT).length : Int)) = some v := ⟨0, by kernel_rfl⟩
    rw [hv, Option.bind_some]
    exact Ret.bnd (pdqS (L := 0) (by omega) 0 N [] 0 _ v (by simp) (by omega) (by omega) (by simp) (by simp) rfl lo) fun y hy => Ret.ret ⟨hy.1.pm, hy.2⟩
  · obtain ⟨v, hv, _⟩ := bitsLen_le N (k := d.length) (by omega) hd
    rw [hv, Option.bind_some]
    exact Ret.bnd (pdqS hd d.length N d 0 _ v (by omega) (by omega) (by omega) (by omega) (Int.le_refl _) rfl lo) fun y hy => Ret.ret ⟨hy.1.pm, hy.2⟩

/-! ### GenN -/
theorem Sd.pairwise {l : List MvT} (h : Sd 0 (l.length : Int) l) : l.Pairwise leM := by
  rw [List.pairwise_iff_getElem]
  intro i j hi hj hij
  have := h (i : Int) (j : Int) (by omega) (by omega) (by omega)
  rwa [gD_nat hi, gD_nat hj] at this
theorem dedA_sub : ∀ l : List MvT, (dedA l).Sublist l
  | [] => List.Sublist.refl _
  | [a] => List.Sublist.refl _
  | a :: b :: l => by
    have ih := dedA_sub (b :: l)
    unfold dedA
    by_cases h : a = b
    · rw [if_pos h]; exact ih.cons a
    · rw [if_neg h]; exact ih.cons_cons a
theorem dedA_nodup : ∀ l : List MvT, l.Pairwise leM → (dedA l).Nodup
  | [], _ => List.nodup_nil
  | [a], _ => by simp [dedA]
  | a :: b :: l, h => by
    have h1 := List.pairwise_cons.1 h
    have ih := dedA_nodup (b :: l) h1.2
    unfold dedA
    by_cases e : a = b
    · rw [if_pos e]; exact ih
    · rw [if_neg e]
      refine List.nodup_cons.2 ⟨fun hm => ?_, ih⟩
      have hm : a ∈ b :: l := (mem_dedA _).1 hm
      rcases List.mem_cons.1 hm with e2 | hm
      · exact e e2
      · exact e (leM.anti (h1.1 b (List.mem_cons_self ..)) ((List.pairwise_cons.1 h1.2).1 a hm))
section
variable {r : RulesT} (hr : ROk r) {p : PosT} (hp : POk r p)
include hr hp
theorem gen_nodup {N : Nat} (hN : 200000000 ≤ N) : Ret (moves_Gen N r p) fun l => IsGen r p l ∧ l.Nodup ∧ l.Pairwise leM := by
  have hcl := cand_len hr hp
  rw [gen_fin hr hp (by omega)]
  unfold finG
  refine Ret.bnd (sortS hN (cand r p) hcl) fun s hs => ?_
  obtain ⟨hs, hS⟩ := hs
  have hl := hs.length_eq
  rw [compact_eq N s (by omega) (by omega)]
  rw [← hl] at hS
  exact Ret.ret ⟨⟨fun m => (mem_dedA s).trans hs.mem_iff, dedA_apart s, Nat.le_trans (dedA_len s) (by omega)⟩, dedA_nodup s hS.pairwise, hS.pairwise.sublist (dedA_sub s)⟩
end

/-! ### LeavesS -/
theorem perm_nodup : ∀ (l k : List MvT), l.Nodup → k.Nodup → (∀ x, x ∈ l ↔ x ∈ k) → l.Perm k
  | [], k, _, _, h => by
    cases k with
    | nil => exact List.Perm.refl _
    | cons b k => exact absurd ((h b).2 (List.mem_cons_self ..)) (by simp)
  | a :: l, k, h1, h2, h => by
    have h3 := List.nodup_cons.1 h1
    have ha : a ∈ k := (h a).1 (List.mem_cons_self ..)
    refine List.Perm.trans (List.Perm.cons a (perm_nodup l (k.erase a) h3.2 (h2.erase a) fun x => ?_)) (List.perm_cons_erase ha).symm
    rw [h2.mem_erase_iff]
    constructor
    · intro hx
      exact ⟨fun e => h3.1 (by rw [← e]; exact hx), (h x).1 (List.mem_cons_of_mem _ hx)⟩
    · rintro ⟨hne, hx⟩
      exact (List.mem_cons.1 ((h x).2 hx)).resolve_left hne
theorem sortedM_eq : ∀ (l k : List MvT), l.Perm k → l.Pairwise leM → k.Pairwise leM → l = k
  | [], k, h, _, _ => by rw [List.nil_perm] at h; exact h.symm
  | a :: l, [], h, _, _ => by rw [List.perm_nil] at h; exact h
  | a :: l, b :: k, h, h1, h2 => by
    obtain ⟨g1, g2⟩ := List.pairwise_cons.1 h1
    obtain ⟨g3, g4⟩ := List.pairwise_cons.1 h2
    have e : a = b := by
      rcases List.mem_cons.1 (h.mem_iff.1 (List.mem_cons_self ..) : a ∈ b :: k) with e | e
      · exact e
      · rcases List.mem_cons.1 (h.mem_iff.2 (List.mem_cons_self ..) : b ∈ a :: l) with e' | e'
        · exact e'.symm
        · exact leM.anti (g1 b e') (g3 a e)
    subst e
    rw [sortedM_eq l k (List.perm_cons a |>.1 h) g2 g4]
theorem gen_same {r : RulesT} {p : PosT} (hr : ROk r) (hp : POk r p) {N : Nat} (hN : 200000000 ≤ N) : moves_Gen N r p = moves_Gen 200000000 r p := by
  obtain ⟨l, hl, hg, hn, hs⟩ := gen_nodup hr hp (N := 200000000) (Nat.le_refl _)
  obtain ⟨k, hk, hg2, hn2, hs2⟩ := gen_nodup hr hp hN
  rw [hl, hk, sortedM_eq k l (perm_nodup k l hn2 hn fun x => (hg2.mem x).trans (hg.mem x).symm) hs2 hs]
/-- the moves of a position: none if it is over -/
def mvP (r : RulesT) (p : PosT) : List MvT := if resV r p = 0 then (moves_Gen 200000000 r p).getD [] else []
theorem mvP_spec {r : RulesT} {p : PosT} (hr : ROk r) (hp : POk r p) : (mvP r p).length ≤ 8192 ∧ ∀ m ∈ mvP r p, MoveOk r p m ∧ m ∈ cand r p := by
  unfold mvP
  split
  · obtain ⟨l, hl, hg⟩ := gen_ret hr hp (N := 200000000) (Nat.le_refl _)
    rw [hl]
    exact ⟨hg.len, fun m hm => ⟨cand_ok hr hp ((hg.mem m).1 hm), (hg.mem m).1 hm⟩⟩
  · exact ⟨by simp, fun m hm => by cases hm⟩
theorem bmoves_mvP {N : Nat} (hN : 200000000 ≤ N) {b : BoardT} (hb : BOk b) : board_Board_Moves N b = some (mvP b.1 b.2.1) := by
  unfold board_Board_Moves board_Board_Moves.e mvP
  rw [bresult_eq hN hb, Option.bind_some]
  by_cases h : resV b.1 b.2.1 = 0
  · obtain ⟨l, hl, hg⟩ := gen_ret hb.r hb.p (N := 200000000) (Nat.le_refl _)
    rw [bif_f (by rw [eqI_t h]; rfl), if_pos h, gen_same hb.r hb.p hN, hl]
    rfl
  · rw [bif_t (by rw [eqI_f h]; rfl), if_neg h]
def sumL (f : MvT → Int) : List MvT → Int
  | [] => 0
  | a :: l => f a + sumL f l
theorem sumL_nn (f : MvT → Int) : ∀ (l : List MvT), (∀ m ∈ l, 0 ≤ f m) → 0 ≤ sumL f l
  | [], _ => Int.le_refl _
  | a :: l, h => by
    have h1 := h a (List.mem_cons_self ..)
    have h2 := sumL_nn f l fun m hm => h m (List.mem_cons_of_mem _ hm)
    show 0 ≤ f a + sumL f l
    omega
theorem sumL_le {f g : MvT → Int} : ∀ (l : List MvT), (∀ m ∈ l, f m ≤ g m) → sumL f l ≤ sumL g l
  | [], _ => Int.le_refl _
  | a :: l, h => by
    have h1 := h a (List.mem_cons_self ..)
    have h2 := sumL_le l fun m hm => h m (List.mem_cons_of_mem _ hm)
    show f a + sumL f l ≤ g a + sumL g l
    omega
theorem sumL_mem {f : MvT → Int} : ∀ (l : List MvT), (∀ m ∈ l, 0 ≤ f m) → ∀ m ∈ l, f m ≤ sumL f l
  | a :: l, h, m, hm => by
    have h1 := h a (List.mem_cons_self ..)
    have h2 := sumL_nn f l fun m hm => h m (List.mem_cons_of_mem _ hm)
    show f m ≤ f a + sumL f l
    rcases List.mem_cons.1 hm with rfl | hm
    · omega
    · have := sumL_mem l (fun m hm => h m (List.mem_cons_of_mem _ hm)) m hm
      omega
theorem sumL_add (f g : MvT → Int) : ∀ (l : List MvT), sumL (fun m => f m + g m) l = sumL f l + sumL g l
  | [] => rfl
  | a :: l => by
    have := sumL_add f g l
    show (f a + g a) + sumL (fun m => f m + g m) l = (f a + sumL f l) + (g a + sumL g l)
    omega
/-- the sequences of so many moves -/
def leaves (r : RulesT) : Nat → PosT → Int
  | 0, _ => 1
  | d + 1, p => sumL (fun m => leaves r d (doI r p m)) (mvP r p)
/-- the positions of the tree -/
def sizeP (r : RulesT) : Nat → PosT → Int
  | 0, _ => 1
  | d + 1, p => 1 + sumL (fun m => sizeP r d (doI r p m)) (mvP r p)
theorem sizeP_pos (r : RulesT) : ∀ (d : Nat) (p : PosT), 1 ≤ sizeP r d p
  | 0, _ => Int.le_refl _
  | d + 1, p => by
    have := sumL_nn (fun m => sizeP r d (doI r p m)) (mvP r p) fun m _ => by
      have := sizeP_pos r d (doI r p m)
      omega
    show 1 ≤ 1 + _
    omega
theorem leaves_le (r : RulesT) : ∀ (d : Nat) (p : PosT), 0 ≤ leaves r d p ∧ leaves r d p ≤ sizeP r d p
  | 0, _ => ⟨by show (0 : Int) ≤ 1; omega, Int.le_refl _⟩
  | d + 1, p => by
    have h1 := sumL_nn (fun m => leaves r d (doI r p m)) (mvP r p) fun m _ => (leaves_le r d (doI r p m)).1
    have h2 := sumL_le (f := fun m => leaves r d (doI r p m)) (g := fun m => sizeP r d (doI r p m)) (mvP r p) fun m _ => (leaves_le r d (doI r p m)).2
    exact ⟨h1, by show _ ≤ 1 + _; exact Int.le_trans h2 (by omega)⟩
/-- all sequences of at most so many moves are the positions -/
def leavesTo (r : RulesT) (p : PosT) : Nat → Int
  | 0 => leaves r 0 p
  | k + 1 => leavesTo r p k + leaves r (k + 1) p
theorem sizeP_step (r : RulesT) : ∀ (d : Nat) (p : PosT), sizeP r (d + 1) p = sizeP r d p + leaves r (d + 1) p
  | 0, p => by
    show 1 + sumL (fun m => (1 : Int)) (mvP r p) = 1 + sumL (fun m => (1 : Int)) (mvP r p)
    rfl
  | d + 1, p => by
    have h : sumL (fun m => sizeP r (d + 1) (doI r p m)) (mvP r p) = sumL (fun m => sizeP r d (doI r p m) + leaves r (d + 1) (doI r p m)) (mvP r p) := by
      congr 1
      funext m
      exact sizeP_step r d (doI r p m)
    rw [sumL_add] at h
    show 1 + sumL (fun m => sizeP r (d + 1) (doI r p m)) (mvP r p) = (1 + sumL (fun m => sizeP r d (doI r p m)) (mvP r p)) + sumL (fun m => leaves r (d + 1) (doI r p m)) (mvP r p)
    omega
theorem leavesTo_eq (r : RulesT) (p : PosT) : ∀ d : Nat, leavesTo r p d = sizeP r d p
  | 0 => rfl
  | d + 1 => by
    have := leavesTo_eq r p d
    have := sizeP_step r d p
    show leavesTo r p d + leaves r (d + 1) p = _
    omega
theorem sizeP_mono (r : RulesT) (p : PosT) (d : Nat) : ∀ k : Nat, sizeP r d p ≤ sizeP r (d + k) p
  | 0 => Int.le_refl _
  | k + 1 => by
    have := sizeP_mono r p d k
    have := sizeP_step r (d + k) p
    have := (leaves_le r (d + k + 1) p).1
    show _ ≤ sizeP r (d + k + 1) p
    omega
abbrev CX (d : Nat) (b : BoardT) (c : Int) (z : Int × Int × BoardT) : Prop := z.2.2 = b ∧ ((sizeP b.1 d b.2.1 ≤ c ∧ z.1 = leaves b.1 d b.2.1 ∧ z.2.1 = c - sizeP b.1 d b.2.1) ∨ (c < sizeP b.1 d b.2.1 ∧ z.2.1 < 0))
theorem cx_l0 {N : Nat} (self : Int → BoardT → Int → Option (Int × Int × BoardT)) (c0 : Int) (b0 : BoardT) (d : Nat) (hd : d ≤ 20) {b : BoardT} (hb : BOk b) (hl : b.2.2.2.length ≤ 100000) (ms : List MvT) (hms : ∀ m ∈ ms, MoveOk b.1 b.2.1 m) (hlen : ms.length ≤ 100000)
    (hself : ∀ m ∈ ms, ∀ c : Int, 0 ≤ c → c ≤ 50000 → Ret (self c (makeB b m) (d : Int)) (CX d (makeB b m) c)) : ∀ (k j n : Nat) (nn c : Int), j + k = ms.length → k < n → 0 ≤ c → 0 ≤ nn → nn + c ≤ 50000 →
    Ret (tl0 N self c0 b0 ((d + 1 : Nat) : Int) n nn (ms.length : Int) (j : Int) c b ms) fun z => z.2.2 = b ∧ ((sumL (fun m => sizeP b.1 d (doI b.1 b.2.1 m)) (ms.drop j) ≤ c ∧ z.1 = nn + sumL (fun m => leaves b.1 d (doI b.1 b.2.1 m)) (ms.drop j) ∧ z.2.1 = c - sumL (fun m => sizeP b.1 d (doI b.1 b.2.1 m)) (ms.drop j)) ∨ (c < sumL (fun m => sizeP b.1 d (doI b.1 b.2.1 m)) (ms.drop j) ∧ z.2.1 < 0))
  | 0, j, n, nn, c, hk, hn, h0, h1, h2 => by
    obtain ⟨n, rfl⟩ := nxt (n := n) (by omega)
    rw [tl0_s, bif_f (ltI_f (by omega)), List.drop_of_length_le (by omega)]
    exact Ret.ret ⟨rfl, Or.inl ⟨h0, by show nn = nn + 0; omega, by show c = c - 0; omega⟩⟩
  | k + 1, j, n, nn, c, hk, hn, h0, h1, h2 => by
    obtain ⟨n, rfl⟩ := nxt (n := n) (by omega)
    have hj : j < ms.length := by omega
    have hmem : ms[j] ∈ ms := List.getElem_mem _
    have hmo := hms _ hmem
    have nn1 := sumL_nn (fun m => sizeP b.1 d (doI b.1 b.2.1 m)) (ms.drop (j + 1)) fun m _ => by
      have := sizeP_pos b.1 d (doI b.1 b.2.1 m)
      omega
    have ll := leaves_le b.1 d (doI b.1 b.2.1 ms[j])
    rw [tl0_s, bif_t (ltI_t (by omega)), chk_of (idx_ok hj), gD_nat hj, make_eq hb hl hmo, Option.bind_some, w64_id (x := ((d + 1 : Nat) : Int) - 1) (by omega) (by omega), show ((d + 1 : Nat) : Int) - 1 = (d : Int) by omega]
    refine Ret.bnd (hself _ hmem c h0 (by omega)) fun z hz => ?_
    rw [hz.1, undo_make hb hl hmo, Option.bind_some, w64_id (x := (j : Int) + 1) (by omega) (by omega), show ((j : Int) + 1) = ((j + 1 : Nat) : Int) by omega, List.drop_eq_getElem_cons hj]
    have e1 : sumL (fun m => sizeP b.1 d (doI b.1 b.2.1 m)) (ms[j] :: ms.drop (j + 1)) = sizeP b.1 d (doI b.1 b.2.1 ms[j]) + sumL (fun m => sizeP b.1 d (doI b.1 b.2.1 m)) (ms.drop (j + 1)) := rfl
    have e2 : sumL (fun m => leaves b.1 d (doI b.1 b.2.1 m)) (ms[j] :: ms.drop (j + 1)) = leaves b.1 d (doI b.1 b.2.1 ms[j]) + sumL (fun m => leaves b.1 d (doI b.1 b.2.1 m)) (ms.drop (j + 1)) := rfl
    rw [e1, e2]
    have hz2 : (sizeP b.1 d (doI b.1 b.2.1 ms[j]) ≤ c ∧ z.1 = leaves b.1 d (doI b.1 b.2.1 ms[j]) ∧ z.2.1 = c - sizeP b.1 d (doI b.1 b.2.1 ms[j])) ∨ (c < sizeP b.1 d (doI b.1 b.2.1 ms[j]) ∧ z.2.1 < 0) := hz.2
    refine Ret.bif (fun c' => Ret.ret ⟨rfl, Or.inr ?_⟩) (fun c' => ?_)
    · rw [ltI_iff] at c'
      exact ⟨by omega, c'⟩
    · rw [ltI_iff'] at c'
      rcases hz2 with h | h
      · have ih := cx_l0 (N := N) self c0 b0 d hd hb hl ms hms hlen hself k (j + 1) n (nn + z.1) z.2.1 (by omega) (by omega) c' (by omega) (by omega)
        rw [w64_id (x := nn + z.1) (by omega) (by omega)]
        exact ih.mono fun y hy => ⟨hy.1, by
          rcases hy.2 with g | g
          · exact Or.inl ⟨by omega, by omega, by omega⟩
          · exact Or.inr ⟨by omega, g.2⟩⟩
      · omega
theorem count_x : ∀ (d N : Nat), 200000000 + d < N → d ≤ 20 → ∀ {b : BoardT}, BOk b → b.2.2.2.length + d ≤ 100000 → ∀ c : Int, 0 ≤ c → c ≤ 50000 → Ret (perft_counter_count'' N c b (d : Int)) (CX d b c)
  | d, N, hN, hd, b, hb, hl, c, h0, h1 => by
    obtain ⟨N, rfl⟩ := nxt (n := N) (by omega)
    have np := sizeP_pos b.1 d b.2.1
    rw [count_e, w64_id (x := c - 1) (by omega) (by omega)]
    refine Ret.bif (fun hc => Ret.ret ⟨rfl, Or.inr ?_⟩) (fun hc => ?_)
    · rw [ltI_iff] at hc
      exact ⟨by omega, hc⟩
    rw [ltI_iff'] at hc
    cases d with
    | zero => rw [bif_t (by rfl)]; exact Ret.ret ⟨rfl, Or.inl ⟨by show (1 : Int) ≤ c; omega, rfl, rfl⟩⟩
    | succ d =>
      rw [bif_f (eqI_f (by omega)), bmoves_mvP (by omega) hb, Option.bind_some]
      have hg := mvP_spec hb.r hb.p
      have := cx_l0 (N := N) (perft_counter_count'' N) c b d (by omega) hb (by omega) (mvP b.1 b.2.1) (fun m hm => (hg.2 m hm).1) (by omega) (fun m hm c' h0' h1' => by
        have hmo := (hg.2 m hm).1
        exact count_x d N (by omega) (by omega) (make_ok hb (by omega) hmo) (by
          show (b.2.2.2 ++ [undoI b m]).length + d ≤ 100000
          rw [List.length_append]
          simp only [List.length_singleton]
          omega) c' h0' h1') (mvP b.1 b.2.1).length 0 N 0 (c - 1) (by omega) (by omega) hc (by omega) (by omega)
      rw [List.drop_zero, show ((0 : Nat) : Int) = 0 from rfl] at this
      refine this.mono fun z hz => ⟨hz.1, ?_⟩
      have e1 : sizeP b.1 (d + 1) b.2.1 = 1 + sumL (fun m => sizeP b.1 d (doI b.1 b.2.1 m)) (mvP b.1 b.2.1) := rfl
      have e2 : leaves b.1 (d + 1) b.2.1 = sumL (fun m => leaves b.1 d (doI b.1 b.2.1 m)) (mvP b.1 b.2.1) := rfl
      rw [e1, e2]
      rcases hz.2 with g | g
      · exact Or.inl ⟨by omega, by omega, by omega⟩
      · exact Or.inr ⟨by omega, g.2⟩
section
variable {N : Nat} (hN : 200000100 ≤ N) (r : RulesT) (p : PosT) (depth : Int)
include hN
theorem pch : (∃ e, e ≠ 0 ∧ perft_check N r p depth = some (none, e)) ∨ (ROk r ∧ POk r p ∧ 0 ≤ depth ∧ depth ≤ 12 ∧ perft_check N r p depth = some (some (r, (p, (U (keyS p), []))), 0)) := by
  obtain ⟨v, hv, hv0⟩ := pcheck (N := N) (by omega) r p
  unfold perft_check perft_check.e
  by_cases h0 : v = 0
  · obtain ⟨hr, hp⟩ := hv0.1 h0
    rw [new_good (by omega) hr hp, Option.bind_some]
    show (∃ e, e ≠ 0 ∧ ((bif (!(eqI 0 0)) then some ((none : Option BoardT), (0 : Int)) else bif ltI depth 0 then some (none, 1) else bif ltI 12 depth then some (none, 1) else some (some (r, (p, (U (keyS p), []))), 0)) : Option (Option BoardT × Int)) = _) ∨ (_ ∧ _ ∧ _ ∧ _ ∧ ((bif (!(eqI 0 0)) then some ((none : Option BoardT), (0 : Int)) else bif ltI depth 0 then some (none, 1) else bif ltI 12 depth then some (none, 1) else some (some (r, (p, (U (keyS p), []))), 0)) : Option (Option BoardT × Int)) = _)
    rw [bif_f (by rfl)]
    by_cases c1 : depth < 0
    · rw [bif_t (ltI_t c1)]
      exact Or.inl ⟨1, by decide, rfl⟩
    · rw [bif_f (ltI_f (by omega))]
      by_cases c2 : 12 < depth
      · rw [bif_t (ltI_t c2)]
        exact Or.inl ⟨1, by decide, rfl⟩
      · rw [bif_f (ltI_f (by omega))]
        exact Or.inr ⟨hr, hp, by omega, by omega, rfl⟩
  · rw [new_bad hv h0, Option.bind_some]
    refine Or.inl ⟨v, h0, ?_⟩
    show ((bif (!(eqI v 0)) then some ((none : Option BoardT), v) else _) : Option (Option BoardT × Int)) = _
    rw [bif_t (by rw [eqI_f h0]; rfl)]
theorem pch_good (hr : ROk r) (hp : POk r p) (h1 : 0 ≤ depth) (h2 : depth ≤ 12) : perft_check N r p depth = some (some (r, (p, (U (keyS p), []))), 0) := by
  unfold perft_check perft_check.e
  rw [new_good (by omega) hr hp, Option.bind_some]
  show ((bif (!(eqI 0 0)) then some ((none : Option BoardT), (0 : Int)) else bif ltI depth 0 then some (none, 1) else bif ltI 12 depth then some (none, 1) else some (some (r, (p, (U (keyS p), []))), 0)) : Option (Option BoardT × Int)) = _
  rw [bif_f (by rfl), bif_f (ltI_f (by omega)), bif_f (ltI_f (by omega))]
theorem tree_bad {e : Int} (h0 : e ≠ 0) (h : perft_check N r p depth = some (none, e)) : perft_Tree N r p depth = some (0, e) := by
  unfold perft_Tree perft_Tree.e
  rw [h, Option.bind_some]
  show (bif (!(eqI e 0)) then (some (0, e)) else none) = _
  rw [bif_t (by rw [eqI_f h0]; rfl)]
end
section
variable {N : Nat} (hN : 200000100 ≤ N) (r : RulesT) (p : PosT) (d : Nat) (hr : ROk r) (hp : POk r p) (hd : d ≤ 12) (h : perft_check N r p (d : Int) = some (some (r, (p, (U (keyS p), []))), 0))
include hN hr hp hd h
theorem tree_good : perft_Tree N r p (d : Int) = if sizeP r d p ≤ 50000 then some (sizeP r d p, 0) else some (0, 17) := by
  unfold perft_Tree perft_Tree.e
  rw [h, Option.bind_some]
  show (bif (!(eqI 0 0)) then (some (0, 0)) else (perft_counter_count'' N 50000 (r, (p, (U (keyS p), []))) (d : Int)).bind _) = _
  rw [bif_f (by rfl)]
  obtain ⟨z, hz, hz1, hz2⟩ := count_x d N (by omega) (by omega) (b := (r, (p, (U (keyS p), [])))) ⟨hr, hp, rfl⟩ (by simp; omega) 50000 (by omega) (by omega)
  rw [hz, Option.bind_some]
  have np := sizeP_pos r d p
  have hz2 : (sizeP r d p ≤ 50000 ∧ z.1 = leaves r d p ∧ z.2.1 = 50000 - sizeP r d p) ∨ (50000 < sizeP r d p ∧ z.2.1 < 0) := hz2
  rcases hz2 with ⟨g1, g2, g3⟩ | ⟨g1, g2⟩
  · rw [bif_f (ltI_f (by omega)), if_pos g1, w64_id (by omega) (by omega), show 50000 - z.2.1 = sizeP r d p by omega]
  · rw [bif_t (ltI_t (by omega)), if_neg (by omega)]
end

/-! ### SymmScores -/
theorem sumL_perm (f : MvT → Int) {l k : List MvT} (h : l.Perm k) : sumL f l = sumL f k := by
  induction h with
  | nil => rfl
  | cons x _ ih => show f x + sumL f _ = f x + sumL f _; rw [ih]
  | swap x y l => show f y + (f x + sumL f l) = f x + (f y + sumL f l); omega
  | trans _ _ ih1 ih2 => rw [ih1, ih2]
theorem sumL_mapY (f : MvT → Int) (g : MvT → MvT) : ∀ l : List MvT, sumL f (l.map g) = sumL (fun m => f (g m)) l
  | [] => rfl
  | a :: l => by show f (g a) + sumL f (l.map g) = f (g a) + sumL (fun m => f (g m)) l; rw [sumL_mapY f g l]
theorem sumL_congrY {f g : MvT → Int} : ∀ (l : List MvT), (∀ m ∈ l, f m = g m) → sumL f l = sumL g l
  | [], _ => rfl
  | a :: l, h => by
    show f a + sumL f l = g a + sumL g l
    rw [h a (List.mem_cons_self ..), sumL_congrY l fun m hm => h m (List.mem_cons_of_mem _ hm)]
theorem mvP_nodup {r : RulesT} {p : PosT} (hr : ROk r) (hp : POk r p) (h : resV r p = 0) : (mvP r p).Nodup ∧ ∀ m, m ∈ mvP r p ↔ m ∈ cand r p := by
  obtain ⟨l, hl, hg, hn, _⟩ := gen_nodup hr hp (N := 200000000) (Nat.le_refl _)
  have e : mvP r p = l := by unfold mvP; rw [if_pos h, hl]; rfl
  rw [e]
  exact ⟨hn, hg.mem⟩
section
variable {r : RulesT} (hr : ROk r) (hS : SymR r)
include hr hS
theorem mvP_mir {p o : PosT} (hp : POk r p) (ho : POk r o) (he : Mir r p o) (h : resV r p = 0) : (mvP r o).Perm ((mvP r p).map (mirM r)) := by
  obtain ⟨n1, m1⟩ := mvP_nodup hr hp h
  obtain ⟨n2, m2⟩ := mvP_nodup hr ho ((resV_mir hr hS hp ho he).trans h)
  refine perm_nodup _ _ n2 ?_ fun x => ?_
  · unfold List.Nodup at n1 ⊢
    rw [List.pairwise_map]
    refine List.Pairwise.imp_of_mem ?_ n1
    intro a b ha hb hab e
    exact hab (by rw [← mirM_mirM hr (cand_ok hr hp ((m1 a).1 ha)), ← mirM_mirM hr (cand_ok hr hp ((m1 b).1 hb)), e])
  · rw [m2, List.mem_map]
    constructor
    · intro hx
      exact ⟨mirM r x, (m1 _).2 (cand_mir hr ho hp (he.symm hr) hS hx), mirM_mirM hr (cand_ok hr ho hx)⟩
    · rintro ⟨m, hm, rfl⟩
      exact cand_mir hr hp ho he hS ((m1 m).1 hm)
theorem size_mir : ∀ (d : Nat) {p o : PosT}, POk r p → POk r o → Mir r p o → sizeP r d o = sizeP r d p
  | 0, p, o, hp, ho, he => rfl
  | d + 1, p, o, hp, ho, he => by
    show 1 + sumL (fun m => sizeP r d (doI r o m)) (mvP r o) = 1 + sumL (fun m => sizeP r d (doI r p m)) (mvP r p)
    by_cases h : resV r p = 0
    · obtain ⟨n1, m1⟩ := mvP_nodup hr hp h
      rw [sumL_perm _ (mvP_mir hr hS hp ho he h), sumL_mapY, sumL_congrY]
      intro m hm
      have hmo := cand_ok hr hp ((m1 m).1 hm)
      have hmo2 := cand_ok hr ho (cand_mir hr hp ho he hS ((m1 m).1 hm))
      exact size_mir d (do_ok hr hp hmo) (do_ok hr ho hmo2) (do_mir hr hp ho he hmo)
    · have h2 : resV r o ≠ 0 := by rw [resV_mir hr hS hp ho he]; exact h
      have e1 : mvP r p = [] := by unfold mvP; rw [if_neg h]
      have e2 : mvP r o = [] := by unfold mvP; rw [if_neg h2]
      rw [e1, e2]
      rfl
end
theorem mcheck_in {N : Nat} (hN : 200000100 ≤ N) {r : RulesT} {p : PosT} (hr : ROk r) (hp : POk r p) {d : Nat} (hd : d ≤ 12) : minimax_Check N r p (d : Int) = some (if sizeP r d p ≤ 50000 then 0 else 17) := by
  unfold minimax_Check minimax_Check.e
  rw [tree_good hN r p d hr hp hd (pch_good hN r p (d : Int) hr hp (by omega) (by omega))]
  by_cases h : sizeP r d p ≤ 50000
  · rw [if_pos h, if_pos h, Option.bind_some]
  · rw [if_neg h, if_neg h, Option.bind_some]
theorem mcheck_out {N : Nat} (hN : 200000100 ≤ N) {r : RulesT} {p : PosT} (hr : ROk r) (hp : POk r p) {depth : Int} (hd : depth < 0 ∨ 12 < depth) : minimax_Check N r p depth = some 1 := by
  have h : perft_check N r p depth = some (none, 1) := by
    unfold perft_check perft_check.e
    rw [new_good (by omega) hr hp, Option.bind_some]
    simp only [oCase]
    rw [bif_f (by rfl)]
    by_cases c : depth < 0
    · rw [bif_t (ltI_t c)]
    · rw [bif_f (ltI_f (by omega)), bif_t (ltI_t (by omega))]
  unfold minimax_Check minimax_Check.e perft_Tree perft_Tree.e
  rw [h, Option.bind_some]
  rfl
/-- a position and the mirrored one have the same score -/
theorem score_mir {N : Nat} (hN : 200000100 ≤ N) {r : RulesT} (hr : ROk r) (hS : SymR r) {p o : PosT} (hp : POk r p) (ho : POk r o) (he : Mir r p o) (depth : Int) : ∃ z, minimax_Score N r p depth = some z ∧ minimax_Score N r o depth = some z := by
  by_cases c : depth < 0 ∨ 12 < depth
  · exact ⟨_, score_bad hN r p depth (mcheck_out hN hr hp c) (by decide), score_bad hN r o depth (mcheck_out hN hr ho c) (by decide)⟩
  · obtain ⟨d, rfl⟩ : ∃ d : Nat, depth = d := ⟨depth.toNat, by omega⟩
    have h1 := mcheck_in hN hr hp (d := d) (by omega)
    have h2 := mcheck_in hN hr ho (d := d) (by omega)
    rw [size_mir hr hS d hp ho he] at h2
    by_cases q : sizeP r d p ≤ 50000
    · rw [if_pos q] at h1 h2
      refine ⟨_, score_good hN r p (d : Int) h1 hr hp (by omega) (by omega), ?_⟩
      rw [score_good hN r o (d : Int) h2 hr ho (by omega) (by omega), val_mir hr hS _ hp ho he]
    · rw [if_neg q] at h1 h2
      exact ⟨_, score_bad hN r p (d : Int) h1 (by decide), score_bad hN r o (d : Int) h2 (by decide)⟩
/-! ### the rules with as many ways to the left as to the right -/
def mirW (w : WayT) : WayT := (-w.1, w.2)
def pieY (x : PieceT) : PieceT := (x.1, (x.2.1, (x.2.2.1, x.2.2.2.take 8 ++ (x.2.2.2.take 8).map mirW)))
abbrev rulY (r : RulesT) (ps : List PieceT) : RulesT := (r.1, (r.2.1, (r.2.2.1, (ps, r.2.2.2.2))))
theorem pieY_ok {k : Int} {x : PieceT} (h : pieceOk k x) : pieceOk k (pieY x) := by
  obtain ⟨h1, h2, h3⟩ := h
  refine ⟨h1, ⟨h2.1, h2.2.1, h2.2.2.1, h2.2.2.2.1, ?_⟩, ?_⟩
  · show (x.2.2.2.take 8 ++ (x.2.2.2.take 8).map mirW).length ≤ 16
    rw [List.length_append, List.length_map, List.length_take]
    omega
  · intro w hw
    have hw : w ∈ x.2.2.2.take 8 ++ (x.2.2.2.take 8).map mirW := hw
    rcases List.mem_append.1 hw with hw | hw
    · exact h3 w (List.mem_of_mem_take hw)
    · obtain ⟨v, hv, rfl⟩ := List.mem_map.1 hw
      have := h3 v (List.mem_of_mem_take hv)
      unfold mirW
      show -7 ≤ -v.1 ∧ -v.1 ≤ 7 ∧ _
      refine ⟨by omega, by omega, this.2.2.1, this.2.2.2.1, ?_, this.2.2.2.2.2⟩
      show -v.1 ≠ 0 ∨ v.2.1 ≠ 0
      have := this.2.2.2.2.1
      omega
section
variable {r : RulesT} (hr : ROk r)
include hr
theorem rulY_ok : ROk (rulY r ((r.2.2.2.1).map pieY)) := by
  have hlen : ((r.2.2.2.1).map pieY).length = (r.2.2.2.1).length := List.length_map ..
  refine ⟨hr.name, hr.b, ⟨?_, ?_, fun i hi => ?_⟩, hr.ns, ?_, hr.ne, ?_, hr.bl, hr.qu, hr.re⟩
  · show 1 ≤ ((r.2.2.2.1).map pieY).length; rw [hlen]; exact hr.ps.pos
  · show ((r.2.2.2.1).map pieY).length ≤ 6; rw [hlen]; exact hr.ps.le
  · have hi : i < (r.2.2.2.1).length := by have : i < ((r.2.2.2.1).map pieY).length := hi; rwa [hlen] at this
    have h := hr.ps.each i hi
    have e : ∀ j : Nat, j < (r.2.2.2.1).length → gD zP ((r.2.2.2.1).map pieY) (j : Int) = pieY (gD zP (r.2.2.2.1) (j : Int)) := fun j hj => by
      rw [gD_nat (by rw [hlen]; exact hj), gD_nat hj, List.getElem_map]
    refine ⟨?_, fun q hq => ?_⟩
    · show pieceOk (((r.2.2.2.1).map pieY).length : Int) (gD zP ((r.2.2.2.1).map pieY) (i : Int))
      rw [hlen, e i hi]
      exact pieY_ok h.1
    · have hq : q ∈ ((r.2.2.2.1).map pieY).take i := hq
      show q.1 ≠ (gD zP ((r.2.2.2.1).map pieY) (i : Int)).1
      rw [e i hi]
      rw [← List.map_take] at hq
      obtain ⟨v, hv, rfl⟩ := List.mem_map.1 hq
      exact h.2 v hv
  · show cellsOk ((r.2.2.2.1).map pieY).length r.2.2.2.2.1; rw [hlen]; exact hr.cells
  · intro x hx
    show endOk ((r.2.2.2.1).map pieY).length x
    rw [hlen]
    exact hr.ends x hx
theorem rulY_sym : SymR (rulY r ((r.2.2.2.1).map pieY)) := by
  have hlen : ((r.2.2.2.1).map pieY).length = (r.2.2.2.1).length := List.length_map ..
  intro k h0 h1 w hw
  have h1 : k < (((r.2.2.2.1).map pieY).length : Int) := h1
  obtain ⟨k, rfl⟩ : ∃ q : Nat, k = q := ⟨k.toNat, by omega⟩
  have e : gD zP ((r.2.2.2.1).map pieY) (k : Int) = pieY (gD zP (r.2.2.2.1) (k : Int)) := by
    rw [gD_nat (by omega), gD_nat (by omega), List.getElem_map]
  change w ∈ (gD zP ((r.2.2.2.1).map pieY) (k : Int)).2.2.2 at hw
  show ((-w.1, w.2) : WayT) ∈ (gD zP ((r.2.2.2.1).map pieY) (k : Int)).2.2.2
  rw [e] at hw ⊢
  change w ∈ (gD zP (r.2.2.2.1) (k : Int)).2.2.2.take 8 ++ ((gD zP (r.2.2.2.1) (k : Int)).2.2.2.take 8).map mirW at hw
  show mirW w ∈ (gD zP (r.2.2.2.1) (k : Int)).2.2.2.take 8 ++ ((gD zP (r.2.2.2.1) (k : Int)).2.2.2.take 8).map mirW
  rcases List.mem_append.1 hw with hw | hw
  · exact List.mem_append.2 (Or.inr (List.mem_map.2 ⟨w, hw, rfl⟩))
  · obtain ⟨v, hv, rfl⟩ := List.mem_map.1 hw
    refine List.mem_append.2 (Or.inl ?_)
    have : mirW (mirW v) = v := by unfold mirW; dsimp only; rw [Int.neg_neg]
    rw [this]
    exact hv
theorem rulY_pos {p : PosT} (hp : POk r p) : POk (rulY r ((r.2.2.2.1).map pieY)) p := by
  have hlen : ((r.2.2.2.1).map pieY).length = (r.2.2.2.1).length := List.length_map ..
  refine ⟨hp.len, ?_, ?_, ?_, hp.o0, hp.o1, hp.last⟩
  · show p.2.1.1.length = ((r.2.2.2.1).map pieY).length; rw [hlen]; exact hp.h0
  · show p.2.1.2.length = ((r.2.2.2.1).map pieY).length; rw [hlen]; exact hp.h1
  · show cellsOk ((r.2.2.2.1).map pieY).length p.1; rw [hlen]; exact hp.cells
/-- the mirrored cells -/
theorem image_eq (N : Nat) {s : Int} (hs : 0 ≤ s ∧ s < r.2.1 * r.2.2.1) : symm_image N r.2.1 r.2.2.1 1 s = some (mirS r s) := by
  have hb := hr.b
  have hq := sq_parts hb hs
  have h1 := sq_bound (x := r.2.1 - 1 - s % r.2.1) (y := s / r.2.1) hb (by omega) (by omega)
  have b4 : eqI (Go.bits .and .i64 1 4) 0 = true := by decide
  have b1 : eqI (Go.bits .and .i64 1 1) 0 = false := by decide
  have b2 : eqI (Go.bits .and .i64 1 2) 0 = true := by decide
  unfold symm_image symm_image.e mirS
  rw [bif_f (eqI_f (by omega)), bif_f (eqI_f (by omega)), Int.tdiv_eq_ediv_of_nonneg hs.1, Int.tmod_eq_emod_of_nonneg hs.1, b4, b1, b2]
  simp only [Bool.not_true, Bool.not_false, cond_true, cond_false]
  rw [w64_id (x := r.2.1 - 1) (by omega) (by omega), w64_id (x := s / r.2.1) (by omega) (by omega), w64_id (x := r.2.1 - 1 - s % r.2.1) (by omega) (by omega), w64_id (x := s / r.2.1 * r.2.1) (by omega) (by omega), w64_id (by omega) (by omega)]
theorem apply_l0 (N : Nat) {p : PosT} (hp : POk r p) : ∀ (k j n : Nat) (m : List Int), j + k = p.1.length → k + 1 ≤ n → m.length = p.1.length → (∀ i : Nat, i < j → gD 0 m (mirS r i) = gD 0 p.1 i) →
    Ret (symm_Apply.l0 N r.2.1 r.2.2.1 1 p.1 n (j : Int) m) fun z => z.2 = 0 ∧ z.1.length = p.1.length ∧ (∀ i : Nat, i < p.1.length → gD 0 z.1 (mirS r i) = gD 0 p.1 i)
  | 0, j, n, m, hk, hn, hm, hi => by
    obtain ⟨n, rfl⟩ := nxt (n := n) (by omega)
    rw [symm_Apply.l0_s, symm_Apply.s0, bif_f (ltI_f (by omega))]
    exact Ret.ret ⟨rfl, hm, fun i h => hi i (by omega)⟩
  | k + 1, j, n, m, hk, hn, hm, hi => by
    obtain ⟨n, rfl⟩ := nxt (n := n) (by omega)
    have hl := hp.len
    have hll := len_le hr hp
    have hj : j < p.1.length := by omega
    have hs : 0 ≤ (j : Int) ∧ (j : Int) < r.2.1 * r.2.2.1 := by omega
    have hto := mir_ok hr.b hs
    rw [symm_Apply.l0_s, symm_Apply.s0, bif_t (ltI_t (by omega)), chk_of (idx_ok hj), image_eq hr N hs, Option.bind_some, chk_idx hto.1.1 (by omega), w64_id (by omega) (by omega), show ((j : Int) + 1) = ((j + 1 : Nat) : Int) by omega]
    refine apply_l0 N hp k (j + 1) n _ (by omega) (by omega) (by rw [List.length_set]; exact hm) (fun i h => ?_)
    have hti := mir_ok hr.b (s := i) (by omega)
    rw [gD_setI hto.1.1 hti.1.1 (by omega)]
    by_cases hij : i = j
    · rw [hij, if_pos rfl]
    · rw [if_neg (fun e => hij (by have := congrArg (mirS r) e; rw [hti.2.2.2, hto.2.2.2] at this; omega))]
      exact hi i (by omega)
theorem apply_ret {N : Nat} (hN : 1000 ≤ N) {p : PosT} (hp : POk r p) : Ret (symm_Apply N r.2.1 r.2.2.1 1 p.1) fun z => z.2 = 0 ∧ Mir r p (z.1, p.2) ∧ POk r (z.1, p.2) := by
  have hb := hr.b
  have hl := hp.len
  have hll := len_le hr hp
  have hck : symm_check N r.2.1 r.2.2.1 1 = some 0 := by
    unfold symm_check symm_check.e symm_Check symm_Check.e symm_many symm_many.e
    rw [bif_f (ltI_f (by omega)), bif_f (ltI_f (by omega)), bif_f (ltI_f (by omega)), bif_f (ltI_f (by omega)), Option.bind_some, bif_f (by rfl), bif_f (by rfl)]
    cases eqI r.2.1 r.2.2.1 <;> rfl
  have hwh : 0 ≤ r.2.1 * r.2.2.1 ∧ r.2.1 * r.2.2.1 ≤ 64 := by omega
  unfold symm_Apply symm_Apply.e
  rw [hck, Option.bind_some, bif_f (by rfl), w64_id (by omega) (by omega), bif_f (by rw [eqI_t (by omega)]; rfl), chk_of (by
    rw [leI_t (by omega), decide_eq_true (by omega), Bool.true_and, Bool.true_and]
    unfold capOk
    exact decide_eq_true (by omega)), Int.toNat_natCast]
  refine Ret.mono (apply_l0 hr N hp p.1.length 0 N (List.replicate p.1.length 0) (by omega) (by omega) (by simp) (fun i h => by omega)) fun z hz => ?_
  obtain ⟨h1, h2, h3⟩ := hz
  have hcell : ∀ s : Int, 0 ≤ s → s < r.2.1 * r.2.2.1 → gD 0 z.1 s = gD 0 p.1 (mirS r s) := fun s g1 g2 => by
    have hto := mir_ok hr.b ⟨g1, g2⟩
    obtain ⟨a, ha⟩ : ∃ a : Nat, mirS r s = a := ⟨(mirS r s).toNat, by omega⟩
    have := h3 a (by omega)
    rw [← ha, hto.2.2.2] at this
    exact this
  refine ⟨h1, ⟨hcell, rfl⟩, by show (z.1.length : Int) = _; rw [h2]; exact hl, hp.h0, hp.h1, ?_, hp.o0, hp.o1, hp.last⟩
  intro c hc
  have hc : c ∈ z.1 := hc
  obtain ⟨i, hi, rfl⟩ := List.getElem_of_mem hc
  have hs : 0 ≤ (i : Int) ∧ (i : Int) < r.2.1 * r.2.2.1 := by omega
  have := hcell i hs.1 hs.2
  rw [gD_nat hi] at this
  rw [this]
  exact cell_ok hp (mir_ok hr.b hs).1
end
/-- behind the making of the rules -/
def finY (N : Nat) (r : RulesT) (p : PosT) (depth : Int) (ps : List PieceT) : Option Bool :=
  (gamehallkeep1_heavy N (rulY r ps) p depth).bind fun y12 =>
  bif y12 then some true
  else (symm_Apply N r.2.1 r.2.2.1 1 p.1).bind fun y13 =>
  (minimax_Score N (rulY r ps) p depth).bind fun y14 =>
  (minimax_Score N (rulY r ps) (y13.1, p.2) depth).bind fun y15 =>
  bif (eqI y13.2 0) then (bif (eqI y14.2 y15.2) then (some (eqI y14.1 y15.1))
    else some false)
  else some false
theorem sy_l1 (r : RulesT) (p : PosT) (depth : Int) (len : Int) (i : Nat) (ps : List PieceT) (hi : i < ps.length) (m : List WayT) (hm : m.length ≤ 8) (hw : ∀ w ∈ m, -7 ≤ w.1 ∧ w.1 ≤ 7) (B : Nat) (E : Option Bool)
    (hE : ∀ n, B ≤ n → gamehallkeep1_SymmScores.l0 300000000 r p depth n len (w64 ((i : Int) + 1)) (ps.set i ((gD zP ps (i : Int)).1, ((gD zP ps (i : Int)).2.1, ((gD zP ps (i : Int)).2.2.1, m ++ m.map mirW)))) = E) : ∀ (k j n : Nat) (ways : List WayT), j + k = m.length → B + k < n → ways = m ++ (m.take j).map mirW →
    gamehallkeep1_SymmScores.l1 300000000 r p depth n (i : Int) len (i : Int) (m.length : Int) (j : Int) ps ways m = E
  | 0, j, n, ways, hk, hn, hwy => by
    obtain ⟨n, rfl⟩ := nxt (n := n) (by omega)
    rw [gamehallkeep1_SymmScores.l1_s, gamehallkeep1_SymmScores.s1, bif_f (ltI_f (by omega)), chk_of (idx_ok hi), Int.toNat_natCast, hwy, List.take_of_length_le (by omega)]
    exact hE n (by omega)
  | k + 1, j, n, ways, hk, hn, hwy => by
    obtain ⟨n, rfl⟩ := nxt (n := n) (by omega)
    have hj : j < m.length := by omega
    have hwj := hw _ (List.getElem_mem hj)
    have hlw : ways.length ≤ 16 := by rw [hwy, List.length_append, List.length_map, List.length_take]; omega
    rw [gamehallkeep1_SymmScores.l1_s, gamehallkeep1_SymmScores.s1, bif_t (ltI_t (by omega)), chk_of (idx_ok hj), gD_nat hj]
    dsimp only
    rw [chk_cap (by simp only [List.length_singleton]; omega), w64_id (x := 0 - m[j].1) (by omega) (by omega), w64_id (by omega) (by omega), show ((j : Int) + 1) = ((j + 1 : Nat) : Int) by omega]
    refine sy_l1 r p depth len i ps hi m hm hw B E hE k (j + 1) n _ (by omega) (by omega) ?_
    rw [hwy, List.append_assoc]
    congr 1
    rw [List.take_add_one, List.getElem?_eq_getElem hj, List.map_append]
    congr 1
    show [((0 - m[j].1, m[j].2) : WayT)] = [mirW m[j]]
    unfold mirW
    rw [Int.zero_sub]
theorem sy_l0 {r : RulesT} (hr : ROk r) (p : PosT) (depth : Int) : ∀ (k j n : Nat) (ps : List PieceT), j + k = (r.2.2.2.1).length → 20 * k < n → ps = ((r.2.2.2.1).take j).map pieY ++ (r.2.2.2.1).drop j →
    gamehallkeep1_SymmScores.l0 300000000 r p depth n ((r.2.2.2.1).length : Int) (j : Int) ps = finY 300000000 r p depth ((r.2.2.2.1).map pieY)
  | 0, j, n, ps, hk, hn, hps => by
    obtain ⟨n, rfl⟩ := nxt (n := n) (by omega)
    rw [gamehallkeep1_SymmScores.l0_s, gamehallkeep1_SymmScores.s0, bif_f (ltI_f (by omega)), hps, List.take_of_length_le (by omega), List.drop_of_length_le (by omega), List.append_nil]
    rfl
  | k + 1, j, n, ps, hk, hn, hps => by
    obtain ⟨n, rfl⟩ := nxt (n := n) (by omega)
    have hj : j < (r.2.2.2.1).length := by omega
    have h6 := hr.ps.le
    have hlA : (((r.2.2.2.1).take j).map pieY).length = j := by rw [List.length_map, List.length_take]; omega
    have hlp : ps.length = (r.2.2.2.1).length := by rw [hps, List.length_append, hlA, List.length_drop]; omega
    have hat : gD zP ps (j : Int) = (r.2.2.2.1)[j] := by
      rw [gD_nat (by omega)]
      have : ps[j]? = some (r.2.2.2.1)[j] := by
        rw [hps, List.getElem?_append_right (by omega), hlA, Nat.sub_self, List.getElem?_drop, Nat.add_zero, List.getElem?_eq_getElem hj]
      exact (List.getElem?_eq_some_iff.1 this).2
    have hpo := (hr.ps.each j hj).1
    rw [show gD zP r.2.2.2.1 (j : Int) = (r.2.2.2.1)[j] from gD_nat hj] at hpo
    have hwl := hpo.2.1.2.2.2.2
    have hww := hpo.2.2
    have hhat : gD ((0 : Int), ((0 : Int), ((0 : Int), ([] : List WayT)))) ps (j : Int) = (r.2.2.2.1)[j] := hat
    rw [gamehallkeep1_SymmScores.l0_s, gamehallkeep1_SymmScores.s0, bif_t (ltI_t (by omega)), chk_of (idx_ok (by omega)), chk_of (idx_ok (by omega))]
    dsimp only
    rw [hhat]
    generalize hX : (r.2.2.2.1)[j] = X at *
    have hv : ∃ v : Nat, (bif ltI 8 (X.2.2.2.length : Int) then 8 else (X.2.2.2.length : Int)) = (v : Int) ∧ v ≤ X.2.2.2.length ∧ X.2.2.2.take v = X.2.2.2.take 8 := by
      by_cases c : 8 < (X.2.2.2.length : Int)
      · rw [bif_t (ltI_t c)]; exact ⟨8, rfl, by omega, rfl⟩
      · rw [bif_f (ltI_f (by omega))]
        exact ⟨X.2.2.2.length, rfl, Nat.le_refl _, by rw [List.take_of_length_le (Nat.le_refl _), List.take_of_length_le (by omega)]⟩
    obtain ⟨v, v1, v2, v3⟩ := hv
    rw [v1, chk_t1 (by omega) (by omega), Int.toNat_natCast, v3]
    have hlt : (X.2.2.2.take 8).length ≤ 8 := by rw [List.length_take]; omega
    have hcl : ∀ l : List WayT, l.length ≤ 8 → slices_Clone_api_RuleWay_api_RuleWay 300000000 l = some l := fun l hl => by
      unfold slices_Clone_api_RuleWay_api_RuleWay slices_Clone_api_RuleWay_api_RuleWay.e
      rw [chk_cap (by simp; omega)]
      rfl
    rw [show ((0 : Int).toNat) = 0 from rfl, List.drop_zero, hcl _ hlt, Option.bind_some, hcl _ hlt, Option.bind_some]
    refine sy_l1 r p depth ((r.2.2.2.1).length : Int) j ps (by omega) (X.2.2.2.take 8) hlt (fun w hw => by have := hww w (List.mem_of_mem_take hw); omega) (20 * k + 1) _ (fun n hn => ?_) (X.2.2.2.take 8).length 0 n _ (by omega) (by omega) (by simp)
    rw [w64_id (by omega) (by omega), show ((j : Int) + 1) = ((j + 1 : Nat) : Int) by omega, hat]
    refine sy_l0 hr p depth k (j + 1) n _ (by omega) (by omega) ?_
    rw [hps, List.set_append_right _ _ (by omega), hlA, Nat.sub_self, List.drop_eq_getElem_cons hj, List.set_cons_zero, show (r.2.2.2.1).take (j + 1) = (r.2.2.2.1).take j ++ [(r.2.2.2.1)[j]] from by rw [List.take_add_one, List.getElem?_eq_getElem hj]; rfl, List.map_append, List.append_assoc, hX]
    rfl
theorem moved_trueY : gamehallkeep1_moved 300000000 = some true := by decide +kernel
theorem scored_trueY : gamehallkeep1_scored 300000000 = some true := by decide +kernel
theorem headY : ∃ y3 y4, gamehallkeep1_three 300000000 = some y3 ∧ gamehallkeep1_near 300000000 = some y4 ∧ place_Check 300000000 y3 y4 = some 0 := ⟨_, _, rfl, rfl, by decide +kernel⟩
theorem symmScores_at (r : RulesT) (p : PosT) (depth : Int) : gamehallkeep1_SymmScores 300000000 r p depth = some true := by
  obtain ⟨y3, y4, a1, a2, a3⟩ := headY
  unfold gamehallkeep1_SymmScores gamehallkeep1_SymmScores.e
  rw [moved_trueY, Option.bind_some, bif_f (by rfl), scored_trueY, Option.bind_some, bif_f (by rfl), a1, Option.bind_some, a2, Option.bind_some, a3, Option.bind_some, bif_f (by rfl)]
  obtain ⟨v, hv, hv2⟩ := pcheck (N := 300000000) (by decide) r p
  rw [hv, Option.bind_some]
  by_cases h0 : v = 0
  · obtain ⟨hr, hp⟩ := hv2.1 h0
    have h6 : r.2.2.2.1.length ≤ 6 := hr.ps.le
    have hcl : slices_Clone_api_RulePiece_api_RulePiece 300000000 r.2.2.2.1 = some r.2.2.2.1 := by
      unfold slices_Clone_api_RulePiece_api_RulePiece slices_Clone_api_RulePiece_api_RulePiece.e
      rw [chk_cap (by simp; omega)]
      rfl
    rw [bif_f (by rw [eqI_t h0]; rfl), hcl, Option.bind_some]
    refine (sy_l0 hr p depth (r.2.2.2.1).length 0 300000000 r.2.2.2.1 (by omega) (by omega) (by simp)).trans ?_
    have hr2 := rulY_ok hr
    have hS2 := rulY_sym hr
    have hp2 := rulY_pos hr hp
    obtain ⟨hvv, hh, _⟩ := heavy_ret (N := 300000000) (by decide) (rulY r ((r.2.2.2.1).map pieY)) p depth
    unfold finY
    rw [hh, Option.bind_some]
    cases hvv with
    | true => rfl
    | false =>
      obtain ⟨z, hz, z1, z2, z3⟩ := apply_ret hr (N := 300000000) (by decide) hp
      have hm2 : Mir (rulY r ((r.2.2.2.1).map pieY)) p (z.1, p.2) := ⟨z2.cell, z2.rest⟩
      have ho2 := rulY_pos hr z3
      obtain ⟨s, s1, s2⟩ := score_mir (N := 300000000) (by decide) hr2 hS2 hp2 ho2 hm2 depth
      rw [bif_f rfl, hz, Option.bind_some, s1, Option.bind_some, s2, Option.bind_some, bif_t (eqI_t z1), bif_t (eqI_self _), eqI_self]
  · rw [bif_t (by rw [eqI_f h0]; rfl)]
end Go.Proofs.Ytnckilklmkpooaa.Am
