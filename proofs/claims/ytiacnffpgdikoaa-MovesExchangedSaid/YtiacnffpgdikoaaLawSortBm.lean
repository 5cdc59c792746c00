/- Plain: the sort of moves sorts, second part: heap sort, ranges turned round, patterns broken. -/
import Derived.Test.YtiacnffpgdikoaaLawSortAm
set_option linter.unusedVariables false
set_option linter.unusedSimpArgs false
set_option linter.unusedSectionVars false
namespace Go.Proofs.Ytiacnffpgdikoaa.Am
open Go

/-- no child is greater, from lo on -/
def Hp (f lo hi : Int) (d : List MvT) : Prop := ∀ p c, lo ≤ p → (c = 2 * p + 1 ∨ c = 2 * p + 2) → c < hi → leM (gD z0 d (f + c)) (gD z0 d (f + p))
/-- .. but for those of root -/
structure HpX (f lo hi root : Int) (d : List MvT) : Prop where
  h : ∀ p c, lo ≤ p → p ≠ root → (c = 2 * p + 1 ∨ c = 2 * p + 2) → c < hi → leM (gD z0 d (f + c)) (gD z0 d (f + p))
  br : ∀ p c, lo ≤ p → (root = 2 * p + 1 ∨ root = 2 * p + 2) → (c = 2 * root + 1 ∨ c = 2 * root + 2) → c < hi → leM (gD z0 d (f + c)) (gD z0 d (f + p))
theorem Hp.x {f i hi : Int} {d : List MvT} (h : Hp f (i + 1) hi d) (h0 : 0 ≤ i) : HpX f i hi i d :=
  ⟨fun p c g1 g2 g3 g4 => h p c (by omega) g3 g4, fun p c g1 g2 g3 g4 => by omega⟩
theorem HpX.fin {f lo hi root : Int} {d : List MvT} (h : HpX f lo hi root d) (hc : ∀ c, (c = 2 * root + 1 ∨ c = 2 * root + 2) → c < hi → leM (gD z0 d (f + c)) (gD z0 d (f + root))) : Hp f lo hi d := by
  intro p c g1 g2 g3
  by_cases e : p = root
  · subst e; exact hc c g2 g3
  · exact h.h p c g1 e g2 g3
theorem HpX.step {f lo hi root ch : Int} {d : List MvT} (h : HpX f lo hi root d) (hf : 0 ≤ f) (hlo : 0 ≤ lo) (hr : lo ≤ root) (hch : ch = 2 * root + 1 ∨ ch = 2 * root + 2) (hhi : ch < hi) (hl : f + hi ≤ d.length)
    (hlt : leM (gD z0 d (f + root)) (gD z0 d (f + ch))) (hmax : ∀ c, (c = 2 * root + 1 ∨ c = 2 * root + 2) → c < hi → leM (gD z0 d (f + c)) (gD z0 d (f + ch))) :
    HpX f lo hi ch ((d.set (f + root).toNat (gD z0 d (f + ch))).set (f + ch).toNat (gD z0 d (f + root))) := by
  refine ⟨fun p c g1 g2 g3 g4 => ?_, fun p c g1 g2 g3 g4 => ?_⟩
  · rw [swp_at (by omega) (by omega) (by omega) (by omega), swp_at (by omega) (by omega) (by omega) (by omega), if_neg (c := f + p = f + ch) (by omega)]
    by_cases e1 : p = root
    · rw [if_pos (c := f + p = f + root) (by omega)]
      by_cases e2 : c = ch
      · rw [if_pos (by omega)]; exact hlt
      · rw [if_neg (by omega), if_neg (by omega)]
        exact hmax c (by omega) g4
    · rw [if_neg (c := f + p = f + root) (by omega), if_neg (by omega)]
      by_cases e2 : c = root
      · rw [if_pos (by omega)]
        exact h.br p ch g1 (by omega) hch hhi
      · rw [if_neg (by omega)]
        exact h.h p c g1 e1 g3 g4
  · rw [swp_at (by omega) (by omega) (by omega) (by omega), swp_at (by omega) (by omega) (by omega) (by omega), if_neg (by omega), if_neg (by omega), if_neg (by omega), if_pos (by omega)]
    exact h.h ch c (by omega) (by omega) g3 g4
theorem Hp.max {f hi : Int} {d : List MvT} (h : Hp f 0 hi d) : ∀ (n : Nat) (c : Int), c < n → 0 ≤ c → c < hi → leM (gD z0 d (f + c)) (gD z0 d f)
  | 0, c, h1, h2, _ => by omega
  | n + 1, c, h1, h2, h3 => by
    by_cases e : c = 0
    · rw [e, Int.add_zero]; exact leM.refl _
    · have hp := Hp.max h n ((c - 1) / 2) (by omega) (by omega) (by omega)
      exact (h ((c - 1) / 2) c (by omega) (by omega) h3).trans hp
section
variable {N : Nat} (hN : 2000000 ≤ N)
include hN
theorem siftS_l0 (d : List MvT) (hd : d.length ≤ 1000000) {d0 : List MvT} {lo hi first : Int} (hf : 0 ≤ first) (hlo : 0 ≤ lo) (hh : first + hi ≤ d.length) : ∀ (k n : Nat) (root : Int) (d' : List MvT), hi - root ≤ k → lo ≤ root → first + root < d.length → root < 1000001 → k + 1 ≤ n → W first (first + hi) d d' → HpX first lo hi root d' →
    Ret (slices_siftDownCmpFunc_api_Move'.l0 N d0 lo hi first n root d') fun y => W first (first + hi) d y ∧ Hp first lo hi y := by
  intro k
  induction k with
  | zero =>
    intro n root d' hk h1 h2 h3 hn hp hx
    obtain ⟨n, rfl⟩ : ∃ m, n = m + 1 := ⟨n - 1, by omega⟩
    rw [slices_siftDownCmpFunc_api_Move'.l0_s, slices_siftDownCmpFunc_api_Move'.s0]
    simp (disch := omega) only [w64_id]
    rw [bif_t (leI_t (by omega))]
    exact Ret.ret ⟨hp, hx.fin fun c g1 g2 => by omega⟩
  | succ k ih =>
    intro n root d' hk h1 h2 h3 hn hp hx
    have hl := hp.len
    obtain ⟨n, rfl⟩ : ∃ m, n = m + 1 := ⟨n - 1, by omega⟩
    rw [slices_siftDownCmpFunc_api_Move'.l0_s, slices_siftDownCmpFunc_api_Move'.s0]
    simp (disch := omega) only [w64_id]
    refine Ret.bif (fun c => Ret.ret ⟨hp, hx.fin fun q g1 g2 => by rw [leI_iff] at c; omega⟩) (fun c => ?_)
    rw [leI_iff'] at c
    refine Ret.bif (fun c2 => ?_) (fun c2 => ?_)
    · rw [ltI_iff] at c2
      simp (disch := omega) only [w64_id, chk_idx, List.length_set, cmpM_eq (show 4 ≤ N by omega), Option.bind_some]
      have e2 : first + (2 * root + 1) + 1 = first + (2 * root + 2) := by omega
      have e3 : first + (2 * root + 1 + 1) = first + (2 * root + 2) := by omega
      refine Ret.bif (fun c3 => ?_) (fun c3 => ?_)
      · rw [ltI_iff, e2] at c3
        rw [e3]
        have hmax : ∀ q, (q = 2 * root + 1 ∨ q = 2 * root + 2) → q < hi → leM (gD z0 d' (first + q)) (gD z0 d' (first + (2 * root + 2))) := by
          intro q g1 g2
          rcases g1 with g1 | g1
          · rw [g1]; exact leM.of_lt c3
          · rw [g1]; exact leM.refl _
        refine Ret.bif (fun c4 => Ret.ret ⟨hp, hx.fin fun q g1 g2 => ?_⟩) (fun c4 => ?_)
        · rw [not_t, ltI_iff'] at c4
          exact (hmax q g1 g2).trans (Int.not_lt.2 c4)
        · rw [not_f, ltI_iff] at c4
          rw [show 2 * root + 1 + 1 = 2 * root + 2 by omega]
          exact ih n _ _ (by omega) (by omega) (by omega) (by omega) (by omega) (hp.swp hf hh (by omega) (by omega) (by omega) (by omega)) (hx.step hf hlo h1 (Or.inr rfl) (by omega) (by omega) (leM.of_lt c4) hmax)
      · rw [ltI_iff', e2] at c3
        have hmax : ∀ q, (q = 2 * root + 1 ∨ q = 2 * root + 2) → q < hi → leM (gD z0 d' (first + q)) (gD z0 d' (first + (2 * root + 1))) := by
          intro q g1 g2
          rcases g1 with g1 | g1
          · rw [g1]; exact leM.refl _
          · rw [g1]; exact Int.not_lt.2 c3
        refine Ret.bif (fun c4 => Ret.ret ⟨hp, hx.fin fun q g1 g2 => ?_⟩) (fun c4 => ?_)
        · rw [not_t, ltI_iff'] at c4
          exact (hmax q g1 g2).trans (Int.not_lt.2 c4)
        · rw [not_f, ltI_iff] at c4
          exact ih n _ _ (by omega) (by omega) (by omega) (by omega) (by omega) (hp.swp hf hh (by omega) (by omega) (by omega) (by omega)) (hx.step hf hlo h1 (Or.inl rfl) (by omega) (by omega) (leM.of_lt c4) hmax)
    · rw [ltI_iff'] at c2
      simp (disch := omega) only [w64_id, chk_idx, List.length_set, cmpM_eq (show 4 ≤ N by omega), Option.bind_some]
      have hmax : ∀ q, (q = 2 * root + 1 ∨ q = 2 * root + 2) → q < hi → leM (gD z0 d' (first + q)) (gD z0 d' (first + (2 * root + 1))) := by
        intro q g1 g2
        obtain rfl : q = 2 * root + 1 := by omega
        exact leM.refl _
      refine Ret.bif (fun c4 => Ret.ret ⟨hp, hx.fin fun q g1 g2 => ?_⟩) (fun c4 => ?_)
      · rw [not_t, ltI_iff'] at c4
        exact (hmax q g1 g2).trans (Int.not_lt.2 c4)
      · rw [not_f, ltI_iff] at c4
        exact ih n _ _ (by omega) (by omega) (by omega) (by omega) (by omega) (hp.swp hf hh (by omega) (by omega) (by omega) (by omega)) (hx.step hf hlo h1 (Or.inl rfl) (by omega) (by omega) (leM.of_lt c4) hmax)
theorem siftS (d : List MvT) (hd : d.length ≤ 1000000) {lo hi first : Int} (hf : 0 ≤ first) (hlo : 0 ≤ lo) (hh : first + hi ≤ d.length) (h2 : first + lo < d.length) (hx : HpX first lo hi lo d) : Ret (slices_siftDownCmpFunc_api_Move' N d lo hi first) fun y => W first (first + hi) d y ∧ Hp first lo hi y := by
  unfold slices_siftDownCmpFunc_api_Move' slices_siftDownCmpFunc_api_Move'.e
  exact siftS_l0 hN d hd hf hlo hh 1000001 N lo d (by omega) (Int.le_refl _) h2 (by omega) (by omega) (W.refl _ _ _) hx
theorem heapS_l1 (d : List MvT) (hd : d.length ≤ 1000000) {d0 : List MvT} {a b : Int} (ha : 0 ≤ a) (hb : b ≤ d.length) : ∀ (k n : Nat) (i : Int) (d' : List MvT), i + 1 ≤ k → -1 ≤ i → a + i < b → k + 1 ≤ n → W a b d d' → Hp a 0 (i + 1) d' → Sd (a + i + 1) b d' → (∀ p q, a ≤ p → p < a + i + 1 → a + i + 1 ≤ q → q < b → leM (gD z0 d' p) (gD z0 d' q)) →
    Ret (slices_heapSortCmpFunc_api_Move'.l1 N d0 a b n i d') fun y => W a b d y ∧ Sd a b y := by
  intro k
  induction k with
  | zero =>
    intro n i d' hk h1 h2 hn hp hh hS hc
    obtain ⟨n, rfl⟩ : ∃ m, n = m + 1 := ⟨n - 1, by omega⟩
    rw [slices_heapSortCmpFunc_api_Move'.l1_s, slices_heapSortCmpFunc_api_Move'.s1, bif_f (leI_f (by omega))]
    exact Ret.ret ⟨hp, fun p q g1 g2 g3 => hS p q (by omega) g2 g3⟩
  | succ k ih =>
    intro n i d' hk h1 h2 hn hp hh hS hc
    have hl := hp.len
    obtain ⟨n, rfl⟩ : ∃ m, n = m + 1 := ⟨n - 1, by omega⟩
    rw [slices_heapSortCmpFunc_api_Move'.l1_s, slices_heapSortCmpFunc_api_Move'.s1]
    refine Ret.bif (fun c => ?_) (fun c => Ret.ret ⟨hp, fun p q g1 g2 g3 => hS p q (by rw [leI_iff'] at c; omega) g2 g3⟩)
    rw [leI_iff] at c
    simp (disch := omega) only [w64_id, chk_idx, List.length_set]
    have hw := hp.swp ha hb (i := a) (j := a + i) (by omega) (by omega) (by omega) (by omega)
    have hat : ∀ q : Int, 0 ≤ q → q < d'.length → gD z0 ((d'.set a.toNat (gD z0 d' (a + i))).set (a + i).toNat (gD z0 d' a)) q = if q = a + i then gD z0 d' a else if q = a then gD z0 d' (a + i) else gD z0 d' q := fun q g1 g2 => swp_at (by omega) (by omega) g1 g2
    show Ret ((slices_siftDownCmpFunc_api_Move' N ((d'.set a.toNat (gD z0 d' (a + i))).set (a + i).toNat (gD z0 d' a)) 0 i a).bind _) _
    generalize hx : (d'.set a.toNat (gD z0 d' (a + i))).set (a + i).toNat (gD z0 d' a) = x at hw hat
    have hlx := hw.len
    have hX : HpX a 0 i 0 x := by
      refine ⟨fun p q g1 g2 g3 g4 => ?_, fun p q g1 g2 g3 g4 => by omega⟩
      rw [hat _ (by omega) (by omega), hat _ (by omega) (by omega), if_neg (by omega), if_neg (by omega), if_neg (by omega), if_neg (by omega)]
      exact hh p q g1 g3 (by omega)
    refine Ret.bnd (siftS hN x (by omega) ha (Int.le_refl _) (by omega) (by omega) hX) fun y hy => ?_
    obtain ⟨hy1, hy2⟩ := hy
    have hmax : ∀ p, a ≤ p → p < a + i + 1 → leM (gD z0 d' p) (gD z0 d' a) := by
      intro p g1 g2
      have := hh.max (p - a + 1).toNat (p - a) (by omega) (by omega) (by omega)
      rw [show a + (p - a) = p by omega] at this
      exact this
    have hlow : ∀ p, a ≤ p → p < a + i → leM (gD z0 y p) (gD z0 d' a) ∧ ∀ q, a + i + 1 ≤ q → q < b → leM (gD z0 y p) (gD z0 d' q) := by
      intro p g1 g2
      obtain ⟨j, k1, k2, k3⟩ := hy1.sub p g1 g2
      rw [k3, hat j (by omega) (by omega), if_neg (by omega)]
      by_cases e : j = a
      · rw [if_pos e]; exact ⟨hmax _ (by omega) (by omega), fun q l1 l2 => hc _ _ (by omega) (by omega) l1 l2⟩
      · rw [if_neg e]; exact ⟨hmax _ (by omega) (by omega), fun q l1 l2 => hc _ _ (by omega) (by omega) l1 l2⟩
    have hup : ∀ q, a + i ≤ q → q < b → gD z0 y q = if q = a + i then gD z0 d' a else gD z0 d' q := by
      intro q g1 g2
      rw [hy1.out q (by omega) (by omega) (by omega), hat q (by omega) (by omega)]
      by_cases e : q = a + i
      · rw [if_pos e, if_pos e]
      · rw [if_neg e, if_neg e, if_neg (by omega)]
    refine ih n (i - 1) y (by omega) (by omega) (by omega) (by omega) (hw.trans (hy1.mono ha (Int.le_refl _) (by omega) (by omega))) (by rw [show i - 1 + 1 = i by omega]; exact hy2) (fun p q g1 g2 g3 => ?_) (fun p q g1 g2 g3 g4 => ?_)
    · rw [hup p (by omega) (by omega), hup q (by omega) g3]
      by_cases e1 : p = a + i
      · rw [if_pos e1]
        by_cases e2 : q = a + i
        · rw [if_pos e2]; exact leM.refl _
        · rw [if_neg e2]; exact hc a q (by omega) (by omega) (by omega) g3
      · rw [if_neg e1, if_neg (by omega)]
        exact hS p q (by omega) g2 g3
    · rw [hup q (by omega) g4]
      by_cases e2 : q = a + i
      · rw [if_pos e2]; exact (hlow p g1 (by omega)).1
      · rw [if_neg e2]; exact (hlow p g1 (by omega)).2 q (by omega) g4
theorem heapS_l0 (d : List MvT) (hd : d.length ≤ 1000000) {d0 : List MvT} {a b : Int} (ha : 0 ≤ a) (hab : a < b) (hb : b ≤ d.length) : ∀ (k n : Nat) (i : Int) (d' : List MvT), i + 1 ≤ k → -1 ≤ i → a + i < b → k + 1000002 ≤ n → W a b d d' → Hp a (i + 1) (b - a) d' → Ret (slices_heapSortCmpFunc_api_Move'.l0 N d0 a b n i d') fun y => W a b d y ∧ Sd a b y := by
  intro k
  induction k with
  | zero =>
    intro n i d' hk h1 h2 hn hp hh
    obtain ⟨n, rfl⟩ : ∃ m, n = m + 1 := ⟨n - 1, by omega⟩
    rw [slices_heapSortCmpFunc_api_Move'.l0_s, slices_heapSortCmpFunc_api_Move'.s0, bif_f (leI_f (by omega))]
    simp (disch := omega) only [w64_id]
    obtain rfl : i = -1 := by omega
    exact heapS_l1 hN d hd ha hb 1000000 n _ d' (by omega) (by omega) (by omega) (by omega) hp (by rw [show b - a - 1 + 1 = b - a by omega]; exact hh) (fun p q g1 g2 g3 => by omega) (fun p q g1 g2 g3 g4 => by omega)
  | succ k ih =>
    intro n i d' hk h1 h2 hn hp hh
    have hl := hp.len
    obtain ⟨n, rfl⟩ : ∃ m, n = m + 1 := ⟨n - 1, by omega⟩
    rw [slices_heapSortCmpFunc_api_Move'.l0_s, slices_heapSortCmpFunc_api_Move'.s0]
    simp (disch := omega) only [w64_id]
    refine Ret.bif (fun c => ?_) (fun c => ?_)
    · rw [leI_iff] at c
      refine Ret.bnd (siftS hN d' (by omega) ha c (by omega) (by omega) (hh.x c)) fun y hy => ?_
      exact ih n (i - 1) y (by omega) (by omega) (by omega) (by omega) (hp.trans (by have := hy.1; rw [show a + (b - a) = b by omega] at this; exact this)) (by rw [show i - 1 + 1 = i by omega]; exact hy.2)
    · rw [leI_iff'] at c
      obtain rfl : i = -1 := by omega
      exact heapS_l1 hN d hd ha hb 1000000 n _ d' (by omega) (by omega) (by omega) (by omega) hp (by rw [show b - a - 1 + 1 = b - a by omega]; exact hh) (fun p q g1 g2 g3 => by omega) (fun p q g1 g2 g3 g4 => by omega)
theorem heapS (d : List MvT) (hd : d.length ≤ 1000000) {a b : Int} (ha : 0 ≤ a) (hab : a < b) (hb : b ≤ d.length) {d0 : List MvT} (hp : W a b d d0) : Ret (slices_heapSortCmpFunc_api_Move' N d0 a b) fun y => W a b d y ∧ Sd a b y := by
  unfold slices_heapSortCmpFunc_api_Move' slices_heapSortCmpFunc_api_Move'.e
  rw [w64_id (x := b - a) (by omega) (by omega), w64_id (x := b - a - 1) (by omega) (by omega), Int.tdiv_eq_ediv_of_nonneg (by omega), w64_id (by omega) (by omega)]
  exact heapS_l0 hN d hd ha hab hb 500001 N _ d0 (by omega) (by omega) (by omega) (by omega) hp (fun p c g1 g2 g3 => by omega)
end
section
variable (d : List MvT) (hd : d.length ≤ 1000000)
include hd
theorem reverseS_l0 {N : Nat} {d0 : List MvT} {a b : Int} (ha : 0 ≤ a) (hb : b ≤ d.length) : ∀ (k n : Nat) (i j : Int) (d' : List MvT), j - i ≤ k → a ≤ i → a - 1 ≤ j → j < b → i ≤ 2000000 → k + 1 ≤ n → W a b d d' → Ret (slices_reverseRangeCmpFunc_api_Move'.l0 N d0 a b n i j d') (W a b d) := by
  intro k
  induction k with
  | zero =>
    intro n i j d' hk h1 h2 h3 h4 hn hp
    obtain ⟨n, rfl⟩ : ∃ m, n = m + 1 := ⟨n - 1, by omega⟩
    rw [slices_reverseRangeCmpFunc_api_Move'.l0_s, slices_reverseRangeCmpFunc_api_Move'.s0, bif_f (ltI_f (by omega))]
    exact Ret.ret hp
  | succ k ih =>
    intro n i j d' hk h1 h2 h3 h4 hn hp
    have hl := hp.len
    obtain ⟨n, rfl⟩ : ∃ m, n = m + 1 := ⟨n - 1, by omega⟩
    rw [slices_reverseRangeCmpFunc_api_Move'.l0_s, slices_reverseRangeCmpFunc_api_Move'.s0]
    refine Ret.bif (fun c => ?_) (fun _ => Ret.ret hp)
    rw [ltI_iff] at c
    simp (disch := omega) only [w64_id, chk_idx, List.length_set]
    exact ih n (i + 1) (j - 1) _ (by omega) (by omega) (by omega) (by omega) (by omega) (by omega) (hp.swp ha hb (by omega) (by omega) (by omega) (by omega))
theorem reverseS {N : Nat} (hN : 2000000 ≤ N) {d0 : List MvT} {a b : Int} (ha : 0 ≤ a) (hab : a < b) (hb : b ≤ d.length) (hp : W a b d d0) : Ret (slices_reverseRangeCmpFunc_api_Move' N d0 a b) (W a b d) := by
  unfold slices_reverseRangeCmpFunc_api_Move' slices_reverseRangeCmpFunc_api_Move'.e
  rw [w64_id (by omega) (by omega)]
  exact reverseS_l0 d hd ha hb 1000000 N a (b - 1) d0 (by omega) (Int.le_refl _) (by omega) (by omega) (by omega) (by omega) hp
end
section
variable {N : Nat} (hN : 100000000 ≤ N) (d : List MvT) (hd : d.length ≤ 8192)
include hN hd
theorem breakS_l0 {d0 : List MvT} {a b : Int} (ha : 0 ≤ a) (hab : 8 ≤ b - a) (hb : b ≤ d.length) {m : Nat} (hm1 : 1 ≤ m) (hm : m ≤ 2 * (b - a)) : ∀ (k n : Nat) (idx : Int) (d' : List MvT) (rnd : Int), a + (b - a) / 4 * 2 + 2 - idx ≤ k → a ≤ idx → k + 1 ≤ n → W a b d d' → Ret (slices_breakPatternsCmpFunc_api_Move'.l0 N d0 a b n (m : Int) idx d' rnd) (W a b d) := by
  have ht : Int.tdiv (b - a) 4 = (b - a) / 4 := Int.tdiv_eq_ediv_of_nonneg (by omega)
  intro k
  induction k with
  | zero =>
    intro n idx d' rnd hk h1 hn hp
    obtain ⟨n, rfl⟩ : ∃ m, n = m + 1 := ⟨n - 1, by omega⟩
    rw [slices_breakPatternsCmpFunc_api_Move'.l0_s, slices_breakPatternsCmpFunc_api_Move'.s0]
    rw [w64_id (x := b - a) (by omega) (by omega), ht]
    simp (disch := omega) only [w64_id]
    rw [bif_f (leI_f (by omega))]
    exact Ret.ret hp
  | succ k ih =>
    intro n idx d' rnd hk h1 hn hp
    have hl := hp.len
    obtain ⟨n, rfl⟩ : ∃ m, n = m + 1 := ⟨n - 1, by omega⟩
    rw [slices_breakPatternsCmpFunc_api_Move'.l0_s, slices_breakPatternsCmpFunc_api_Move'.s0]
    rw [w64_id (x := b - a) (by omega) (by omega), ht]
    simp (disch := omega) only [w64_id]
    refine Ret.bif (fun c => ?_) (fun _ => Ret.ret hp)
    rw [leI_iff] at c
    obtain ⟨y, hy⟩ : ∃ y, slices_xorshift_Next N rnd = some y := ⟨_, rfl⟩
    rw [hy, Option.bind_some]
    have hmm : IntKind.wrap .u64 ((m : Int) - 1) = ((m - 1 : Nat) : Int) := by
      unfold IntKind.wrap
      have e : (2 : Int) ^ IntKind.bits .u64 = 18446744073709551616 := by decide
      simp only [e]
      have : ((m : Int) - 1) % 18446744073709551616 = ((m - 1 : Nat) : Int) := by omega
      simp [IntKind.signed, this]
    rw [hmm]
    obtain ⟨q1, q2⟩ := and_le y.1 (m - 1) (by omega)
    generalize Go.bits .and .u64 y.1 ((m - 1 : Nat) : Int) = v at q1 q2
    simp (disch := omega) only [w64_id]
    refine Ret.bif (fun c2 => ?_) (fun c2 => ?_)
    · rw [leI_iff] at c2
      simp (disch := omega) only [w64_id, chk_idx, List.length_set]
      exact ih n (idx + 1) _ _ (by omega) (by omega) (by omega) (hp.swp ha hb (by omega) (by omega) (by omega) (by omega))
    · rw [leI_iff'] at c2
      simp (disch := omega) only [w64_id, chk_idx, List.length_set]
      exact ih n (idx + 1) _ _ (by omega) (by omega) (by omega) (hp.swp ha hb (by omega) (by omega) (by omega) (by omega))
theorem breakS {d0 : List MvT} {a b : Int} (ha : 0 ≤ a) (hab : a ≤ b) (hb : b ≤ d.length) (hp : W a b d d0) : Ret (slices_breakPatternsCmpFunc_api_Move' N d0 a b) (W a b d) := by
  unfold slices_breakPatternsCmpFunc_api_Move' slices_breakPatternsCmpFunc_api_Move'.e
  have ht : Int.tdiv (b - a) 4 = (b - a) / 4 := Int.tdiv_eq_ediv_of_nonneg (by omega)
  rw [w64_id (x := b - a) (by omega) (by omega), ht]
  simp (disch := omega) only [w64_id]
  refine Ret.bif (fun c => ?_) (fun _ => Ret.ret hp)
  rw [leI_iff] at c
  obtain ⟨l, hl⟩ : ∃ l : Nat, b - a = l := ⟨(b - a).toNat, by omega⟩
  obtain ⟨v, v1, v2, v3, v4⟩ := bitsLen_le N (k := l) (by omega) (by omega)
  unfold slices_nextPowerOfTwo slices_nextPowerOfTwo.e
  rw [hl, v1, Option.bind_some, bif_f (ltI_f v2), Option.bind_some]
  have hpw : (1 : Nat) ≤ 2 ^ v.toNat := Nat.one_le_two_pow
  have hw : IntKind.wrap .u64 (1 * 2 ^ (min v.toNat 64)) = ((2 ^ v.toNat : Nat) : Int) := by
    rw [Nat.min_eq_left (by omega), wrapU]
    have e2 : (1 : Int) * 2 ^ v.toNat = ((2 ^ v.toNat : Nat) : Int) := by simp
    rw [e2]
    exact Int.emod_eq_of_lt (by omega) (by omega)
  rw [hw, ← hl]
  exact breakS_l0 hN d hd ha c hb hpw (by omega) 10000 N _ d0 _ (by omega) (by omega) (by omega) hp
end
end Go.Proofs.Ytiacnffpgdikoaa.Am
