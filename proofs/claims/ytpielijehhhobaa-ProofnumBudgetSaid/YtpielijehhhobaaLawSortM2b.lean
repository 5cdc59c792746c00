/- Plain: the sort of moves, second part: heap sort, pivots, ranges turned round. -/
import Derived.Test.YtpielijehhhobaaLawSortM1b
set_option linter.unusedVariables false
set_option linter.unusedSimpArgs false
namespace Go.Proofs.Ytpielijehhhobaa.Am
open Go
section
variable {N : Nat} (hN : 2000000 ≤ N) (d : List MvT) (hd : d.length ≤ 1000000)
include hN hd
theorem siftM_l0 {d0 : List MvT} {lo hi first : Int} (hf : 0 ≤ first) (hh : first + hi ≤ d.length) : ∀ (k n : Nat) (root : Int) (d' : List MvT), hi - root ≤ k → 0 ≤ root → first + root < d.length → root < 1000001 → k + 1 ≤ n → Pm d d' → Ret (Q106.l0 N d0 lo hi first n root d') (Pm d) := by
 intro k
 induction k with
 | zero =>
  intro n root d' hk h1 h2 h3 hn hp
  obtain ⟨n, rfl⟩ : ∃ m, n = m + 1 := ⟨n - 1, by omega⟩
  rw [Q106.l0_s, Q106.s0]
  simp (disch := omega) only [w64_id]
  rw [bif_t (leI_t (by omega))]
  exact Ret.ret hp
 | succ k ih =>
  intro n root d' hk h1 h2 h3 hn hp
  have hl := hp.length_eq
  obtain ⟨n, rfl⟩ : ∃ m, n = m + 1 := ⟨n - 1, by omega⟩
  rw [Q106.l0_s, Q106.s0]
  simp (disch := omega) only [w64_id]
  refine Ret.bif (fun _ => Ret.ret hp) (fun c => ?_)
  rw [leI_iff'] at c
  refine Ret.bif (fun c2 => ?_) (fun _ => ?_)
  ·rw [ltI_iff] at c2
   simp (disch := omega) only [w64_id, chk_idx, List.length_set, cmpM_eq (show 4 ≤ N by omega), Option.bind_some]
   refine Ret.bif (fun _ => ?_) (fun _ => ?_)
   ·refine Ret.bif (fun _ => Ret.ret hp) (fun _ => ?_)
    exact ih n _ _ (by omega) (by omega) (by omega) (by omega) (by omega) (hp.swp (by omega) (by omega) (by omega) (by omega))
   ·refine Ret.bif (fun _ => Ret.ret hp) (fun _ => ?_)
    exact ih n _ _ (by omega) (by omega) (by omega) (by omega) (by omega) (hp.swp (by omega) (by omega) (by omega) (by omega))
  ·simp (disch := omega) only [w64_id, chk_idx, List.length_set, cmpM_eq (show 4 ≤ N by omega), Option.bind_some]
   refine Ret.bif (fun _ => Ret.ret hp) (fun _ => ?_)
   exact ih n _ _ (by omega) (by omega) (by omega) (by omega) (by omega) (hp.swp (by omega) (by omega) (by omega) (by omega))
theorem siftM {d0 : List MvT} {lo hi first : Int} (hf : 0 ≤ first) (hh : first + hi ≤ d.length) (h1 : 0 ≤ lo) (h2 : first + lo < d.length) (hp : Pm d d0) : Ret (Q106 N d0 lo hi first) (Pm d) := by
 unfold Q106 Q106.e
 exact siftM_l0 hN d hd hf hh 1000001 N lo d0 (by omega) h1 h2 (by omega) (by omega) hp
theorem heapM_l1 {d0 : List MvT} {a b : Int} (ha : 0 ≤ a) (hb : b ≤ d.length) : ∀ (k n : Nat) (i : Int) (d' : List MvT), i + 1 ≤ k → -1 ≤ i → a + i < b → k + 1 ≤ n → Pm d d' → Ret (Q96.l1 N d0 a b n i d') (Pm d) := by
 intro k
 induction k with
 | zero =>
  intro n i d' hk h1 h2 hn hp
  obtain ⟨n, rfl⟩ : ∃ m, n = m + 1 := ⟨n - 1, by omega⟩
  rw [Q96.l1_s, Q96.s1, bif_f (leI_f (by omega))]
  exact Ret.ret hp
 | succ k ih =>
  intro n i d' hk h1 h2 hn hp
  have hl := hp.length_eq
  obtain ⟨n, rfl⟩ : ∃ m, n = m + 1 := ⟨n - 1, by omega⟩
  rw [Q96.l1_s, Q96.s1]
  refine Ret.bif (fun c => ?_) (fun _ => Ret.ret hp)
  rw [leI_iff] at c
  simp (disch := omega) only [w64_id, chk_idx, List.length_set]
  refine Ret.bnd (siftM hN d hd ha (by omega) (by omega) (by omega) (hp.swp (by omega) (by omega) (by omega) (by omega))) fun y hy => ?_
  exact ih n (i - 1) y (by omega) (by omega) (by omega) (by omega) hy
theorem heapM_l0 {d0 : List MvT} {a b : Int} (ha : 0 ≤ a) (hab : a < b) (hb : b ≤ d.length) : ∀ (k n : Nat) (i : Int) (d' : List MvT), i + 1 ≤ k → -1 ≤ i → a + i < b → k + 1000002 ≤ n → Pm d d' → Ret (Q96.l0 N d0 a b n i d') (Pm d) := by
 intro k
 induction k with
 | zero =>
  intro n i d' hk h1 h2 hn hp
  obtain ⟨n, rfl⟩ : ∃ m, n = m + 1 := ⟨n - 1, by omega⟩
  rw [Q96.l0_s, Q96.s0, bif_f (leI_f (by omega))]
  simp (disch := omega) only [w64_id]
  exact heapM_l1 hN d hd ha hb 1000000 n _ d' (by omega) (by omega) (by omega) (by omega) hp
 | succ k ih =>
  intro n i d' hk h1 h2 hn hp
  have hl := hp.length_eq
  obtain ⟨n, rfl⟩ : ∃ m, n = m + 1 := ⟨n - 1, by omega⟩
  rw [Q96.l0_s, Q96.s0]
  simp (disch := omega) only [w64_id]
  refine Ret.bif (fun c => ?_) (fun _ => heapM_l1 hN d hd ha hb 1000000 n _ d' (by omega) (by omega) (by omega) (by omega) hp)
  rw [leI_iff] at c
  refine Ret.bnd (siftM hN d hd ha (by omega) (by omega) (by omega) hp) fun y hy => ?_
  exact ih n (i - 1) y (by omega) (by omega) (by omega) (by omega) hy
theorem heapM {d0 : List MvT} {a b : Int} (ha : 0 ≤ a) (hab : a < b) (hb : b ≤ d.length) (hp : Pm d d0) : Ret (Q96 N d0 a b) (Pm d) := by
 unfold Q96 Q96.e
 rw [w64_id (x := b - a) (by omega) (by omega), w64_id (x := b - a - 1) (by omega) (by omega), Int.tdiv_eq_ediv_of_nonneg (by omega), w64_id (by omega) (by omega)]
 exact heapM_l0 hN d hd ha hab hb 500001 N _ d0 (by omega) (by omega) (by omega) (by omega) hp
omit hd in
theorem order2M {d' : List MvT} {lo hi a b s : Int} (h0 : 0 ≤ lo) (hh : hi ≤ d'.length) (ha : lo ≤ a ∧ a < hi) (hb : lo ≤ b ∧ b < hi) : Ret (Q111 N d' a b s) fun y => (lo ≤ y.1 ∧ y.1 < hi) ∧ lo ≤ y.2.1 ∧ y.2.1 < hi := by
 unfold Q111 Q111.e
 simp (disch := omega) only [chk_idx, cmpM_eq (show 4 ≤ N by omega), Option.bind_some]
 exact Ret.bif (fun _ => Ret.ret ⟨hb, ha⟩) (fun _ => Ret.ret ⟨ha, hb⟩)
omit hd in
theorem medianM {d' : List MvT} {lo hi a b c s : Int} (h0 : 0 ≤ lo) (hh : hi ≤ d'.length) (ha : lo ≤ a ∧ a < hi) (hb : lo ≤ b ∧ b < hi) (hc : lo ≤ c ∧ c < hi) : Ret (Q110 N d' a b c s) fun y => lo ≤ y.1 ∧ y.1 < hi := by
 unfold Q110 Q110.e
 refine Ret.bnd (order2M hN h0 hh ha hb) fun y1 h1 => ?_
 refine Ret.bnd (order2M hN h0 hh h1.2 hc) fun y2 h2 => ?_
 refine Ret.bnd (order2M hN h0 hh h1.1 h2.1) fun y3 h3 => ?_
 exact Ret.ret h3.2
theorem pivotM {d' : List MvT} {a b : Int} (hl : d'.length = d.length) (ha : 0 ≤ a) (hab : 8 ≤ b - a) (hb : b ≤ d.length) : Ret (Q98 N d' a b) fun y => a ≤ y.1 ∧ y.1 < b := by
 unfold Q98 Q98.e
 have ht : Int.tdiv (b - a) 4 = (b - a) / 4 := Int.tdiv_eq_ediv_of_nonneg (by omega)
 rw [w64_id (x := b - a) (by omega) (by omega), ht]
 simp (disch := omega) only [w64_id]
 rw [bif_t (leI_t hab)]
 refine Ret.bif (fun c => ?_) (fun _ => ?_)
 ·rw [leI_iff] at c
  unfold Q109 Q109.e
  simp (disch := omega) only [w64_id]
  refine Ret.bnd (Ret.bnd (medianM hN (lo := a) (hi := b) ha (by omega) (by omega) (by omega) (by omega)) fun y hy => Ret.ret hy) fun y1 h1 => ?_
  refine Ret.bnd (Ret.bnd (medianM hN (lo := a) (hi := b) ha (by omega) (by omega) (by omega) (by omega)) fun y hy => Ret.ret hy) fun y2 h2 => ?_
  refine Ret.bnd (Ret.bnd (medianM hN (lo := a) (hi := b) ha (by omega) (by omega) (by omega) (by omega)) fun y hy => Ret.ret hy) fun y3 h3 => ?_
  refine Ret.bnd (medianM hN (lo := a) (hi := b) ha (by omega) h1 h2 h3) fun y4 h4 => ?_
  exact Ret.bif (fun _ => Ret.ret h4) (fun _ => Ret.bif (fun _ => Ret.ret h4) (fun _ => Ret.ret h4))
 ·refine Ret.bnd (medianM hN (lo := a) (hi := b) ha (by omega) (by omega) (by omega) (by omega)) fun y4 h4 => ?_
  exact Ret.bif (fun _ => Ret.ret h4) (fun _ => Ret.bif (fun _ => Ret.ret h4) (fun _ => Ret.ret h4))
omit hN in
theorem reverseM_l0 {d0 : List MvT} {a b : Int} : ∀ (k n : Nat) (i j : Int) (d' : List MvT), j - i ≤ k → 0 ≤ i → -1 ≤ j → j < d.length → i ≤ 2000000 → k + 1 ≤ n → Pm d d' → Ret (Q99.l0 N d0 a b n i j d') (Pm d) := by
 intro k
 induction k with
 | zero =>
  intro n i j d' hk h1 h2 h3 h4 hn hp
  obtain ⟨n, rfl⟩ : ∃ m, n = m + 1 := ⟨n - 1, by omega⟩
  rw [Q99.l0_s, Q99.s0, bif_f (ltI_f (by omega))]
  exact Ret.ret hp
 | succ k ih =>
  intro n i j d' hk h1 h2 h3 h4 hn hp
  have hl := hp.length_eq
  obtain ⟨n, rfl⟩ : ∃ m, n = m + 1 := ⟨n - 1, by omega⟩
  rw [Q99.l0_s, Q99.s0]
  refine Ret.bif (fun c => ?_) (fun _ => Ret.ret hp)
  rw [ltI_iff] at c
  simp (disch := omega) only [w64_id, chk_idx, List.length_set]
  exact ih n (i + 1) (j - 1) _ (by omega) (by omega) (by omega) (by omega) (by omega) (by omega) (hp.swp (by omega) (by omega) (by omega) (by omega))
theorem reverseM {d0 : List MvT} {a b : Int} (ha : 0 ≤ a) (hab : a < b) (hb : b ≤ d.length) (hp : Pm d d0) : Ret (Q99 N d0 a b) (Pm d) := by
 unfold Q99 Q99.e
 rw [w64_id (by omega) (by omega)]
 exact reverseM_l0 d hd 1000000 N a (b - 1) d0 (by omega) ha (by omega) (by omega) (by omega) (by omega) hp
end
end Go.Proofs.Ytpielijehhhobaa.Am
