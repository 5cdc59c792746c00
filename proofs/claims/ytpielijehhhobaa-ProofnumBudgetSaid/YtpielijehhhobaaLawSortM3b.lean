/- Plain: the sort of moves, third part: partial insertion sort and the partitions. -/
import Derived.Test.YtpielijehhhobaaLawSortM2b
set_option linter.unusedVariables false
set_option linter.unusedSimpArgs false
set_option linter.unusedSectionVars false
namespace Go.Proofs.Ytpielijehhhobaa.Am
open Go
section
variable {N : Nat} (hN : 100000000 ≤ N) (d : List MvT) (hd : d.length ≤ 1000000)
include hN hd
abbrev PmB (d : List MvT) (y : Bool × List MvT) : Prop := Pm d y.2
theorem partM_l3 {d0 : List MvT} {a b i j : Int} {B : Nat} (hi1 : 1 ≤ i) (hb : b ≤ d.length) (hj : 0 ≤ j ∧ j ≤ 5) (h0 : ∀ n d', B ≤ n → Pm d d' → Ret (Q100.l0 N d0 a b n i (j + 1) d') (PmB d)) :
  ∀ (k n : Nat) (t : Int) (d' : List MvT), b - t ≤ k → i < t → t ≤ 1000001 → B + k + 1 ≤ n → Pm d d' → Ret (Q100.l3 N d0 a b n i j t d') (PmB d) := by
 intro k
 induction k with
 | zero =>
  intro n t d' hk h1 h2 hn hp
  obtain ⟨n, rfl⟩ : ∃ m, n = m + 1 := ⟨n - 1, by omega⟩
  rw [Q100.l3_s, Q100.s3, bif_f (ltI_f (by omega))]
  simp (disch := omega) only [w64_id]
  exact h0 n d' (by omega) hp
 | succ k ih =>
  intro n t d' hk h1 h2 hn hp
  have hl := hp.length_eq
  obtain ⟨n, rfl⟩ : ∃ m, n = m + 1 := ⟨n - 1, by omega⟩
  rw [Q100.l3_s, Q100.s3]
  refine Ret.bif (fun c => ?_) (fun _ => by simpa (disch := omega) only [w64_id] using h0 n d' (by omega) hp)
  rw [ltI_iff] at c
  simp (disch := omega) only [w64_id, chk_idx, List.length_set, cmpM_eq (show 4 ≤ N by omega), Option.bind_some]
  refine Ret.bif (fun _ => h0 n d' (by omega) hp) (fun _ => ?_)
  exact ih n (t + 1) _ (by omega) (by omega) (by omega) (by omega) (hp.swp (by omega) (by omega) (by omega) (by omega))
theorem partM_l2 {d0 : List MvT} {a b i j : Int} {B : Nat} (ha : 0 ≤ a) (hi1 : 1 ≤ i) (hib : i ≤ b) (hb : b ≤ d.length) (hj : 0 ≤ j ∧ j ≤ 5) (h0 : ∀ n d', B ≤ n → Pm d d' → Ret (Q100.l0 N d0 a b n i (j + 1) d') (PmB d)) :
  ∀ (k n : Nat) (t : Int) (d' : List MvT), t ≤ k → 0 ≤ t → t < i → B + 1000010 + k + 1 ≤ n → Pm d d' → Ret (Q100.l2 N d0 a b n i j t d') (PmB d) := by
 have fin : ∀ (n : Nat) (d' : List MvT), B + 1000010 ≤ n → Pm d d' → Ret (bif (leI 2 (b - i)) then (Q100.l3 N d0 a b n i j (i + 1) d') else Q100.l0 N d0 a b n i (j + 1) d') (PmB d) := by
  intro n d' hn hp
  refine Ret.bif (fun _ => ?_) (fun _ => h0 n d' (by omega) hp)
  exact partM_l3 hN d hd hi1 hb hj h0 1000001 n (i + 1) d' (by omega) (by omega) (by omega) (by omega) hp
 intro k
 induction k with
 | zero =>
  intro n t d' hk h1 h2 hn hp
  obtain ⟨n, rfl⟩ : ∃ m, n = m + 1 := ⟨n - 1, by omega⟩
  rw [Q100.l2_s, Q100.s2, bif_f (leI_f (by omega))]
  simp (disch := omega) only [w64_id]
  exact fin n d' (by omega) hp
 | succ k ih =>
  intro n t d' hk h1 h2 hn hp
  have hl := hp.length_eq
  obtain ⟨n, rfl⟩ : ∃ m, n = m + 1 := ⟨n - 1, by omega⟩
  rw [Q100.l2_s, Q100.s2]
  refine Ret.bif (fun c => ?_) (fun _ => by simpa (disch := omega) only [w64_id] using fin n d' (by omega) hp)
  rw [leI_iff] at c
  by_cases hti : t < d.length
  ·simp (disch := omega) only [w64_id, chk_idx, List.length_set, cmpM_eq (show 4 ≤ N by omega), Option.bind_some]
   refine Ret.bif (fun _ => fin n d' (by omega) hp) (fun _ => ?_)
   exact ih n (t - 1) _ (by omega) (by omega) (by omega) (by omega) (hp.swp (by omega) (by omega) (by omega) (by omega))
  ·omega
theorem partM_l1 {d0 : List MvT} {a b j : Int} {B : Nat} (ha : 0 ≤ a) (hb : b ≤ d.length) (hj : 0 ≤ j ∧ j ≤ 4) (h0 : ∀ n i d', a + 1 ≤ i → i ≤ b → B ≤ n → Pm d d' → Ret (Q100.l0 N d0 a b n i (j + 1) d') (PmB d)) :
  ∀ (k n : Nat) (i : Int) (d' : List MvT), b - i ≤ k → a + 1 ≤ i → i ≤ b → B + 2000030 + k + 1 ≤ n → Pm d d' → Ret (Q100.l1 N d0 a b n i j d') (PmB d) := by
 intro k
 induction k with
 | zero =>
  intro n i d' hk h1 h2 hn hp
  obtain ⟨n, rfl⟩ : ∃ m, n = m + 1 := ⟨n - 1, by omega⟩
  rw [Q100.l1_s, Q100.s1, bif_f (ltI_f (by omega)), bif_t (eqI_t (by omega))]
  exact Ret.ret hp
 | succ k ih =>
  intro n i d' hk h1 h2 hn hp
  have hl := hp.length_eq
  obtain ⟨n, rfl⟩ : ∃ m, n = m + 1 := ⟨n - 1, by omega⟩
  rw [Q100.l1_s, Q100.s1]
  refine Ret.bif (fun c => ?_) (fun c => ?_)
  ·rw [ltI_iff] at c
   simp (disch := omega) only [w64_id, chk_idx, List.length_set, cmpM_eq (show 4 ≤ N by omega), Option.bind_some]
   refine Ret.bif (fun _ => ih n (i + 1) d' (by omega) (by omega) (by omega) (by omega) hp) (fun _ => ?_)
   refine Ret.bif (fun _ => Ret.ret hp) (fun _ => Ret.bif (fun _ => Ret.ret hp) (fun _ => ?_))
   have hp' := hp.swp (i := i) (j := i - 1) (by omega) (by omega) (by omega) (by omega)
   refine Ret.bif (fun _ => ?_) (fun _ => Ret.bif (fun _ => ?_) (fun _ => h0 n i _ h1 h2 (by omega) hp'))
   ·exact partM_l2 hN d hd ha (by omega) h2 hb (by omega) (fun n d' h hp => h0 n i d' h1 h2 h hp) 1000000 n (i - 1) _ (by omega) (by omega) (by omega) (by omega) hp'
   ·exact partM_l3 hN d hd (by omega) hb (by omega) (fun n d' h hp => h0 n i d' h1 h2 h hp) 1000000 n (i + 1) _ (by omega) (by omega) (by omega) (by omega) hp'
  ·rw [ltI_iff'] at c
   rw [bif_t (eqI_t (by omega))]
   exact Ret.ret hp
theorem partM_l0 {d0 : List MvT} {a b : Int} (ha : 0 ≤ a) (hb : b ≤ d.length) : ∀ (k n : Nat) (i j : Int) (d' : List MvT), 5 - j ≤ k → 0 ≤ j → j ≤ 5 → a + 1 ≤ i → i ≤ b → 4000100 * k + 1 ≤ n → Pm d d' → Ret (Q100.l0 N d0 a b n i j d') (PmB d) := by
 intro k
 induction k with
 | zero =>
  intro n i j d' hk h1 h2 h3 h4 hn hp
  obtain ⟨n, rfl⟩ : ∃ m, n = m + 1 := ⟨n - 1, by omega⟩
  rw [Q100.l0_s, Q100.s0, bif_f (ltI_f (by omega))]
  exact Ret.ret hp
 | succ k ih =>
  intro n i j d' hk h1 h2 h3 h4 hn hp
  obtain ⟨n, rfl⟩ : ∃ m, n = m + 1 := ⟨n - 1, by omega⟩
  rw [Q100.l0_s, Q100.s0]
  refine Ret.bif (fun c => ?_) (fun _ => Ret.ret hp)
  rw [ltI_iff] at c
  exact partM_l1 hN d hd (B := 4000100 * k + 1) ha hb (by omega) (fun n i d' g1 g2 g3 hp => ih n i (j + 1) d' (by omega) (by omega) (by omega) g1 g2 g3 hp) 1000000 n i d' (by omega) h3 h4 (by omega) hp
theorem partM {d0 : List MvT} {a b : Int} (ha : 0 ≤ a) (hab : a < b) (hb : b ≤ d.length) (hp : Pm d d0) : Ret (Q100 N d0 a b) (PmB d) := by
 unfold Q100 Q100.e
 rw [w64_id (by omega) (by omega)]
 exact partM_l0 hN d hd ha hb 5 N (a + 1) 0 d0 (by omega) (by omega) (by omega) (by omega) (by omega) (by omega) hp
abbrev PmE (d : List MvT) (a b : Int) (y : Int × List MvT) : Prop := (a < y.1 ∧ y.1 ≤ b) ∧ Pm d y.2
theorem equM_l {d0 : List MvT} {a b p : Int} (ha : 0 ≤ a) (hb : b ≤ d.length) : ∀ (n : Nat) (i j : Int) (d' : List MvT), a < i → i ≤ j + 2 → i ≤ b → j < b → Pm d d' →
  (3 * (j - i + 2) + 1 ≤ n → Ret (Q101.l2 N d0 a b p n i j d') (PmE d a b)) ∧
  (3 * (j - i + 2) + 2 ≤ n → Ret (Q101.l1 N d0 a b p n i j d') (PmE d a b)) ∧
  (3 * (j - i + 2) + 3 ≤ n → Ret (Q101.l0 N d0 a b p n i j d') (PmE d a b)) := by
 intro n
 induction n with
 | zero => exact fun i j d' h1 h2 hib h3 hp => ⟨fun h => by omega, fun h => by omega, fun h => by omega⟩
 | succ n ih =>
  intro i j d' h1 h2 hib h3 hp
  have hl := hp.length_eq
  refine ⟨fun h => ?_, fun h => ?_, fun h => ?_⟩
  ·rw [Q101.l2_s, Q101.s2]
   refine Ret.bif (fun c => ?_) (fun c => ?_)
   ·rw [leI_iff] at c
    simp (disch := omega) only [w64_id, chk_idx, List.length_set, cmpM_eq (show 4 ≤ N by omega), Option.bind_some]
    refine Ret.bif (fun _ => (ih i (j - 1) d' h1 (by omega) hib (by omega) hp).1 (by omega)) (fun _ => ?_)
    refine Ret.bif (fun c => Ret.ret ⟨by rw [ltI_iff] at c; omega, hp⟩) (fun c2 => ?_)
    exact (ih (i + 1) (j - 1) _ (by omega) (by omega) (by omega) (by omega) (hp.swp (by omega) (by omega) (by omega) (by omega))).2.2 (by omega)
   ·rw [leI_iff'] at c
    rw [bif_t (ltI_t c)]
    exact Ret.ret ⟨by omega, hp⟩
  ·rw [Q101.l1_s, Q101.s1]
   refine Ret.bif (fun c => ?_) (fun c => (ih i j d' h1 h2 hib h3 hp).1 (by omega))
   rw [leI_iff] at c
   simp (disch := omega) only [w64_id, chk_idx, List.length_set, cmpM_eq (show 4 ≤ N by omega), Option.bind_some]
   exact Ret.bif (fun _ => (ih (i + 1) j d' (by omega) (by omega) (by omega) h3 hp).2.1 (by omega)) (fun _ => (ih i j d' h1 h2 hib h3 hp).1 (by omega))
  ·rw [Q101.l0_s, Q101.s0]
   exact (ih i j d' h1 h2 hib h3 hp).2.1 (by omega)
theorem equM {d0 : List MvT} {a b p : Int} (ha : 0 ≤ a) (hab : a < b) (hb : b ≤ d.length) (hpv : a ≤ p ∧ p < b) (hp : Pm d d0) : Ret (Q101 N d0 a b p) (PmE d a b) := by
 unfold Q101 Q101.e
 have hl := hp.length_eq
 simp (disch := omega) only [w64_id, chk_idx, List.length_set]
 exact (equM_l hN d hd ha hb N (a + 1) (b - 1) _ (by omega) (by omega) (by omega) (by omega) (hp.swp (by omega) (by omega) (by omega) (by omega))).2.2 (by omega)
abbrev PmP (d : List MvT) (a b : Int) (y : Int × (Bool × List MvT)) : Prop := (a ≤ y.1 ∧ y.1 < b) ∧ Pm d y.2.2
theorem parM_l {d0 : List MvT} {a b p : Int} (ha : 0 ≤ a) (hb : b ≤ d.length) : ∀ (n : Nat) (i j : Int) (d' : List MvT), a < i → i ≤ j + 2 → a ≤ j → i ≤ b → j < b → Pm d d' →
  (3 * (j - i + 2) + 1 ≤ n → Ret (Q102.l4 N d0 a b p n i j d') (PmP d a b)) ∧
  (3 * (j - i + 2) + 2 ≤ n → Ret (Q102.l3 N d0 a b p n i j d') (PmP d a b)) ∧
  (3 * (j - i + 2) + 3 ≤ n → Ret (Q102.l2 N d0 a b p n i j d') (PmP d a b)) := by
 intro n
 induction n with
 | zero => exact fun i j d' h1 h2 hja hib h3 hp => ⟨fun h => by omega, fun h => by omega, fun h => by omega⟩
 | succ n ih =>
  intro i j d' h1 h2 hja hib h3 hp
  have hl := hp.length_eq
  refine ⟨fun h => ?_, fun h => ?_, fun h => ?_⟩
  ·rw [Q102.l4_s, Q102.s4]
   refine Ret.bif (fun c => ?_) (fun c => ?_)
   ·rw [leI_iff] at c
    simp (disch := omega) only [w64_id, chk_idx, List.length_set, cmpM_eq (show 4 ≤ N by omega), Option.bind_some]
    refine Ret.bif (fun _ => (ih i (j - 1) d' h1 (by omega) (by omega) hib (by omega) hp).1 (by omega)) (fun _ => ?_)
    refine Ret.bif (fun c => Ret.ret ⟨by omega, hp.swp (by omega) (by omega) (by omega) (by omega)⟩) (fun c2 => ?_)
    exact (ih (i + 1) (j - 1) _ (by omega) (by omega) (by omega) (by omega) (by omega) (hp.swp (by omega) (by omega) (by omega) (by omega))).2.2 (by omega)
   ·rw [leI_iff'] at c
    rw [bif_t (ltI_t c)]
    simp (disch := omega) only [w64_id, chk_idx, List.length_set]
    exact Ret.ret ⟨by omega, hp.swp (by omega) (by omega) (by omega) (by omega)⟩
  ·rw [Q102.l3_s, Q102.s3]
   refine Ret.bif (fun c => ?_) (fun c => (ih i j d' h1 h2 hja hib h3 hp).1 (by omega))
   rw [leI_iff] at c
   simp (disch := omega) only [w64_id, chk_idx, List.length_set, cmpM_eq (show 4 ≤ N by omega), Option.bind_some]
   exact Ret.bif (fun _ => (ih (i + 1) j d' (by omega) (by omega) hja (by omega) h3 hp).2.1 (by omega)) (fun _ => (ih i j d' h1 h2 hja hib h3 hp).1 (by omega))
  ·rw [Q102.l2_s, Q102.s2]
   exact (ih i j d' h1 h2 hja hib h3 hp).2.1 (by omega)
theorem parM_l1 {d0 : List MvT} {a b p : Int} (ha : 0 ≤ a) (hb : b ≤ d.length) : ∀ (n : Nat) (i j : Int) (d' : List MvT), a < i → i ≤ j + 2 → a ≤ j → i ≤ b → j < b → Pm d d' →
  3 * (j - i + 2) + 4 ≤ n → Ret (Q102.l1 N d0 a b p n i j d') (PmP d a b) := by
 intro n
 induction n with
 | zero => exact fun i j d' h1 h2 hja hib h3 hp h => by omega
 | succ n ih =>
  intro i j d' h1 h2 hja hib h3 hp h
  have hl := hp.length_eq
  rw [Q102.l1_s, Q102.s1]
  refine Ret.bif (fun c => ?_) (fun c => ?_)
  ·rw [leI_iff] at c
   simp (disch := omega) only [w64_id, chk_idx, List.length_set, cmpM_eq (show 4 ≤ N by omega), Option.bind_some]
   refine Ret.bif (fun _ => ih i (j - 1) d' h1 (by omega) (by omega) hib (by omega) hp (by omega)) (fun _ => ?_)
   refine Ret.bif (fun c => Ret.ret ⟨by omega, hp.swp (by omega) (by omega) (by omega) (by omega)⟩) (fun c2 => ?_)
   exact (parM_l hN d hd ha hb n (i + 1) (j - 1) _ (by omega) (by omega) (by omega) (by omega) (by omega) (hp.swp (by omega) (by omega) (by omega) (by omega))).2.2 (by omega)
  ·rw [leI_iff'] at c
   rw [bif_t (ltI_t c)]
   simp (disch := omega) only [w64_id, chk_idx, List.length_set]
   exact Ret.ret ⟨by omega, hp.swp (by omega) (by omega) (by omega) (by omega)⟩
theorem parM_l0 {d0 : List MvT} {a b p : Int} (ha : 0 ≤ a) (hab : a < b) (hb : b ≤ d.length) : ∀ (k n : Nat) (i : Int) (d' : List MvT), b - i ≤ k → a < i → i ≤ b → 3000010 + k + 1 ≤ n → Pm d d' → Ret (Q102.l0 N d0 a b p n i d') (PmP d a b) := by
 intro k
 induction k with
 | zero =>
  intro n i d' hk h1 h2 hn hp
  obtain ⟨n, rfl⟩ : ∃ m, n = m + 1 := ⟨n - 1, by omega⟩
  rw [Q102.l0_s, Q102.s0]
  simp (disch := omega) only [w64_id]
  rw [bif_f (leI_f (by omega))]
  exact parM_l1 hN d hd ha hb n i (b - 1) d' h1 (by omega) (by omega) h2 (by omega) hp (by omega)
 | succ k ih =>
  intro n i d' hk h1 h2 hn hp
  have hl := hp.length_eq
  obtain ⟨n, rfl⟩ : ∃ m, n = m + 1 := ⟨n - 1, by omega⟩
  rw [Q102.l0_s, Q102.s0]
  simp (disch := omega) only [w64_id]
  refine Ret.bif (fun c => ?_) (fun _ => parM_l1 hN d hd ha hb n i (b - 1) d' h1 (by omega) (by omega) h2 (by omega) hp (by omega))
  rw [leI_iff] at c
  simp (disch := omega) only [w64_id, chk_idx, List.length_set, cmpM_eq (show 4 ≤ N by omega), Option.bind_some]
  exact Ret.bif (fun _ => ih n (i + 1) d' (by omega) (by omega) (by omega) (by omega) hp) (fun _ => parM_l1 hN d hd ha hb n i (b - 1) d' h1 (by omega) (by omega) h2 (by omega) hp (by omega))
theorem parM {d0 : List MvT} {a b p : Int} (ha : 0 ≤ a) (hab : a < b) (hb : b ≤ d.length) (hpv : a ≤ p ∧ p < b) (hp : Pm d d0) : Ret (Q102 N d0 a b p) (PmP d a b) := by
 unfold Q102 Q102.e
 have hl := hp.length_eq
 simp (disch := omega) only [w64_id, chk_idx, List.length_set]
 exact parM_l0 hN d hd ha hab hb 1000000 N (a + 1) _ (by omega) (by omega) (by omega) (by omega) (hp.swp (by omega) (by omega) (by omega) (by omega))
end
end Go.Proofs.Ytpielijehhhobaa.Am
