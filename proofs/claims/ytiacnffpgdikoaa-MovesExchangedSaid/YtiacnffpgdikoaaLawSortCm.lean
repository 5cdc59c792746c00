/- Plain: the sort of moves sorts, third part: partial insertion sort and the partitions. -/
import Derived.Test.YtiacnffpgdikoaaLawSortBm
set_option linter.unusedVariables false
set_option linter.unusedSimpArgs false
set_option linter.unusedSectionVars false
namespace Go.Proofs.Ytiacnffpgdikoaa.Am
open Go

section
variable {N : Nat} (hN : 100000000 ≤ N) (d : List MvT) (hd : d.length ≤ 1000000)
include hN hd
/-- sorted, if it says so -/
abbrev SdB (a b : Int) (d : List MvT) (y : Bool × List MvT) : Prop := W a b d y.2 ∧ (y.1 = true → Sd a b y.2)
omit hN hd in
theorem Sd.above {a i p q : Int} {d : List MvT} (h : Sd a i d) (ha : 0 ≤ a) (hi : i ≤ d.length) (hp : i ≤ p) (hq : i ≤ q) : Sd a i ((d.set p.toNat (gD z0 d q)).set q.toNat (gD z0 d p)) := by
  intro s t g1 g2 g3
  rw [swp_at (by omega) (by omega) (by omega) (by omega), swp_at (by omega) (by omega) (by omega) (by omega), if_neg (by omega), if_neg (by omega), if_neg (by omega), if_neg (by omega)]
  exact h s t g1 g2 g3
theorem partS_l3 {d0 : List MvT} {a b i j : Int} {B : Nat} (ha : 0 ≤ a) (hai : a ≤ i) (hib : i ≤ b) (hb : b ≤ d.length) (hj : 0 ≤ j ∧ j ≤ 5) (h0 : ∀ n d', B ≤ n → W a b d d' → Sd a i d' → Ret (slices_partialInsertionSortCmpFunc_api_Move'.l0 N d0 a b n i (j + 1) d') (SdB a b d)) :
    ∀ (k n : Nat) (t : Int) (d' : List MvT), b - t ≤ k → i < t → t ≤ 1000001 → B + k + 1 ≤ n → W a b d d' → Sd a i d' → Ret (slices_partialInsertionSortCmpFunc_api_Move'.l3 N d0 a b n i j t d') (SdB a b d) := by
  intro k
  induction k with
  | zero =>
    intro n t d' hk h1 h2 hn hp hS
    obtain ⟨n, rfl⟩ : ∃ m, n = m + 1 := ⟨n - 1, by omega⟩
    rw [slices_partialInsertionSortCmpFunc_api_Move'.l3_s, slices_partialInsertionSortCmpFunc_api_Move'.s3, bif_f (ltI_f (by omega))]
    simp (disch := omega) only [w64_id]
    exact h0 n d' (by omega) hp hS
  | succ k ih =>
    intro n t d' hk h1 h2 hn hp hS
    have hl := hp.len
    obtain ⟨n, rfl⟩ : ∃ m, n = m + 1 := ⟨n - 1, by omega⟩
    rw [slices_partialInsertionSortCmpFunc_api_Move'.l3_s, slices_partialInsertionSortCmpFunc_api_Move'.s3]
    refine Ret.bif (fun c => ?_) (fun _ => by simpa (disch := omega) only [w64_id] using h0 n d' (by omega) hp hS)
    rw [ltI_iff] at c
    simp (disch := omega) only [w64_id, chk_idx, List.length_set, cmpM_eq (show 4 ≤ N by omega), Option.bind_some]
    refine Ret.bif (fun _ => h0 n d' (by omega) hp hS) (fun _ => ?_)
    exact ih n (t + 1) _ (by omega) (by omega) (by omega) (by omega) (hp.swp ha hb (by omega) (by omega) (by omega) (by omega)) (hS.above ha (by omega) (by omega) (by omega))
theorem partS_l2 {d0 : List MvT} {a b i j : Int} {B : Nat} (ha : 0 ≤ a) (hai : a + 1 ≤ i) (hib : i ≤ b) (hb : b ≤ d.length) (hLo : Lo a b d) (hab : a < b) (hj : 0 ≤ j ∧ j ≤ 5) (h0 : ∀ n d', B ≤ n → W a b d d' → Sd a i d' → Ret (slices_partialInsertionSortCmpFunc_api_Move'.l0 N d0 a b n i (j + 1) d') (SdB a b d)) :
    ∀ (k n : Nat) (t : Int) (d' : List MvT), t ≤ k → a ≤ t → t < i → B + 1000010 + k + 1 ≤ n → W a b d d' → Ins a (i - 1) t d' → Ret (slices_partialInsertionSortCmpFunc_api_Move'.l2 N d0 a b n i j t d') (SdB a b d) := by
  have fin : ∀ (n : Nat) (d' : List MvT), B + 1000010 ≤ n → W a b d d' → Sd a i d' → Ret (bif (leI 2 (b - i)) then (slices_partialInsertionSortCmpFunc_api_Move'.l3 N d0 a b n i j (i + 1) d') else slices_partialInsertionSortCmpFunc_api_Move'.l0 N d0 a b n i (j + 1) d') (SdB a b d) := by
    intro n d' hn hp hS
    refine Ret.bif (fun _ => ?_) (fun _ => h0 n d' (by omega) hp hS)
    exact partS_l3 hN d hd ha (by omega) hib hb hj h0 1000001 n (i + 1) d' (by omega) (by omega) (by omega) (by omega) hp hS
  intro k
  induction k with
  | zero =>
    intro n t d' hk h1 h2 hn hp hI
    obtain ⟨n, rfl⟩ : ∃ m, n = m + 1 := ⟨n - 1, by omega⟩
    rw [slices_partialInsertionSortCmpFunc_api_Move'.l2_s, slices_partialInsertionSortCmpFunc_api_Move'.s2, bif_f (leI_f (by omega))]
    simp (disch := omega) only [w64_id]
    exact fin n d' (by omega) hp (by have := hI.fin (Or.inl (by omega)); rwa [show i - 1 + 1 = i by omega] at this)
  | succ k ih =>
    intro n t d' hk h1 h2 hn hp hI
    have hl := hp.len
    obtain ⟨n, rfl⟩ : ∃ m, n = m + 1 := ⟨n - 1, by omega⟩
    rw [slices_partialInsertionSortCmpFunc_api_Move'.l2_s, slices_partialInsertionSortCmpFunc_api_Move'.s2]
    refine Ret.bif (fun c => ?_) (fun c => ?_)
    · rw [leI_iff] at c
      simp (disch := omega) only [w64_id, chk_idx, List.length_set, cmpM_eq (show 4 ≤ N by omega), Option.bind_some]
      refine Ret.bif (fun c2 => fin n d' (by omega) hp ?_) (fun c2 => ?_)
      · rw [not_t, ltI_iff'] at c2
        have := hI.fin (Or.inr (Int.not_lt.2 c2))
        rwa [show i - 1 + 1 = i by omega] at this
      · rw [not_f, ltI_iff] at c2
        by_cases hta : t = a
        · exfalso
          have := (hLo.W hp hb) (by omega) a (Int.le_refl _) hab
          rw [hta] at c2
          exact this c2
        · exact ih n (t - 1) _ (by omega) (by omega) (by omega) (by omega) (hp.swp ha hb (by omega) (by omega) (by omega) (by omega)) (hI.step ha (by omega) (by omega) (by omega) c2)
    · rw [leI_iff'] at c
      have := fin n d' (by omega) hp (by have := hI.fin (Or.inl (by omega)); rwa [show i - 1 + 1 = i by omega] at this)
      simpa (disch := omega) only [w64_id] using this
theorem partS_l1 {d0 : List MvT} {a b j : Int} {B : Nat} (ha : 0 ≤ a) (hab : a < b) (hb : b ≤ d.length) (hLo : Lo a b d) (hj : 0 ≤ j ∧ j ≤ 4) (h0 : ∀ n i d', a + 1 ≤ i → i ≤ b → B ≤ n → W a b d d' → Sd a i d' → Ret (slices_partialInsertionSortCmpFunc_api_Move'.l0 N d0 a b n i (j + 1) d') (SdB a b d)) :
    ∀ (k n : Nat) (i : Int) (d' : List MvT), b - i ≤ k → a + 1 ≤ i → i ≤ b → B + 2000030 + k + 1 ≤ n → W a b d d' → Sd a i d' → Ret (slices_partialInsertionSortCmpFunc_api_Move'.l1 N d0 a b n i j d') (SdB a b d) := by
  intro k
  induction k with
  | zero =>
    intro n i d' hk h1 h2 hn hp hS
    obtain ⟨n, rfl⟩ : ∃ m, n = m + 1 := ⟨n - 1, by omega⟩
    rw [slices_partialInsertionSortCmpFunc_api_Move'.l1_s, slices_partialInsertionSortCmpFunc_api_Move'.s1, bif_f (ltI_f (by omega)), bif_t (eqI_t (by omega))]
    obtain rfl : i = b := by omega
    exact Ret.ret ⟨hp, fun _ => hS⟩
  | succ k ih =>
    intro n i d' hk h1 h2 hn hp hS
    have hl := hp.len
    obtain ⟨n, rfl⟩ : ∃ m, n = m + 1 := ⟨n - 1, by omega⟩
    rw [slices_partialInsertionSortCmpFunc_api_Move'.l1_s, slices_partialInsertionSortCmpFunc_api_Move'.s1]
    refine Ret.bif (fun c => ?_) (fun c => ?_)
    · rw [ltI_iff] at c
      simp (disch := omega) only [w64_id, chk_idx, List.length_set, cmpM_eq (show 4 ≤ N by omega), Option.bind_some]
      refine Ret.bif (fun c2 => ih n (i + 1) d' (by omega) (by omega) (by omega) (by omega) hp ?_) (fun c2 => ?_)
      · rw [not_t, ltI_iff'] at c2
        exact hS.ins.fin (Or.inr (Int.not_lt.2 c2))
      refine Ret.bif (fun c3 => Ret.ret ⟨hp, fun _ => by rw [eqI_iff] at c3; omega⟩) (fun _ => Ret.bif (fun _ => Ret.ret ⟨hp, fun h => by cases h⟩) (fun _ => ?_))
      have hp' := hp.swp ha hb (i := i) (j := i - 1) (by omega) (by omega) (by omega) (by omega)
      have hI : Ins a (i - 1) (i - 1) ((d'.set i.toNat (gD z0 d' (i - 1))).set (i - 1).toNat (gD z0 d' i)) := by
        intro p q g1 g2 g3 g4
        rw [swp_at (by omega) (by omega) (by omega) (by omega), swp_at (by omega) (by omega) (by omega) (by omega), if_neg (by omega), if_neg (by omega), if_neg (by omega), if_neg (by omega)]
        exact hS p q g1 (by omega) (by omega)
      refine Ret.bif (fun _ => ?_) (fun c4 => ?_)
      · exact partS_l2 hN d hd ha h1 h2 hb hLo hab (by omega) (fun n d' h hp hS => h0 n i d' h1 h2 h hp hS) 1000000 n (i - 1) _ (by omega) (by omega) (by omega) (by omega) hp' hI
      · rw [leI_iff'] at c4
        have hS' : Sd a i ((d'.set i.toNat (gD z0 d' (i - 1))).set (i - 1).toNat (gD z0 d' i)) := fun p q g1 g2 g3 => by
          obtain rfl : p = q := by omega
          exact leM.refl _
        refine Ret.bif (fun _ => ?_) (fun _ => h0 n i _ h1 h2 (by omega) hp' hS')
        exact partS_l3 hN d hd ha (by omega) h2 hb (by omega) (fun n d' h hp hS => h0 n i d' h1 h2 h hp hS) 1000000 n (i + 1) _ (by omega) (by omega) (by omega) (by omega) hp' hS'
    · rw [ltI_iff'] at c
      rw [bif_t (eqI_t (by omega))]
      obtain rfl : i = b := by omega
      exact Ret.ret ⟨hp, fun _ => hS⟩
theorem partS_l0 {d0 : List MvT} {a b : Int} (ha : 0 ≤ a) (hab : a < b) (hb : b ≤ d.length) (hLo : Lo a b d) : ∀ (k n : Nat) (i j : Int) (d' : List MvT), 5 - j ≤ k → 0 ≤ j → j ≤ 5 → a + 1 ≤ i → i ≤ b → 4000100 * k + 1 ≤ n → W a b d d' → Sd a i d' → Ret (slices_partialInsertionSortCmpFunc_api_Move'.l0 N d0 a b n i j d') (SdB a b d) := by
  intro k
  induction k with
  | zero =>
    intro n i j d' hk h1 h2 h3 h4 hn hp hS
    obtain ⟨n, rfl⟩ : ∃ m, n = m + 1 := ⟨n - 1, by omega⟩
    rw [slices_partialInsertionSortCmpFunc_api_Move'.l0_s, slices_partialInsertionSortCmpFunc_api_Move'.s0, bif_f (ltI_f (by omega))]
    exact Ret.ret ⟨hp, fun h => by cases h⟩
  | succ k ih =>
    intro n i j d' hk h1 h2 h3 h4 hn hp hS
    obtain ⟨n, rfl⟩ : ∃ m, n = m + 1 := ⟨n - 1, by omega⟩
    rw [slices_partialInsertionSortCmpFunc_api_Move'.l0_s, slices_partialInsertionSortCmpFunc_api_Move'.s0]
    refine Ret.bif (fun c => ?_) (fun _ => Ret.ret ⟨hp, fun h => by cases h⟩)
    rw [ltI_iff] at c
    exact partS_l1 hN d hd (B := 4000100 * k + 1) ha hab hb hLo (by omega) (fun n i d' g1 g2 g3 hp hS => ih n i (j + 1) d' (by omega) (by omega) (by omega) g1 g2 g3 hp hS) 1000000 n i d' (by omega) h3 h4 (by omega) hp hS
theorem partS {d0 : List MvT} {a b : Int} (ha : 0 ≤ a) (hab : a < b) (hb : b ≤ d.length) (hLo : Lo a b d) (hp : W a b d d0) : Ret (slices_partialInsertionSortCmpFunc_api_Move' N d0 a b) (SdB a b d) := by
  unfold slices_partialInsertionSortCmpFunc_api_Move' slices_partialInsertionSortCmpFunc_api_Move'.e
  rw [w64_id (by omega) (by omega)]
  exact partS_l0 hN d hd ha hab hb hLo 5 N (a + 1) 0 d0 (by omega) (by omega) (by omega) (by omega) (by omega) (by omega) hp (fun p q g1 g2 g3 => by
    obtain rfl : p = q := by omega
    exact leM.refl _)

/-! ### equal elements first -/
/-- what is not greater stands ahead of i, what is greater behind j -/
structure EqI (a b i j : Int) (pv : MvT) (d d' : List MvT) : Prop where
  w : W a b d d'
  pe : gD z0 d' a = pv
  lo : ∀ k, a < k → k < i → leM (gD z0 d' k) pv
  hi : ∀ k, j < k → k < b → cmpM pv (gD z0 d' k) < 0
abbrev EqQ (a b : Int) (pv : MvT) (d : List MvT) (y : Int × List MvT) : Prop := (a < y.1 ∧ y.1 ≤ b) ∧ W a b d y.2 ∧ (∀ k, a ≤ k → k < y.1 → leM (gD z0 y.2 k) pv) ∧ ∀ k, y.1 ≤ k → k < b → cmpM pv (gD z0 y.2 k) < 0
omit hN hd in
theorem EqI.fin {a b i j : Int} {pv : MvT} {d d' : List MvT} (h : EqI a b i j pv d d') (h1 : a < i) (h2 : i ≤ b) (h3 : j < i) : EqQ a b pv d (i, d') :=
  ⟨⟨h1, h2⟩, h.w, fun k g1 g2 => by
    by_cases e : k = a
    · rw [e, h.pe]; exact leM.refl _
    · exact h.lo k (by omega) g2, fun k g1 g2 => h.hi k (by omega) g2⟩
theorem equS_l {d0 : List MvT} {a b p : Int} {pv : MvT} (ha : 0 ≤ a) (hb : b ≤ d.length) : ∀ (n : Nat) (i j : Int) (d' : List MvT), a < i → i ≤ j + 2 → i ≤ b → j < b → EqI a b i j pv d d' →
    (3 * (j - i + 2) + 1 ≤ n → (i ≤ j → cmpM pv (gD z0 d' i) < 0) → Ret (slices_partitionEqualCmpFunc_api_Move'.l2 N d0 a b p n i j d') (EqQ a b pv d)) ∧
    (3 * (j - i + 2) + 2 ≤ n → Ret (slices_partitionEqualCmpFunc_api_Move'.l1 N d0 a b p n i j d') (EqQ a b pv d)) ∧
    (3 * (j - i + 2) + 3 ≤ n → Ret (slices_partitionEqualCmpFunc_api_Move'.l0 N d0 a b p n i j d') (EqQ a b pv d)) := by
  intro n
  induction n with
  | zero => exact fun i j d' h1 h2 hib h3 hp => ⟨fun h => by omega, fun h => by omega, fun h => by omega⟩
  | succ n ih =>
    intro i j d' h1 h2 hib h3 hp
    have hl := hp.w.len
    have hpv : gD ((0 : Int), ((0 : Int), (0 : Int))) d' a = pv := hp.pe
    refine ⟨fun h hx => ?_, fun h => ?_, fun h => ?_⟩
    · rw [slices_partitionEqualCmpFunc_api_Move'.l2_s, slices_partitionEqualCmpFunc_api_Move'.s2]
      refine Ret.bif (fun c => ?_) (fun c => ?_)
      · rw [leI_iff] at c
        simp (disch := omega) only [w64_id, chk_idx, List.length_set, cmpM_eq (show 4 ≤ N by omega), Option.bind_some]
        rw [hpv]
        refine Ret.bif (fun c2 => (ih i (j - 1) d' h1 (by omega) hib (by omega) ⟨hp.w, hp.pe, hp.lo, fun k g1 g2 => ?_⟩).1 (by omega) (fun _ => hx c)) (fun c2 => ?_)
        · rw [ltI_iff] at c2
          by_cases e : k = j
          · rw [e]; exact c2
          · exact hp.hi k (by omega) g2
        · rw [ltI_iff'] at c2
          refine Ret.bif (fun c => Ret.ret (by rw [ltI_iff] at c; omega)) (fun c3 => ?_)
          have hat : ∀ q : Int, 0 ≤ q → q < d'.length → gD z0 ((d'.set i.toNat (gD z0 d' j)).set j.toNat (gD z0 d' i)) q = if q = j then gD z0 d' i else if q = i then gD z0 d' j else gD z0 d' q := fun q g1 g2 => swp_at (by omega) (by omega) g1 g2
          refine (ih (i + 1) (j - 1) ((d'.set i.toNat (gD z0 d' j)).set j.toNat (gD z0 d' i)) (by omega) (by omega) (by omega) (by omega) ⟨hp.w.swp ha hb (by omega) (by omega) (by omega) (by omega), ?_, fun k g1 g2 => ?_, fun k g1 g2 => ?_⟩).2.2 (by omega)
          · rw [hat a ha (by omega), if_neg (by omega), if_neg (by omega)]; exact hp.pe
          · rw [hat k (by omega) (by omega)]
            by_cases e1 : k = j
            · rw [if_pos e1]
              obtain rfl : i = j := by omega
              exact Int.not_lt.2 c2
            · rw [if_neg e1]
              by_cases e2 : k = i
              · rw [if_pos e2]; exact Int.not_lt.2 c2
              · rw [if_neg e2]; exact hp.lo k g1 (by omega)
          · rw [hat k (by omega) (by omega)]
            by_cases e1 : k = j
            · rw [if_pos e1]; exact hx c
            · rw [if_neg e1, if_neg (by omega)]; exact hp.hi k (by omega) g2
      · rw [leI_iff'] at c
        rw [bif_t (ltI_t c)]
        exact Ret.ret (hp.fin h1 hib c)
    · rw [slices_partitionEqualCmpFunc_api_Move'.l1_s, slices_partitionEqualCmpFunc_api_Move'.s1]
      refine Ret.bif (fun c => ?_) (fun c => (ih i j d' h1 h2 hib h3 hp).1 (by omega) (fun g => by rw [leI_iff'] at c; omega))
      rw [leI_iff] at c
      simp (disch := omega) only [w64_id, chk_idx, List.length_set, cmpM_eq (show 4 ≤ N by omega), Option.bind_some]
      rw [hpv]
      refine Ret.bif (fun c2 => (ih (i + 1) j d' (by omega) (by omega) (by omega) h3 ⟨hp.w, hp.pe, fun k g1 g2 => ?_, hp.hi⟩).2.1 (by omega)) (fun c2 => (ih i j d' h1 h2 hib h3 hp).1 (by omega) (fun _ => ?_))
      · rw [not_t, ltI_iff'] at c2
        by_cases e : k = i
        · rw [e]; exact Int.not_lt.2 c2
        · exact hp.lo k g1 (by omega)
      · rw [not_f, ltI_iff] at c2
        exact c2
    · rw [slices_partitionEqualCmpFunc_api_Move'.l0_s, slices_partitionEqualCmpFunc_api_Move'.s0]
      exact (ih i j d' h1 h2 hib h3 hp).2.1 (by omega)
theorem equS {d0 : List MvT} {a b p : Int} (ha : 0 ≤ a) (hab : a < b) (hb : b ≤ d.length) (hpv : a ≤ p ∧ p < b) (hp : W a b d d0) : Ret (slices_partitionEqualCmpFunc_api_Move' N d0 a b p) (EqQ a b (gD z0 d0 p) d) := by
  unfold slices_partitionEqualCmpFunc_api_Move' slices_partitionEqualCmpFunc_api_Move'.e
  have hl := hp.len
  simp (disch := omega) only [w64_id, chk_idx, List.length_set]
  refine (equS_l hN d hd (pv := gD z0 d0 p) ha hb N (a + 1) (b - 1) ((d0.set a.toNat (gD z0 d0 p)).set p.toNat (gD z0 d0 a)) (by omega) (by omega) (by omega) (by omega) ⟨hp.swp ha hb (by omega) (by omega) (by omega) (by omega), ?_, fun k g1 g2 => by omega, fun k g1 g2 => by omega⟩).2.2 (by omega)
  rw [swp_at (by omega) (by omega) ha (by omega)]
  by_cases e : a = p
  · rw [if_pos e, e]
  · rw [if_neg e, if_pos rfl]

/-! ### the partition -/
structure PaI (a b i j : Int) (pv : MvT) (d d' : List MvT) : Prop where
  w : W a b d d'
  pe : gD z0 d' a = pv
  lo : ∀ k, a < k → k < i → cmpM (gD z0 d' k) pv < 0
  hi : ∀ k, j < k → k < b → leM pv (gD z0 d' k)
abbrev PaQ (a b : Int) (d : List MvT) (y : Int × (Bool × List MvT)) : Prop := (a ≤ y.1 ∧ y.1 < b) ∧ W a b d y.2.2 ∧ (∀ k, a ≤ k → k < y.1 → leM (gD z0 y.2.2 k) (gD z0 y.2.2 y.1)) ∧ ∀ k, y.1 < k → k < b → leM (gD z0 y.2.2 y.1) (gD z0 y.2.2 k)
omit hN hd in
theorem PaI.fin {a b i j : Int} {pv : MvT} {d d' : List MvT} (h : PaI a b i j pv d d') (ha : 0 ≤ a) (hb : b ≤ d.length) (h1 : a ≤ j) (h2 : j < b) (h3 : j < i) (f : Bool) : PaQ a b d (j, (f, (d'.set j.toNat (gD z0 d' a)).set a.toNat (gD z0 d' j))) := by
  have hl := h.w.len
  have hat : ∀ q : Int, 0 ≤ q → q < d'.length → gD z0 ((d'.set j.toNat (gD z0 d' a)).set a.toNat (gD z0 d' j)) q = if q = a then gD z0 d' j else if q = j then gD z0 d' a else gD z0 d' q := fun q g1 g2 => swp_at (by omega) (by omega) g1 g2
  have hjv : gD z0 ((d'.set j.toNat (gD z0 d' a)).set a.toNat (gD z0 d' j)) j = pv := by
    rw [hat j (by omega) (by omega)]
    by_cases e : j = a
    · rw [if_pos e, e]; exact h.pe
    · rw [if_neg e, if_pos rfl]; exact h.pe
  refine ⟨⟨h1, h2⟩, h.w.swp ha hb h1 h2 (by omega) (by omega), fun k g1 g2 => ?_, fun k g1 g2 => ?_⟩
  · dsimp only at g2 ⊢
    rw [hjv, hat k (by omega) (by omega)]
    by_cases e : k = a
    · rw [if_pos e]
      exact leM.of_lt (h.lo j (by omega) (by omega))
    · rw [if_neg e, if_neg (by omega)]
      exact leM.of_lt (h.lo k (by omega) (by omega))
  · dsimp only at g1 ⊢
    rw [hjv, hat k (by omega) (by omega), if_neg (by omega), if_neg (by omega)]
    exact h.hi k g1 g2
omit hN hd in
theorem PaI.swap {a b i j : Int} {pv : MvT} {d d' : List MvT} (h : PaI a b i j pv d d') (ha : 0 ≤ a) (hb : b ≤ d.length) (h1 : a < i) (h2 : i ≤ j) (h3 : j < b) (hi : leM pv (gD z0 d' i)) (hj : cmpM (gD z0 d' j) pv < 0) : PaI a b (i + 1) (j - 1) pv d ((d'.set i.toNat (gD z0 d' j)).set j.toNat (gD z0 d' i)) := by
  have hl := h.w.len
  have hat : ∀ q : Int, 0 ≤ q → q < d'.length → gD z0 ((d'.set i.toNat (gD z0 d' j)).set j.toNat (gD z0 d' i)) q = if q = j then gD z0 d' i else if q = i then gD z0 d' j else gD z0 d' q := fun q g1 g2 => swp_at (by omega) (by omega) g1 g2
  refine ⟨h.w.swp ha hb (by omega) (by omega) (by omega) (by omega), ?_, fun k g1 g2 => ?_, fun k g1 g2 => ?_⟩
  · rw [hat a ha (by omega), if_neg (by omega), if_neg (by omega)]; exact h.pe
  · rw [hat k (by omega) (by omega)]
    by_cases e1 : k = j
    · rw [if_pos e1]
      obtain rfl : i = j := by omega
      exact hj
    · rw [if_neg e1]
      by_cases e2 : k = i
      · rw [if_pos e2]; exact hj
      · rw [if_neg e2]; exact h.lo k g1 (by omega)
  · rw [hat k (by omega) (by omega)]
    by_cases e1 : k = j
    · rw [if_pos e1]; exact hi
    · rw [if_neg e1, if_neg (by omega)]; exact h.hi k (by omega) g2
omit hN hd in
theorem PaI.down {a b i j : Int} {pv : MvT} {d d' : List MvT} (h : PaI a b i j pv d d') (c2 : 0 ≤ cmpM (gD z0 d' j) pv) : PaI a b i (j - 1) pv d d' :=
  ⟨h.w, h.pe, h.lo, fun k g1 g2 => by
    by_cases e : k = j
    · rw [e]; exact Int.not_lt.2 c2
    · exact h.hi k (by omega) g2⟩
omit hN hd in
theorem PaI.up {a b i j : Int} {pv : MvT} {d d' : List MvT} (h : PaI a b i j pv d d') (c2 : cmpM (gD z0 d' i) pv < 0) : PaI a b (i + 1) j pv d d' :=
  ⟨h.w, h.pe, fun k g1 g2 => by
    by_cases e : k = i
    · rw [e]; exact c2
    · exact h.lo k g1 (by omega), h.hi⟩
theorem parS_l {d0 : List MvT} {a b p : Int} {pv : MvT} (ha : 0 ≤ a) (hb : b ≤ d.length) : ∀ (n : Nat) (i j : Int) (d' : List MvT), a < i → i ≤ j + 2 → a ≤ j → i ≤ b → j < b → PaI a b i j pv d d' →
    (3 * (j - i + 2) + 1 ≤ n → (i ≤ j → leM pv (gD z0 d' i)) → Ret (slices_partitionCmpFunc_api_Move'.l4 N d0 a b p n i j d') (PaQ a b d)) ∧
    (3 * (j - i + 2) + 2 ≤ n → Ret (slices_partitionCmpFunc_api_Move'.l3 N d0 a b p n i j d') (PaQ a b d)) ∧
    (3 * (j - i + 2) + 3 ≤ n → Ret (slices_partitionCmpFunc_api_Move'.l2 N d0 a b p n i j d') (PaQ a b d)) := by
  intro n
  induction n with
  | zero => exact fun i j d' h1 h2 hja hib h3 hp => ⟨fun h => by omega, fun h => by omega, fun h => by omega⟩
  | succ n ih =>
    intro i j d' h1 h2 hja hib h3 hp
    have hl := hp.w.len
    have hpv : gD ((0 : Int), ((0 : Int), (0 : Int))) d' a = pv := hp.pe
    refine ⟨fun h hx => ?_, fun h => ?_, fun h => ?_⟩
    · rw [slices_partitionCmpFunc_api_Move'.l4_s, slices_partitionCmpFunc_api_Move'.s4]
      refine Ret.bif (fun c => ?_) (fun c => ?_)
      · rw [leI_iff] at c
        simp (disch := omega) only [w64_id, chk_idx, List.length_set, cmpM_eq (show 4 ≤ N by omega), Option.bind_some]
        refine Ret.bif (fun c2 => (ih i (j - 1) d' h1 (by omega) (by omega) hib (by omega) (hp.down (by rw [not_t, ltI_iff', hpv] at c2; exact c2))).1 (by omega) (fun _ => hx c)) (fun c2 => ?_)
        rw [not_f, ltI_iff, hpv] at c2
        refine Ret.bif (fun c3 => by rw [ltI_iff] at c3; omega) (fun c3 => ?_)
        exact (ih (i + 1) (j - 1) _ (by omega) (by omega) (by omega) (by omega) (by omega) (hp.swap ha hb h1 c h3 (hx c) c2)).2.2 (by omega)
      · rw [leI_iff'] at c
        rw [bif_t (ltI_t c)]
        simp (disch := omega) only [w64_id, chk_idx, List.length_set]
        exact Ret.ret (hp.fin ha hb hja h3 c _)
    · rw [slices_partitionCmpFunc_api_Move'.l3_s, slices_partitionCmpFunc_api_Move'.s3]
      refine Ret.bif (fun c => ?_) (fun c => (ih i j d' h1 h2 hja hib h3 hp).1 (by omega) (fun g => by rw [leI_iff'] at c; omega))
      rw [leI_iff] at c
      simp (disch := omega) only [w64_id, chk_idx, List.length_set, cmpM_eq (show 4 ≤ N by omega), Option.bind_some]
      refine Ret.bif (fun c2 => (ih (i + 1) j d' (by omega) (by omega) hja (by omega) h3 (hp.up (by rw [ltI_iff, hpv] at c2; exact c2))).2.1 (by omega)) (fun c2 => (ih i j d' h1 h2 hja hib h3 hp).1 (by omega) (fun _ => by rw [ltI_iff', hpv] at c2; exact Int.not_lt.2 c2))
    · rw [slices_partitionCmpFunc_api_Move'.l2_s, slices_partitionCmpFunc_api_Move'.s2]
      exact (ih i j d' h1 h2 hja hib h3 hp).2.1 (by omega)
theorem parS_l1 {d0 : List MvT} {a b p : Int} {pv : MvT} (ha : 0 ≤ a) (hb : b ≤ d.length) : ∀ (n : Nat) (i j : Int) (d' : List MvT), a < i → i ≤ j + 2 → a ≤ j → i ≤ b → j < b → PaI a b i j pv d d' → (i ≤ j → leM pv (gD z0 d' i)) →
    3 * (j - i + 2) + 4 ≤ n → Ret (slices_partitionCmpFunc_api_Move'.l1 N d0 a b p n i j d') (PaQ a b d) := by
  intro n
  induction n with
  | zero => exact fun i j d' h1 h2 hja hib h3 hp hx h => by omega
  | succ n ih =>
    intro i j d' h1 h2 hja hib h3 hp hx h
    have hl := hp.w.len
    have hpv : gD ((0 : Int), ((0 : Int), (0 : Int))) d' a = pv := hp.pe
    rw [slices_partitionCmpFunc_api_Move'.l1_s, slices_partitionCmpFunc_api_Move'.s1]
    refine Ret.bif (fun c => ?_) (fun c => ?_)
    · rw [leI_iff] at c
      simp (disch := omega) only [w64_id, chk_idx, List.length_set, cmpM_eq (show 4 ≤ N by omega), Option.bind_some]
      refine Ret.bif (fun c2 => ih i (j - 1) d' h1 (by omega) (by omega) hib (by omega) (hp.down (by rw [not_t, ltI_iff', hpv] at c2; exact c2)) (fun _ => hx c) (by omega)) (fun c2 => ?_)
      rw [not_f, ltI_iff, hpv] at c2
      refine Ret.bif (fun c3 => by rw [ltI_iff] at c3; omega) (fun c3 => ?_)
      exact (parS_l hN d hd ha hb n (i + 1) (j - 1) _ (by omega) (by omega) (by omega) (by omega) (by omega) (hp.swap ha hb h1 c h3 (hx c) c2)).2.2 (by omega)
    · rw [leI_iff'] at c
      rw [bif_t (ltI_t c)]
      simp (disch := omega) only [w64_id, chk_idx, List.length_set]
      exact Ret.ret (hp.fin ha hb hja h3 c _)
theorem parS_l0 {d0 : List MvT} {a b p : Int} {pv : MvT} (ha : 0 ≤ a) (hab : a < b) (hb : b ≤ d.length) : ∀ (k n : Nat) (i : Int) (d' : List MvT), b - i ≤ k → a < i → i ≤ b → 3000010 + k + 1 ≤ n → PaI a b i (b - 1) pv d d' → Ret (slices_partitionCmpFunc_api_Move'.l0 N d0 a b p n i d') (PaQ a b d) := by
  intro k
  induction k with
  | zero =>
    intro n i d' hk h1 h2 hn hp
    obtain ⟨n, rfl⟩ : ∃ m, n = m + 1 := ⟨n - 1, by omega⟩
    rw [slices_partitionCmpFunc_api_Move'.l0_s, slices_partitionCmpFunc_api_Move'.s0]
    simp (disch := omega) only [w64_id]
    rw [bif_f (leI_f (by omega))]
    exact parS_l1 hN d hd ha hb n i (b - 1) d' h1 (by omega) (by omega) h2 (by omega) hp (fun g => by omega) (by omega)
  | succ k ih =>
    intro n i d' hk h1 h2 hn hp
    have hl := hp.w.len
    have hpv : gD ((0 : Int), ((0 : Int), (0 : Int))) d' a = pv := hp.pe
    obtain ⟨n, rfl⟩ : ∃ m, n = m + 1 := ⟨n - 1, by omega⟩
    rw [slices_partitionCmpFunc_api_Move'.l0_s, slices_partitionCmpFunc_api_Move'.s0]
    simp (disch := omega) only [w64_id]
    refine Ret.bif (fun c => ?_) (fun c => parS_l1 hN d hd ha hb n i (b - 1) d' h1 (by omega) (by omega) h2 (by omega) hp (fun g => by rw [leI_iff'] at c; omega) (by omega))
    rw [leI_iff] at c
    simp (disch := omega) only [w64_id, chk_idx, List.length_set, cmpM_eq (show 4 ≤ N by omega), Option.bind_some]
    exact Ret.bif (fun c2 => ih n (i + 1) d' (by omega) (by omega) (by omega) (by omega) (hp.up (by rw [ltI_iff, hpv] at c2; exact c2))) (fun c2 => parS_l1 hN d hd ha hb n i (b - 1) d' h1 (by omega) (by omega) h2 (by omega) hp (fun _ => by rw [ltI_iff', hpv] at c2; exact Int.not_lt.2 c2) (by omega))
theorem parS {d0 : List MvT} {a b p : Int} (ha : 0 ≤ a) (hab : a < b) (hb : b ≤ d.length) (hpv : a ≤ p ∧ p < b) (hp : W a b d d0) : Ret (slices_partitionCmpFunc_api_Move' N d0 a b p) (PaQ a b d) := by
  unfold slices_partitionCmpFunc_api_Move' slices_partitionCmpFunc_api_Move'.e
  have hl := hp.len
  simp (disch := omega) only [w64_id, chk_idx, List.length_set]
  refine parS_l0 hN d hd (pv := gD z0 d0 p) ha hab hb 1000000 N (a + 1) ((d0.set a.toNat (gD z0 d0 p)).set p.toNat (gD z0 d0 a)) (by omega) (by omega) (by omega) (by omega) ⟨hp.swp ha hb (by omega) (by omega) (by omega) (by omega), ?_, fun k g1 g2 => by omega, fun k g1 g2 => by omega⟩
  rw [swp_at (by omega) (by omega) ha (by omega)]
  by_cases e : a = p
  · rw [if_pos e, e]
  · rw [if_neg e, if_pos rfl]
end
end Go.Proofs.Ytiacnffpgdikoaa.Am
