/- Plain: slices.Compact of moves. -/
import Derived.Test.YtnddjmhpofhfjaaFnw1
import Derived.Test.YtnddjmhpofhfjaaLawAlongw
set_option linter.unusedVariables false
set_option linter.unusedSimpArgs false
namespace Go.Proofs.Ytnddjmhpofhfjaa.Am
open Go
def dedA {α : Type} [DecidableEq α] : List α → List α
 | [] => []
 | [a] => [a]
 | a :: b :: l => if a = b then dedA (b :: l) else a :: dedA (b :: l)
section
variable {α : Type} [DecidableEq α]
theorem dedA_cc (a b : α) (l : List α) : dedA (a :: b :: l) = if a = b then dedA (b :: l) else a :: dedA (b :: l) := rfl
theorem dedA_ne (a : α) (l : List α) : ∃ l', dedA (a :: l) = a :: l' := by
 induction l generalizing a with
 | nil => exact ⟨[], rfl⟩
 | cons b l ih =>
  unfold dedA
  by_cases h : a = b
  ·rw [if_pos h, h]; exact ih b
  ·rw [if_neg h]; exact ⟨_, rfl⟩
theorem mem_dedA {x : α} : ∀ l : List α, x ∈ dedA l ↔ x ∈ l
 | [] => Iff.rfl
 | [a] => Iff.rfl
 | a :: b :: l => by
  unfold dedA
  have ih := mem_dedA (x := x) (b :: l)
  by_cases h : a = b
  ·rw [if_pos h, ih, h]; simp
  ·rw [if_neg h, List.mem_cons, ih, List.mem_cons (l := b :: l)]
theorem dedA_snoc (x y : α) : ∀ l : List α, dedA (l ++ [x, y]) = if x = y then dedA (l ++ [x]) else dedA (l ++ [x]) ++ [y]
 | [] => by
  show dedA [x, y] = _
  unfold dedA
  by_cases h : x = y
  ·rw [if_pos h, if_pos h, h]; rfl
  ·rw [if_neg h, if_neg h]; rfl
 | [a] => by
  show dedA (a :: x :: [y]) = if x = y then dedA (a :: x :: []) else dedA (a :: x :: []) ++ [y]
  have ih := dedA_snoc x y []
  rw [List.nil_append, List.nil_append] at ih
  rw [dedA_cc a x [y], dedA_cc a x [], ih]
  by_cases h : a = x <;> by_cases h2 : x = y <;> simp [h, h2]
 | a :: b :: l => by
  have ih := dedA_snoc x y (b :: l)
  show dedA (a :: b :: (l ++ [x, y])) = if x = y then dedA (a :: b :: (l ++ [x])) else dedA (a :: b :: (l ++ [x])) ++ [y]
  rw [dedA_cc, dedA_cc]
  rw [List.cons_append, List.cons_append] at ih
  rw [ih]
  by_cases h : a = b <;> by_cases h2 : x = y <;> simp [h, h2]
def Apart (l : List α) : Prop := ∀ (i : Nat) (h : i + 1 < l.length), l[i] ≠ l[i + 1]
theorem dedA_apart : ∀ l : List α, Apart (dedA l)
 | [] => fun i h => by simp [dedA] at h
 | [a] => fun i h => by simp [dedA] at h
 | a :: b :: l => by
  have ih := dedA_apart (b :: l)
  unfold dedA
  by_cases h : a = b
  ·rw [if_pos h]; exact ih
  ·rw [if_neg h]
   obtain ⟨l', hl⟩ := dedA_ne b l
   rw [hl] at ih ⊢
   intro i hi
   cases i with
   | zero => exact h
   | succ i => exact ih i (by simpa using hi)
theorem dedA_id : ∀ l : List α, Apart l → dedA l = l
 | [], _ => rfl
 | [a], _ => rfl
 | a :: b :: l, h => by
  unfold dedA
  rw [if_neg (show ¬ a = b from h 0 (by simp)), dedA_id (b :: l) (fun i hi => h (i + 1) (by simpa using hi))]
theorem dedA_take {s : List α} {i : Nat} (h : i + 1 < s.length) : dedA (s.take (i + 2)) = if s[i] = s[i + 1] then dedA (s.take (i + 1)) else dedA (s.take (i + 1)) ++ [s[i + 1]] := by
 have e2 : s.take (i + 1) = s.take i ++ [s[i]] := (List.take_append_getElem (by omega)).symm
 have e1 : s.take (i + 2) = s.take i ++ [s[i], s[i + 1]] := by
  rw [show i + 2 = (i + 1) + 1 from rfl, ← List.take_append_getElem h, e2, List.append_assoc]
  rfl
 rw [e1, e2, dedA_snoc]
theorem dedA_len : ∀ l : List α, (dedA l).length ≤ l.length
 | [] => Nat.le_refl _
 | [a] => Nat.le_refl _
 | a :: b :: l => by
  unfold dedA
  have ih := dedA_len (b :: l)
  simp only [List.length_cons] at ih ⊢
  by_cases h : a = b
  ·rw [if_pos h]; omega
  ·rw [if_neg h]; simp only [List.length_cons]; omega
end
theorem mv_eq (a b : MvT) : (eqI a.1 b.1 && (eqI a.2.1 b.2.1 && (eqI a.2.2 b.2.2 && true))) = decide (a = b) := by
 obtain ⟨a1, a2, a3⟩ := a
 obtain ⟨b1, b2, b3⟩ := b
 by_cases h1 : a1 = b1 <;> by_cases h2 : a2 = b2 <;> by_cases h3 : a3 = b3 <;> simp [eqI, h1, h2, h3]
section
variable (N : Nat) (s : List MvT) (hs : s.length ≤ 100000)
include hs
theorem compact_l1 (k0 : Nat) : ∀ (m i k n : Nat) (u : List MvT), i + m = s.length → m < n → k0 < i → k < i → 1 ≤ k0 → u.length = s.length → u.take k = dedA (s.take i) → k ≤ s.length → (∀ j, i ≤ j + 1 → (h : j < s.length) → (h' : j < u.length) → u[j] = s[j]) →
  Q79.l1 N s n (k : Int) (k0 : Int) ((i - k0 : Nat) : Int) u = some (dedA s) := by
 intro m
 induction m with
 | zero =>
  intro i k n u him hn hk0 hk hk1 hl ht hks hj
  obtain ⟨n, rfl⟩ := nxt (n := n) (by omega)
  rw [Q79.l1_s, Q79.s1, bif_f (ltI_f (by omega)), chk_idx' (by omega) (by omega)]
  have e : (u.take (k : Int).toNat ++ List.replicate (u.length - (k : Int).toNat) z0).take (k : Int).toNat = dedA s := by
   rw [Int.toNat_natCast, List.take_append_of_le_length (by rw [List.length_take]; omega), List.take_take, Nat.min_self, ht, List.take_of_length_le (by omega)]
  dsimp only
  rw [chk_idx' (by omega) (by simp; omega), e]
 | succ m ih =>
  intro i k n u him hn hk0 hk hk1 hl ht hks hj
  obtain ⟨n, rfl⟩ := nxt (n := n) (by omega)
  have e1 : (k0 : Int) + ((i - k0 : Nat) : Int) = ((i : Nat) : Int) := by omega
  have e2 : (k0 : Int) + (((i - k0 : Nat) : Int) - 1) = ((i - 1 : Nat) : Int) := by omega
  rw [Q79.l1_s, Q79.s1, bif_t (ltI_t (by omega))]
  have e3 : chk (leI 0 (((i - k0 : Nat) : Int) - 1) && ltI ((k0 : Int) + (((i - k0 : Nat) : Int) - 1)) (u.length : Int)) = (id : Option (List MvT) → Option (List MvT)) := by
   funext x; rw [leI_t (by omega), ltI_t (by omega)]; rfl
  have e4 : chk (leI 0 ((i - k0 : Nat) : Int) && ltI ((k0 : Int) + ((i - k0 : Nat) : Int)) (u.length : Int)) = (id : Option (List MvT) → Option (List MvT)) := by
   funext x; rw [leI_t (by omega), ltI_t (by omega)]; rfl
  have e5 : chk (leI 0 (k : Int) && ltI (k : Int) (u.length : Int)) = (id : Option (List MvT) → Option (List MvT)) := by
   funext x; rw [leI_t (by omega), ltI_t (by omega)]; rfl
  simp (disch := omega) only [w64_id]
  rw [e3, e4, e5, e1, e2, gD_nat (by omega), gD_nat (by omega)]
  simp only [id, mv_eq]
  have h1 : u[i] = s[i] := hj i (by omega) (by omega) (by omega)
  have h2 : u[i - 1] = s[i - 1] := hj (i - 1) (by omega) (by omega) (by omega)
  have hd := dedA_take (s := s) (i := i - 1) (by omega)
  simp only [show i - 1 + 2 = i + 1 by omega, show i - 1 + 1 = i by omega] at hd
  rw [h1, h2]
  by_cases c : s[i - 1] = s[i]
  ·rw [if_pos c] at hd
   rw [bif_f (by simp [c]), show ((i - k0 : Nat) : Int) + 1 = ((i + 1 - k0 : Nat) : Int) by omega]
   exact ih (i + 1) k n u (by omega) (by omega) (by omega) (by omega) hk1 hl (by rw [hd, ht]) hks (fun j hj1 h h' => hj j (by omega) h h')
  ·rw [if_neg c] at hd
   rw [bif_t (by simp; exact fun e => c e.symm), show ((i - k0 : Nat) : Int) + 1 = ((i + 1 - k0 : Nat) : Int) by omega, show (k : Int) + 1 = ((k + 1 : Nat) : Int) by omega, Int.toNat_natCast]
   refine ih (i + 1) (k + 1) n (u.set k s[i]) (by omega) (by omega) (by omega) (by omega) hk1 (by rw [List.length_set]; exact hl) ?_ (by omega) ?_
   ·rw [hd, List.take_add_one, List.getElem?_set_self (by omega), List.take_set_of_le (Nat.le_refl k), ht]; rfl
   ·intro j hj1 h h'
    rw [List.getElem_set_ne (by omega)]
    exact hj j (by omega) h (by omega)
theorem compact_l0 : ∀ (m k n : Nat), k + m = s.length → 1 ≤ k → s.length + 1 + m < n → Apart (s.take k) → Q79.l0 N s n (k : Int) = some (dedA s) := by
 intro m
 induction m with
 | zero =>
  intro k n hk h1 hn ha
  obtain ⟨n, rfl⟩ := nxt (n := n) (by omega)
  rw [List.take_of_length_le (by omega)] at ha
  rw [Q79.l0_s, Q79.s0, bif_f (ltI_f (by omega)), dedA_id s ha]
 | succ m ih =>
  intro k n hk h1 hn ha
  obtain ⟨n, rfl⟩ := nxt (n := n) (by omega)
  rw [Q79.l0_s, Q79.s0, bif_t (ltI_t (by omega)), chk_idx (by omega) (by omega), w64_id (x := (k : Int) - 1) (by omega) (by omega), chk_idx (by omega) (by omega), show (k : Int) - 1 = ((k - 1 : Nat) : Int) by omega, gD_nat (by omega), gD_nat (by omega), mv_eq]
  have hd := dedA_take (s := s) (i := k - 1) (by omega)
  simp only [show k - 1 + 2 = k + 1 by omega, show k - 1 + 1 = k by omega] at hd
  by_cases c : s[k - 1] = s[k]
  ·rw [if_pos c, dedA_id _ ha] at hd
   rw [bif_t (by simp [c]), chk_idx' (by omega) (by omega)]
   have := compact_l1 N s hs k m (k + 1) k n s (by omega) (by omega) (by omega) (by omega) h1 rfl hd.symm (by omega) (fun j _ _ _ => rfl)
   rw [show (k + 1 - k : Nat) = 1 by omega] at this
   exact this
  ·rw [bif_f (by simp; exact fun e => c e.symm), w64_id (by omega) (by omega), show (k : Int) + 1 = ((k + 1 : Nat) : Int) by omega]
   refine ih (k + 1) n (by omega) (by omega) (by omega) (fun i hi => ?_)
   rw [List.length_take] at hi
   rw [List.getElem_take, List.getElem_take]
   rcases Nat.lt_or_ge (i + 1) k with h | h
   ·have := ha i (by rw [List.length_take]; omega)
    rw [List.getElem_take, List.getElem_take] at this
    exact this
   ·obtain rfl : i = k - 1 := by omega
    simp only [show k - 1 + 1 = k by omega]
    exact c
theorem compact_eq (hN : 300000 ≤ N) : Q79 N s = some (dedA s) := by
 unfold Q79 Q79.e
 by_cases h : s.length < 2
 ·rw [bif_t (ltI_t (by omega)), dedA_id s (fun i hi => by omega)]
 ·rw [bif_f (ltI_f (by omega))]
  exact compact_l0 N s hs (s.length - 1) 1 N (by omega) (by omega) (by omega) (fun i hi => by rw [List.length_take] at hi; omega)
end
end Go.Proofs.Ytnddjmhpofhfjaa.Am
set_option linter.unusedVariables false
set_option linter.unusedSimpArgs false
namespace Go.Proofs.Ytnddjmhpofhfjaa.Am
open Go
def cmpI (x y : Int) : Int := bif ltI x y then -1 else bif ltI y x then 1 else 0
def cmpM (a b : MvT) : Int := bif !(eqI (cmpI a.1 b.1) 0) then cmpI a.1 b.1 else bif !(eqI (cmpI a.2.1 b.2.1) 0) then cmpI a.2.1 b.2.1 else cmpI a.2.2 b.2.2
theorem cmpI_eq (N : Nat) (x y : Int) : Q92 N x y = some (cmpI x y) := by
 unfold Q92 Q92.e Q104 Q104.e cmpI
 rw [eqI_self, eqI_self, ob, ob]
 cases ltI x y <;> cases ltI y x <;> rfl
theorem cmpOr_eq {N : Nat} (hN : 4 ≤ N) (x y z : Int) : Q91 N [x, y, z] = some (bif !(eqI x 0) then x else bif !(eqI y 0) then y else z) := by
 obtain ⟨N, rfl⟩ : ∃ m, N = m + 4 := ⟨N - 4, by omega⟩
 unfold Q91 Q91.e
 have e0 : w64 ((0 : Int) + 1) = 1 := by decide
 have e1 : w64 ((1 : Int) + 1) = 2 := by decide
 have e2 : w64 ((2 : Int) + 1) = 3 := by decide
 simp only [Q91.l0_s, Q91.s0, e0, e1, e2]
 show (bif !eqI x 0 then some x else bif !eqI y 0 then some y else bif !eqI z 0 then some z else some 0) = _
 cases hx : eqI x 0 <;> cases hy : eqI y 0 <;> cases hz : eqI z 0 <;> simp
 all_goals (rw [eqI_iff] at hz; rw [hz])
theorem cmpM_eq {N : Nat} (hN : 4 ≤ N) (a b : MvT) : Q78 N a b = some (cmpM a b) := by
 unfold Q78 Q78.e cmpM
 rw [cmpI_eq, ob, cmpI_eq, ob, cmpI_eq, ob, cmpOr_eq hN, ob]
theorem swp_perm {d : List MvT} {i j : Int} (hi : 0 ≤ i) (hi' : i < d.length) (hj : 0 ≤ j) (hj' : j < d.length) : ((d.set i.toNat (gD z0 d j)).set j.toNat (gD z0 d i)).Perm d := by
 obtain ⟨i, rfl⟩ : ∃ k : Nat, i = k := ⟨i.toNat, by omega⟩
 obtain ⟨j, rfl⟩ : ∃ k : Nat, j = k := ⟨j.toNat, by omega⟩
 rw [Int.toNat_natCast, Int.toNat_natCast, gD_nat (by omega), gD_nat (by omega)]
 exact List.set_set_perm (by omega) (by omega)
abbrev Pm (d : List MvT) (d' : List MvT) : Prop := d'.Perm d
theorem Pm.swp {d d' : List MvT} (h : Pm d d') {i j : Int} (hi : 0 ≤ i) (hi' : i < d.length) (hj : 0 ≤ j) (hj' : j < d.length) : Pm d ((d'.set i.toNat (gD z0 d' j)).set j.toNat (gD z0 d' i)) := by
 have := h.length_eq
 exact (swp_perm hi (by omega) hj (by omega)).trans h
section
variable {N : Nat} (hN : 4 ≤ N) (d : List MvT) (hd : d.length ≤ 1000000)
include hN hd
theorem insM_l1 {d0 : List MvT} {a b : Int} (ha : 0 ≤ a) (hb : b ≤ d.length) {i : Int} {B : Nat} (hB : ∀ n d', B ≤ n → Pm d d' → Ret (Q94.l0 N d0 a b n (w64 (i + 1)) d') (Pm d)) :
  ∀ (k n : Nat) (j : Int) (d' : List MvT), j - a ≤ k → a ≤ j → j < b → B + k + 1 ≤ n → Pm d d' → Ret (Q94.l1 N d0 a b n i j d') (Pm d) := by
 intro k
 induction k with
 | zero =>
  intro n j d' hk h1 h2 hn hp
  obtain ⟨n, rfl⟩ : ∃ m, n = m + 1 := ⟨n - 1, by omega⟩
  rw [Q94.l1_s, Q94.s1, bif_f (ltI_f (by omega))]
  exact hB n d' (by omega) hp
 | succ k ih =>
  intro n j d' hk h1 h2 hn hp
  have hl := hp.length_eq
  obtain ⟨n, rfl⟩ : ∃ m, n = m + 1 := ⟨n - 1, by omega⟩
  rw [Q94.l1_s, Q94.s1]
  refine Ret.bif (fun c => ?_) (fun _ => hB n d' (by omega) hp)
  rw [ltI_iff] at c
  simp (disch := omega) only [w64_id, chk_idx, List.length_set, cmpM_eq hN, ob]
  refine Ret.bif (fun _ => ?_) (fun _ => by simpa (disch := omega) only [w64_id] using hB n d' (by omega) hp)
  exact ih n (j - 1) _ (by omega) (by omega) (by omega) (by omega) (hp.swp (by omega) (by omega) (by omega) (by omega))
theorem insM_l0 {d0 : List MvT} {a b : Int} (ha : 0 ≤ a) (hb : b ≤ d.length) (hab : b - a ≤ 12) : ∀ (k n : Nat) (i : Int) (d' : List MvT), b - i ≤ k → a ≤ i → 20 * k + 1 ≤ n → Pm d d' → Ret (Q94.l0 N d0 a b n i d') (Pm d) := by
 intro k
 induction k with
 | zero =>
  intro n i d' hk h1 hn hp
  obtain ⟨n, rfl⟩ : ∃ m, n = m + 1 := ⟨n - 1, by omega⟩
  rw [Q94.l0_s, Q94.s0, bif_f (ltI_f (by omega))]
  exact Ret.ret hp
 | succ k ih =>
  intro n i d' hk h1 hn hp
  obtain ⟨n, rfl⟩ : ∃ m, n = m + 1 := ⟨n - 1, by omega⟩
  rw [Q94.l0_s, Q94.s0]
  refine Ret.bif (fun c => ?_) (fun _ => Ret.ret hp)
  rw [ltI_iff] at c
  refine insM_l1 hN d hd ha hb (B := 20 * k + 1) (fun n' d'' hn' hp' => ?_) 12 n i d' (by omega) h1 c (by omega) hp
  simpa (disch := omega) only [w64_id] using ih n' (i + 1) d'' (by omega) (by omega) hn' hp'
theorem insM {a b : Int} (ha : 0 ≤ a) (hab0 : a ≤ b) (hb : b ≤ d.length) (hab : b - a ≤ 12) (hN' : 300 ≤ N) {d0 : List MvT} (hp : Pm d d0) : Ret (Q94 N d0 a b) (Pm d) := by
 unfold Q94 Q94.e
 simpa (disch := omega) only [w64_id] using insM_l0 hN d hd ha hb hab 12 N (a + 1) d0 (by omega) (by omega) (by omega) hp
end
end Go.Proofs.Ytnddjmhpofhfjaa.Am
set_option linter.unusedVariables false
set_option linter.unusedSimpArgs false
namespace Go.Proofs.Ytnddjmhpofhfjaa.Am
open Go
section
variable {N : Nat} (hN : 2000000 ≤ N) (d : List MvT) (hd : d.length ≤ 1000000)
include hN hd
theorem siftM_l0 {d0 : List MvT} {lo hi first : Int} (hf : 0 ≤ first) (hh : first + hi ≤ d.length) : ∀ (k n : Nat) (root : Int) (d' : List MvT), hi - root ≤ k → 0 ≤ root → first + root < d.length → root < 1000001 → k + 1 ≤ n → Pm d d' → Ret (Q105.l0 N d0 lo hi first n root d') (Pm d) := by
 intro k
 induction k with
 | zero =>
  intro n root d' hk h1 h2 h3 hn hp
  obtain ⟨n, rfl⟩ : ∃ m, n = m + 1 := ⟨n - 1, by omega⟩
  rw [Q105.l0_s, Q105.s0]
  simp (disch := omega) only [w64_id]
  rw [bif_t (leI_t (by omega))]
  exact Ret.ret hp
 | succ k ih =>
  intro n root d' hk h1 h2 h3 hn hp
  have hl := hp.length_eq
  obtain ⟨n, rfl⟩ : ∃ m, n = m + 1 := ⟨n - 1, by omega⟩
  rw [Q105.l0_s, Q105.s0]
  simp (disch := omega) only [w64_id]
  refine Ret.bif (fun _ => Ret.ret hp) (fun c => ?_)
  rw [leI_iff'] at c
  refine Ret.bif (fun c2 => ?_) (fun _ => ?_)
  ·rw [ltI_iff] at c2
   simp (disch := omega) only [w64_id, chk_idx, List.length_set, cmpM_eq (show 4 ≤ N by omega), ob]
   refine Ret.bif (fun _ => ?_) (fun _ => ?_)
   ·refine Ret.bif (fun _ => Ret.ret hp) (fun _ => ?_)
    exact ih n _ _ (by omega) (by omega) (by omega) (by omega) (by omega) (hp.swp (by omega) (by omega) (by omega) (by omega))
   ·refine Ret.bif (fun _ => Ret.ret hp) (fun _ => ?_)
    exact ih n _ _ (by omega) (by omega) (by omega) (by omega) (by omega) (hp.swp (by omega) (by omega) (by omega) (by omega))
  ·simp (disch := omega) only [w64_id, chk_idx, List.length_set, cmpM_eq (show 4 ≤ N by omega), ob]
   refine Ret.bif (fun _ => Ret.ret hp) (fun _ => ?_)
   exact ih n _ _ (by omega) (by omega) (by omega) (by omega) (by omega) (hp.swp (by omega) (by omega) (by omega) (by omega))
theorem siftM {d0 : List MvT} {lo hi first : Int} (hf : 0 ≤ first) (hh : first + hi ≤ d.length) (h1 : 0 ≤ lo) (h2 : first + lo < d.length) (hp : Pm d d0) : Ret (Q105 N d0 lo hi first) (Pm d) := by
 unfold Q105 Q105.e
 exact siftM_l0 hN d hd hf hh 1000001 N lo d0 (by omega) h1 h2 (by omega) (by omega) hp
theorem heapM_l1 {d0 : List MvT} {a b : Int} (ha : 0 ≤ a) (hb : b ≤ d.length) : ∀ (k n : Nat) (i : Int) (d' : List MvT), i + 1 ≤ k → -1 ≤ i → a + i < b → k + 1 ≤ n → Pm d d' → Ret (Q95.l1 N d0 a b n i d') (Pm d) := by
 intro k
 induction k with
 | zero =>
  intro n i d' hk h1 h2 hn hp
  obtain ⟨n, rfl⟩ : ∃ m, n = m + 1 := ⟨n - 1, by omega⟩
  rw [Q95.l1_s, Q95.s1, bif_f (leI_f (by omega))]
  exact Ret.ret hp
 | succ k ih =>
  intro n i d' hk h1 h2 hn hp
  have hl := hp.length_eq
  obtain ⟨n, rfl⟩ : ∃ m, n = m + 1 := ⟨n - 1, by omega⟩
  rw [Q95.l1_s, Q95.s1]
  refine Ret.bif (fun c => ?_) (fun _ => Ret.ret hp)
  rw [leI_iff] at c
  simp (disch := omega) only [w64_id, chk_idx, List.length_set]
  refine Ret.bnd (siftM hN d hd ha (by omega) (by omega) (by omega) (hp.swp (by omega) (by omega) (by omega) (by omega))) fun y hy => ?_
  exact ih n (i - 1) y (by omega) (by omega) (by omega) (by omega) hy
theorem heapM_l0 {d0 : List MvT} {a b : Int} (ha : 0 ≤ a) (hab : a < b) (hb : b ≤ d.length) : ∀ (k n : Nat) (i : Int) (d' : List MvT), i + 1 ≤ k → -1 ≤ i → a + i < b → k + 1000002 ≤ n → Pm d d' → Ret (Q95.l0 N d0 a b n i d') (Pm d) := by
 intro k
 induction k with
 | zero =>
  intro n i d' hk h1 h2 hn hp
  obtain ⟨n, rfl⟩ : ∃ m, n = m + 1 := ⟨n - 1, by omega⟩
  rw [Q95.l0_s, Q95.s0, bif_f (leI_f (by omega))]
  simp (disch := omega) only [w64_id]
  exact heapM_l1 hN d hd ha hb 1000000 n _ d' (by omega) (by omega) (by omega) (by omega) hp
 | succ k ih =>
  intro n i d' hk h1 h2 hn hp
  have hl := hp.length_eq
  obtain ⟨n, rfl⟩ : ∃ m, n = m + 1 := ⟨n - 1, by omega⟩
  rw [Q95.l0_s, Q95.s0]
  simp (disch := omega) only [w64_id]
  refine Ret.bif (fun c => ?_) (fun _ => heapM_l1 hN d hd ha hb 1000000 n _ d' (by omega) (by omega) (by omega) (by omega) hp)
  rw [leI_iff] at c
  refine Ret.bnd (siftM hN d hd ha (by omega) (by omega) (by omega) hp) fun y hy => ?_
  exact ih n (i - 1) y (by omega) (by omega) (by omega) (by omega) hy
theorem heapM {d0 : List MvT} {a b : Int} (ha : 0 ≤ a) (hab : a < b) (hb : b ≤ d.length) (hp : Pm d d0) : Ret (Q95 N d0 a b) (Pm d) := by
 unfold Q95 Q95.e
 rw [w64_id (x := b - a) (by omega) (by omega), w64_id (x := b - a - 1) (by omega) (by omega), Int.tdiv_eq_ediv_of_nonneg (by omega), w64_id (by omega) (by omega)]
 exact heapM_l0 hN d hd ha hab hb 500001 N _ d0 (by omega) (by omega) (by omega) (by omega) hp
omit hd in
theorem order2M {d' : List MvT} {lo hi a b s : Int} (h0 : 0 ≤ lo) (hh : hi ≤ d'.length) (ha : lo ≤ a ∧ a < hi) (hb : lo ≤ b ∧ b < hi) : Ret (Q110 N d' a b s) fun y => (lo ≤ y.1 ∧ y.1 < hi) ∧ lo ≤ y.2.1 ∧ y.2.1 < hi := by
 unfold Q110 Q110.e
 simp (disch := omega) only [chk_idx, cmpM_eq (show 4 ≤ N by omega), ob]
 exact Ret.bif (fun _ => Ret.ret ⟨hb, ha⟩) (fun _ => Ret.ret ⟨ha, hb⟩)
omit hd in
theorem medianM {d' : List MvT} {lo hi a b c s : Int} (h0 : 0 ≤ lo) (hh : hi ≤ d'.length) (ha : lo ≤ a ∧ a < hi) (hb : lo ≤ b ∧ b < hi) (hc : lo ≤ c ∧ c < hi) : Ret (Q109 N d' a b c s) fun y => lo ≤ y.1 ∧ y.1 < hi := by
 unfold Q109 Q109.e
 refine Ret.bnd (order2M hN h0 hh ha hb) fun y1 h1 => ?_
 refine Ret.bnd (order2M hN h0 hh h1.2 hc) fun y2 h2 => ?_
 refine Ret.bnd (order2M hN h0 hh h1.1 h2.1) fun y3 h3 => ?_
 exact Ret.ret h3.2
theorem pivotM {d' : List MvT} {a b : Int} (hl : d'.length = d.length) (ha : 0 ≤ a) (hab : 8 ≤ b - a) (hb : b ≤ d.length) : Ret (Q97 N d' a b) fun y => a ≤ y.1 ∧ y.1 < b := by
 unfold Q97 Q97.e
 have ht : Int.tdiv (b - a) 4 = (b - a) / 4 := Int.tdiv_eq_ediv_of_nonneg (by omega)
 rw [w64_id (x := b - a) (by omega) (by omega), ht]
 simp (disch := omega) only [w64_id]
 rw [bif_t (leI_t hab)]
 refine Ret.bif (fun c => ?_) (fun _ => ?_)
 ·rw [leI_iff] at c
  unfold Q108 Q108.e
  simp (disch := omega) only [w64_id]
  refine Ret.bnd (Ret.bnd (medianM hN (lo := a) (hi := b) ha (by omega) (by omega) (by omega) (by omega)) fun y hy => Ret.ret hy) fun y1 h1 => ?_
  refine Ret.bnd (Ret.bnd (medianM hN (lo := a) (hi := b) ha (by omega) (by omega) (by omega) (by omega)) fun y hy => Ret.ret hy) fun y2 h2 => ?_
  refine Ret.bnd (Ret.bnd (medianM hN (lo := a) (hi := b) ha (by omega) (by omega) (by omega) (by omega)) fun y hy => Ret.ret hy) fun y3 h3 => ?_
  refine Ret.bnd (medianM hN (lo := a) (hi := b) ha (by omega) h1 h2 h3) fun y4 h4 => ?_
  exact Ret.bif (fun _ => Ret.ret h4) (fun _ => Ret.bif (fun _ => Ret.ret h4) (fun _ => Ret.ret h4))
 ·refine Ret.bnd (medianM hN (lo := a) (hi := b) ha (by omega) (by omega) (by omega) (by omega)) fun y4 h4 => ?_
  exact Ret.bif (fun _ => Ret.ret h4) (fun _ => Ret.bif (fun _ => Ret.ret h4) (fun _ => Ret.ret h4))
omit hN in
theorem reverseM_l0 {d0 : List MvT} {a b : Int} : ∀ (k n : Nat) (i j : Int) (d' : List MvT), j - i ≤ k → 0 ≤ i → -1 ≤ j → j < d.length → i ≤ 2000000 → k + 1 ≤ n → Pm d d' → Ret (Q98.l0 N d0 a b n i j d') (Pm d) := by
 intro k
 induction k with
 | zero =>
  intro n i j d' hk h1 h2 h3 h4 hn hp
  obtain ⟨n, rfl⟩ : ∃ m, n = m + 1 := ⟨n - 1, by omega⟩
  rw [Q98.l0_s, Q98.s0, bif_f (ltI_f (by omega))]
  exact Ret.ret hp
 | succ k ih =>
  intro n i j d' hk h1 h2 h3 h4 hn hp
  have hl := hp.length_eq
  obtain ⟨n, rfl⟩ : ∃ m, n = m + 1 := ⟨n - 1, by omega⟩
  rw [Q98.l0_s, Q98.s0]
  refine Ret.bif (fun c => ?_) (fun _ => Ret.ret hp)
  rw [ltI_iff] at c
  simp (disch := omega) only [w64_id, chk_idx, List.length_set]
  exact ih n (i + 1) (j - 1) _ (by omega) (by omega) (by omega) (by omega) (by omega) (by omega) (hp.swp (by omega) (by omega) (by omega) (by omega))
theorem reverseM {d0 : List MvT} {a b : Int} (ha : 0 ≤ a) (hab : a < b) (hb : b ≤ d.length) (hp : Pm d d0) : Ret (Q98 N d0 a b) (Pm d) := by
 unfold Q98 Q98.e
 rw [w64_id (by omega) (by omega)]
 exact reverseM_l0 d hd 1000000 N a (b - 1) d0 (by omega) ha (by omega) (by omega) (by omega) (by omega) hp
end
end Go.Proofs.Ytnddjmhpofhfjaa.Am
set_option linter.unusedVariables false
set_option linter.unusedSimpArgs false
set_option linter.unusedSectionVars false
namespace Go.Proofs.Ytnddjmhpofhfjaa.Am
open Go
section
variable {N : Nat} (hN : 100000000 ≤ N) (d : List MvT) (hd : d.length ≤ 1000000)
include hN hd
abbrev PmB (d : List MvT) (y : Bool × List MvT) : Prop := Pm d y.2
theorem partM_l3 {d0 : List MvT} {a b i j : Int} {B : Nat} (hi1 : 1 ≤ i) (hb : b ≤ d.length) (hj : 0 ≤ j ∧ j ≤ 5) (h0 : ∀ n d', B ≤ n → Pm d d' → Ret (Q99.l0 N d0 a b n i (j + 1) d') (PmB d)) :
  ∀ (k n : Nat) (t : Int) (d' : List MvT), b - t ≤ k → i < t → t ≤ 1000001 → B + k + 1 ≤ n → Pm d d' → Ret (Q99.l3 N d0 a b n i j t d') (PmB d) := by
 intro k
 induction k with
 | zero =>
  intro n t d' hk h1 h2 hn hp
  obtain ⟨n, rfl⟩ : ∃ m, n = m + 1 := ⟨n - 1, by omega⟩
  rw [Q99.l3_s, Q99.s3, bif_f (ltI_f (by omega))]
  simp (disch := omega) only [w64_id]
  exact h0 n d' (by omega) hp
 | succ k ih =>
  intro n t d' hk h1 h2 hn hp
  have hl := hp.length_eq
  obtain ⟨n, rfl⟩ : ∃ m, n = m + 1 := ⟨n - 1, by omega⟩
  rw [Q99.l3_s, Q99.s3]
  refine Ret.bif (fun c => ?_) (fun _ => by simpa (disch := omega) only [w64_id] using h0 n d' (by omega) hp)
  rw [ltI_iff] at c
  simp (disch := omega) only [w64_id, chk_idx, List.length_set, cmpM_eq (show 4 ≤ N by omega), ob]
  refine Ret.bif (fun _ => h0 n d' (by omega) hp) (fun _ => ?_)
  exact ih n (t + 1) _ (by omega) (by omega) (by omega) (by omega) (hp.swp (by omega) (by omega) (by omega) (by omega))
theorem partM_l2 {d0 : List MvT} {a b i j : Int} {B : Nat} (ha : 0 ≤ a) (hi1 : 1 ≤ i) (hib : i ≤ b) (hb : b ≤ d.length) (hj : 0 ≤ j ∧ j ≤ 5) (h0 : ∀ n d', B ≤ n → Pm d d' → Ret (Q99.l0 N d0 a b n i (j + 1) d') (PmB d)) :
  ∀ (k n : Nat) (t : Int) (d' : List MvT), t ≤ k → 0 ≤ t → t < i → B + 1000010 + k + 1 ≤ n → Pm d d' → Ret (Q99.l2 N d0 a b n i j t d') (PmB d) := by
 have fin : ∀ (n : Nat) (d' : List MvT), B + 1000010 ≤ n → Pm d d' → Ret (bif (leI 2 (b - i)) then (Q99.l3 N d0 a b n i j (i + 1) d') else Q99.l0 N d0 a b n i (j + 1) d') (PmB d) := by
  intro n d' hn hp
  refine Ret.bif (fun _ => ?_) (fun _ => h0 n d' (by omega) hp)
  exact partM_l3 hN d hd hi1 hb hj h0 1000001 n (i + 1) d' (by omega) (by omega) (by omega) (by omega) hp
 intro k
 induction k with
 | zero =>
  intro n t d' hk h1 h2 hn hp
  obtain ⟨n, rfl⟩ : ∃ m, n = m + 1 := ⟨n - 1, by omega⟩
  rw [Q99.l2_s, Q99.s2, bif_f (leI_f (by omega))]
  simp (disch := omega) only [w64_id]
  exact fin n d' (by omega) hp
 | succ k ih =>
  intro n t d' hk h1 h2 hn hp
  have hl := hp.length_eq
  obtain ⟨n, rfl⟩ : ∃ m, n = m + 1 := ⟨n - 1, by omega⟩
  rw [Q99.l2_s, Q99.s2]
  refine Ret.bif (fun c => ?_) (fun _ => by simpa (disch := omega) only [w64_id] using fin n d' (by omega) hp)
  rw [leI_iff] at c
  by_cases hti : t < d.length
  ·simp (disch := omega) only [w64_id, chk_idx, List.length_set, cmpM_eq (show 4 ≤ N by omega), ob]
   refine Ret.bif (fun _ => fin n d' (by omega) hp) (fun _ => ?_)
   exact ih n (t - 1) _ (by omega) (by omega) (by omega) (by omega) (hp.swp (by omega) (by omega) (by omega) (by omega))
  ·omega
theorem partM_l1 {d0 : List MvT} {a b j : Int} {B : Nat} (ha : 0 ≤ a) (hb : b ≤ d.length) (hj : 0 ≤ j ∧ j ≤ 4) (h0 : ∀ n i d', a + 1 ≤ i → i ≤ b → B ≤ n → Pm d d' → Ret (Q99.l0 N d0 a b n i (j + 1) d') (PmB d)) :
  ∀ (k n : Nat) (i : Int) (d' : List MvT), b - i ≤ k → a + 1 ≤ i → i ≤ b → B + 2000030 + k + 1 ≤ n → Pm d d' → Ret (Q99.l1 N d0 a b n i j d') (PmB d) := by
 intro k
 induction k with
 | zero =>
  intro n i d' hk h1 h2 hn hp
  obtain ⟨n, rfl⟩ : ∃ m, n = m + 1 := ⟨n - 1, by omega⟩
  rw [Q99.l1_s, Q99.s1, bif_f (ltI_f (by omega)), bif_t (eqI_t (by omega))]
  exact Ret.ret hp
 | succ k ih =>
  intro n i d' hk h1 h2 hn hp
  have hl := hp.length_eq
  obtain ⟨n, rfl⟩ : ∃ m, n = m + 1 := ⟨n - 1, by omega⟩
  rw [Q99.l1_s, Q99.s1]
  refine Ret.bif (fun c => ?_) (fun c => ?_)
  ·rw [ltI_iff] at c
   simp (disch := omega) only [w64_id, chk_idx, List.length_set, cmpM_eq (show 4 ≤ N by omega), ob]
   refine Ret.bif (fun _ => ih n (i + 1) d' (by omega) (by omega) (by omega) (by omega) hp) (fun _ => ?_)
   refine Ret.bif (fun _ => Ret.ret hp) (fun _ => Ret.bif (fun _ => Ret.ret hp) (fun _ => ?_))
   have hp' := hp.swp (i := i) (j := i - 1) (by omega) (by omega) (by omega) (by omega)
   refine Ret.bif (fun _ => ?_) (fun _ => Ret.bif (fun _ => ?_) (fun _ => h0 n i _ h1 h2 (by omega) hp'))
   ·exact partM_l2 hN d hd ha (by omega) h2 hb (by omega) (fun n d' h hp => h0 n i d' h1 h2 h hp) 1000000 n (i - 1) _ (by omega) (by omega) (by omega) (by omega) hp'
   ·exact partM_l3 hN d hd (by omega) hb (by omega) (fun n d' h hp => h0 n i d' h1 h2 h hp) 1000000 n (i + 1) _ (by omega) (by omega) (by omega) (by omega) hp'
  ·rw [ltI_iff'] at c
   rw [bif_t (eqI_t (by omega))]
   exact Ret.ret hp
theorem partM_l0 {d0 : List MvT} {a b : Int} (ha : 0 ≤ a) (hb : b ≤ d.length) : ∀ (k n : Nat) (i j : Int) (d' : List MvT), 5 - j ≤ k → 0 ≤ j → j ≤ 5 → a + 1 ≤ i → i ≤ b → 4000100 * k + 1 ≤ n → Pm d d' → Ret (Q99.l0 N d0 a b n i j d') (PmB d) := by
 intro k
 induction k with
 | zero =>
  intro n i j d' hk h1 h2 h3 h4 hn hp
  obtain ⟨n, rfl⟩ : ∃ m, n = m + 1 := ⟨n - 1, by omega⟩
  rw [Q99.l0_s, Q99.s0, bif_f (ltI_f (by omega))]
  exact Ret.ret hp
 | succ k ih =>
  intro n i j d' hk h1 h2 h3 h4 hn hp
  obtain ⟨n, rfl⟩ : ∃ m, n = m + 1 := ⟨n - 1, by omega⟩
  rw [Q99.l0_s, Q99.s0]
  refine Ret.bif (fun c => ?_) (fun _ => Ret.ret hp)
  rw [ltI_iff] at c
  exact partM_l1 hN d hd (B := 4000100 * k + 1) ha hb (by omega) (fun n i d' g1 g2 g3 hp => ih n i (j + 1) d' (by omega) (by omega) (by omega) g1 g2 g3 hp) 1000000 n i d' (by omega) h3 h4 (by omega) hp
theorem partM {d0 : List MvT} {a b : Int} (ha : 0 ≤ a) (hab : a < b) (hb : b ≤ d.length) (hp : Pm d d0) : Ret (Q99 N d0 a b) (PmB d) := by
 unfold Q99 Q99.e
 rw [w64_id (by omega) (by omega)]
 exact partM_l0 hN d hd ha hb 5 N (a + 1) 0 d0 (by omega) (by omega) (by omega) (by omega) (by omega) (by omega) hp
abbrev PmE (d : List MvT) (a b : Int) (y : Int × List MvT) : Prop := (a < y.1 ∧ y.1 ≤ b) ∧ Pm d y.2
theorem equM_l {d0 : List MvT} {a b p : Int} (ha : 0 ≤ a) (hb : b ≤ d.length) : ∀ (n : Nat) (i j : Int) (d' : List MvT), a < i → i ≤ j + 2 → i ≤ b → j < b → Pm d d' →
  (3 * (j - i + 2) + 1 ≤ n → Ret (Q100.l2 N d0 a b p n i j d') (PmE d a b)) ∧
  (3 * (j - i + 2) + 2 ≤ n → Ret (Q100.l1 N d0 a b p n i j d') (PmE d a b)) ∧
  (3 * (j - i + 2) + 3 ≤ n → Ret (Q100.l0 N d0 a b p n i j d') (PmE d a b)) := by
 intro n
 induction n with
 | zero => exact fun i j d' h1 h2 hib h3 hp => ⟨fun h => by omega, fun h => by omega, fun h => by omega⟩
 | succ n ih =>
  intro i j d' h1 h2 hib h3 hp
  have hl := hp.length_eq
  refine ⟨fun h => ?_, fun h => ?_, fun h => ?_⟩
  ·rw [Q100.l2_s, Q100.s2]
   refine Ret.bif (fun c => ?_) (fun c => ?_)
   ·rw [leI_iff] at c
    simp (disch := omega) only [w64_id, chk_idx, List.length_set, cmpM_eq (show 4 ≤ N by omega), ob]
    refine Ret.bif (fun _ => (ih i (j - 1) d' h1 (by omega) hib (by omega) hp).1 (by omega)) (fun _ => ?_)
    refine Ret.bif (fun c => Ret.ret ⟨by rw [ltI_iff] at c; omega, hp⟩) (fun c2 => ?_)
    exact (ih (i + 1) (j - 1) _ (by omega) (by omega) (by omega) (by omega) (hp.swp (by omega) (by omega) (by omega) (by omega))).2.2 (by omega)
   ·rw [leI_iff'] at c
    rw [bif_t (ltI_t c)]
    exact Ret.ret ⟨by omega, hp⟩
  ·rw [Q100.l1_s, Q100.s1]
   refine Ret.bif (fun c => ?_) (fun c => (ih i j d' h1 h2 hib h3 hp).1 (by omega))
   rw [leI_iff] at c
   simp (disch := omega) only [w64_id, chk_idx, List.length_set, cmpM_eq (show 4 ≤ N by omega), ob]
   exact Ret.bif (fun _ => (ih (i + 1) j d' (by omega) (by omega) (by omega) h3 hp).2.1 (by omega)) (fun _ => (ih i j d' h1 h2 hib h3 hp).1 (by omega))
  ·rw [Q100.l0_s, Q100.s0]
   exact (ih i j d' h1 h2 hib h3 hp).2.1 (by omega)
theorem equM {d0 : List MvT} {a b p : Int} (ha : 0 ≤ a) (hab : a < b) (hb : b ≤ d.length) (hpv : a ≤ p ∧ p < b) (hp : Pm d d0) : Ret (Q100 N d0 a b p) (PmE d a b) := by
 unfold Q100 Q100.e
 have hl := hp.length_eq
 simp (disch := omega) only [w64_id, chk_idx, List.length_set]
 exact (equM_l hN d hd ha hb N (a + 1) (b - 1) _ (by omega) (by omega) (by omega) (by omega) (hp.swp (by omega) (by omega) (by omega) (by omega))).2.2 (by omega)
abbrev PmP (d : List MvT) (a b : Int) (y : Int × (Bool × List MvT)) : Prop := (a ≤ y.1 ∧ y.1 < b) ∧ Pm d y.2.2
theorem parM_l {d0 : List MvT} {a b p : Int} (ha : 0 ≤ a) (hb : b ≤ d.length) : ∀ (n : Nat) (i j : Int) (d' : List MvT), a < i → i ≤ j + 2 → a ≤ j → i ≤ b → j < b → Pm d d' →
  (3 * (j - i + 2) + 1 ≤ n → Ret (Q101.l4 N d0 a b p n i j d') (PmP d a b)) ∧
  (3 * (j - i + 2) + 2 ≤ n → Ret (Q101.l3 N d0 a b p n i j d') (PmP d a b)) ∧
  (3 * (j - i + 2) + 3 ≤ n → Ret (Q101.l2 N d0 a b p n i j d') (PmP d a b)) := by
 intro n
 induction n with
 | zero => exact fun i j d' h1 h2 hja hib h3 hp => ⟨fun h => by omega, fun h => by omega, fun h => by omega⟩
 | succ n ih =>
  intro i j d' h1 h2 hja hib h3 hp
  have hl := hp.length_eq
  refine ⟨fun h => ?_, fun h => ?_, fun h => ?_⟩
  ·rw [Q101.l4_s, Q101.s4]
   refine Ret.bif (fun c => ?_) (fun c => ?_)
   ·rw [leI_iff] at c
    simp (disch := omega) only [w64_id, chk_idx, List.length_set, cmpM_eq (show 4 ≤ N by omega), ob]
    refine Ret.bif (fun _ => (ih i (j - 1) d' h1 (by omega) (by omega) hib (by omega) hp).1 (by omega)) (fun _ => ?_)
    refine Ret.bif (fun c => Ret.ret ⟨by omega, hp.swp (by omega) (by omega) (by omega) (by omega)⟩) (fun c2 => ?_)
    exact (ih (i + 1) (j - 1) _ (by omega) (by omega) (by omega) (by omega) (by omega) (hp.swp (by omega) (by omega) (by omega) (by omega))).2.2 (by omega)
   ·rw [leI_iff'] at c
    rw [bif_t (ltI_t c)]
    simp (disch := omega) only [w64_id, chk_idx, List.length_set]
    exact Ret.ret ⟨by omega, hp.swp (by omega) (by omega) (by omega) (by omega)⟩
  ·rw [Q101.l3_s, Q101.s3]
   refine Ret.bif (fun c => ?_) (fun c => (ih i j d' h1 h2 hja hib h3 hp).1 (by omega))
   rw [leI_iff] at c
   simp (disch := omega) only [w64_id, chk_idx, List.length_set, cmpM_eq (show 4 ≤ N by omega), ob]
   exact Ret.bif (fun _ => (ih (i + 1) j d' (by omega) (by omega) hja (by omega) h3 hp).2.1 (by omega)) (fun _ => (ih i j d' h1 h2 hja hib h3 hp).1 (by omega))
  ·rw [Q101.l2_s, Q101.s2]
   exact (ih i j d' h1 h2 hja hib h3 hp).2.1 (by omega)
theorem parM_l1 {d0 : List MvT} {a b p : Int} (ha : 0 ≤ a) (hb : b ≤ d.length) : ∀ (n : Nat) (i j : Int) (d' : List MvT), a < i → i ≤ j + 2 → a ≤ j → i ≤ b → j < b → Pm d d' →
  3 * (j - i + 2) + 4 ≤ n → Ret (Q101.l1 N d0 a b p n i j d') (PmP d a b) := by
 intro n
 induction n with
 | zero => exact fun i j d' h1 h2 hja hib h3 hp h => by omega
 | succ n ih =>
  intro i j d' h1 h2 hja hib h3 hp h
  have hl := hp.length_eq
  rw [Q101.l1_s, Q101.s1]
  refine Ret.bif (fun c => ?_) (fun c => ?_)
  ·rw [leI_iff] at c
   simp (disch := omega) only [w64_id, chk_idx, List.length_set, cmpM_eq (show 4 ≤ N by omega), ob]
   refine Ret.bif (fun _ => ih i (j - 1) d' h1 (by omega) (by omega) hib (by omega) hp (by omega)) (fun _ => ?_)
   refine Ret.bif (fun c => Ret.ret ⟨by omega, hp.swp (by omega) (by omega) (by omega) (by omega)⟩) (fun c2 => ?_)
   exact (parM_l hN d hd ha hb n (i + 1) (j - 1) _ (by omega) (by omega) (by omega) (by omega) (by omega) (hp.swp (by omega) (by omega) (by omega) (by omega))).2.2 (by omega)
  ·rw [leI_iff'] at c
   rw [bif_t (ltI_t c)]
   simp (disch := omega) only [w64_id, chk_idx, List.length_set]
   exact Ret.ret ⟨by omega, hp.swp (by omega) (by omega) (by omega) (by omega)⟩
theorem parM_l0 {d0 : List MvT} {a b p : Int} (ha : 0 ≤ a) (hab : a < b) (hb : b ≤ d.length) : ∀ (k n : Nat) (i : Int) (d' : List MvT), b - i ≤ k → a < i → i ≤ b → 3000010 + k + 1 ≤ n → Pm d d' → Ret (Q101.l0 N d0 a b p n i d') (PmP d a b) := by
 intro k
 induction k with
 | zero =>
  intro n i d' hk h1 h2 hn hp
  obtain ⟨n, rfl⟩ : ∃ m, n = m + 1 := ⟨n - 1, by omega⟩
  rw [Q101.l0_s, Q101.s0]
  simp (disch := omega) only [w64_id]
  rw [bif_f (leI_f (by omega))]
  exact parM_l1 hN d hd ha hb n i (b - 1) d' h1 (by omega) (by omega) h2 (by omega) hp (by omega)
 | succ k ih =>
  intro n i d' hk h1 h2 hn hp
  have hl := hp.length_eq
  obtain ⟨n, rfl⟩ : ∃ m, n = m + 1 := ⟨n - 1, by omega⟩
  rw [Q101.l0_s, Q101.s0]
  simp (disch := omega) only [w64_id]
  refine Ret.bif (fun c => ?_) (fun _ => parM_l1 hN d hd ha hb n i (b - 1) d' h1 (by omega) (by omega) h2 (by omega) hp (by omega))
  rw [leI_iff] at c
  simp (disch := omega) only [w64_id, chk_idx, List.length_set, cmpM_eq (show 4 ≤ N by omega), ob]
  exact Ret.bif (fun _ => ih n (i + 1) d' (by omega) (by omega) (by omega) (by omega) hp) (fun _ => parM_l1 hN d hd ha hb n i (b - 1) d' h1 (by omega) (by omega) h2 (by omega) hp (by omega))
theorem parM {d0 : List MvT} {a b p : Int} (ha : 0 ≤ a) (hab : a < b) (hb : b ≤ d.length) (hpv : a ≤ p ∧ p < b) (hp : Pm d d0) : Ret (Q101 N d0 a b p) (PmP d a b) := by
 unfold Q101 Q101.e
 have hl := hp.length_eq
 simp (disch := omega) only [w64_id, chk_idx, List.length_set]
 exact parM_l0 hN d hd ha hab hb 1000000 N (a + 1) _ (by omega) (by omega) (by omega) (by omega) (hp.swp (by omega) (by omega) (by omega) (by omega))
end
end Go.Proofs.Ytnddjmhpofhfjaa.Am
set_option linter.unusedVariables false
set_option linter.unusedSimpArgs false
set_option linter.unusedSectionVars false
namespace Go.Proofs.Ytnddjmhpofhfjaa.Am
open Go
theorem wrapU (y : Int) : IntKind.wrap .u64 y = y % 18446744073709551616 := by
 unfold IntKind.wrap
 have e : (2 : Int) ^ IntKind.bits .u64 = 18446744073709551616 := by decide
 simp only [e]
 simp [IntKind.signed]
theorem and_le (x : Int) (m : Nat) (hm : m < 18446744073709551616) : 0 ≤ Go.bits .and .u64 x (m : Int) ∧ Go.bits .and .u64 x (m : Int) ≤ m := by
 have h1 : ((BitVec.ofInt 64 x &&& BitVec.ofInt 64 (m : Int)).toNat) ≤ m := by
  rw [BitVec.toNat_and]
  refine Nat.le_trans Nat.and_le_right ?_
  rw [BitVec.ofInt_natCast, BitVec.toNat_ofNat]
  exact Nat.mod_le _ _
 have h2 : Go.bits .and .u64 x (m : Int) = (((BitVec.ofInt 64 x &&& BitVec.ofInt 64 (m : Int)).toNat : Nat) : Int) := by
  have hw : ∀ y : Int, IntKind.u64.wrap y = y % 18446744073709551616 := fun y => by
   unfold IntKind.wrap
   have e : (2 : Int) ^ IntKind.bits .u64 = 18446744073709551616 := by decide
   simp only [e]
   simp [IntKind.signed]
  show IntKind.u64.wrap (((BitVec.ofInt 64 x &&& BitVec.ofInt 64 (m : Int)).toNat : Nat) : Int) = _
  rw [hw]
  exact Int.emod_eq_of_lt (by omega) (by omega)
 rw [h2]
 omega
def lenOk (k : Nat) : Bool := match Q90 0 (IntKind.wrap .u64 (k : Int)) with
 | some v => leI 0 v && (ltI v 20 && Nat.ble (2 ^ v.toNat) (2 * k))
 | none => false
theorem lenOk_all : (upto 8192 fun k => lenOk (k + 1)) = true := by decide +kernel
theorem bitsLen_le (N : Nat) {k : Nat} (h1 : 1 ≤ k) (h2 : k ≤ 8192) : ∃ v : Int, Q90 N (IntKind.wrap .u64 (k : Int)) = some v ∧ 0 ≤ v ∧ v < 20 ∧ 2 ^ v.toNat ≤ 2 * k := by
 have := upto_at lenOk_all (i := k - 1) (by omega)
 rw [show k - 1 + 1 = k by omega] at this
 unfold lenOk at this
 split at this
 ·rename_i v hv
  simp only [Bool.and_eq_true, leI_iff, ltI_iff] at this
  exact ⟨v, hv, this.1, this.2.1, Nat.le_of_ble_eq_true this.2.2⟩
 ·cases this
section
variable {N : Nat} (hN : 100000000 ≤ N) (d : List MvT) (hd : d.length ≤ 8192)
include hN hd
theorem breakM_l0 {d0 : List MvT} {a b : Int} (ha : 0 ≤ a) (hab : 8 ≤ b - a) (hb : b ≤ d.length) {m : Nat} (hm1 : 1 ≤ m) (hm : m ≤ 2 * (b - a)) : ∀ (k n : Nat) (idx : Int) (d' : List MvT) (rnd : Int), a + (b - a) / 4 * 2 + 2 - idx ≤ k → a ≤ idx → k + 1 ≤ n → Pm d d' → Ret (Q96.l0 N d0 a b n (m : Int) idx d' rnd) (Pm d) := by
 have ht : Int.tdiv (b - a) 4 = (b - a) / 4 := Int.tdiv_eq_ediv_of_nonneg (by omega)
 intro k
 induction k with
 | zero =>
  intro n idx d' rnd hk h1 hn hp
  obtain ⟨n, rfl⟩ : ∃ m, n = m + 1 := ⟨n - 1, by omega⟩
  rw [Q96.l0_s, Q96.s0]
  rw [w64_id (x := b - a) (by omega) (by omega), ht]
  simp (disch := omega) only [w64_id]
  rw [bif_f (leI_f (by omega))]
  exact Ret.ret hp
 | succ k ih =>
  intro n idx d' rnd hk h1 hn hp
  have hl := hp.length_eq
  obtain ⟨n, rfl⟩ : ∃ m, n = m + 1 := ⟨n - 1, by omega⟩
  rw [Q96.l0_s, Q96.s0]
  rw [w64_id (x := b - a) (by omega) (by omega), ht]
  simp (disch := omega) only [w64_id]
  refine Ret.bif (fun c => ?_) (fun _ => Ret.ret hp)
  rw [leI_iff] at c
  obtain ⟨y, hy⟩ : ∃ y, Q107 N rnd = some y := ⟨_, rfl⟩
  rw [hy, ob]
  have hmm : IntKind.wrap .u64 ((m : Int) - 1) = ((m - 1 : Nat) : Int) := by
   unfold IntKind.wrap
   have e : (2 : Int) ^ IntKind.bits .u64 = 18446744073709551616 := by decide
   simp only [e]
   have : ((m : Int) - 1) % 18446744073709551616 = ((m - 1 : Nat) : Int) := by omega
   simp [IntKind.signed, this]
  rw [hmm]
  obtain ⟨q1, q2⟩ := and_le y.1 (m - 1) (by omega)
  generalize Go.bits .and .u64 y.1 ((m - 1 : Nat) : Int) = v at q1 q2
  simp (disch := omega) only [w64_id]
  refine Ret.bif (fun c2 => ?_) (fun c2 => ?_)
  ·rw [leI_iff] at c2
   simp (disch := omega) only [w64_id, chk_idx, List.length_set]
   exact ih n (idx + 1) _ _ (by omega) (by omega) (by omega) (hp.swp (by omega) (by omega) (by omega) (by omega))
  ·rw [leI_iff'] at c2
   simp (disch := omega) only [w64_id, chk_idx, List.length_set]
   exact ih n (idx + 1) _ _ (by omega) (by omega) (by omega) (hp.swp (by omega) (by omega) (by omega) (by omega))
theorem breakM {d0 : List MvT} {a b : Int} (ha : 0 ≤ a) (hab : a ≤ b) (hb : b ≤ d.length) (hp : Pm d d0) : Ret (Q96 N d0 a b) (Pm d) := by
 unfold Q96 Q96.e
 have ht : Int.tdiv (b - a) 4 = (b - a) / 4 := Int.tdiv_eq_ediv_of_nonneg (by omega)
 rw [w64_id (x := b - a) (by omega) (by omega), ht]
 simp (disch := omega) only [w64_id]
 refine Ret.bif (fun c => ?_) (fun _ => Ret.ret hp)
 rw [leI_iff] at c
 obtain ⟨l, hl⟩ : ∃ l : Nat, b - a = l := ⟨(b - a).toNat, by omega⟩
 obtain ⟨v, v1, v2, v3, v4⟩ := bitsLen_le N (k := l) (by omega) (by omega)
 unfold Q106 Q106.e
 rw [hl, v1, ob, bif_f (ltI_f v2), ob]
 have hpw : (1 : Nat) ≤ 2 ^ v.toNat := Nat.one_le_two_pow
 have hw : IntKind.wrap .u64 (1 * 2 ^ (min v.toNat 64)) = ((2 ^ v.toNat : Nat) : Int) := by
  rw [Nat.min_eq_left (by omega), wrapU]
  have e2 : (1 : Int) * 2 ^ v.toNat = ((2 ^ v.toNat : Nat) : Int) := by simp
  rw [e2]
  exact Int.emod_eq_of_lt (by omega) (by omega)
 rw [hw, ← hl]
 exact breakM_l0 hN d hd ha c hb hpw (by omega) 10000 N _ d0 _ (by omega) (by omega) (by omega) hp
end
def pdTail (N : Nat) (self : List MvT → Int → Int → Int → Option (List MvT)) (r0 : Int → Int → Int → Bool → Bool → List MvT → Option (List MvT)) (a b lim : Int) (wB wP : Bool) (y : List MvT) (p : Int) : Option (List MvT) :=
 let part := (Q101 N y a b p).bind fun y11 =>
  let v12 : Int := (w64 (Int.tdiv (w64 (b - a)) 8))
  bif (ltI (w64 (y11.1 - a)) (w64 (b - y11.1))) then ((self y11.2.2 a y11.1 lim).bind fun y15 =>
   r0 (w64 (y11.1 + 1)) b lim (leI v12 (w64 (y11.1 - a))) y11.2.1 y15)
  else (self y11.2.2 (w64 (y11.1 + 1)) b lim).bind fun y17 =>
  r0 a y11.1 lim (leI v12 (w64 (b - y11.1))) y11.2.1 y17
 bif (ltI 0 a) then (chk ((leI 0 (w64 (a - 1))) && (ltI (w64 (a - 1)) (y.length : Int))) <|
  chk ((leI 0 p) && (ltI p (y.length : Int))) <|
  (Q78 N (gD z0 y (w64 (a - 1))) (gD z0 y p)).bind fun y9 =>
  bif (!(ltI y9 0)) then ((Q100 N y a b p).bind fun y10 =>
   r0 y10.1 b lim wB wP y10.2)
  else part)
 else part
section
variable {N : Nat} (hN : 100000000 ≤ N) (d : List MvT) (hd : d.length ≤ 8192)
include hN hd
theorem pdTail_ok {self : List MvT → Int → Int → Int → Option (List MvT)} {r0 : Int → Int → Int → Bool → Bool → List MvT → Option (List MvT)} {a b : Int} (ha : 0 ≤ a) (hab : a < b) (hb : b ≤ d.length)
  (hs : ∀ a' b' l d', a ≤ a' → a' ≤ b' → b' ≤ b → b' - a' < b - a → Pm d d' → Ret (self d' a' b' l) (Pm d))
  (hr : ∀ a' b' l wB wP d', a ≤ a' → a' ≤ b' → b' ≤ b → b' - a' < b - a → Pm d d' → Ret (r0 a' b' l wB wP d') (Pm d))
  (lim : Int) (wB wP : Bool) {y : List MvT} (hp : Pm d y) {p : Int} (hpv : a ≤ p ∧ p < b) : Ret (pdTail N self r0 a b lim wB wP y p) (Pm d) := by
 have hl := hp.length_eq
 have hpart : Ret ((Q101 N y a b p).bind fun y11 =>
  let v12 : Int := (w64 (Int.tdiv (w64 (b - a)) 8))
  bif (ltI (w64 (y11.1 - a)) (w64 (b - y11.1))) then ((self y11.2.2 a y11.1 lim).bind fun y15 =>
   r0 (w64 (y11.1 + 1)) b lim (leI v12 (w64 (y11.1 - a))) y11.2.1 y15)
  else (self y11.2.2 (w64 (y11.1 + 1)) b lim).bind fun y17 =>
  r0 a y11.1 lim (leI v12 (w64 (b - y11.1))) y11.2.1 y17) (Pm d) := by
  refine Ret.bnd (parM hN d (by omega) ha hab hb hpv hp) fun y11 h11 => ?_
  obtain ⟨⟨g1, g2⟩, g3⟩ := h11
  have e : w64 (y11.1 + 1) = y11.1 + 1 := w64_id (by omega) (by omega)
  simp only [e]
  refine Ret.bif (fun _ => ?_) (fun _ => ?_)
  ·exact Ret.bnd (hs _ _ _ _ (by omega) g1 (by omega) (by omega) g3) fun y15 h15 => hr _ _ _ _ _ _ (by omega) (by omega) (by omega) (by omega) h15
  ·exact Ret.bnd (hs _ _ _ _ (by omega) (by omega) (by omega) (by omega) g3) fun y15 h15 => hr _ _ _ _ _ _ (by omega) g1 (by omega) (by omega) h15
 unfold pdTail
 refine Ret.bif (fun c => ?_) (fun _ => hpart)
 rw [ltI_iff] at c
 simp (disch := omega) only [w64_id, chk_idx, cmpM_eq (show 4 ≤ N by omega), ob]
 refine Ret.bif (fun _ => ?_) (fun _ => ?_)
 ·refine Ret.bnd (equM hN d (by omega) ha hab hb hpv hp) fun y10 h10 => ?_
  exact hr _ _ _ _ _ _ (by omega) (by omega) (by omega) (by omega) h10.2
 ·have := hpart
  simpa (disch := omega) only [w64_id] using this
end
end Go.Proofs.Ytnddjmhpofhfjaa.Am
set_option linter.unusedVariables false
set_option linter.unusedSimpArgs false
set_option linter.unusedSectionVars false
namespace Go.Proofs.Ytnddjmhpofhfjaa.Am
open Go
section
variable {N : Nat} (hN : 100000000 ≤ N) (d : List MvT) (hd : d.length ≤ 8192)
include hN hd
theorem pdqM_l0 {d0 : List MvT} {a0 b0 l0 : Int} {self : List MvT → Int → Int → Int → Option (List MvT)} {K : Int}
  (hs : ∀ (a' b' l : Int) (d' : List MvT), 0 ≤ a' → a' ≤ b' → b' ≤ d.length → b' - a' < K → Pm d d' → Ret (self d' a' b' l) (Pm d)) :
  ∀ (m n : Nat) (a b lim : Int) (wB wP : Bool) (d' : List MvT), b - a ≤ m → b - a ≤ K → 0 ≤ a → a ≤ b → b ≤ d.length → m + 1 ≤ n → Pm d d' → Ret (Q89.l0 N self d0 a0 b0 l0 n a b lim wB wP d') (Pm d) := by
 intro m
 induction m using Nat.strongRecOn with
 | _ m ih =>
 intro n a b lim wB wP d' hm hK ha hab hb hn hp
 obtain ⟨n, rfl⟩ : ∃ q, n = q + 1 := ⟨n - 1, by omega⟩
 have hl := hp.length_eq
 rw [Q89.l0_s, Q89.s0]
 refine Ret.bif (fun c => Ret.bnd (insM (by omega) d (by omega) ha hab hb (by rw [leI_iff, w64_id (by omega) (by omega)] at c; exact c) (by omega) hp) fun y hy => Ret.ret hy) (fun c => ?_)
 rw [leI_iff', w64_id (by omega) (by omega)] at c
 have hab' : a < b := by omega
 refine Ret.bif (fun _ => Ret.bnd (heapM (by omega) d (by omega) ha hab' hb hp) fun y hy => Ret.ret hy) (fun _ => ?_)
 have hs' : ∀ a' b' l d', a ≤ a' → a' ≤ b' → b' ≤ b → b' - a' < b - a → Pm d d' → Ret (self d' a' b' l) (Pm d) := fun a' b' l d' h1 h2 h3 h4 h5 => hs a' b' l d' (by omega) h2 (by omega) (by omega) h5
 have hr' : ∀ a' b' l wB wP d', a ≤ a' → a' ≤ b' → b' ≤ b → b' - a' < b - a → Pm d d' → Ret (Q89.l0 N self d0 a0 b0 l0 n a' b' l wB wP d') (Pm d) := fun a' b' l wB wP d' h1 h2 h3 h4 h5 =>
  ih (b' - a').toNat (by omega) n a' b' l wB wP d' (by omega) (by omega) (by omega) h2 (by omega) (by omega) h5
 have tail : ∀ (lim : Int) (wB wP : Bool) {y : List MvT}, Pm d y → ∀ {p : Int}, (a ≤ p ∧ p < b) → Ret (pdTail N self (Q89.l0 N self d0 a0 b0 l0 n) a b lim wB wP y p) (Pm d) := fun lim wB wP y hy p hpv => pdTail_ok hN d hd ha hab' hb hs' hr' lim wB wP hy hpv
 have piv : ∀ {y : List MvT}, Pm d y → Ret (Q97 N y a b) fun z => a ≤ z.1 ∧ z.1 < b := fun hy => pivotM (by omega) d (by omega) hy.length_eq ha (by omega) hb
 have rev : ∀ {y : List MvT}, Pm d y → Ret (Q98 N y a b) (Pm d) := fun hy => reverseM (by omega) d (by omega) ha hab' hb hy
 have prt : ∀ {y : List MvT}, Pm d y → Ret (Q99 N y a b) (PmB d) := fun hy => partM hN d (by omega) ha hab' hb hy
 have v7 : ∀ z : Int, a ≤ z ∧ z < b → w64 (w64 (b - 1) - w64 (z - a)) = b - 1 - (z - a) := fun z hz => by
  rw [w64_id (x := b - 1) (by omega) (by omega), w64_id (x := z - a) (by omega) (by omega), w64_id (by omega) (by omega)]
 refine Ret.bif (fun _ => ?_) (fun _ => ?_)
 ·refine Ret.bnd (breakM hN d hd ha hab hb hp) fun y4 h4 => ?_
  refine Ret.bnd (piv h4) fun y5 h5 => ?_
  refine Ret.bif (fun _ => ?_) (fun _ => ?_)
  ·refine Ret.bnd (rev h4) fun y6 h6 => ?_
   simp only [v7 y5.1 h5]
   refine Ret.bif (fun _ => Ret.bif (fun _ => Ret.bnd (prt h6) fun y8 h8 => Ret.bif (fun _ => Ret.ret h8) (fun _ => ?_)) (fun _ => ?_)) (fun _ => ?_)
   ·exact tail _ _ _ h8 (by omega)
   ·exact tail _ _ _ h6 (by omega)
   ·exact tail _ _ _ h6 (by omega)
  ·refine Ret.bif (fun _ => Ret.bif (fun _ => Ret.bif (fun _ => Ret.bnd (prt h4) fun y8 h8 => Ret.bif (fun _ => Ret.ret h8) (fun _ => ?_)) (fun _ => ?_)) (fun _ => ?_)) (fun _ => ?_)
   ·exact tail _ _ _ h8 h5
   ·exact tail _ _ _ h4 h5
   ·exact tail _ _ _ h4 h5
   ·exact tail _ _ _ h4 h5
 ·refine Ret.bnd (piv hp) fun y5 h5 => ?_
  refine Ret.bif (fun _ => ?_) (fun _ => ?_)
  ·refine Ret.bnd (rev hp) fun y6 h6 => ?_
   simp only [v7 y5.1 h5]
   refine Ret.bif (fun _ => Ret.bif (fun _ => Ret.bnd (prt h6) fun y8 h8 => Ret.bif (fun _ => Ret.ret h8) (fun _ => ?_)) (fun _ => ?_)) (fun _ => ?_)
   ·exact tail _ _ _ h8 (by omega)
   ·exact tail _ _ _ h6 (by omega)
   ·exact tail _ _ _ h6 (by omega)
  ·refine Ret.bif (fun _ => Ret.bif (fun _ => Ret.bif (fun _ => Ret.bnd (prt hp) fun y8 h8 => Ret.bif (fun _ => Ret.ret h8) (fun _ => ?_)) (fun _ => ?_)) (fun _ => ?_)) (fun _ => ?_)
   ·exact tail _ _ _ h8 h5
   ·exact tail _ _ _ hp h5
   ·exact tail _ _ _ hp h5
   ·exact tail _ _ _ hp h5
end
theorem pdqM (d : List MvT) (hd : d.length ≤ 8192) : ∀ (k N : Nat) (d0 : List MvT) (a b lim : Int), b - a ≤ k → 100000000 + k < N → 0 ≤ a → a ≤ b → b ≤ d.length → Pm d d0 → Ret (Q89 N d0 a b lim) (Pm d) := by
 intro k
 induction k using Nat.strongRecOn with
 | _ k ih =>
 intro N d0 a b lim hk hN ha hab hb hp
 obtain ⟨N, rfl⟩ : ∃ q, N = q + 1 := ⟨N - 1, by omega⟩
 rw [Q89_s, Q89.e]
 refine pdqM_l0 (by omega) d hd (K := b - a) (fun a' b' l d' h1 h2 h3 h4 h5 => ?_) (b - a).toNat N a b lim true true d0 (by omega) (Int.le_refl _) ha hab hb (by omega) hp
 exact ih (b' - a').toNat (by omega) N d' a' b' l (by omega) (by omega) h1 h2 h3 h5
theorem sortM {N : Nat} (hN : 200000000 ≤ N) (d : List MvT) (hd : d.length ≤ 8192) : Ret (Q77 N d) (Pm d) := by
 unfold Q77 Q77.e
 by_cases h0 : d.length = 0
 ·obtain rfl := List.length_eq_zero_iff.1 h0
  obtain ⟨v, hv⟩ : ∃ v, Q90 N (IntKind.wrap .u64 (([] : List MvT).length : Int)) = some v := ⟨0, by kernel_rfl⟩
  rw [hv, ob]
  exact Ret.bnd (pdqM [] (by simp) 0 N [] 0 _ v (by simp) (by omega) (by omega) (by simp) (by simp) (List.Perm.refl _)) fun y hy => Ret.ret hy
 ·obtain ⟨v, hv, _⟩ := bitsLen_le N (k := d.length) (by omega) hd
  rw [hv, ob]
  exact Ret.bnd (pdqM d hd d.length N d 0 _ v (by omega) (by omega) (by omega) (by omega) (Int.le_refl _) (List.Perm.refl _)) fun y hy => Ret.ret hy
end Go.Proofs.Ytnddjmhpofhfjaa.Am
set_option linter.unusedVariables false
set_option linter.unusedSimpArgs false
set_option linter.unusedSectionVars false
namespace Go.Proofs.Ytnddjmhpofhfjaa.Am
open Go
theorem cmpM_lt (x y : MvT) : cmpM x y < 0 ↔ x.1 < y.1 ∨ (x.1 = y.1 ∧ (x.2.1 < y.2.1 ∨ (x.2.1 = y.2.1 ∧ x.2.2 < y.2.2))) := by
 have h : ∀ a b : Int, (a < b ∧ cmpI a b = -1) ∨ (b < a ∧ cmpI a b = 1) ∨ (a = b ∧ cmpI a b = 0) := by
  intro a b
  unfold cmpI
  by_cases c : a < b
  ·rw [bif_t (ltI_t c)]; exact Or.inl ⟨c, rfl⟩
  ·rw [bif_f (ltI_f (by omega))]
   by_cases c2 : b < a
   ·rw [bif_t (ltI_t c2)]; exact Or.inr (Or.inl ⟨c2, rfl⟩)
   ·rw [bif_f (ltI_f (by omega))]; exact Or.inr (Or.inr ⟨by omega, rfl⟩)
 have h1 := h x.1 y.1
 have h2 := h x.2.1 y.2.1
 have h3 := h x.2.2 y.2.2
 unfold cmpM
 by_cases c1 : cmpI x.1 y.1 = 0
 ·rw [bif_f (by rw [eqI_t c1]; rfl)]
  by_cases c2 : cmpI x.2.1 y.2.1 = 0
  ·rw [bif_f (by rw [eqI_t c2]; rfl)]; omega
  ·rw [bif_t (by rw [eqI_f c2]; rfl)]; omega
 ·rw [bif_t (by rw [eqI_f c1]; rfl)]; omega
def leM (x y : MvT) : Prop := ¬ cmpM y x < 0
theorem leM_iff (x y : MvT) : leM x y ↔ x.1 < y.1 ∨ (x.1 = y.1 ∧ (x.2.1 < y.2.1 ∨ (x.2.1 = y.2.1 ∧ x.2.2 ≤ y.2.2))) := by
 unfold leM
 rw [cmpM_lt]
 omega
theorem leM.refl (x : MvT) : leM x x := by rw [leM_iff]; omega
theorem leM.trans {x y z : MvT} (h1 : leM x y) (h2 : leM y z) : leM x z := by rw [leM_iff] at *; omega
theorem leM.of_lt {x y : MvT} (h : cmpM x y < 0) : leM x y := by rw [leM_iff]; rw [cmpM_lt] at h; omega
theorem leM.anti {x y : MvT} (h1 : leM x y) (h2 : leM y x) : x = y := by
 rw [leM_iff] at *
 obtain ⟨a, b, c⟩ := x
 obtain ⟨a', b', c'⟩ := y
 dsimp only at *
 obtain rfl : a = a' := by omega
 obtain rfl : b = b' := by omega
 obtain rfl : c = c' := by omega
 rfl
theorem gD_set' {d : List MvT} {i k : Int} {v : MvT} (hi : 0 ≤ i) (hk : 0 ≤ k) (hk' : k < d.length) : gD z0 (d.set i.toNat v) k = if k = i then v else gD z0 d k := by
 obtain ⟨i, rfl⟩ : ∃ q : Nat, i = q := ⟨i.toNat, by omega⟩
 obtain ⟨k, rfl⟩ : ∃ q : Nat, k = q := ⟨k.toNat, by omega⟩
 rw [Int.toNat_natCast, gD_nat (by rw [List.length_set]; omega), gD_nat (by omega), List.getElem_set]
 by_cases h : i = k
 ·rw [if_pos h, if_pos (by omega)]
 ·rw [if_neg h, if_neg (by omega)]
theorem swp_at {d : List MvT} {i j k : Int} (hi : 0 ≤ i) (hj : 0 ≤ j) (hk : 0 ≤ k) (hk' : k < d.length) : gD z0 ((d.set i.toNat (gD z0 d j)).set j.toNat (gD z0 d i)) k = if k = j then gD z0 d i else if k = i then gD z0 d j else gD z0 d k := by
 rw [gD_set' hj hk (by rw [List.length_set]; exact hk'), gD_set' hi hk hk']
structure W (a b : Int) (d d' : List MvT) : Prop where
 pm : d'.Perm d
 out : ∀ i : Int, 0 ≤ i → i < (d.length : Int) → (i < a ∨ b ≤ i) → gD z0 d' i = gD z0 d i
 sub : ∀ i, a ≤ i → i < b → ∃ j, a ≤ j ∧ j < b ∧ gD z0 d' i = gD z0 d j
theorem W.len {a b : Int} {d d' : List MvT} (h : W a b d d') : d'.length = d.length := h.pm.length_eq
theorem W.refl (a b : Int) (d : List MvT) : W a b d d := ⟨List.Perm.refl _, fun _ _ _ _ => rfl, fun i h1 h2 => ⟨i, h1, h2, rfl⟩⟩
theorem W.trans {a b : Int} {d d' d'' : List MvT} (h : W a b d d') (h2 : W a b d' d'') : W a b d d'' := by
 have := h.len
 refine ⟨h2.pm.trans h.pm, fun i h0 h1 ho => (h2.out i h0 (by omega) ho).trans (h.out i h0 h1 ho), fun i g1 g2 => ?_⟩
 obtain ⟨j, k1, k2, k3⟩ := h2.sub i g1 g2
 obtain ⟨q, l1, l2, l3⟩ := h.sub j k1 k2
 exact ⟨q, l1, l2, k3.trans l3⟩
theorem W.mono {a b a' b' : Int} {d d' : List MvT} (h : W a b d d') (h0 : 0 ≤ a') (h1 : a' ≤ a) (h2 : b ≤ b') (h3 : b' ≤ d.length) : W a' b' d d' := by
 refine ⟨h.pm, fun i g0 g1 ho => h.out i g0 g1 (by omega), fun i g1 g2 => ?_⟩
 by_cases c : a ≤ i ∧ i < b
 ·obtain ⟨j, k1, k2, k3⟩ := h.sub i c.1 c.2
  exact ⟨j, by omega, by omega, k3⟩
 ·exact ⟨i, g1, g2, h.out i (by omega) (by omega) (by omega)⟩
theorem W.swp {a b : Int} {d d' : List MvT} (h : W a b d d') (ha : 0 ≤ a) (hb : b ≤ d.length) {i j : Int} (hi : a ≤ i) (hi' : i < b) (hj : a ≤ j) (hj' : j < b) : W a b d ((d'.set i.toNat (gD z0 d' j)).set j.toNat (gD z0 d' i)) := by
 have hl := h.len
 refine h.trans ⟨swp_perm (by omega) (by omega) (by omega) (by omega), fun k g0 g1 ho => ?_, fun k g1 g2 => ?_⟩
 ·rw [swp_at (by omega) (by omega) g0 g1, if_neg (by omega), if_neg (by omega)]
 ·rw [swp_at (by omega) (by omega) (by omega) (by omega)]
  by_cases c1 : k = j
  ·rw [if_pos c1]; exact ⟨i, hi, hi', rfl⟩
  ·rw [if_neg c1]
   by_cases c2 : k = i
   ·rw [if_pos c2]; exact ⟨j, hj, hj', rfl⟩
   ·rw [if_neg c2]; exact ⟨k, g1, g2, rfl⟩
theorem W.all {a b : Int} {d d' : List MvT} (h : W a b d d') {P : MvT → Prop} (hP : ∀ i, a ≤ i → i < b → P (gD z0 d i)) : ∀ i, a ≤ i → i < b → P (gD z0 d' i) := by
 intro i h1 h2
 obtain ⟨j, k1, k2, k3⟩ := h.sub i h1 h2
 rw [k3]
 exact hP j k1 k2
def Sd (a b : Int) (d : List MvT) : Prop := ∀ i j, a ≤ i → i ≤ j → j < b → leM (gD z0 d i) (gD z0 d j)
theorem Sd.out {a b a' b' : Int} {d d' : List MvT} (h : Sd a b d) (hw : W a' b' d d') (h0 : 0 ≤ a) (hb : b ≤ d.length) (ho : b ≤ a' ∨ b' ≤ a) : Sd a b d' := by
 intro i j h1 h2 h3
 rw [hw.out i (by omega) (by omega) (by omega), hw.out j (by omega) (by omega) (by omega)]
 exact h i j h1 h2 h3
def Lo (a b : Int) (d : List MvT) : Prop := 0 < a → ∀ i, a ≤ i → i < b → leM (gD z0 d (a - 1)) (gD z0 d i)
theorem Lo.W {a b : Int} {d d' : List MvT} (h : Lo a b d) (hw : W a b d d') (hb : b ≤ d.length) : Lo a b d' := by
 intro h0 i h1 h2
 rw [hw.out (a - 1) (by omega) (by omega) (by omega)]
 exact hw.all (P := fun x => leM (gD z0 d (a - 1)) x) (fun j g1 g2 => h h0 j g1 g2) i h1 h2
def Ins (a i j : Int) (d : List MvT) : Prop := ∀ p q, a ≤ p → p < q → q ≤ i → q ≠ j → leM (gD z0 d p) (gD z0 d q)
theorem Ins.step {a i j : Int} {d : List MvT} (h : Ins a i j d) (ha : 0 ≤ a) (h1 : a < j) (h2 : j ≤ i) (h3 : i < d.length) (hc : cmpM (gD z0 d j) (gD z0 d (j - 1)) < 0) : Ins a i (j - 1) ((d.set j.toNat (gD z0 d (j - 1))).set (j - 1).toNat (gD z0 d j)) := by
 intro p q g1 g2 g3 g4
 rw [swp_at (by omega) (by omega) (by omega) (by omega), swp_at (by omega) (by omega) (by omega) (by omega), if_neg (c := q = j - 1) g4]
 by_cases c1 : q = j
 ·rw [if_pos c1]
  by_cases c2 : p = j - 1
  ·rw [if_pos c2]; exact leM.of_lt hc
  ·rw [if_neg c2, if_neg (by omega)]
   exact h p (j - 1) g1 (by omega) (by omega) (by omega)
 ·rw [if_neg c1]
  by_cases c2 : p = j - 1
  ·rw [if_pos c2]; exact h j q (by omega) (by omega) g3 c1
  ·rw [if_neg c2]
   by_cases c3 : p = j
   ·rw [if_pos c3]; exact h (j - 1) q (by omega) (by omega) g3 c1
   ·rw [if_neg c3]; exact h p q g1 g2 g3 c1
theorem Ins.fin {a i j : Int} {d : List MvT} (h : Ins a i j d) (hc : j ≤ a ∨ leM (gD z0 d (j - 1)) (gD z0 d j)) : Sd a (i + 1) d := by
 intro p q g1 g2 g3
 by_cases c0 : p = q
 ·rw [c0]; exact leM.refl _
 ·by_cases c1 : q = j
  ·rcases hc with hc | hc
   ·omega
   ·by_cases c2 : p = j - 1
    ·rw [c1, c2]; exact hc
    ·refine leM.trans (h p (j - 1) g1 (by omega) (by omega) (by omega)) ?_
     rw [c1]; exact hc
  ·exact h p q g1 (by omega) (by omega) c1
theorem Sd.ins {a i : Int} {d : List MvT} (h : Sd a i d) : Ins a i i d := fun p q g1 g2 g3 g4 => h p q g1 (by omega) (by omega)
section
variable {N : Nat} (hN : 4 ≤ N) (d : List MvT) (hd : d.length ≤ 1000000)
include hN hd
theorem insS_l1 {d0 : List MvT} {a b : Int} (ha : 0 ≤ a) (hb : b ≤ d.length) {i : Int} (hi : i < b) {B : Nat} {Q : List MvT → Prop} (hB : ∀ n d', B ≤ n → W a b d d' → Sd a (i + 1) d' → Ret (Q94.l0 N d0 a b n (w64 (i + 1)) d') Q) :
  ∀ (k n : Nat) (j : Int) (d' : List MvT), j - a ≤ k → a ≤ j → j ≤ i → B + k + 1 ≤ n → W a b d d' → Ins a i j d' → Ret (Q94.l1 N d0 a b n i j d') Q := by
 intro k
 induction k with
 | zero =>
  intro n j d' hk h1 h2 hn hp hI
  obtain ⟨n, rfl⟩ : ∃ m, n = m + 1 := ⟨n - 1, by omega⟩
  rw [Q94.l1_s, Q94.s1, bif_f (ltI_f (by omega))]
  exact hB n d' (by omega) hp (hI.fin (Or.inl (by omega)))
 | succ k ih =>
  intro n j d' hk h1 h2 hn hp hI
  have hl := hp.len
  obtain ⟨n, rfl⟩ : ∃ m, n = m + 1 := ⟨n - 1, by omega⟩
  rw [Q94.l1_s, Q94.s1]
  refine Ret.bif (fun c => ?_) (fun c => hB n d' (by omega) hp (hI.fin (Or.inl (by rw [ltI_iff'] at c; omega))))
  rw [ltI_iff] at c
  simp (disch := omega) only [w64_id, chk_idx, List.length_set, cmpM_eq hN, ob]
  refine Ret.bif (fun c2 => ?_) (fun c2 => ?_)
  ·rw [ltI_iff] at c2
   exact ih n (j - 1) _ (by omega) (by omega) (by omega) (by omega) (hp.swp ha hb (by omega) (by omega) (by omega) (by omega)) (hI.step ha c h2 (by omega) c2)
  ·rw [ltI_iff'] at c2
   have := hB n d' (by omega) hp (hI.fin (Or.inr (Int.not_lt.2 c2)))
   simpa (disch := omega) only [w64_id] using this
theorem insS_l0 {d0 : List MvT} {a b : Int} (ha : 0 ≤ a) (hb : b ≤ d.length) (hab : b - a ≤ 12) : ∀ (k n : Nat) (i : Int) (d' : List MvT), b - i ≤ k → a ≤ i → 20 * k + 1 ≤ n → W a b d d' → Sd a i d' → Ret (Q94.l0 N d0 a b n i d') fun y => W a b d y ∧ Sd a b y := by
 intro k
 induction k with
 | zero =>
  intro n i d' hk h1 hn hp hS
  obtain ⟨n, rfl⟩ : ∃ m, n = m + 1 := ⟨n - 1, by omega⟩
  rw [Q94.l0_s, Q94.s0, bif_f (ltI_f (by omega))]
  exact Ret.ret ⟨hp, fun p q g1 g2 g3 => hS p q g1 g2 (by omega)⟩
 | succ k ih =>
  intro n i d' hk h1 hn hp hS
  obtain ⟨n, rfl⟩ : ∃ m, n = m + 1 := ⟨n - 1, by omega⟩
  rw [Q94.l0_s, Q94.s0]
  refine Ret.bif (fun c => ?_) (fun c => Ret.ret ⟨hp, fun p q g1 g2 g3 => hS p q g1 g2 (by rw [ltI_iff'] at c; omega)⟩)
  rw [ltI_iff] at c
  refine insS_l1 hN d hd ha hb c (B := 20 * k + 1) (fun n' d'' hn' hp' hS' => ?_) 12 n i d' (by omega) h1 (Int.le_refl _) (by omega) hp hS.ins
  simpa (disch := omega) only [w64_id] using ih n' (i + 1) d'' (by omega) (by omega) hn' hp' hS'
theorem insS {a b : Int} (ha : 0 ≤ a) (hab0 : a ≤ b) (hb : b ≤ d.length) (hab : b - a ≤ 12) (hN' : 300 ≤ N) {d0 : List MvT} (hp : W a b d d0) : Ret (Q94 N d0 a b) fun y => W a b d y ∧ Sd a b y := by
 unfold Q94 Q94.e
 simpa (disch := omega) only [w64_id] using insS_l0 hN d hd ha hb hab 12 N (a + 1) d0 (by omega) (by omega) (by omega) hp (fun p q g1 g2 g3 => by
  obtain rfl : p = q := by omega
  exact leM.refl _)
end
end Go.Proofs.Ytnddjmhpofhfjaa.Am
set_option linter.unusedVariables false
set_option linter.unusedSimpArgs false
set_option linter.unusedSectionVars false
namespace Go.Proofs.Ytnddjmhpofhfjaa.Am
open Go
def Hp (f lo hi : Int) (d : List MvT) : Prop := ∀ p c, lo ≤ p → (c = 2 * p + 1 ∨ c = 2 * p + 2) → c < hi → leM (gD z0 d (f + c)) (gD z0 d (f + p))
structure HpX (f lo hi root : Int) (d : List MvT) : Prop where
 h : ∀ p c, lo ≤ p → p ≠ root → (c = 2 * p + 1 ∨ c = 2 * p + 2) → c < hi → leM (gD z0 d (f + c)) (gD z0 d (f + p))
 br : ∀ p c, lo ≤ p → (root = 2 * p + 1 ∨ root = 2 * p + 2) → (c = 2 * root + 1 ∨ c = 2 * root + 2) → c < hi → leM (gD z0 d (f + c)) (gD z0 d (f + p))
theorem Hp.x {f i hi : Int} {d : List MvT} (h : Hp f (i + 1) hi d) (h0 : 0 ≤ i) : HpX f i hi i d :=
 ⟨fun p c g1 g2 g3 g4 => h p c (by omega) g3 g4, fun p c g1 g2 g3 g4 => by omega⟩
theorem HpX.fin {f lo hi root : Int} {d : List MvT} (h : HpX f lo hi root d) (hc : ∀ c, (c = 2 * root + 1 ∨ c = 2 * root + 2) → c < hi → leM (gD z0 d (f + c)) (gD z0 d (f + root))) : Hp f lo hi d := by
 intro p c g1 g2 g3
 by_cases e : p = root
 ·subst e; exact hc c g2 g3
 ·exact h.h p c g1 e g2 g3
theorem HpX.step {f lo hi root ch : Int} {d : List MvT} (h : HpX f lo hi root d) (hf : 0 ≤ f) (hlo : 0 ≤ lo) (hr : lo ≤ root) (hch : ch = 2 * root + 1 ∨ ch = 2 * root + 2) (hhi : ch < hi) (hl : f + hi ≤ d.length)
  (hlt : leM (gD z0 d (f + root)) (gD z0 d (f + ch))) (hmax : ∀ c, (c = 2 * root + 1 ∨ c = 2 * root + 2) → c < hi → leM (gD z0 d (f + c)) (gD z0 d (f + ch))) :
  HpX f lo hi ch ((d.set (f + root).toNat (gD z0 d (f + ch))).set (f + ch).toNat (gD z0 d (f + root))) := by
 refine ⟨fun p c g1 g2 g3 g4 => ?_, fun p c g1 g2 g3 g4 => ?_⟩
 ·rw [swp_at (by omega) (by omega) (by omega) (by omega), swp_at (by omega) (by omega) (by omega) (by omega), if_neg (c := f + p = f + ch) (by omega)]
  by_cases e1 : p = root
  ·rw [if_pos (c := f + p = f + root) (by omega)]
   by_cases e2 : c = ch
   ·rw [if_pos (by omega)]; exact hlt
   ·rw [if_neg (by omega), if_neg (by omega)]
    exact hmax c (by omega) g4
  ·rw [if_neg (c := f + p = f + root) (by omega), if_neg (by omega)]
   by_cases e2 : c = root
   ·rw [if_pos (by omega)]
    exact h.br p ch g1 (by omega) hch hhi
   ·rw [if_neg (by omega)]
    exact h.h p c g1 e1 g3 g4
 ·rw [swp_at (by omega) (by omega) (by omega) (by omega), swp_at (by omega) (by omega) (by omega) (by omega), if_neg (by omega), if_neg (by omega), if_neg (by omega), if_pos (by omega)]
  exact h.h ch c (by omega) (by omega) g3 g4
theorem Hp.max {f hi : Int} {d : List MvT} (h : Hp f 0 hi d) : ∀ (n : Nat) (c : Int), c < n → 0 ≤ c → c < hi → leM (gD z0 d (f + c)) (gD z0 d f)
 | 0, c, h1, h2, _ => by omega
 | n + 1, c, h1, h2, h3 => by
  by_cases e : c = 0
  ·rw [e, Int.add_zero]; exact leM.refl _
  ·have hp := Hp.max h n ((c - 1) / 2) (by omega) (by omega) (by omega)
   exact (h ((c - 1) / 2) c (by omega) (by omega) h3).trans hp
section
variable {N : Nat} (hN : 2000000 ≤ N)
include hN
theorem siftS_l0 (d : List MvT) (hd : d.length ≤ 1000000) {d0 : List MvT} {lo hi first : Int} (hf : 0 ≤ first) (hlo : 0 ≤ lo) (hh : first + hi ≤ d.length) : ∀ (k n : Nat) (root : Int) (d' : List MvT), hi - root ≤ k → lo ≤ root → first + root < d.length → root < 1000001 → k + 1 ≤ n → W first (first + hi) d d' → HpX first lo hi root d' →
  Ret (Q105.l0 N d0 lo hi first n root d') fun y => W first (first + hi) d y ∧ Hp first lo hi y := by
 intro k
 induction k with
 | zero =>
  intro n root d' hk h1 h2 h3 hn hp hx
  obtain ⟨n, rfl⟩ : ∃ m, n = m + 1 := ⟨n - 1, by omega⟩
  rw [Q105.l0_s, Q105.s0]
  simp (disch := omega) only [w64_id]
  rw [bif_t (leI_t (by omega))]
  exact Ret.ret ⟨hp, hx.fin fun c g1 g2 => by omega⟩
 | succ k ih =>
  intro n root d' hk h1 h2 h3 hn hp hx
  have hl := hp.len
  obtain ⟨n, rfl⟩ : ∃ m, n = m + 1 := ⟨n - 1, by omega⟩
  rw [Q105.l0_s, Q105.s0]
  simp (disch := omega) only [w64_id]
  refine Ret.bif (fun c => Ret.ret ⟨hp, hx.fin fun q g1 g2 => by rw [leI_iff] at c; omega⟩) (fun c => ?_)
  rw [leI_iff'] at c
  refine Ret.bif (fun c2 => ?_) (fun c2 => ?_)
  ·rw [ltI_iff] at c2
   simp (disch := omega) only [w64_id, chk_idx, List.length_set, cmpM_eq (show 4 ≤ N by omega), ob]
   have e2 : first + (2 * root + 1) + 1 = first + (2 * root + 2) := by omega
   have e3 : first + (2 * root + 1 + 1) = first + (2 * root + 2) := by omega
   refine Ret.bif (fun c3 => ?_) (fun c3 => ?_)
   ·rw [ltI_iff, e2] at c3
    rw [e3]
    have hmax : ∀ q, (q = 2 * root + 1 ∨ q = 2 * root + 2) → q < hi → leM (gD z0 d' (first + q)) (gD z0 d' (first + (2 * root + 2))) := by
     intro q g1 g2
     rcases g1 with g1 | g1
     ·rw [g1]; exact leM.of_lt c3
     ·rw [g1]; exact leM.refl _
    refine Ret.bif (fun c4 => Ret.ret ⟨hp, hx.fin fun q g1 g2 => ?_⟩) (fun c4 => ?_)
    ·rw [not_t, ltI_iff'] at c4
     exact (hmax q g1 g2).trans (Int.not_lt.2 c4)
    ·rw [not_f, ltI_iff] at c4
     rw [show 2 * root + 1 + 1 = 2 * root + 2 by omega]
     exact ih n _ _ (by omega) (by omega) (by omega) (by omega) (by omega) (hp.swp hf hh (by omega) (by omega) (by omega) (by omega)) (hx.step hf hlo h1 (Or.inr rfl) (by omega) (by omega) (leM.of_lt c4) hmax)
   ·rw [ltI_iff', e2] at c3
    have hmax : ∀ q, (q = 2 * root + 1 ∨ q = 2 * root + 2) → q < hi → leM (gD z0 d' (first + q)) (gD z0 d' (first + (2 * root + 1))) := by
     intro q g1 g2
     rcases g1 with g1 | g1
     ·rw [g1]; exact leM.refl _
     ·rw [g1]; exact Int.not_lt.2 c3
    refine Ret.bif (fun c4 => Ret.ret ⟨hp, hx.fin fun q g1 g2 => ?_⟩) (fun c4 => ?_)
    ·rw [not_t, ltI_iff'] at c4
     exact (hmax q g1 g2).trans (Int.not_lt.2 c4)
    ·rw [not_f, ltI_iff] at c4
     exact ih n _ _ (by omega) (by omega) (by omega) (by omega) (by omega) (hp.swp hf hh (by omega) (by omega) (by omega) (by omega)) (hx.step hf hlo h1 (Or.inl rfl) (by omega) (by omega) (leM.of_lt c4) hmax)
  ·rw [ltI_iff'] at c2
   simp (disch := omega) only [w64_id, chk_idx, List.length_set, cmpM_eq (show 4 ≤ N by omega), ob]
   have hmax : ∀ q, (q = 2 * root + 1 ∨ q = 2 * root + 2) → q < hi → leM (gD z0 d' (first + q)) (gD z0 d' (first + (2 * root + 1))) := by
    intro q g1 g2
    obtain rfl : q = 2 * root + 1 := by omega
    exact leM.refl _
   refine Ret.bif (fun c4 => Ret.ret ⟨hp, hx.fin fun q g1 g2 => ?_⟩) (fun c4 => ?_)
   ·rw [not_t, ltI_iff'] at c4
    exact (hmax q g1 g2).trans (Int.not_lt.2 c4)
   ·rw [not_f, ltI_iff] at c4
    exact ih n _ _ (by omega) (by omega) (by omega) (by omega) (by omega) (hp.swp hf hh (by omega) (by omega) (by omega) (by omega)) (hx.step hf hlo h1 (Or.inl rfl) (by omega) (by omega) (leM.of_lt c4) hmax)
theorem siftS (d : List MvT) (hd : d.length ≤ 1000000) {lo hi first : Int} (hf : 0 ≤ first) (hlo : 0 ≤ lo) (hh : first + hi ≤ d.length) (h2 : first + lo < d.length) (hx : HpX first lo hi lo d) : Ret (Q105 N d lo hi first) fun y => W first (first + hi) d y ∧ Hp first lo hi y := by
 unfold Q105 Q105.e
 exact siftS_l0 hN d hd hf hlo hh 1000001 N lo d (by omega) (Int.le_refl _) h2 (by omega) (by omega) (W.refl _ _ _) hx
theorem heapS_l1 (d : List MvT) (hd : d.length ≤ 1000000) {d0 : List MvT} {a b : Int} (ha : 0 ≤ a) (hb : b ≤ d.length) : ∀ (k n : Nat) (i : Int) (d' : List MvT), i + 1 ≤ k → -1 ≤ i → a + i < b → k + 1 ≤ n → W a b d d' → Hp a 0 (i + 1) d' → Sd (a + i + 1) b d' → (∀ p q, a ≤ p → p < a + i + 1 → a + i + 1 ≤ q → q < b → leM (gD z0 d' p) (gD z0 d' q)) →
  Ret (Q95.l1 N d0 a b n i d') fun y => W a b d y ∧ Sd a b y := by
 intro k
 induction k with
 | zero =>
  intro n i d' hk h1 h2 hn hp hh hS hc
  obtain ⟨n, rfl⟩ : ∃ m, n = m + 1 := ⟨n - 1, by omega⟩
  rw [Q95.l1_s, Q95.s1, bif_f (leI_f (by omega))]
  exact Ret.ret ⟨hp, fun p q g1 g2 g3 => hS p q (by omega) g2 g3⟩
 | succ k ih =>
  intro n i d' hk h1 h2 hn hp hh hS hc
  have hl := hp.len
  obtain ⟨n, rfl⟩ : ∃ m, n = m + 1 := ⟨n - 1, by omega⟩
  rw [Q95.l1_s, Q95.s1]
  refine Ret.bif (fun c => ?_) (fun c => Ret.ret ⟨hp, fun p q g1 g2 g3 => hS p q (by rw [leI_iff'] at c; omega) g2 g3⟩)
  rw [leI_iff] at c
  simp (disch := omega) only [w64_id, chk_idx, List.length_set]
  have hw := hp.swp ha hb (i := a) (j := a + i) (by omega) (by omega) (by omega) (by omega)
  have hat : ∀ q : Int, 0 ≤ q → q < d'.length → gD z0 ((d'.set a.toNat (gD z0 d' (a + i))).set (a + i).toNat (gD z0 d' a)) q = if q = a + i then gD z0 d' a else if q = a then gD z0 d' (a + i) else gD z0 d' q := fun q g1 g2 => swp_at (by omega) (by omega) g1 g2
  show Ret ((Q105 N ((d'.set a.toNat (gD z0 d' (a + i))).set (a + i).toNat (gD z0 d' a)) 0 i a).bind _) _
  generalize hx : (d'.set a.toNat (gD z0 d' (a + i))).set (a + i).toNat (gD z0 d' a) = x at hw hat
  have hlx := hw.len
  have hX : HpX a 0 i 0 x := by
   refine ⟨fun p q g1 g2 g3 g4 => ?_, fun p q g1 g2 g3 g4 => by omega⟩
   rw [hat _ (by omega) (by omega), hat _ (by omega) (by omega), if_neg (by omega), if_neg (by omega), if_neg (by omega), if_neg (by omega)]
   exact hh p q g1 g3 (by omega)
  refine Ret.bnd (siftS hN x (by omega) ha (Int.le_refl _) (by omega) (by omega) hX) fun y hy => ?_
  obtain ⟨hy1, hy2⟩ := hy
  have hmax : ∀ p, a ≤ p → p < a + i + 1 → leM (gD z0 d' p) (gD z0 d' a) := by
   intro p g1 g2
   have := hh.max (p - a + 1).toNat (p - a) (by omega) (by omega) (by omega)
   rw [show a + (p - a) = p by omega] at this
   exact this
  have hlow : ∀ p, a ≤ p → p < a + i → leM (gD z0 y p) (gD z0 d' a) ∧ ∀ q, a + i + 1 ≤ q → q < b → leM (gD z0 y p) (gD z0 d' q) := by
   intro p g1 g2
   obtain ⟨j, k1, k2, k3⟩ := hy1.sub p g1 g2
   rw [k3, hat j (by omega) (by omega), if_neg (by omega)]
   by_cases e : j = a
   ·rw [if_pos e]; exact ⟨hmax _ (by omega) (by omega), fun q l1 l2 => hc _ _ (by omega) (by omega) l1 l2⟩
   ·rw [if_neg e]; exact ⟨hmax _ (by omega) (by omega), fun q l1 l2 => hc _ _ (by omega) (by omega) l1 l2⟩
  have hup : ∀ q, a + i ≤ q → q < b → gD z0 y q = if q = a + i then gD z0 d' a else gD z0 d' q := by
   intro q g1 g2
   rw [hy1.out q (by omega) (by omega) (by omega), hat q (by omega) (by omega)]
   by_cases e : q = a + i
   ·rw [if_pos e, if_pos e]
   ·rw [if_neg e, if_neg e, if_neg (by omega)]
  refine ih n (i - 1) y (by omega) (by omega) (by omega) (by omega) (hw.trans (hy1.mono ha (Int.le_refl _) (by omega) (by omega))) (by rw [show i - 1 + 1 = i by omega]; exact hy2) (fun p q g1 g2 g3 => ?_) (fun p q g1 g2 g3 g4 => ?_)
  ·rw [hup p (by omega) (by omega), hup q (by omega) g3]
   by_cases e1 : p = a + i
   ·rw [if_pos e1]
    by_cases e2 : q = a + i
    ·rw [if_pos e2]; exact leM.refl _
    ·rw [if_neg e2]; exact hc a q (by omega) (by omega) (by omega) g3
   ·rw [if_neg e1, if_neg (by omega)]
    exact hS p q (by omega) g2 g3
  ·rw [hup q (by omega) g4]
   by_cases e2 : q = a + i
   ·rw [if_pos e2]; exact (hlow p g1 (by omega)).1
   ·rw [if_neg e2]; exact (hlow p g1 (by omega)).2 q (by omega) g4
theorem heapS_l0 (d : List MvT) (hd : d.length ≤ 1000000) {d0 : List MvT} {a b : Int} (ha : 0 ≤ a) (hab : a < b) (hb : b ≤ d.length) : ∀ (k n : Nat) (i : Int) (d' : List MvT), i + 1 ≤ k → -1 ≤ i → a + i < b → k + 1000002 ≤ n → W a b d d' → Hp a (i + 1) (b - a) d' → Ret (Q95.l0 N d0 a b n i d') fun y => W a b d y ∧ Sd a b y := by
 intro k
 induction k with
 | zero =>
  intro n i d' hk h1 h2 hn hp hh
  obtain ⟨n, rfl⟩ : ∃ m, n = m + 1 := ⟨n - 1, by omega⟩
  rw [Q95.l0_s, Q95.s0, bif_f (leI_f (by omega))]
  simp (disch := omega) only [w64_id]
  obtain rfl : i = -1 := by omega
  exact heapS_l1 hN d hd ha hb 1000000 n _ d' (by omega) (by omega) (by omega) (by omega) hp (by rw [show b - a - 1 + 1 = b - a by omega]; exact hh) (fun p q g1 g2 g3 => by omega) (fun p q g1 g2 g3 g4 => by omega)
 | succ k ih =>
  intro n i d' hk h1 h2 hn hp hh
  have hl := hp.len
  obtain ⟨n, rfl⟩ : ∃ m, n = m + 1 := ⟨n - 1, by omega⟩
  rw [Q95.l0_s, Q95.s0]
  simp (disch := omega) only [w64_id]
  refine Ret.bif (fun c => ?_) (fun c => ?_)
  ·rw [leI_iff] at c
   refine Ret.bnd (siftS hN d' (by omega) ha c (by omega) (by omega) (hh.x c)) fun y hy => ?_
   exact ih n (i - 1) y (by omega) (by omega) (by omega) (by omega) (hp.trans (by have := hy.1; rw [show a + (b - a) = b by omega] at this; exact this)) (by rw [show i - 1 + 1 = i by omega]; exact hy.2)
  ·rw [leI_iff'] at c
   obtain rfl : i = -1 := by omega
   exact heapS_l1 hN d hd ha hb 1000000 n _ d' (by omega) (by omega) (by omega) (by omega) hp (by rw [show b - a - 1 + 1 = b - a by omega]; exact hh) (fun p q g1 g2 g3 => by omega) (fun p q g1 g2 g3 g4 => by omega)
theorem heapS (d : List MvT) (hd : d.length ≤ 1000000) {a b : Int} (ha : 0 ≤ a) (hab : a < b) (hb : b ≤ d.length) {d0 : List MvT} (hp : W a b d d0) : Ret (Q95 N d0 a b) fun y => W a b d y ∧ Sd a b y := by
 unfold Q95 Q95.e
 rw [w64_id (x := b - a) (by omega) (by omega), w64_id (x := b - a - 1) (by omega) (by omega), Int.tdiv_eq_ediv_of_nonneg (by omega), w64_id (by omega) (by omega)]
 exact heapS_l0 hN d hd ha hab hb 500001 N _ d0 (by omega) (by omega) (by omega) (by omega) hp (fun p c g1 g2 g3 => by omega)
end
section
variable (d : List MvT) (hd : d.length ≤ 1000000)
include hd
theorem reverseS_l0 {N : Nat} {d0 : List MvT} {a b : Int} (ha : 0 ≤ a) (hb : b ≤ d.length) : ∀ (k n : Nat) (i j : Int) (d' : List MvT), j - i ≤ k → a ≤ i → a - 1 ≤ j → j < b → i ≤ 2000000 → k + 1 ≤ n → W a b d d' → Ret (Q98.l0 N d0 a b n i j d') (W a b d) := by
 intro k
 induction k with
 | zero =>
  intro n i j d' hk h1 h2 h3 h4 hn hp
  obtain ⟨n, rfl⟩ : ∃ m, n = m + 1 := ⟨n - 1, by omega⟩
  rw [Q98.l0_s, Q98.s0, bif_f (ltI_f (by omega))]
  exact Ret.ret hp
 | succ k ih =>
  intro n i j d' hk h1 h2 h3 h4 hn hp
  have hl := hp.len
  obtain ⟨n, rfl⟩ : ∃ m, n = m + 1 := ⟨n - 1, by omega⟩
  rw [Q98.l0_s, Q98.s0]
  refine Ret.bif (fun c => ?_) (fun _ => Ret.ret hp)
  rw [ltI_iff] at c
  simp (disch := omega) only [w64_id, chk_idx, List.length_set]
  exact ih n (i + 1) (j - 1) _ (by omega) (by omega) (by omega) (by omega) (by omega) (by omega) (hp.swp ha hb (by omega) (by omega) (by omega) (by omega))
theorem reverseS {N : Nat} (hN : 2000000 ≤ N) {d0 : List MvT} {a b : Int} (ha : 0 ≤ a) (hab : a < b) (hb : b ≤ d.length) (hp : W a b d d0) : Ret (Q98 N d0 a b) (W a b d) := by
 unfold Q98 Q98.e
 rw [w64_id (by omega) (by omega)]
 exact reverseS_l0 d hd ha hb 1000000 N a (b - 1) d0 (by omega) (Int.le_refl _) (by omega) (by omega) (by omega) (by omega) hp
end
section
variable {N : Nat} (hN : 100000000 ≤ N) (d : List MvT) (hd : d.length ≤ 8192)
include hN hd
theorem breakS_l0 {d0 : List MvT} {a b : Int} (ha : 0 ≤ a) (hab : 8 ≤ b - a) (hb : b ≤ d.length) {m : Nat} (hm1 : 1 ≤ m) (hm : m ≤ 2 * (b - a)) : ∀ (k n : Nat) (idx : Int) (d' : List MvT) (rnd : Int), a + (b - a) / 4 * 2 + 2 - idx ≤ k → a ≤ idx → k + 1 ≤ n → W a b d d' → Ret (Q96.l0 N d0 a b n (m : Int) idx d' rnd) (W a b d) := by
 have ht : Int.tdiv (b - a) 4 = (b - a) / 4 := Int.tdiv_eq_ediv_of_nonneg (by omega)
 intro k
 induction k with
 | zero =>
  intro n idx d' rnd hk h1 hn hp
  obtain ⟨n, rfl⟩ : ∃ m, n = m + 1 := ⟨n - 1, by omega⟩
  rw [Q96.l0_s, Q96.s0]
  rw [w64_id (x := b - a) (by omega) (by omega), ht]
  simp (disch := omega) only [w64_id]
  rw [bif_f (leI_f (by omega))]
  exact Ret.ret hp
 | succ k ih =>
  intro n idx d' rnd hk h1 hn hp
  have hl := hp.len
  obtain ⟨n, rfl⟩ : ∃ m, n = m + 1 := ⟨n - 1, by omega⟩
  rw [Q96.l0_s, Q96.s0]
  rw [w64_id (x := b - a) (by omega) (by omega), ht]
  simp (disch := omega) only [w64_id]
  refine Ret.bif (fun c => ?_) (fun _ => Ret.ret hp)
  rw [leI_iff] at c
  obtain ⟨y, hy⟩ : ∃ y, Q107 N rnd = some y := ⟨_, rfl⟩
  rw [hy, ob]
  have hmm : IntKind.wrap .u64 ((m : Int) - 1) = ((m - 1 : Nat) : Int) := by
   unfold IntKind.wrap
   have e : (2 : Int) ^ IntKind.bits .u64 = 18446744073709551616 := by decide
   simp only [e]
   have : ((m : Int) - 1) % 18446744073709551616 = ((m - 1 : Nat) : Int) := by omega
   simp [IntKind.signed, this]
  rw [hmm]
  obtain ⟨q1, q2⟩ := and_le y.1 (m - 1) (by omega)
  generalize Go.bits .and .u64 y.1 ((m - 1 : Nat) : Int) = v at q1 q2
  simp (disch := omega) only [w64_id]
  refine Ret.bif (fun c2 => ?_) (fun c2 => ?_)
  ·rw [leI_iff] at c2
   simp (disch := omega) only [w64_id, chk_idx, List.length_set]
   exact ih n (idx + 1) _ _ (by omega) (by omega) (by omega) (hp.swp ha hb (by omega) (by omega) (by omega) (by omega))
  ·rw [leI_iff'] at c2
   simp (disch := omega) only [w64_id, chk_idx, List.length_set]
   exact ih n (idx + 1) _ _ (by omega) (by omega) (by omega) (hp.swp ha hb (by omega) (by omega) (by omega) (by omega))
theorem breakS {d0 : List MvT} {a b : Int} (ha : 0 ≤ a) (hab : a ≤ b) (hb : b ≤ d.length) (hp : W a b d d0) : Ret (Q96 N d0 a b) (W a b d) := by
 unfold Q96 Q96.e
 have ht : Int.tdiv (b - a) 4 = (b - a) / 4 := Int.tdiv_eq_ediv_of_nonneg (by omega)
 rw [w64_id (x := b - a) (by omega) (by omega), ht]
 simp (disch := omega) only [w64_id]
 refine Ret.bif (fun c => ?_) (fun _ => Ret.ret hp)
 rw [leI_iff] at c
 obtain ⟨l, hl⟩ : ∃ l : Nat, b - a = l := ⟨(b - a).toNat, by omega⟩
 obtain ⟨v, v1, v2, v3, v4⟩ := bitsLen_le N (k := l) (by omega) (by omega)
 unfold Q106 Q106.e
 rw [hl, v1, ob, bif_f (ltI_f v2), ob]
 have hpw : (1 : Nat) ≤ 2 ^ v.toNat := Nat.one_le_two_pow
 have hw : IntKind.wrap .u64 (1 * 2 ^ (min v.toNat 64)) = ((2 ^ v.toNat : Nat) : Int) := by
  rw [Nat.min_eq_left (by omega), wrapU]
  have e2 : (1 : Int) * 2 ^ v.toNat = ((2 ^ v.toNat : Nat) : Int) := by simp
  rw [e2]
  exact Int.emod_eq_of_lt (by omega) (by omega)
 rw [hw, ← hl]
 exact breakS_l0 hN d hd ha c hb hpw (by omega) 10000 N _ d0 _ (by omega) (by omega) (by omega) hp
end
end Go.Proofs.Ytnddjmhpofhfjaa.Am
set_option linter.unusedVariables false
set_option linter.unusedSimpArgs false
set_option linter.unusedSectionVars false
namespace Go.Proofs.Ytnddjmhpofhfjaa.Am
open Go
section
variable {N : Nat} (hN : 100000000 ≤ N) (d : List MvT) (hd : d.length ≤ 1000000)
include hN hd
abbrev SdB (a b : Int) (d : List MvT) (y : Bool × List MvT) : Prop := W a b d y.2 ∧ (y.1 = true → Sd a b y.2)
omit hN hd in
theorem Sd.above {a i p q : Int} {d : List MvT} (h : Sd a i d) (ha : 0 ≤ a) (hi : i ≤ d.length) (hp : i ≤ p) (hq : i ≤ q) : Sd a i ((d.set p.toNat (gD z0 d q)).set q.toNat (gD z0 d p)) := by
 intro s t g1 g2 g3
 rw [swp_at (by omega) (by omega) (by omega) (by omega), swp_at (by omega) (by omega) (by omega) (by omega), if_neg (by omega), if_neg (by omega), if_neg (by omega), if_neg (by omega)]
 exact h s t g1 g2 g3
theorem partS_l3 {d0 : List MvT} {a b i j : Int} {B : Nat} (ha : 0 ≤ a) (hai : a ≤ i) (hib : i ≤ b) (hb : b ≤ d.length) (hj : 0 ≤ j ∧ j ≤ 5) (h0 : ∀ n d', B ≤ n → W a b d d' → Sd a i d' → Ret (Q99.l0 N d0 a b n i (j + 1) d') (SdB a b d)) :
  ∀ (k n : Nat) (t : Int) (d' : List MvT), b - t ≤ k → i < t → t ≤ 1000001 → B + k + 1 ≤ n → W a b d d' → Sd a i d' → Ret (Q99.l3 N d0 a b n i j t d') (SdB a b d) := by
 intro k
 induction k with
 | zero =>
  intro n t d' hk h1 h2 hn hp hS
  obtain ⟨n, rfl⟩ : ∃ m, n = m + 1 := ⟨n - 1, by omega⟩
  rw [Q99.l3_s, Q99.s3, bif_f (ltI_f (by omega))]
  simp (disch := omega) only [w64_id]
  exact h0 n d' (by omega) hp hS
 | succ k ih =>
  intro n t d' hk h1 h2 hn hp hS
  have hl := hp.len
  obtain ⟨n, rfl⟩ : ∃ m, n = m + 1 := ⟨n - 1, by omega⟩
  rw [Q99.l3_s, Q99.s3]
  refine Ret.bif (fun c => ?_) (fun _ => by simpa (disch := omega) only [w64_id] using h0 n d' (by omega) hp hS)
  rw [ltI_iff] at c
  simp (disch := omega) only [w64_id, chk_idx, List.length_set, cmpM_eq (show 4 ≤ N by omega), ob]
  refine Ret.bif (fun _ => h0 n d' (by omega) hp hS) (fun _ => ?_)
  exact ih n (t + 1) _ (by omega) (by omega) (by omega) (by omega) (hp.swp ha hb (by omega) (by omega) (by omega) (by omega)) (hS.above ha (by omega) (by omega) (by omega))
theorem partS_l2 {d0 : List MvT} {a b i j : Int} {B : Nat} (ha : 0 ≤ a) (hai : a + 1 ≤ i) (hib : i ≤ b) (hb : b ≤ d.length) (hLo : Lo a b d) (hab : a < b) (hj : 0 ≤ j ∧ j ≤ 5) (h0 : ∀ n d', B ≤ n → W a b d d' → Sd a i d' → Ret (Q99.l0 N d0 a b n i (j + 1) d') (SdB a b d)) :
  ∀ (k n : Nat) (t : Int) (d' : List MvT), t ≤ k → a ≤ t → t < i → B + 1000010 + k + 1 ≤ n → W a b d d' → Ins a (i - 1) t d' → Ret (Q99.l2 N d0 a b n i j t d') (SdB a b d) := by
 have fin : ∀ (n : Nat) (d' : List MvT), B + 1000010 ≤ n → W a b d d' → Sd a i d' → Ret (bif (leI 2 (b - i)) then (Q99.l3 N d0 a b n i j (i + 1) d') else Q99.l0 N d0 a b n i (j + 1) d') (SdB a b d) := by
  intro n d' hn hp hS
  refine Ret.bif (fun _ => ?_) (fun _ => h0 n d' (by omega) hp hS)
  exact partS_l3 hN d hd ha (by omega) hib hb hj h0 1000001 n (i + 1) d' (by omega) (by omega) (by omega) (by omega) hp hS
 intro k
 induction k with
 | zero =>
  intro n t d' hk h1 h2 hn hp hI
  obtain ⟨n, rfl⟩ : ∃ m, n = m + 1 := ⟨n - 1, by omega⟩
  rw [Q99.l2_s, Q99.s2, bif_f (leI_f (by omega))]
  simp (disch := omega) only [w64_id]
  exact fin n d' (by omega) hp (by have := hI.fin (Or.inl (by omega)); rwa [show i - 1 + 1 = i by omega] at this)
 | succ k ih =>
  intro n t d' hk h1 h2 hn hp hI
  have hl := hp.len
  obtain ⟨n, rfl⟩ : ∃ m, n = m + 1 := ⟨n - 1, by omega⟩
  rw [Q99.l2_s, Q99.s2]
  refine Ret.bif (fun c => ?_) (fun c => ?_)
  ·rw [leI_iff] at c
   simp (disch := omega) only [w64_id, chk_idx, List.length_set, cmpM_eq (show 4 ≤ N by omega), ob]
   refine Ret.bif (fun c2 => fin n d' (by omega) hp ?_) (fun c2 => ?_)
   ·rw [not_t, ltI_iff'] at c2
    have := hI.fin (Or.inr (Int.not_lt.2 c2))
    rwa [show i - 1 + 1 = i by omega] at this
   ·rw [not_f, ltI_iff] at c2
    by_cases hta : t = a
    ·exfalso
     have := (hLo.W hp hb) (by omega) a (Int.le_refl _) hab
     rw [hta] at c2
     exact this c2
    ·exact ih n (t - 1) _ (by omega) (by omega) (by omega) (by omega) (hp.swp ha hb (by omega) (by omega) (by omega) (by omega)) (hI.step ha (by omega) (by omega) (by omega) c2)
  ·rw [leI_iff'] at c
   have := fin n d' (by omega) hp (by have := hI.fin (Or.inl (by omega)); rwa [show i - 1 + 1 = i by omega] at this)
   simpa (disch := omega) only [w64_id] using this
theorem partS_l1 {d0 : List MvT} {a b j : Int} {B : Nat} (ha : 0 ≤ a) (hab : a < b) (hb : b ≤ d.length) (hLo : Lo a b d) (hj : 0 ≤ j ∧ j ≤ 4) (h0 : ∀ n i d', a + 1 ≤ i → i ≤ b → B ≤ n → W a b d d' → Sd a i d' → Ret (Q99.l0 N d0 a b n i (j + 1) d') (SdB a b d)) :
  ∀ (k n : Nat) (i : Int) (d' : List MvT), b - i ≤ k → a + 1 ≤ i → i ≤ b → B + 2000030 + k + 1 ≤ n → W a b d d' → Sd a i d' → Ret (Q99.l1 N d0 a b n i j d') (SdB a b d) := by
 intro k
 induction k with
 | zero =>
  intro n i d' hk h1 h2 hn hp hS
  obtain ⟨n, rfl⟩ : ∃ m, n = m + 1 := ⟨n - 1, by omega⟩
  rw [Q99.l1_s, Q99.s1, bif_f (ltI_f (by omega)), bif_t (eqI_t (by omega))]
  obtain rfl : i = b := by omega
  exact Ret.ret ⟨hp, fun _ => hS⟩
 | succ k ih =>
  intro n i d' hk h1 h2 hn hp hS
  have hl := hp.len
  obtain ⟨n, rfl⟩ : ∃ m, n = m + 1 := ⟨n - 1, by omega⟩
  rw [Q99.l1_s, Q99.s1]
  refine Ret.bif (fun c => ?_) (fun c => ?_)
  ·rw [ltI_iff] at c
   simp (disch := omega) only [w64_id, chk_idx, List.length_set, cmpM_eq (show 4 ≤ N by omega), ob]
   refine Ret.bif (fun c2 => ih n (i + 1) d' (by omega) (by omega) (by omega) (by omega) hp ?_) (fun c2 => ?_)
   ·rw [not_t, ltI_iff'] at c2
    exact hS.ins.fin (Or.inr (Int.not_lt.2 c2))
   refine Ret.bif (fun c3 => Ret.ret ⟨hp, fun _ => by rw [eqI_iff] at c3; omega⟩) (fun _ => Ret.bif (fun _ => Ret.ret ⟨hp, fun h => by cases h⟩) (fun _ => ?_))
   have hp' := hp.swp ha hb (i := i) (j := i - 1) (by omega) (by omega) (by omega) (by omega)
   have hI : Ins a (i - 1) (i - 1) ((d'.set i.toNat (gD z0 d' (i - 1))).set (i - 1).toNat (gD z0 d' i)) := by
    intro p q g1 g2 g3 g4
    rw [swp_at (by omega) (by omega) (by omega) (by omega), swp_at (by omega) (by omega) (by omega) (by omega), if_neg (by omega), if_neg (by omega), if_neg (by omega), if_neg (by omega)]
    exact hS p q g1 (by omega) (by omega)
   refine Ret.bif (fun _ => ?_) (fun c4 => ?_)
   ·exact partS_l2 hN d hd ha h1 h2 hb hLo hab (by omega) (fun n d' h hp hS => h0 n i d' h1 h2 h hp hS) 1000000 n (i - 1) _ (by omega) (by omega) (by omega) (by omega) hp' hI
   ·rw [leI_iff'] at c4
    have hS' : Sd a i ((d'.set i.toNat (gD z0 d' (i - 1))).set (i - 1).toNat (gD z0 d' i)) := fun p q g1 g2 g3 => by
     obtain rfl : p = q := by omega
     exact leM.refl _
    refine Ret.bif (fun _ => ?_) (fun _ => h0 n i _ h1 h2 (by omega) hp' hS')
    exact partS_l3 hN d hd ha (by omega) h2 hb (by omega) (fun n d' h hp hS => h0 n i d' h1 h2 h hp hS) 1000000 n (i + 1) _ (by omega) (by omega) (by omega) (by omega) hp' hS'
  ·rw [ltI_iff'] at c
   rw [bif_t (eqI_t (by omega))]
   obtain rfl : i = b := by omega
   exact Ret.ret ⟨hp, fun _ => hS⟩
theorem partS_l0 {d0 : List MvT} {a b : Int} (ha : 0 ≤ a) (hab : a < b) (hb : b ≤ d.length) (hLo : Lo a b d) : ∀ (k n : Nat) (i j : Int) (d' : List MvT), 5 - j ≤ k → 0 ≤ j → j ≤ 5 → a + 1 ≤ i → i ≤ b → 4000100 * k + 1 ≤ n → W a b d d' → Sd a i d' → Ret (Q99.l0 N d0 a b n i j d') (SdB a b d) := by
 intro k
 induction k with
 | zero =>
  intro n i j d' hk h1 h2 h3 h4 hn hp hS
  obtain ⟨n, rfl⟩ : ∃ m, n = m + 1 := ⟨n - 1, by omega⟩
  rw [Q99.l0_s, Q99.s0, bif_f (ltI_f (by omega))]
  exact Ret.ret ⟨hp, fun h => by cases h⟩
 | succ k ih =>
  intro n i j d' hk h1 h2 h3 h4 hn hp hS
  obtain ⟨n, rfl⟩ : ∃ m, n = m + 1 := ⟨n - 1, by omega⟩
  rw [Q99.l0_s, Q99.s0]
  refine Ret.bif (fun c => ?_) (fun _ => Ret.ret ⟨hp, fun h => by cases h⟩)
  rw [ltI_iff] at c
  exact partS_l1 hN d hd (B := 4000100 * k + 1) ha hab hb hLo (by omega) (fun n i d' g1 g2 g3 hp hS => ih n i (j + 1) d' (by omega) (by omega) (by omega) g1 g2 g3 hp hS) 1000000 n i d' (by omega) h3 h4 (by omega) hp hS
theorem partS {d0 : List MvT} {a b : Int} (ha : 0 ≤ a) (hab : a < b) (hb : b ≤ d.length) (hLo : Lo a b d) (hp : W a b d d0) : Ret (Q99 N d0 a b) (SdB a b d) := by
 unfold Q99 Q99.e
 rw [w64_id (by omega) (by omega)]
 exact partS_l0 hN d hd ha hab hb hLo 5 N (a + 1) 0 d0 (by omega) (by omega) (by omega) (by omega) (by omega) (by omega) hp (fun p q g1 g2 g3 => by
  obtain rfl : p = q := by omega
  exact leM.refl _)
structure EqI (a b i j : Int) (pv : MvT) (d d' : List MvT) : Prop where
 w : W a b d d'
 pe : gD z0 d' a = pv
 lo : ∀ k, a < k → k < i → leM (gD z0 d' k) pv
 hi : ∀ k, j < k → k < b → cmpM pv (gD z0 d' k) < 0
abbrev EqQ (a b : Int) (pv : MvT) (d : List MvT) (y : Int × List MvT) : Prop := (a < y.1 ∧ y.1 ≤ b) ∧ W a b d y.2 ∧ (∀ k, a ≤ k → k < y.1 → leM (gD z0 y.2 k) pv) ∧ ∀ k, y.1 ≤ k → k < b → cmpM pv (gD z0 y.2 k) < 0
omit hN hd in
theorem EqI.fin {a b i j : Int} {pv : MvT} {d d' : List MvT} (h : EqI a b i j pv d d') (h1 : a < i) (h2 : i ≤ b) (h3 : j < i) : EqQ a b pv d (i, d') :=
 ⟨⟨h1, h2⟩, h.w, fun k g1 g2 => by
  by_cases e : k = a
  ·rw [e, h.pe]; exact leM.refl _
  ·exact h.lo k (by omega) g2, fun k g1 g2 => h.hi k (by omega) g2⟩
theorem equS_l {d0 : List MvT} {a b p : Int} {pv : MvT} (ha : 0 ≤ a) (hb : b ≤ d.length) : ∀ (n : Nat) (i j : Int) (d' : List MvT), a < i → i ≤ j + 2 → i ≤ b → j < b → EqI a b i j pv d d' →
  (3 * (j - i + 2) + 1 ≤ n → (i ≤ j → cmpM pv (gD z0 d' i) < 0) → Ret (Q100.l2 N d0 a b p n i j d') (EqQ a b pv d)) ∧
  (3 * (j - i + 2) + 2 ≤ n → Ret (Q100.l1 N d0 a b p n i j d') (EqQ a b pv d)) ∧
  (3 * (j - i + 2) + 3 ≤ n → Ret (Q100.l0 N d0 a b p n i j d') (EqQ a b pv d)) := by
 intro n
 induction n with
 | zero => exact fun i j d' h1 h2 hib h3 hp => ⟨fun h => by omega, fun h => by omega, fun h => by omega⟩
 | succ n ih =>
  intro i j d' h1 h2 hib h3 hp
  have hl := hp.w.len
  have hpv : gD dM d' a = pv := hp.pe
  refine ⟨fun h hx => ?_, fun h => ?_, fun h => ?_⟩
  ·rw [Q100.l2_s, Q100.s2]
   refine Ret.bif (fun c => ?_) (fun c => ?_)
   ·rw [leI_iff] at c
    simp (disch := omega) only [w64_id, chk_idx, List.length_set, cmpM_eq (show 4 ≤ N by omega), ob]
    rw [hpv]
    refine Ret.bif (fun c2 => (ih i (j - 1) d' h1 (by omega) hib (by omega) ⟨hp.w, hp.pe, hp.lo, fun k g1 g2 => ?_⟩).1 (by omega) (fun _ => hx c)) (fun c2 => ?_)
    ·rw [ltI_iff] at c2
     by_cases e : k = j
     ·rw [e]; exact c2
     ·exact hp.hi k (by omega) g2
    ·rw [ltI_iff'] at c2
     refine Ret.bif (fun c => Ret.ret (by rw [ltI_iff] at c; omega)) (fun c3 => ?_)
     have hat : ∀ q : Int, 0 ≤ q → q < d'.length → gD z0 ((d'.set i.toNat (gD z0 d' j)).set j.toNat (gD z0 d' i)) q = if q = j then gD z0 d' i else if q = i then gD z0 d' j else gD z0 d' q := fun q g1 g2 => swp_at (by omega) (by omega) g1 g2
     refine (ih (i + 1) (j - 1) ((d'.set i.toNat (gD z0 d' j)).set j.toNat (gD z0 d' i)) (by omega) (by omega) (by omega) (by omega) ⟨hp.w.swp ha hb (by omega) (by omega) (by omega) (by omega), ?_, fun k g1 g2 => ?_, fun k g1 g2 => ?_⟩).2.2 (by omega)
     ·rw [hat a ha (by omega), if_neg (by omega), if_neg (by omega)]; exact hp.pe
     ·rw [hat k (by omega) (by omega)]
      by_cases e1 : k = j
      ·rw [if_pos e1]
       obtain rfl : i = j := by omega
       exact Int.not_lt.2 c2
      ·rw [if_neg e1]
       by_cases e2 : k = i
       ·rw [if_pos e2]; exact Int.not_lt.2 c2
       ·rw [if_neg e2]; exact hp.lo k g1 (by omega)
     ·rw [hat k (by omega) (by omega)]
      by_cases e1 : k = j
      ·rw [if_pos e1]; exact hx c
      ·rw [if_neg e1, if_neg (by omega)]; exact hp.hi k (by omega) g2
   ·rw [leI_iff'] at c
    rw [bif_t (ltI_t c)]
    exact Ret.ret (hp.fin h1 hib c)
  ·rw [Q100.l1_s, Q100.s1]
   refine Ret.bif (fun c => ?_) (fun c => (ih i j d' h1 h2 hib h3 hp).1 (by omega) (fun g => by rw [leI_iff'] at c; omega))
   rw [leI_iff] at c
   simp (disch := omega) only [w64_id, chk_idx, List.length_set, cmpM_eq (show 4 ≤ N by omega), ob]
   rw [hpv]
   refine Ret.bif (fun c2 => (ih (i + 1) j d' (by omega) (by omega) (by omega) h3 ⟨hp.w, hp.pe, fun k g1 g2 => ?_, hp.hi⟩).2.1 (by omega)) (fun c2 => (ih i j d' h1 h2 hib h3 hp).1 (by omega) (fun _ => ?_))
   ·rw [not_t, ltI_iff'] at c2
    by_cases e : k = i
    ·rw [e]; exact Int.not_lt.2 c2
    ·exact hp.lo k g1 (by omega)
   ·rw [not_f, ltI_iff] at c2
    exact c2
  ·rw [Q100.l0_s, Q100.s0]
   exact (ih i j d' h1 h2 hib h3 hp).2.1 (by omega)
theorem equS {d0 : List MvT} {a b p : Int} (ha : 0 ≤ a) (hab : a < b) (hb : b ≤ d.length) (hpv : a ≤ p ∧ p < b) (hp : W a b d d0) : Ret (Q100 N d0 a b p) (EqQ a b (gD z0 d0 p) d) := by
 unfold Q100 Q100.e
 have hl := hp.len
 simp (disch := omega) only [w64_id, chk_idx, List.length_set]
 refine (equS_l hN d hd (pv := gD z0 d0 p) ha hb N (a + 1) (b - 1) ((d0.set a.toNat (gD z0 d0 p)).set p.toNat (gD z0 d0 a)) (by omega) (by omega) (by omega) (by omega) ⟨hp.swp ha hb (by omega) (by omega) (by omega) (by omega), ?_, fun k g1 g2 => by omega, fun k g1 g2 => by omega⟩).2.2 (by omega)
 rw [swp_at (by omega) (by omega) ha (by omega)]
 by_cases e : a = p
 ·rw [if_pos e, e]
 ·rw [if_neg e, if_pos rfl]
structure PaI (a b i j : Int) (pv : MvT) (d d' : List MvT) : Prop where
 w : W a b d d'
 pe : gD z0 d' a = pv
 lo : ∀ k, a < k → k < i → cmpM (gD z0 d' k) pv < 0
 hi : ∀ k, j < k → k < b → leM pv (gD z0 d' k)
abbrev PaQ (a b : Int) (d : List MvT) (y : Int × (Bool × List MvT)) : Prop := (a ≤ y.1 ∧ y.1 < b) ∧ W a b d y.2.2 ∧ (∀ k, a ≤ k → k < y.1 → leM (gD z0 y.2.2 k) (gD z0 y.2.2 y.1)) ∧ ∀ k, y.1 < k → k < b → leM (gD z0 y.2.2 y.1) (gD z0 y.2.2 k)
omit hN hd in
theorem PaI.fin {a b i j : Int} {pv : MvT} {d d' : List MvT} (h : PaI a b i j pv d d') (ha : 0 ≤ a) (hb : b ≤ d.length) (h1 : a ≤ j) (h2 : j < b) (h3 : j < i) (f : Bool) : PaQ a b d (j, (f, (d'.set j.toNat (gD z0 d' a)).set a.toNat (gD z0 d' j))) := by
 have hl := h.w.len
 have hat : ∀ q : Int, 0 ≤ q → q < d'.length → gD z0 ((d'.set j.toNat (gD z0 d' a)).set a.toNat (gD z0 d' j)) q = if q = a then gD z0 d' j else if q = j then gD z0 d' a else gD z0 d' q := fun q g1 g2 => swp_at (by omega) (by omega) g1 g2
 have hjv : gD z0 ((d'.set j.toNat (gD z0 d' a)).set a.toNat (gD z0 d' j)) j = pv := by
  rw [hat j (by omega) (by omega)]
  by_cases e : j = a
  ·rw [if_pos e, e]; exact h.pe
  ·rw [if_neg e, if_pos rfl]; exact h.pe
 refine ⟨⟨h1, h2⟩, h.w.swp ha hb h1 h2 (by omega) (by omega), fun k g1 g2 => ?_, fun k g1 g2 => ?_⟩
 ·dsimp only at g2 ⊢
  rw [hjv, hat k (by omega) (by omega)]
  by_cases e : k = a
  ·rw [if_pos e]
   exact leM.of_lt (h.lo j (by omega) (by omega))
  ·rw [if_neg e, if_neg (by omega)]
   exact leM.of_lt (h.lo k (by omega) (by omega))
 ·dsimp only at g1 ⊢
  rw [hjv, hat k (by omega) (by omega), if_neg (by omega), if_neg (by omega)]
  exact h.hi k g1 g2
omit hN hd in
theorem PaI.swap {a b i j : Int} {pv : MvT} {d d' : List MvT} (h : PaI a b i j pv d d') (ha : 0 ≤ a) (hb : b ≤ d.length) (h1 : a < i) (h2 : i ≤ j) (h3 : j < b) (hi : leM pv (gD z0 d' i)) (hj : cmpM (gD z0 d' j) pv < 0) : PaI a b (i + 1) (j - 1) pv d ((d'.set i.toNat (gD z0 d' j)).set j.toNat (gD z0 d' i)) := by
 have hl := h.w.len
 have hat : ∀ q : Int, 0 ≤ q → q < d'.length → gD z0 ((d'.set i.toNat (gD z0 d' j)).set j.toNat (gD z0 d' i)) q = if q = j then gD z0 d' i else if q = i then gD z0 d' j else gD z0 d' q := fun q g1 g2 => swp_at (by omega) (by omega) g1 g2
 refine ⟨h.w.swp ha hb (by omega) (by omega) (by omega) (by omega), ?_, fun k g1 g2 => ?_, fun k g1 g2 => ?_⟩
 ·rw [hat a ha (by omega), if_neg (by omega), if_neg (by omega)]; exact h.pe
 ·rw [hat k (by omega) (by omega)]
  by_cases e1 : k = j
  ·rw [if_pos e1]
   obtain rfl : i = j := by omega
   exact hj
  ·rw [if_neg e1]
   by_cases e2 : k = i
   ·rw [if_pos e2]; exact hj
   ·rw [if_neg e2]; exact h.lo k g1 (by omega)
 ·rw [hat k (by omega) (by omega)]
  by_cases e1 : k = j
  ·rw [if_pos e1]; exact hi
  ·rw [if_neg e1, if_neg (by omega)]; exact h.hi k (by omega) g2
omit hN hd in
theorem PaI.down {a b i j : Int} {pv : MvT} {d d' : List MvT} (h : PaI a b i j pv d d') (c2 : 0 ≤ cmpM (gD z0 d' j) pv) : PaI a b i (j - 1) pv d d' :=
 ⟨h.w, h.pe, h.lo, fun k g1 g2 => by
  by_cases e : k = j
  ·rw [e]; exact Int.not_lt.2 c2
  ·exact h.hi k (by omega) g2⟩
omit hN hd in
theorem PaI.up {a b i j : Int} {pv : MvT} {d d' : List MvT} (h : PaI a b i j pv d d') (c2 : cmpM (gD z0 d' i) pv < 0) : PaI a b (i + 1) j pv d d' :=
 ⟨h.w, h.pe, fun k g1 g2 => by
  by_cases e : k = i
  ·rw [e]; exact c2
  ·exact h.lo k g1 (by omega), h.hi⟩
theorem parS_l {d0 : List MvT} {a b p : Int} {pv : MvT} (ha : 0 ≤ a) (hb : b ≤ d.length) : ∀ (n : Nat) (i j : Int) (d' : List MvT), a < i → i ≤ j + 2 → a ≤ j → i ≤ b → j < b → PaI a b i j pv d d' →
  (3 * (j - i + 2) + 1 ≤ n → (i ≤ j → leM pv (gD z0 d' i)) → Ret (Q101.l4 N d0 a b p n i j d') (PaQ a b d)) ∧
  (3 * (j - i + 2) + 2 ≤ n → Ret (Q101.l3 N d0 a b p n i j d') (PaQ a b d)) ∧
  (3 * (j - i + 2) + 3 ≤ n → Ret (Q101.l2 N d0 a b p n i j d') (PaQ a b d)) := by
 intro n
 induction n with
 | zero => exact fun i j d' h1 h2 hja hib h3 hp => ⟨fun h => by omega, fun h => by omega, fun h => by omega⟩
 | succ n ih =>
  intro i j d' h1 h2 hja hib h3 hp
  have hl := hp.w.len
  have hpv : gD dM d' a = pv := hp.pe
  refine ⟨fun h hx => ?_, fun h => ?_, fun h => ?_⟩
  ·rw [Q101.l4_s, Q101.s4]
   refine Ret.bif (fun c => ?_) (fun c => ?_)
   ·rw [leI_iff] at c
    simp (disch := omega) only [w64_id, chk_idx, List.length_set, cmpM_eq (show 4 ≤ N by omega), ob]
    refine Ret.bif (fun c2 => (ih i (j - 1) d' h1 (by omega) (by omega) hib (by omega) (hp.down (by rw [not_t, ltI_iff', hpv] at c2; exact c2))).1 (by omega) (fun _ => hx c)) (fun c2 => ?_)
    rw [not_f, ltI_iff, hpv] at c2
    refine Ret.bif (fun c3 => by rw [ltI_iff] at c3; omega) (fun c3 => ?_)
    exact (ih (i + 1) (j - 1) _ (by omega) (by omega) (by omega) (by omega) (by omega) (hp.swap ha hb h1 c h3 (hx c) c2)).2.2 (by omega)
   ·rw [leI_iff'] at c
    rw [bif_t (ltI_t c)]
    simp (disch := omega) only [w64_id, chk_idx, List.length_set]
    exact Ret.ret (hp.fin ha hb hja h3 c _)
  ·rw [Q101.l3_s, Q101.s3]
   refine Ret.bif (fun c => ?_) (fun c => (ih i j d' h1 h2 hja hib h3 hp).1 (by omega) (fun g => by rw [leI_iff'] at c; omega))
   rw [leI_iff] at c
   simp (disch := omega) only [w64_id, chk_idx, List.length_set, cmpM_eq (show 4 ≤ N by omega), ob]
   refine Ret.bif (fun c2 => (ih (i + 1) j d' (by omega) (by omega) hja (by omega) h3 (hp.up (by rw [ltI_iff, hpv] at c2; exact c2))).2.1 (by omega)) (fun c2 => (ih i j d' h1 h2 hja hib h3 hp).1 (by omega) (fun _ => by rw [ltI_iff', hpv] at c2; exact Int.not_lt.2 c2))
  ·rw [Q101.l2_s, Q101.s2]
   exact (ih i j d' h1 h2 hja hib h3 hp).2.1 (by omega)
theorem parS_l1 {d0 : List MvT} {a b p : Int} {pv : MvT} (ha : 0 ≤ a) (hb : b ≤ d.length) : ∀ (n : Nat) (i j : Int) (d' : List MvT), a < i → i ≤ j + 2 → a ≤ j → i ≤ b → j < b → PaI a b i j pv d d' → (i ≤ j → leM pv (gD z0 d' i)) →
  3 * (j - i + 2) + 4 ≤ n → Ret (Q101.l1 N d0 a b p n i j d') (PaQ a b d) := by
 intro n
 induction n with
 | zero => exact fun i j d' h1 h2 hja hib h3 hp hx h => by omega
 | succ n ih =>
  intro i j d' h1 h2 hja hib h3 hp hx h
  have hl := hp.w.len
  have hpv : gD dM d' a = pv := hp.pe
  rw [Q101.l1_s, Q101.s1]
  refine Ret.bif (fun c => ?_) (fun c => ?_)
  ·rw [leI_iff] at c
   simp (disch := omega) only [w64_id, chk_idx, List.length_set, cmpM_eq (show 4 ≤ N by omega), ob]
   refine Ret.bif (fun c2 => ih i (j - 1) d' h1 (by omega) (by omega) hib (by omega) (hp.down (by rw [not_t, ltI_iff', hpv] at c2; exact c2)) (fun _ => hx c) (by omega)) (fun c2 => ?_)
   rw [not_f, ltI_iff, hpv] at c2
   refine Ret.bif (fun c3 => by rw [ltI_iff] at c3; omega) (fun c3 => ?_)
   exact (parS_l hN d hd ha hb n (i + 1) (j - 1) _ (by omega) (by omega) (by omega) (by omega) (by omega) (hp.swap ha hb h1 c h3 (hx c) c2)).2.2 (by omega)
  ·rw [leI_iff'] at c
   rw [bif_t (ltI_t c)]
   simp (disch := omega) only [w64_id, chk_idx, List.length_set]
   exact Ret.ret (hp.fin ha hb hja h3 c _)
theorem parS_l0 {d0 : List MvT} {a b p : Int} {pv : MvT} (ha : 0 ≤ a) (hab : a < b) (hb : b ≤ d.length) : ∀ (k n : Nat) (i : Int) (d' : List MvT), b - i ≤ k → a < i → i ≤ b → 3000010 + k + 1 ≤ n → PaI a b i (b - 1) pv d d' → Ret (Q101.l0 N d0 a b p n i d') (PaQ a b d) := by
 intro k
 induction k with
 | zero =>
  intro n i d' hk h1 h2 hn hp
  obtain ⟨n, rfl⟩ : ∃ m, n = m + 1 := ⟨n - 1, by omega⟩
  rw [Q101.l0_s, Q101.s0]
  simp (disch := omega) only [w64_id]
  rw [bif_f (leI_f (by omega))]
  exact parS_l1 hN d hd ha hb n i (b - 1) d' h1 (by omega) (by omega) h2 (by omega) hp (fun g => by omega) (by omega)
 | succ k ih =>
  intro n i d' hk h1 h2 hn hp
  have hl := hp.w.len
  have hpv : gD dM d' a = pv := hp.pe
  obtain ⟨n, rfl⟩ : ∃ m, n = m + 1 := ⟨n - 1, by omega⟩
  rw [Q101.l0_s, Q101.s0]
  simp (disch := omega) only [w64_id]
  refine Ret.bif (fun c => ?_) (fun c => parS_l1 hN d hd ha hb n i (b - 1) d' h1 (by omega) (by omega) h2 (by omega) hp (fun g => by rw [leI_iff'] at c; omega) (by omega))
  rw [leI_iff] at c
  simp (disch := omega) only [w64_id, chk_idx, List.length_set, cmpM_eq (show 4 ≤ N by omega), ob]
  exact Ret.bif (fun c2 => ih n (i + 1) d' (by omega) (by omega) (by omega) (by omega) (hp.up (by rw [ltI_iff, hpv] at c2; exact c2))) (fun c2 => parS_l1 hN d hd ha hb n i (b - 1) d' h1 (by omega) (by omega) h2 (by omega) hp (fun _ => by rw [ltI_iff', hpv] at c2; exact Int.not_lt.2 c2) (by omega))
theorem parS {d0 : List MvT} {a b p : Int} (ha : 0 ≤ a) (hab : a < b) (hb : b ≤ d.length) (hpv : a ≤ p ∧ p < b) (hp : W a b d d0) : Ret (Q101 N d0 a b p) (PaQ a b d) := by
 unfold Q101 Q101.e
 have hl := hp.len
 simp (disch := omega) only [w64_id, chk_idx, List.length_set]
 refine parS_l0 hN d hd (pv := gD z0 d0 p) ha hab hb 1000000 N (a + 1) ((d0.set a.toNat (gD z0 d0 p)).set p.toNat (gD z0 d0 a)) (by omega) (by omega) (by omega) (by omega) ⟨hp.swp ha hb (by omega) (by omega) (by omega) (by omega), ?_, fun k g1 g2 => by omega, fun k g1 g2 => by omega⟩
 rw [swp_at (by omega) (by omega) ha (by omega)]
 by_cases e : a = p
 ·rw [if_pos e, e]
 ·rw [if_neg e, if_pos rfl]
end
end Go.Proofs.Ytnddjmhpofhfjaa.Am
set_option linter.unusedVariables false
set_option linter.unusedSimpArgs false
set_option linter.unusedSectionVars false
namespace Go.Proofs.Ytnddjmhpofhfjaa.Am
open Go
abbrev SQ (a b : Int) (d : List MvT) (y : List MvT) : Prop := W a b d y ∧ Sd a b y
theorem Lo.sub {a b b' : Int} {d : List MvT} (h : Lo a b d) (hb : b' ≤ b) : Lo a b' d := fun h0 i g1 g2 => h h0 i g1 (by omega)
theorem Sd.join {a b m : Int} {x z : List MvT} (h1 : ∀ k, a ≤ k → k < m → leM (gD z0 x k) (gD z0 x m)) (h2 : ∀ k, m < k → k < b → leM (gD z0 x m) (gD z0 x k)) (e : gD z0 z m = gD z0 x m)
  (l : ∀ i, a ≤ i → i < m → ∃ k, a ≤ k ∧ k < m ∧ gD z0 z i = gD z0 x k) (r : ∀ i, m + 1 ≤ i → i < b → ∃ k, m + 1 ≤ k ∧ k < b ∧ gD z0 z i = gD z0 x k) (sl : Sd a m z) (sr : Sd (m + 1) b z) : Sd a b z := by
 have L : ∀ i, a ≤ i → i < m → leM (gD z0 z i) (gD z0 z m) := fun i g1 g2 => by
  obtain ⟨k, k1, k2, k3⟩ := l i g1 g2
  rw [k3, e]; exact h1 k k1 k2
 have R : ∀ i, m < i → i < b → leM (gD z0 z m) (gD z0 z i) := fun i g1 g2 => by
  obtain ⟨k, k1, k2, k3⟩ := r i (by omega) g2
  rw [k3, e]; exact h2 k (by omega) k2
 intro i j g1 g2 g3
 by_cases c1 : j < m
 ·exact sl i j g1 g2 c1
 ·by_cases c2 : m < i
  ·exact sr i j (by omega) g2 g3
  ·by_cases c3 : i = m
   ·rw [c3]
    by_cases c4 : j = m
    ·rw [c4]; exact leM.refl _
    ·exact R j (by omega) g3
   ·by_cases c4 : j = m
    ·rw [c4]; exact L i g1 (by omega)
    ·exact (L i g1 (by omega)).trans (R j (by omega) g3)
section
variable {N : Nat} (hN : 100000000 ≤ N)
include hN
theorem pdTail_S {self : List MvT → Int → Int → Int → Option (List MvT)} {r0 : Int → Int → Int → Bool → Bool → List MvT → Option (List MvT)} {a b : Int} (y : List MvT) (hy : y.length ≤ 8192) (ha : 0 ≤ a) (hab : a < b) (hb : b ≤ y.length)
  (hs : ∀ a' b' l x, a ≤ a' → a' ≤ b' → b' ≤ b → b' - a' < b - a → x.length = y.length → Lo a' b' x → Ret (self x a' b' l) (SQ a' b' x))
  (hr : ∀ a' b' l wB wP x, a ≤ a' → a' ≤ b' → b' ≤ b → b' - a' < b - a → x.length = y.length → Lo a' b' x → Ret (r0 a' b' l wB wP x) (SQ a' b' x))
  (lim : Int) (wB wP : Bool) (hLo : Lo a b y) {p : Int} (hpv : a ≤ p ∧ p < b) : Ret (pdTail N self r0 a b lim wB wP y p) (SQ a b y) := by
 have hpart : Ret ((Q101 N y a b p).bind fun y11 =>
  let v12 : Int := (w64 (Int.tdiv (w64 (b - a)) 8))
  bif (ltI (w64 (y11.1 - a)) (w64 (b - y11.1))) then ((self y11.2.2 a y11.1 lim).bind fun y15 =>
   r0 (w64 (y11.1 + 1)) b lim (leI v12 (w64 (y11.1 - a))) y11.2.1 y15)
  else (self y11.2.2 (w64 (y11.1 + 1)) b lim).bind fun y17 =>
  r0 a y11.1 lim (leI v12 (w64 (b - y11.1))) y11.2.1 y17) (SQ a b y) := by
  refine Ret.bnd (parS hN y (by omega) ha hab hb hpv (W.refl _ _ _)) fun y11 h11 => ?_
  obtain ⟨⟨g1, g2⟩, g3, g4, g5⟩ := h11
  have hlx := g3.len
  have hLx : Lo a b y11.2.2 := hLo.W g3 hb
  have e : w64 (y11.1 + 1) = y11.1 + 1 := w64_id (by omega) (by omega)
  simp only [e]
  refine Ret.bif (fun _ => ?_) (fun _ => ?_)
  ·refine Ret.bnd (hs a y11.1 _ y11.2.2 (by omega) g1 (by omega) (by omega) hlx (hLx.sub (by omega))) fun y15 h15 => ?_
   obtain ⟨q1, q2⟩ := h15
   have hl15 := q1.len
   have hout : ∀ k, y11.1 ≤ k → k < b → gD z0 y15 k = gD z0 y11.2.2 k := fun k l1 l2 => q1.out k (by omega) (by omega) (by omega)
   refine Ret.mono (hr (y11.1 + 1) b _ _ _ y15 (by omega) (by omega) (by omega) (by omega) (by omega) (fun _ i l1 l2 => by
    rw [show y11.1 + 1 - 1 = y11.1 by omega, hout _ (by omega) (by omega), hout _ (by omega) (by omega)]
    exact g5 i (by omega) l2)) fun z hz => ?_
   obtain ⟨r1, r2⟩ := hz
   have hlz := r1.len
   refine ⟨g3.trans ((q1.mono ha (Int.le_refl _) (by omega) (by omega)).trans (r1.mono ha (by omega) (by omega) (by omega))), ?_⟩
   refine Sd.join g4 (fun k l1 l2 => g5 k l1 l2) ?_ (fun i l1 l2 => ?_) (fun i l1 l2 => ?_) ?_ r2
   ·rw [r1.out _ (by omega) (by omega) (by omega), hout _ (by omega) (by omega)]
   ·rw [r1.out _ (by omega) (by omega) (by omega)]
    exact q1.sub i l1 l2
   ·obtain ⟨k, k1, k2, k3⟩ := r1.sub i l1 l2
    exact ⟨k, k1, k2, by rw [k3, hout _ (by omega) (by omega)]⟩
   ·exact q2.out r1 ha (by omega) (Or.inl (by omega))
  ·refine Ret.bnd (hs (y11.1 + 1) b _ y11.2.2 (by omega) (by omega) (by omega) (by omega) hlx (fun _ i l1 l2 => by
    rw [show y11.1 + 1 - 1 = y11.1 by omega]
    exact g5 i (by omega) l2)) fun y17 h17 => ?_
   obtain ⟨q1, q2⟩ := h17
   have hl17 := q1.len
   have hout : ∀ k, 0 ≤ k → k ≤ y11.1 → gD z0 y17 k = gD z0 y11.2.2 k := fun k l1 l2 => q1.out k (by omega) (by omega) (by omega)
   refine Ret.mono (hr a y11.1 _ _ _ y17 (by omega) g1 (by omega) (by omega) (by omega) (fun h0 i l1 l2 => by
    rw [hout _ (by omega) (by omega), hout _ (by omega) (by omega)]
    exact hLx h0 i l1 (by omega))) fun z hz => ?_
   obtain ⟨r1, r2⟩ := hz
   have hlz := r1.len
   refine ⟨g3.trans ((q1.mono ha (by omega) (by omega) (by omega)).trans (r1.mono ha (by omega) (by omega) (by omega))), ?_⟩
   refine Sd.join g4 (fun k l1 l2 => g5 k l1 l2) ?_ (fun i l1 l2 => ?_) (fun i l1 l2 => ?_) r2 ?_
   ·rw [r1.out _ (by omega) (by omega) (by omega), hout _ (by omega) (by omega)]
   ·obtain ⟨k, k1, k2, k3⟩ := r1.sub i l1 l2
    exact ⟨k, k1, k2, by rw [k3, hout _ (by omega) (by omega)]⟩
   ·rw [r1.out _ (by omega) (by omega) (by omega)]
    exact q1.sub i l1 l2
   ·exact q2.out r1 (by omega) (by omega) (Or.inr (by omega))
 unfold pdTail
 refine Ret.bif (fun c => ?_) (fun _ => hpart)
 rw [ltI_iff] at c
 simp (disch := omega) only [w64_id, chk_idx, cmpM_eq (show 4 ≤ N by omega), ob]
 refine Ret.bif (fun c2 => ?_) (fun _ => ?_)
 ·rw [not_t, ltI_iff'] at c2
  refine Ret.bnd (equS hN y (by omega) ha hab hb hpv (W.refl _ _ _)) fun y10 h10 => ?_
  obtain ⟨⟨g1, g2⟩, g3, g4, g5⟩ := h10
  have hlx := g3.len
  have hall : ∀ k, a ≤ k → k < b → leM (gD z0 y p) (gD z0 y10.2 k) := g3.all fun k l1 l2 => (show leM (gD z0 y p) (gD z0 y (a - 1)) from Int.not_lt.2 c2).trans (hLo c k l1 l2)
  refine Ret.mono (hr y10.1 b _ _ _ y10.2 (by omega) g2 (by omega) (by omega) hlx (fun _ i l1 l2 => (g4 (y10.1 - 1) (by omega) (by omega)).trans (leM.of_lt (g5 i l1 l2)))) fun z hz => ?_
  obtain ⟨r1, r2⟩ := hz
  have hout : ∀ k, 0 ≤ k → k < y10.1 → gD z0 z k = gD z0 y10.2 k := fun k l1 l2 => r1.out k (by omega) (by omega) (by omega)
  refine ⟨g3.trans (r1.mono ha (by omega) (by omega) (by omega)), fun i j l1 l2 l3 => ?_⟩
  by_cases c3 : j < y10.1
  ·rw [hout _ (by omega) (by omega), hout _ (by omega) c3]
   exact (g4 i l1 (by omega)).trans (hall j (by omega) l3)
  ·by_cases c4 : i < y10.1
   ·rw [hout _ (by omega) c4]
    obtain ⟨k, k1, k2, k3⟩ := r1.sub j (by omega) l3
    rw [k3]
    exact (g4 i l1 c4).trans (leM.of_lt (g5 k k1 k2))
   ·exact r2 i j (by omega) l2 l3
 ·have := hpart
  simpa (disch := omega) only [w64_id] using this
theorem pdqS_l0 {d0 : List MvT} {a0 b0 l0 : Int} {self : List MvT → Int → Int → Int → Option (List MvT)} {K : Int} {L : Nat} (hL : L ≤ 8192)
  (hs : ∀ (a' b' l : Int) (x : List MvT), 0 ≤ a' → a' ≤ b' → b' ≤ (L : Int) → b' - a' < K → x.length = L → Lo a' b' x → Ret (self x a' b' l) (SQ a' b' x)) :
  ∀ (m n : Nat) (a b lim : Int) (wB wP : Bool) (d : List MvT), b - a ≤ m → b - a ≤ K → 0 ≤ a → a ≤ b → b ≤ (L : Int) → m + 1 ≤ n → d.length = L → Lo a b d → Ret (Q89.l0 N self d0 a0 b0 l0 n a b lim wB wP d) (SQ a b d) := by
 intro m
 induction m using Nat.strongRecOn with
 | _ m ih =>
 intro n a b lim wB wP d hm hK ha hab hb hn hl hLo
 obtain ⟨n, rfl⟩ : ∃ q, n = q + 1 := ⟨n - 1, by omega⟩
 have hp := W.refl a b d
 have hb : b ≤ d.length := by omega
 rw [Q89.l0_s, Q89.s0]
 refine Ret.bif (fun c => Ret.bnd (insS (by omega) d (by omega) ha hab hb (by rw [leI_iff, w64_id (by omega) (by omega)] at c; exact c) (by omega) hp) fun y hy => Ret.ret hy) (fun c => ?_)
 rw [leI_iff', w64_id (by omega) (by omega)] at c
 have hab' : a < b := by omega
 refine Ret.bif (fun _ => Ret.bnd (heapS (by omega) d (by omega) ha hab' hb hp) fun y hy => Ret.ret hy) (fun _ => ?_)
 have tail : ∀ (lim : Int) (wB wP : Bool) {y : List MvT}, W a b d y → ∀ {p : Int}, (a ≤ p ∧ p < b) → Ret (pdTail N self (Q89.l0 N self d0 a0 b0 l0 n) a b lim wB wP y p) (SQ a b d) := fun lim wB wP y hy p hpv => by
  have hly := hy.len
  refine Ret.mono (pdTail_S hN y (by omega) ha hab' (by omega) (fun a' b' l x h1 h2 h3 h4 h5 h6 => hs a' b' l x (by omega) h2 (by omega) (by omega) (by omega) h6) (fun a' b' l wB wP x h1 h2 h3 h4 h5 h6 => ih (b' - a').toNat (by omega) n a' b' l wB wP x (by omega) (by omega) (by omega) h2 (by omega) (by omega) (by omega) h6) lim wB wP (hLo.W hy hb) hpv) fun z hz => ⟨hy.trans hz.1, hz.2⟩
 have piv : ∀ {y : List MvT}, W a b d y → Ret (Q97 N y a b) fun z => a ≤ z.1 ∧ z.1 < b := fun hy => pivotM (by omega) d (by omega) hy.len ha (by omega) hb
 have rev : ∀ {y : List MvT}, W a b d y → Ret (Q98 N y a b) (W a b d) := fun hy => reverseS d (by omega) (by omega) ha hab' hb hy
 have prt : ∀ {y : List MvT}, W a b d y → Ret (Q99 N y a b) (SdB a b d) := fun hy => partS hN d (by omega) ha hab' hb hLo hy
 have v7 : ∀ z : Int, a ≤ z ∧ z < b → w64 (w64 (b - 1) - w64 (z - a)) = b - 1 - (z - a) := fun z hz => by
  rw [w64_id (x := b - 1) (by omega) (by omega), w64_id (x := z - a) (by omega) (by omega), w64_id (by omega) (by omega)]
 refine Ret.bif (fun _ => ?_) (fun _ => ?_)
 ·refine Ret.bnd (breakS hN d (by omega) ha hab hb hp) fun y4 h4 => ?_
  refine Ret.bnd (piv h4) fun y5 h5 => ?_
  refine Ret.bif (fun _ => ?_) (fun _ => ?_)
  ·refine Ret.bnd (rev h4) fun y6 h6 => ?_
   simp only [v7 y5.1 h5]
   refine Ret.bif (fun _ => Ret.bif (fun _ => Ret.bnd (prt h6) fun y8 h8 => Ret.bif (fun f => Ret.ret ⟨h8.1, h8.2 f⟩) (fun _ => ?_)) (fun _ => ?_)) (fun _ => ?_)
   ·exact tail _ _ _ h8.1 (by omega)
   ·exact tail _ _ _ h6 (by omega)
   ·exact tail _ _ _ h6 (by omega)
  ·refine Ret.bif (fun _ => Ret.bif (fun _ => Ret.bif (fun _ => Ret.bnd (prt h4) fun y8 h8 => Ret.bif (fun f => Ret.ret ⟨h8.1, h8.2 f⟩) (fun _ => ?_)) (fun _ => ?_)) (fun _ => ?_)) (fun _ => ?_)
   ·exact tail _ _ _ h8.1 h5
   ·exact tail _ _ _ h4 h5
   ·exact tail _ _ _ h4 h5
   ·exact tail _ _ _ h4 h5
 ·refine Ret.bnd (piv hp) fun y5 h5 => ?_
  refine Ret.bif (fun _ => ?_) (fun _ => ?_)
  ·refine Ret.bnd (rev hp) fun y6 h6 => ?_
   simp only [v7 y5.1 h5]
   refine Ret.bif (fun _ => Ret.bif (fun _ => Ret.bnd (prt h6) fun y8 h8 => Ret.bif (fun f => Ret.ret ⟨h8.1, h8.2 f⟩) (fun _ => ?_)) (fun _ => ?_)) (fun _ => ?_)
   ·exact tail _ _ _ h8.1 (by omega)
   ·exact tail _ _ _ h6 (by omega)
   ·exact tail _ _ _ h6 (by omega)
  ·refine Ret.bif (fun _ => Ret.bif (fun _ => Ret.bif (fun _ => Ret.bnd (prt hp) fun y8 h8 => Ret.bif (fun f => Ret.ret ⟨h8.1, h8.2 f⟩) (fun _ => ?_)) (fun _ => ?_)) (fun _ => ?_)) (fun _ => ?_)
   ·exact tail _ _ _ h8.1 h5
   ·exact tail _ _ _ hp h5
   ·exact tail _ _ _ hp h5
   ·exact tail _ _ _ hp h5
end
theorem pdqS {L : Nat} (hL : L ≤ 8192) : ∀ (k N : Nat) (d : List MvT) (a b lim : Int), b - a ≤ k → 100000000 + k < N → 0 ≤ a → a ≤ b → b ≤ (L : Int) → d.length = L → Lo a b d → Ret (Q89 N d a b lim) (SQ a b d) := by
 intro k
 induction k using Nat.strongRecOn with
 | _ k ih =>
 intro N d a b lim hk hN ha hab hb hl hLo
 obtain ⟨N, rfl⟩ : ∃ q, N = q + 1 := ⟨N - 1, by omega⟩
 rw [Q89_s, Q89.e]
 refine pdqS_l0 (by omega) hL (K := b - a) (fun a' b' l x h1 h2 h3 h4 h5 h6 => ?_) (b - a).toNat N a b lim true true d (by omega) (Int.le_refl _) ha hab hb (by omega) hl hLo
 exact ih (b' - a').toNat (by omega) N x a' b' l (by omega) (by omega) h1 h2 h3 h5 h6
theorem sortS {N : Nat} (hN : 200000000 ≤ N) (d : List MvT) (hd : d.length ≤ 8192) : Ret (Q77 N d) fun y => y.Perm d ∧ Sd 0 (d.length : Int) y := by
 unfold Q77 Q77.e
 have lo : Lo 0 (d.length : Int) d := fun h => by omega
 by_cases h0 : d.length = 0
 ·obtain rfl := List.length_eq_zero_iff.1 h0
  obtain ⟨v, hv⟩ : ∃ v, Q90 N (IntKind.wrap .u64 (([] : List MvT).length : Int)) = some v := ⟨0, by kernel_rfl⟩
  rw [hv, ob]
  exact Ret.bnd (pdqS (L := 0) (by omega) 0 N [] 0 _ v (by simp) (by omega) (by omega) (by simp) (by simp) rfl lo) fun y hy => Ret.ret ⟨hy.1.pm, hy.2⟩
 ·obtain ⟨v, hv, _⟩ := bitsLen_le N (k := d.length) (by omega) hd
  rw [hv, ob]
  exact Ret.bnd (pdqS hd d.length N d 0 _ v (by omega) (by omega) (by omega) (by omega) (Int.le_refl _) rfl lo) fun y hy => Ret.ret ⟨hy.1.pm, hy.2⟩
end Go.Proofs.Ytnddjmhpofhfjaa.Am
