/- Plain: slices.Compact of moves. -/
import Derived.Test.YtpielijehhhobaaFnr1
import Derived.Test.YtpielijehhhobaaLawPlacer
set_option linter.unusedVariables false
set_option linter.unusedSimpArgs false
namespace Go.Proofs.Ytpielijehhhobaa.Am
open Go
def dedA {α : Type} [DecidableEq α] : List α → List α
 | [] => []
 | [a] => [a]
 | a :: b :: l => if a = b then dedA (b :: l) else a :: dedA (b :: l)
section
variable {α : Type} [DecidableEq α]
theorem dedA_cc (a b : α) (l : List α) : dedA (a :: b :: l) = if a = b then dedA (b :: l) else a :: dedA (b :: l) := rfl
theorem dedA_ne (a : α) (l : List α) : ∃ l', dedA (a :: l) = a :: l' := by
 induction l generalizing a with
 | nil => exact ⟨[], rfl⟩
 | cons b l ih =>
  unfold dedA
  by_cases h : a = b
  ·rw [if_pos h, h]; exact ih b
  ·rw [if_neg h]; exact ⟨_, rfl⟩
theorem mem_dedA {x : α} : ∀ l : List α, x ∈ dedA l ↔ x ∈ l
 | [] => Iff.rfl
 | [a] => Iff.rfl
 | a :: b :: l => by
  unfold dedA
  have ih := mem_dedA (x := x) (b :: l)
  by_cases h : a = b
  ·rw [if_pos h, ih, h]; simp
  ·rw [if_neg h, List.mem_cons, ih, List.mem_cons (l := b :: l)]
theorem dedA_snoc (x y : α) : ∀ l : List α, dedA (l ++ [x, y]) = if x = y then dedA (l ++ [x]) else dedA (l ++ [x]) ++ [y]
 | [] => by
  show dedA [x, y] = _
  unfold dedA
  by_cases h : x = y
  ·rw [if_pos h, if_pos h, h]; rfl
  ·rw [if_neg h, if_neg h]; rfl
 | [a] => by
  show dedA (a :: x :: [y]) = if x = y then dedA (a :: x :: []) else dedA (a :: x :: []) ++ [y]
  have ih := dedA_snoc x y []
  rw [List.nil_append, List.nil_append] at ih
  rw [dedA_cc a x [y], dedA_cc a x [], ih]
  by_cases h : a = x <;> by_cases h2 : x = y <;> simp [h, h2]
 | a :: b :: l => by
  have ih := dedA_snoc x y (b :: l)
  show dedA (a :: b :: (l ++ [x, y])) = if x = y then dedA (a :: b :: (l ++ [x])) else dedA (a :: b :: (l ++ [x])) ++ [y]
  rw [dedA_cc, dedA_cc]
  rw [List.cons_append, List.cons_append] at ih
  rw [ih]
  by_cases h : a = b <;> by_cases h2 : x = y <;> simp [h, h2]
def Apart (l : List α) : Prop := ∀ (i : Nat) (h : i + 1 < l.length), l[i] ≠ l[i + 1]
theorem dedA_apart : ∀ l : List α, Apart (dedA l)
 | [] => fun i h => by simp [dedA] at h
 | [a] => fun i h => by simp [dedA] at h
 | a :: b :: l => by
  have ih := dedA_apart (b :: l)
  unfold dedA
  by_cases h : a = b
  ·rw [if_pos h]; exact ih
  ·rw [if_neg h]
   obtain ⟨l', hl⟩ := dedA_ne b l
   rw [hl] at ih ⊢
   intro i hi
   cases i with
   | zero => exact h
   | succ i => exact ih i (by simpa using hi)
theorem dedA_id : ∀ l : List α, Apart l → dedA l = l
 | [], _ => rfl
 | [a], _ => rfl
 | a :: b :: l, h => by
  unfold dedA
  rw [if_neg (show ¬ a = b from h 0 (by simp)), dedA_id (b :: l) (fun i hi => h (i + 1) (by simpa using hi))]
theorem dedA_take {s : List α} {i : Nat} (h : i + 1 < s.length) : dedA (s.take (i + 2)) = if s[i] = s[i + 1] then dedA (s.take (i + 1)) else dedA (s.take (i + 1)) ++ [s[i + 1]] := by
 have e2 : s.take (i + 1) = s.take i ++ [s[i]] := (List.take_append_getElem (by omega)).symm
 have e1 : s.take (i + 2) = s.take i ++ [s[i], s[i + 1]] := by
  rw [show i + 2 = (i + 1) + 1 from rfl, ← List.take_append_getElem h, e2, List.append_assoc]
  rfl
 rw [e1, e2, dedA_snoc]
theorem dedA_len : ∀ l : List α, (dedA l).length ≤ l.length
 | [] => Nat.le_refl _
 | [a] => Nat.le_refl _
 | a :: b :: l => by
  unfold dedA
  have ih := dedA_len (b :: l)
  simp only [List.length_cons] at ih ⊢
  by_cases h : a = b
  ·rw [if_pos h]; omega
  ·rw [if_neg h]; simp only [List.length_cons]; omega
end
theorem mv_eq (a b : MvT) : (eqI a.1 b.1 && (eqI a.2.1 b.2.1 && (eqI a.2.2 b.2.2 && true))) = decide (a = b) := by
 obtain ⟨a1, a2, a3⟩ := a
 obtain ⟨b1, b2, b3⟩ := b
 by_cases h1 : a1 = b1 <;> by_cases h2 : a2 = b2 <;> by_cases h3 : a3 = b3 <;> simp [eqI, h1, h2, h3]
section
variable (N : Nat) (s : List MvT) (hs : s.length ≤ 100000)
include hs
theorem compact_l1 (k0 : Nat) : ∀ (m i k n : Nat) (u : List MvT), i + m = s.length → m < n → k0 < i → k < i → 1 ≤ k0 → u.length = s.length → u.take k = dedA (s.take i) → k ≤ s.length → (∀ j, i ≤ j + 1 → (h : j < s.length) → (h' : j < u.length) → u[j] = s[j]) →
  Q67.l1 N s n (k : Int) (k0 : Int) ((i - k0 : Nat) : Int) u = some (dedA s) := by
 intro m
 induction m with
 | zero =>
  intro i k n u him hn hk0 hk hk1 hl ht hks hj
  obtain ⟨n, rfl⟩ := nxt (n := n) (by omega)
  rw [Q67.l1_s, Q67.s1, bif_f (ltI_f (by omega)), chk_idx' (by omega) (by omega)]
  have e : (u.take (k : Int).toNat ++ List.replicate (u.length - (k : Int).toNat) z0).take (k : Int).toNat = dedA s := by
   rw [Int.toNat_natCast, List.take_append_of_le_length (by rw [List.length_take]; omega), List.take_take, Nat.min_self, ht, List.take_of_length_le (by omega)]
  dsimp only
  rw [chk_idx' (by omega) (by simp; omega), e]
 | succ m ih =>
  intro i k n u him hn hk0 hk hk1 hl ht hks hj
  obtain ⟨n, rfl⟩ := nxt (n := n) (by omega)
  have e1 : (k0 : Int) + ((i - k0 : Nat) : Int) = ((i : Nat) : Int) := by omega
  have e2 : (k0 : Int) + (((i - k0 : Nat) : Int) - 1) = ((i - 1 : Nat) : Int) := by omega
  rw [Q67.l1_s, Q67.s1, bif_t (ltI_t (by omega))]
  have e3 : chk (leI 0 (((i - k0 : Nat) : Int) - 1) && ltI ((k0 : Int) + (((i - k0 : Nat) : Int) - 1)) (u.length : Int)) = (id : Option (List MvT) → Option (List MvT)) := by
   funext x; rw [leI_t (by omega), ltI_t (by omega)]; rfl
  have e4 : chk (leI 0 ((i - k0 : Nat) : Int) && ltI ((k0 : Int) + ((i - k0 : Nat) : Int)) (u.length : Int)) = (id : Option (List MvT) → Option (List MvT)) := by
   funext x; rw [leI_t (by omega), ltI_t (by omega)]; rfl
  have e5 : chk (leI 0 (k : Int) && ltI (k : Int) (u.length : Int)) = (id : Option (List MvT) → Option (List MvT)) := by
   funext x; rw [leI_t (by omega), ltI_t (by omega)]; rfl
  simp (disch := omega) only [w64_id]
  rw [e3, e4, e5, e1, e2, gD_nat (by omega), gD_nat (by omega)]
  simp only [id, mv_eq]
  have h1 : u[i] = s[i] := hj i (by omega) (by omega) (by omega)
  have h2 : u[i - 1] = s[i - 1] := hj (i - 1) (by omega) (by omega) (by omega)
  have hd := dedA_take (s := s) (i := i - 1) (by omega)
  simp only [show i - 1 + 2 = i + 1 by omega, show i - 1 + 1 = i by omega] at hd
  rw [h1, h2]
  by_cases c : s[i - 1] = s[i]
  ·rw [if_pos c] at hd
   rw [bif_f (by simp [c]), show ((i - k0 : Nat) : Int) + 1 = ((i + 1 - k0 : Nat) : Int) by omega]
   exact ih (i + 1) k n u (by omega) (by omega) (by omega) (by omega) hk1 hl (by rw [hd, ht]) hks (fun j hj1 h h' => hj j (by omega) h h')
  ·rw [if_neg c] at hd
   rw [bif_t (by simp; exact fun e => c e.symm), show ((i - k0 : Nat) : Int) + 1 = ((i + 1 - k0 : Nat) : Int) by omega, show (k : Int) + 1 = ((k + 1 : Nat) : Int) by omega, Int.toNat_natCast]
   refine ih (i + 1) (k + 1) n (u.set k s[i]) (by omega) (by omega) (by omega) (by omega) hk1 (by rw [List.length_set]; exact hl) ?_ (by omega) ?_
   ·rw [hd, List.take_add_one, List.getElem?_set_self (by omega), List.take_set_of_le (Nat.le_refl k), ht]; rfl
   ·intro j hj1 h h'
    rw [List.getElem_set_ne (by omega)]
    exact hj j (by omega) h (by omega)
theorem compact_l0 : ∀ (m k n : Nat), k + m = s.length → 1 ≤ k → s.length + 1 + m < n → Apart (s.take k) → Q67.l0 N s n (k : Int) = some (dedA s) := by
 intro m
 induction m with
 | zero =>
  intro k n hk h1 hn ha
  obtain ⟨n, rfl⟩ := nxt (n := n) (by omega)
  rw [List.take_of_length_le (by omega)] at ha
  rw [Q67.l0_s, Q67.s0, bif_f (ltI_f (by omega)), dedA_id s ha]
 | succ m ih =>
  intro k n hk h1 hn ha
  obtain ⟨n, rfl⟩ := nxt (n := n) (by omega)
  rw [Q67.l0_s, Q67.s0, bif_t (ltI_t (by omega)), chk_idx (by omega) (by omega), w64_id (x := (k : Int) - 1) (by omega) (by omega), chk_idx (by omega) (by omega), show (k : Int) - 1 = ((k - 1 : Nat) : Int) by omega, gD_nat (by omega), gD_nat (by omega), mv_eq]
  have hd := dedA_take (s := s) (i := k - 1) (by omega)
  simp only [show k - 1 + 2 = k + 1 by omega, show k - 1 + 1 = k by omega] at hd
  by_cases c : s[k - 1] = s[k]
  ·rw [if_pos c, dedA_id _ ha] at hd
   rw [bif_t (by simp [c]), chk_idx' (by omega) (by omega)]
   have := compact_l1 N s hs k m (k + 1) k n s (by omega) (by omega) (by omega) (by omega) h1 rfl hd.symm (by omega) (fun j _ _ _ => rfl)
   rw [show (k + 1 - k : Nat) = 1 by omega] at this
   exact this
  ·rw [bif_f (by simp; exact fun e => c e.symm), w64_id (by omega) (by omega), show (k : Int) + 1 = ((k + 1 : Nat) : Int) by omega]
   refine ih (k + 1) n (by omega) (by omega) (by omega) (fun i hi => ?_)
   rw [List.length_take] at hi
   rw [List.getElem_take, List.getElem_take]
   rcases Nat.lt_or_ge (i + 1) k with h | h
   ·have := ha i (by rw [List.length_take]; omega)
    rw [List.getElem_take, List.getElem_take] at this
    exact this
   ·obtain rfl : i = k - 1 := by omega
    simp only [show k - 1 + 1 = k by omega]
    exact c
theorem compact_eq (hN : 300000 ≤ N) : Q67 N s = some (dedA s) := by
 unfold Q67 Q67.e
 by_cases h : s.length < 2
 ·rw [bif_t (ltI_t (by omega)), dedA_id s (fun i hi => by omega)]
 ·rw [bif_f (ltI_f (by omega))]
  exact compact_l0 N s hs (s.length - 1) 1 N (by omega) (by omega) (by omega) (fun i hi => by rw [List.length_take] at hi; omega)
end
end Go.Proofs.Ytpielijehhhobaa.Am
