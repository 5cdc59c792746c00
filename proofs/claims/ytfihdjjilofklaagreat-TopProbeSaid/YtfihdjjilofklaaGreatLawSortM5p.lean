/- Plain: slices.Compact of moves. -/
import Derived.Test.YtfihdjjilofklaaGreatFnp2
import Derived.Test.YtfihdjjilofklaaGreatLawAlongp
set_option linter.unusedVariables false
set_option linter.unusedSimpArgs false
namespace Go.Proofs.YtfihdjjilofklaaGreat.Am
open Go
def dedA {α : Type} [DecidableEq α] : List α → List α
 | [] => []
 | [a] => [a]
 | a :: b :: l => if a = b then dedA (b :: l) else a :: dedA (b :: l)
section
variable {α : Type} [DecidableEq α]
theorem dedA_cc (a b : α) (l : List α) : dedA (a :: b :: l) = if a = b then dedA (b :: l) else a :: dedA (b :: l) := rfl
theorem dedA_ne (a : α) (l : List α) : ∃ l', dedA (a :: l) = a :: l' := by
 induction l generalizing a with
 | nil => exact ⟨[], rfl⟩
 | cons b l ih =>
  unfold dedA
  by_cases h : a = b
  ·rw [if_pos h, h]; exact ih b
  ·rw [if_neg h]; exact ⟨_, rfl⟩
theorem mem_dedA {x : α} : ∀ l : List α, x ∈ dedA l ↔ x ∈ l
 | [] => Iff.rfl
 | [a] => Iff.rfl
 | a :: b :: l => by
  unfold dedA
  have ih := mem_dedA (x := x) (b :: l)
  by_cases h : a = b
  ·rw [if_pos h, ih, h]; simp
  ·rw [if_neg h, List.mem_cons, ih, List.mem_cons (l := b :: l)]
theorem dedA_snoc (x y : α) : ∀ l : List α, dedA (l ++ [x, y]) = if x = y then dedA (l ++ [x]) else dedA (l ++ [x]) ++ [y]
 | [] => by
  show dedA [x, y] = _
  unfold dedA
  by_cases h : x = y
  ·rw [if_pos h, if_pos h, h]; rfl
  ·rw [if_neg h, if_neg h]; rfl
 | [a] => by
  show dedA (a :: x :: [y]) = if x = y then dedA (a :: x :: []) else dedA (a :: x :: []) ++ [y]
  have ih := dedA_snoc x y []
  rw [List.nil_append, List.nil_append] at ih
  rw [dedA_cc a x [y], dedA_cc a x [], ih]
  by_cases h : a = x <;> by_cases h2 : x = y <;> simp [h, h2]
 | a :: b :: l => by
  have ih := dedA_snoc x y (b :: l)
  show dedA (a :: b :: (l ++ [x, y])) = if x = y then dedA (a :: b :: (l ++ [x])) else dedA (a :: b :: (l ++ [x])) ++ [y]
  rw [dedA_cc, dedA_cc]
  rw [List.cons_append, List.cons_append] at ih
  rw [ih]
  by_cases h : a = b <;> by_cases h2 : x = y <;> simp [h, h2]
def Apart (l : List α) : Prop := ∀ (i : Nat) (h : i + 1 < l.length), l[i] ≠ l[i + 1]
theorem dedA_apart : ∀ l : List α, Apart (dedA l)
 | [] => fun i h => by simp [dedA] at h
 | [a] => fun i h => by simp [dedA] at h
 | a :: b :: l => by
  have ih := dedA_apart (b :: l)
  unfold dedA
  by_cases h : a = b
  ·rw [if_pos h]; exact ih
  ·rw [if_neg h]
   obtain ⟨l', hl⟩ := dedA_ne b l
   rw [hl] at ih ⊢
   intro i hi
   cases i with
   | zero => exact h
   | succ i => exact ih i (by simpa using hi)
theorem dedA_id : ∀ l : List α, Apart l → dedA l = l
 | [], _ => rfl
 | [a], _ => rfl
 | a :: b :: l, h => by
  unfold dedA
  rw [if_neg (show ¬ a = b from h 0 (by simp)), dedA_id (b :: l) (fun i hi => h (i + 1) (by simpa using hi))]
theorem dedA_take {s : List α} {i : Nat} (h : i + 1 < s.length) : dedA (s.take (i + 2)) = if s[i] = s[i + 1] then dedA (s.take (i + 1)) else dedA (s.take (i + 1)) ++ [s[i + 1]] := by
 have e2 : s.take (i + 1) = s.take i ++ [s[i]] := (List.take_append_getElem (by omega)).symm
 have e1 : s.take (i + 2) = s.take i ++ [s[i], s[i + 1]] := by
  rw [show i + 2 = (i + 1) + 1 from rfl, ← List.take_append_getElem h, e2, List.append_assoc]
  rfl
 rw [e1, e2, dedA_snoc]
theorem dedA_len : ∀ l : List α, (dedA l).length ≤ l.length
 | [] => Nat.le_refl _
 | [a] => Nat.le_refl _
 | a :: b :: l => by
  unfold dedA
  have ih := dedA_len (b :: l)
  simp only [List.length_cons] at ih ⊢
  by_cases h : a = b
  ·rw [if_pos h]; omega
  ·rw [if_neg h]; simp only [List.length_cons]; omega
end
theorem mv_eq (a b : MvT) : (eqI a.1 b.1 && (eqI a.2.1 b.2.1 && (eqI a.2.2 b.2.2 && true))) = decide (a = b) := by
 obtain ⟨a1, a2, a3⟩ := a
 obtain ⟨b1, b2, b3⟩ := b
 by_cases h1 : a1 = b1 <;> by_cases h2 : a2 = b2 <;> by_cases h3 : a3 = b3 <;> simp [eqI, h1, h2, h3]
section
variable (N : Nat) (s : List MvT) (hs : s.length ≤ 100000)
include hs
theorem compact_l1 (k0 : Nat) : ∀ (m i k n : Nat) (u : List MvT), i + m = s.length → m < n → k0 < i → k < i → 1 ≤ k0 → u.length = s.length → u.take k = dedA (s.take i) → k ≤ s.length → (∀ j, i ≤ j + 1 → (h : j < s.length) → (h' : j < u.length) → u[j] = s[j]) →
  Q61.l1 N s n (k : Int) (k0 : Int) ((i - k0 : Nat) : Int) u = some (dedA s) := by
 intro m
 induction m with
 | zero =>
  intro i k n u him hn hk0 hk hk1 hl ht hks hj
  obtain ⟨n, rfl⟩ := nxt (n := n) (by omega)
  rw [Q61.l1_s, Q61.s1, bif_f (ltI_f (by omega)), chk_idx' (by omega) (by omega)]
  have e : (u.take (k : Int).toNat ++ List.replicate (u.length - (k : Int).toNat) z0).take (k : Int).toNat = dedA s := by
   rw [Int.toNat_natCast, List.take_append_of_le_length (by rw [List.length_take]; omega), List.take_take, Nat.min_self, ht, List.take_of_length_le (by omega)]
  dsimp only
  rw [chk_idx' (by omega) (by simp; omega), e]
 | succ m ih =>
  intro i k n u him hn hk0 hk hk1 hl ht hks hj
  obtain ⟨n, rfl⟩ := nxt (n := n) (by omega)
  have e1 : (k0 : Int) + ((i - k0 : Nat) : Int) = ((i : Nat) : Int) := by omega
  have e2 : (k0 : Int) + (((i - k0 : Nat) : Int) - 1) = ((i - 1 : Nat) : Int) := by omega
  rw [Q61.l1_s, Q61.s1, bif_t (ltI_t (by omega))]
  have e3 : chk (leI 0 (((i - k0 : Nat) : Int) - 1) && ltI ((k0 : Int) + (((i - k0 : Nat) : Int) - 1)) (u.length : Int)) = (id : Option (List MvT) → Option (List MvT)) := by
   funext x; rw [leI_t (by omega), ltI_t (by omega)]; rfl
  have e4 : chk (leI 0 ((i - k0 : Nat) : Int) && ltI ((k0 : Int) + ((i - k0 : Nat) : Int)) (u.length : Int)) = (id : Option (List MvT) → Option (List MvT)) := by
   funext x; rw [leI_t (by omega), ltI_t (by omega)]; rfl
  have e5 : chk (leI 0 (k : Int) && ltI (k : Int) (u.length : Int)) = (id : Option (List MvT) → Option (List MvT)) := by
   funext x; rw [leI_t (by omega), ltI_t (by omega)]; rfl
  simp (disch := omega) only [w64_id]
  rw [e3, e4, e5, e1, e2, gD_nat (by omega), gD_nat (by omega)]
  simp only [id, mv_eq]
  have h1 : u[i] = s[i] := hj i (by omega) (by omega) (by omega)
  have h2 : u[i - 1] = s[i - 1] := hj (i - 1) (by omega) (by omega) (by omega)
  have hd := dedA_take (s := s) (i := i - 1) (by omega)
  simp only [show i - 1 + 2 = i + 1 by omega, show i - 1 + 1 = i by omega] at hd
  rw [h1, h2]
  by_cases c : s[i - 1] = s[i]
  ·rw [if_pos c] at hd
   rw [bif_f (by simp [c]), show ((i - k0 : Nat) : Int) + 1 = ((i + 1 - k0 : Nat) : Int) by omega]
   exact ih (i + 1) k n u (by omega) (by omega) (by omega) (by omega) hk1 hl (by rw [hd, ht]) hks (fun j hj1 h h' => hj j (by omega) h h')
  ·rw [if_neg c] at hd
   rw [bif_t (by simp; exact fun e => c e.symm), show ((i - k0 : Nat) : Int) + 1 = ((i + 1 - k0 : Nat) : Int) by omega, show (k : Int) + 1 = ((k + 1 : Nat) : Int) by omega, Int.toNat_natCast]
   refine ih (i + 1) (k + 1) n (u.set k s[i]) (by omega) (by omega) (by omega) (by omega) hk1 (by rw [List.length_set]; exact hl) ?_ (by omega) ?_
   ·rw [hd, List.take_add_one, List.getElem?_set_self (by omega), List.take_set_of_le (Nat.le_refl k), ht]; rfl
   ·intro j hj1 h h'
    rw [List.getElem_set_ne (by omega)]
    exact hj j (by omega) h (by omega)
theorem compact_l0 : ∀ (m k n : Nat), k + m = s.length → 1 ≤ k → s.length + 1 + m < n → Apart (s.take k) → Q61.l0 N s n (k : Int) = some (dedA s) := by
 intro m
 induction m with
 | zero =>
  intro k n hk h1 hn ha
  obtain ⟨n, rfl⟩ := nxt (n := n) (by omega)
  rw [List.take_of_length_le (by omega)] at ha
  rw [Q61.l0_s, Q61.s0, bif_f (ltI_f (by omega)), dedA_id s ha]
 | succ m ih =>
  intro k n hk h1 hn ha
  obtain ⟨n, rfl⟩ := nxt (n := n) (by omega)
  rw [Q61.l0_s, Q61.s0, bif_t (ltI_t (by omega)), chk_idx (by omega) (by omega), w64_id (x := (k : Int) - 1) (by omega) (by omega), chk_idx (by omega) (by omega), show (k : Int) - 1 = ((k - 1 : Nat) : Int) by omega, gD_nat (by omega), gD_nat (by omega), mv_eq]
  have hd := dedA_take (s := s) (i := k - 1) (by omega)
  simp only [show k - 1 + 2 = k + 1 by omega, show k - 1 + 1 = k by omega] at hd
  by_cases c : s[k - 1] = s[k]
  ·rw [if_pos c, dedA_id _ ha] at hd
   rw [bif_t (by simp [c]), chk_idx' (by omega) (by omega)]
   have := compact_l1 N s hs k m (k + 1) k n s (by omega) (by omega) (by omega) (by omega) h1 rfl hd.symm (by omega) (fun j _ _ _ => rfl)
   rw [show (k + 1 - k : Nat) = 1 by omega] at this
   exact this
  ·rw [bif_f (by simp; exact fun e => c e.symm), w64_id (by omega) (by omega), show (k : Int) + 1 = ((k + 1 : Nat) : Int) by omega]
   refine ih (k + 1) n (by omega) (by omega) (by omega) (fun i hi => ?_)
   rw [List.length_take] at hi
   rw [List.getElem_take, List.getElem_take]
   rcases Nat.lt_or_ge (i + 1) k with h | h
   ·have := ha i (by rw [List.length_take]; omega)
    rw [List.getElem_take, List.getElem_take] at this
    exact this
   ·obtain rfl : i = k - 1 := by omega
    simp only [show k - 1 + 1 = k by omega]
    exact c
theorem compact_eq (hN : 300000 ≤ N) : Q61 N s = some (dedA s) := by
 unfold Q61 Q61.e
 by_cases h : s.length < 2
 ·rw [bif_t (ltI_t (by omega)), dedA_id s (fun i hi => by omega)]
 ·rw [bif_f (ltI_f (by omega))]
  exact compact_l0 N s hs (s.length - 1) 1 N (by omega) (by omega) (by omega) (fun i hi => by rw [List.length_take] at hi; omega)
end
end Go.Proofs.YtfihdjjilofklaaGreat.Am
set_option linter.unusedVariables false
set_option linter.unusedSimpArgs false
namespace Go.Proofs.YtfihdjjilofklaaGreat.Am
open Go
def cmpI (x y : Int) : Int := bif ltI x y then -1 else bif ltI y x then 1 else 0
def cmpM (a b : MvT) : Int := bif !(eqI (cmpI a.1 b.1) 0) then cmpI a.1 b.1 else bif !(eqI (cmpI a.2.1 b.2.1) 0) then cmpI a.2.1 b.2.1 else cmpI a.2.2 b.2.2
theorem cmpI_eq (N : Nat) (x y : Int) : Q82 N x y = some (cmpI x y) := by
 unfold Q82 Q82.e Q102 Q102.e cmpI
 rw [eqI_self, eqI_self, ob, ob]
 cases ltI x y <;> cases ltI y x <;> rfl
theorem cmpOr_eq {N : Nat} (hN : 4 ≤ N) (x y z : Int) : Q81 N [x, y, z] = some (bif !(eqI x 0) then x else bif !(eqI y 0) then y else z) := by
 obtain ⟨N, rfl⟩ : ∃ m, N = m + 4 := ⟨N - 4, by omega⟩
 unfold Q81 Q81.e
 have e0 : w64 ((0 : Int) + 1) = 1 := by decide
 have e1 : w64 ((1 : Int) + 1) = 2 := by decide
 have e2 : w64 ((2 : Int) + 1) = 3 := by decide
 simp only [Q81.l0_s, Q81.s0, e0, e1, e2]
 show (bif !eqI x 0 then some x else bif !eqI y 0 then some y else bif !eqI z 0 then some z else some 0) = _
 cases hx : eqI x 0 <;> cases hy : eqI y 0 <;> cases hz : eqI z 0 <;> simp
 all_goals (rw [eqI_iff] at hz; rw [hz])
theorem cmpM_eq {N : Nat} (hN : 4 ≤ N) (a b : MvT) : Q60 N a b = some (cmpM a b) := by
 unfold Q60 Q60.e cmpM
 rw [cmpI_eq, ob, cmpI_eq, ob, cmpI_eq, ob, cmpOr_eq hN, ob]
theorem swp_perm {d : List MvT} {i j : Int} (hi : 0 ≤ i) (hi' : i < d.length) (hj : 0 ≤ j) (hj' : j < d.length) : ((d.set i.toNat (gD z0 d j)).set j.toNat (gD z0 d i)).Perm d := by
 obtain ⟨i, rfl⟩ : ∃ k : Nat, i = k := ⟨i.toNat, by omega⟩
 obtain ⟨j, rfl⟩ : ∃ k : Nat, j = k := ⟨j.toNat, by omega⟩
 rw [Int.toNat_natCast, Int.toNat_natCast, gD_nat (by omega), gD_nat (by omega)]
 exact List.set_set_perm (by omega) (by omega)
abbrev Pm (d : List MvT) (d' : List MvT) : Prop := d'.Perm d
theorem Pm.swp {d d' : List MvT} (h : Pm d d') {i j : Int} (hi : 0 ≤ i) (hi' : i < d.length) (hj : 0 ≤ j) (hj' : j < d.length) : Pm d ((d'.set i.toNat (gD z0 d' j)).set j.toNat (gD z0 d' i)) := by
 have := h.length_eq
 exact (swp_perm hi (by omega) hj (by omega)).trans h
section
variable {N : Nat} (hN : 4 ≤ N) (d : List MvT) (hd : d.length ≤ 1000000)
include hN hd
theorem insM_l1 {d0 : List MvT} {a b : Int} (ha : 0 ≤ a) (hb : b ≤ d.length) {i : Int} {B : Nat} (hB : ∀ n d', B ≤ n → Pm d d' → Ret (Q92.l0 N d0 a b n (w64 (i + 1)) d') (Pm d)) :
  ∀ (k n : Nat) (j : Int) (d' : List MvT), j - a ≤ k → a ≤ j → j < b → B + k + 1 ≤ n → Pm d d' → Ret (Q92.l1 N d0 a b n i j d') (Pm d) := by
 intro k
 induction k with
 | zero =>
  intro n j d' hk h1 h2 hn hp
  obtain ⟨n, rfl⟩ : ∃ m, n = m + 1 := ⟨n - 1, by omega⟩
  rw [Q92.l1_s, Q92.s1, bif_f (ltI_f (by omega))]
  exact hB n d' (by omega) hp
 | succ k ih =>
  intro n j d' hk h1 h2 hn hp
  have hl := hp.length_eq
  obtain ⟨n, rfl⟩ : ∃ m, n = m + 1 := ⟨n - 1, by omega⟩
  rw [Q92.l1_s, Q92.s1]
  refine Ret.bif (fun c => ?_) (fun _ => hB n d' (by omega) hp)
  rw [ltI_iff] at c
  simp (disch := omega) only [w64_id, chk_idx, List.length_set, cmpM_eq hN, ob]
  refine Ret.bif (fun _ => ?_) (fun _ => by simpa (disch := omega) only [w64_id] using hB n d' (by omega) hp)
  exact ih n (j - 1) _ (by omega) (by omega) (by omega) (by omega) (hp.swp (by omega) (by omega) (by omega) (by omega))
theorem insM_l0 {d0 : List MvT} {a b : Int} (ha : 0 ≤ a) (hb : b ≤ d.length) (hab : b - a ≤ 12) : ∀ (k n : Nat) (i : Int) (d' : List MvT), b - i ≤ k → a ≤ i → 20 * k + 1 ≤ n → Pm d d' → Ret (Q92.l0 N d0 a b n i d') (Pm d) := by
 intro k
 induction k with
 | zero =>
  intro n i d' hk h1 hn hp
  obtain ⟨n, rfl⟩ : ∃ m, n = m + 1 := ⟨n - 1, by omega⟩
  rw [Q92.l0_s, Q92.s0, bif_f (ltI_f (by omega))]
  exact Ret.ret hp
 | succ k ih =>
  intro n i d' hk h1 hn hp
  obtain ⟨n, rfl⟩ : ∃ m, n = m + 1 := ⟨n - 1, by omega⟩
  rw [Q92.l0_s, Q92.s0]
  refine Ret.bif (fun c => ?_) (fun _ => Ret.ret hp)
  rw [ltI_iff] at c
  refine insM_l1 hN d hd ha hb (B := 20 * k + 1) (fun n' d'' hn' hp' => ?_) 12 n i d' (by omega) h1 c (by omega) hp
  simpa (disch := omega) only [w64_id] using ih n' (i + 1) d'' (by omega) (by omega) hn' hp'
theorem insM {a b : Int} (ha : 0 ≤ a) (hab0 : a ≤ b) (hb : b ≤ d.length) (hab : b - a ≤ 12) (hN' : 300 ≤ N) {d0 : List MvT} (hp : Pm d d0) : Ret (Q92 N d0 a b) (Pm d) := by
 unfold Q92 Q92.e
 simpa (disch := omega) only [w64_id] using insM_l0 hN d hd ha hb hab 12 N (a + 1) d0 (by omega) (by omega) (by omega) hp
end
end Go.Proofs.YtfihdjjilofklaaGreat.Am
set_option linter.unusedVariables false
set_option linter.unusedSimpArgs false
namespace Go.Proofs.YtfihdjjilofklaaGreat.Am
open Go
section
variable {N : Nat} (hN : 2000000 ≤ N) (d : List MvT) (hd : d.length ≤ 1000000)
include hN hd
theorem siftM_l0 {d0 : List MvT} {lo hi first : Int} (hf : 0 ≤ first) (hh : first + hi ≤ d.length) : ∀ (k n : Nat) (root : Int) (d' : List MvT), hi - root ≤ k → 0 ≤ root → first + root < d.length → root < 1000001 → k + 1 ≤ n → Pm d d' → Ret (Q105.l0 N d0 lo hi first n root d') (Pm d) := by
 intro k
 induction k with
 | zero =>
  intro n root d' hk h1 h2 h3 hn hp
  obtain ⟨n, rfl⟩ : ∃ m, n = m + 1 := ⟨n - 1, by omega⟩
  rw [Q105.l0_s, Q105.s0]
  simp (disch := omega) only [w64_id]
  rw [bif_t (leI_t (by omega))]
  exact Ret.ret hp
 | succ k ih =>
  intro n root d' hk h1 h2 h3 hn hp
  have hl := hp.length_eq
  obtain ⟨n, rfl⟩ : ∃ m, n = m + 1 := ⟨n - 1, by omega⟩
  rw [Q105.l0_s, Q105.s0]
  simp (disch := omega) only [w64_id]
  refine Ret.bif (fun _ => Ret.ret hp) (fun c => ?_)
  rw [leI_iff'] at c
  refine Ret.bif (fun c2 => ?_) (fun _ => ?_)
  ·rw [ltI_iff] at c2
   simp (disch := omega) only [w64_id, chk_idx, List.length_set, cmpM_eq (show 4 ≤ N by omega), ob]
   refine Ret.bif (fun _ => ?_) (fun _ => ?_)
   ·refine Ret.bif (fun _ => Ret.ret hp) (fun _ => ?_)
    exact ih n _ _ (by omega) (by omega) (by omega) (by omega) (by omega) (hp.swp (by omega) (by omega) (by omega) (by omega))
   ·refine Ret.bif (fun _ => Ret.ret hp) (fun _ => ?_)
    exact ih n _ _ (by omega) (by omega) (by omega) (by omega) (by omega) (hp.swp (by omega) (by omega) (by omega) (by omega))
  ·simp (disch := omega) only [w64_id, chk_idx, List.length_set, cmpM_eq (show 4 ≤ N by omega), ob]
   refine Ret.bif (fun _ => Ret.ret hp) (fun _ => ?_)
   exact ih n _ _ (by omega) (by omega) (by omega) (by omega) (by omega) (hp.swp (by omega) (by omega) (by omega) (by omega))
theorem siftM {d0 : List MvT} {lo hi first : Int} (hf : 0 ≤ first) (hh : first + hi ≤ d.length) (h1 : 0 ≤ lo) (h2 : first + lo < d.length) (hp : Pm d d0) : Ret (Q105 N d0 lo hi first) (Pm d) := by
 unfold Q105 Q105.e
 exact siftM_l0 hN d hd hf hh 1000001 N lo d0 (by omega) h1 h2 (by omega) (by omega) hp
theorem heapM_l1 {d0 : List MvT} {a b : Int} (ha : 0 ≤ a) (hb : b ≤ d.length) : ∀ (k n : Nat) (i : Int) (d' : List MvT), i + 1 ≤ k → -1 ≤ i → a + i < b → k + 1 ≤ n → Pm d d' → Ret (Q93.l1 N d0 a b n i d') (Pm d) := by
 intro k
 induction k with
 | zero =>
  intro n i d' hk h1 h2 hn hp
  obtain ⟨n, rfl⟩ : ∃ m, n = m + 1 := ⟨n - 1, by omega⟩
  rw [Q93.l1_s, Q93.s1, bif_f (leI_f (by omega))]
  exact Ret.ret hp
 | succ k ih =>
  intro n i d' hk h1 h2 hn hp
  have hl := hp.length_eq
  obtain ⟨n, rfl⟩ : ∃ m, n = m + 1 := ⟨n - 1, by omega⟩
  rw [Q93.l1_s, Q93.s1]
  refine Ret.bif (fun c => ?_) (fun _ => Ret.ret hp)
  rw [leI_iff] at c
  simp (disch := omega) only [w64_id, chk_idx, List.length_set]
  refine Ret.bnd (siftM hN d hd ha (by omega) (by omega) (by omega) (hp.swp (by omega) (by omega) (by omega) (by omega))) fun y hy => ?_
  exact ih n (i - 1) y (by omega) (by omega) (by omega) (by omega) hy
theorem heapM_l0 {d0 : List MvT} {a b : Int} (ha : 0 ≤ a) (hab : a < b) (hb : b ≤ d.length) : ∀ (k n : Nat) (i : Int) (d' : List MvT), i + 1 ≤ k → -1 ≤ i → a + i < b → k + 1000002 ≤ n → Pm d d' → Ret (Q93.l0 N d0 a b n i d') (Pm d) := by
 intro k
 induction k with
 | zero =>
  intro n i d' hk h1 h2 hn hp
  obtain ⟨n, rfl⟩ : ∃ m, n = m + 1 := ⟨n - 1, by omega⟩
  rw [Q93.l0_s, Q93.s0, bif_f (leI_f (by omega))]
  simp (disch := omega) only [w64_id]
  exact heapM_l1 hN d hd ha hb 1000000 n _ d' (by omega) (by omega) (by omega) (by omega) hp
 | succ k ih =>
  intro n i d' hk h1 h2 hn hp
  have hl := hp.length_eq
  obtain ⟨n, rfl⟩ : ∃ m, n = m + 1 := ⟨n - 1, by omega⟩
  rw [Q93.l0_s, Q93.s0]
  simp (disch := omega) only [w64_id]
  refine Ret.bif (fun c => ?_) (fun _ => heapM_l1 hN d hd ha hb 1000000 n _ d' (by omega) (by omega) (by omega) (by omega) hp)
  rw [leI_iff] at c
  refine Ret.bnd (siftM hN d hd ha (by omega) (by omega) (by omega) hp) fun y hy => ?_
  exact ih n (i - 1) y (by omega) (by omega) (by omega) (by omega) hy
theorem heapM {d0 : List MvT} {a b : Int} (ha : 0 ≤ a) (hab : a < b) (hb : b ≤ d.length) (hp : Pm d d0) : Ret (Q93 N d0 a b) (Pm d) := by
 unfold Q93 Q93.e
 rw [w64_id (x := b - a) (by omega) (by omega), w64_id (x := b - a - 1) (by omega) (by omega), Int.tdiv_eq_ediv_of_nonneg (by omega), w64_id (by omega) (by omega)]
 exact heapM_l0 hN d hd ha hab hb 500001 N _ d0 (by omega) (by omega) (by omega) (by omega) hp
omit hd in
theorem order2M {d' : List MvT} {lo hi a b s : Int} (h0 : 0 ≤ lo) (hh : hi ≤ d'.length) (ha : lo ≤ a ∧ a < hi) (hb : lo ≤ b ∧ b < hi) : Ret (Q110 N d' a b s) fun y => (lo ≤ y.1 ∧ y.1 < hi) ∧ lo ≤ y.2.1 ∧ y.2.1 < hi := by
 unfold Q110 Q110.e
 simp (disch := omega) only [chk_idx, cmpM_eq (show 4 ≤ N by omega), ob]
 exact Ret.bif (fun _ => Ret.ret ⟨hb, ha⟩) (fun _ => Ret.ret ⟨ha, hb⟩)
omit hd in
theorem medianM {d' : List MvT} {lo hi a b c s : Int} (h0 : 0 ≤ lo) (hh : hi ≤ d'.length) (ha : lo ≤ a ∧ a < hi) (hb : lo ≤ b ∧ b < hi) (hc : lo ≤ c ∧ c < hi) : Ret (Q109 N d' a b c s) fun y => lo ≤ y.1 ∧ y.1 < hi := by
 unfold Q109 Q109.e
 refine Ret.bnd (order2M hN h0 hh ha hb) fun y1 h1 => ?_
 refine Ret.bnd (order2M hN h0 hh h1.2 hc) fun y2 h2 => ?_
 refine Ret.bnd (order2M hN h0 hh h1.1 h2.1) fun y3 h3 => ?_
 exact Ret.ret h3.2
theorem pivotM {d' : List MvT} {a b : Int} (hl : d'.length = d.length) (ha : 0 ≤ a) (hab : 8 ≤ b - a) (hb : b ≤ d.length) : Ret (Q95 N d' a b) fun y => a ≤ y.1 ∧ y.1 < b := by
 unfold Q95 Q95.e
 have ht : Int.tdiv (b - a) 4 = (b - a) / 4 := Int.tdiv_eq_ediv_of_nonneg (by omega)
 rw [w64_id (x := b - a) (by omega) (by omega), ht]
 simp (disch := omega) only [w64_id]
 rw [bif_t (leI_t hab)]
 refine Ret.bif (fun c => ?_) (fun _ => ?_)
 ·rw [leI_iff] at c
  unfold Q108 Q108.e
  simp (disch := omega) only [w64_id]
  refine Ret.bnd (Ret.bnd (medianM hN (lo := a) (hi := b) ha (by omega) (by omega) (by omega) (by omega)) fun y hy => Ret.ret hy) fun y1 h1 => ?_
  refine Ret.bnd (Ret.bnd (medianM hN (lo := a) (hi := b) ha (by omega) (by omega) (by omega) (by omega)) fun y hy => Ret.ret hy) fun y2 h2 => ?_
  refine Ret.bnd (Ret.bnd (medianM hN (lo := a) (hi := b) ha (by omega) (by omega) (by omega) (by omega)) fun y hy => Ret.ret hy) fun y3 h3 => ?_
  refine Ret.bnd (medianM hN (lo := a) (hi := b) ha (by omega) h1 h2 h3) fun y4 h4 => ?_
  exact Ret.bif (fun _ => Ret.ret h4) (fun _ => Ret.bif (fun _ => Ret.ret h4) (fun _ => Ret.ret h4))
 ·refine Ret.bnd (medianM hN (lo := a) (hi := b) ha (by omega) (by omega) (by omega) (by omega)) fun y4 h4 => ?_
  exact Ret.bif (fun _ => Ret.ret h4) (fun _ => Ret.bif (fun _ => Ret.ret h4) (fun _ => Ret.ret h4))
omit hN in
theorem reverseM_l0 {d0 : List MvT} {a b : Int} : ∀ (k n : Nat) (i j : Int) (d' : List MvT), j - i ≤ k → 0 ≤ i → -1 ≤ j → j < d.length → i ≤ 2000000 → k + 1 ≤ n → Pm d d' → Ret (Q96.l0 N d0 a b n i j d') (Pm d) := by
 intro k
 induction k with
 | zero =>
  intro n i j d' hk h1 h2 h3 h4 hn hp
  obtain ⟨n, rfl⟩ : ∃ m, n = m + 1 := ⟨n - 1, by omega⟩
  rw [Q96.l0_s, Q96.s0, bif_f (ltI_f (by omega))]
  exact Ret.ret hp
 | succ k ih =>
  intro n i j d' hk h1 h2 h3 h4 hn hp
  have hl := hp.length_eq
  obtain ⟨n, rfl⟩ : ∃ m, n = m + 1 := ⟨n - 1, by omega⟩
  rw [Q96.l0_s, Q96.s0]
  refine Ret.bif (fun c => ?_) (fun _ => Ret.ret hp)
  rw [ltI_iff] at c
  simp (disch := omega) only [w64_id, chk_idx, List.length_set]
  exact ih n (i + 1) (j - 1) _ (by omega) (by omega) (by omega) (by omega) (by omega) (by omega) (hp.swp (by omega) (by omega) (by omega) (by omega))
theorem reverseM {d0 : List MvT} {a b : Int} (ha : 0 ≤ a) (hab : a < b) (hb : b ≤ d.length) (hp : Pm d d0) : Ret (Q96 N d0 a b) (Pm d) := by
 unfold Q96 Q96.e
 rw [w64_id (by omega) (by omega)]
 exact reverseM_l0 d hd 1000000 N a (b - 1) d0 (by omega) ha (by omega) (by omega) (by omega) (by omega) hp
end
end Go.Proofs.YtfihdjjilofklaaGreat.Am
set_option linter.unusedVariables false
set_option linter.unusedSimpArgs false
set_option linter.unusedSectionVars false
namespace Go.Proofs.YtfihdjjilofklaaGreat.Am
open Go
section
variable {N : Nat} (hN : 100000000 ≤ N) (d : List MvT) (hd : d.length ≤ 1000000)
include hN hd
abbrev PmB (d : List MvT) (y : Bool × List MvT) : Prop := Pm d y.2
theorem partM_l3 {d0 : List MvT} {a b i j : Int} {B : Nat} (hi1 : 1 ≤ i) (hb : b ≤ d.length) (hj : 0 ≤ j ∧ j ≤ 5) (h0 : ∀ n d', B ≤ n → Pm d d' → Ret (Q97.l0 N d0 a b n i (j + 1) d') (PmB d)) :
  ∀ (k n : Nat) (t : Int) (d' : List MvT), b - t ≤ k → i < t → t ≤ 1000001 → B + k + 1 ≤ n → Pm d d' → Ret (Q97.l3 N d0 a b n i j t d') (PmB d) := by
 intro k
 induction k with
 | zero =>
  intro n t d' hk h1 h2 hn hp
  obtain ⟨n, rfl⟩ : ∃ m, n = m + 1 := ⟨n - 1, by omega⟩
  rw [Q97.l3_s, Q97.s3, bif_f (ltI_f (by omega))]
  simp (disch := omega) only [w64_id]
  exact h0 n d' (by omega) hp
 | succ k ih =>
  intro n t d' hk h1 h2 hn hp
  have hl := hp.length_eq
  obtain ⟨n, rfl⟩ : ∃ m, n = m + 1 := ⟨n - 1, by omega⟩
  rw [Q97.l3_s, Q97.s3]
  refine Ret.bif (fun c => ?_) (fun _ => by simpa (disch := omega) only [w64_id] using h0 n d' (by omega) hp)
  rw [ltI_iff] at c
  simp (disch := omega) only [w64_id, chk_idx, List.length_set, cmpM_eq (show 4 ≤ N by omega), ob]
  refine Ret.bif (fun _ => h0 n d' (by omega) hp) (fun _ => ?_)
  exact ih n (t + 1) _ (by omega) (by omega) (by omega) (by omega) (hp.swp (by omega) (by omega) (by omega) (by omega))
theorem partM_l2 {d0 : List MvT} {a b i j : Int} {B : Nat} (ha : 0 ≤ a) (hi1 : 1 ≤ i) (hib : i ≤ b) (hb : b ≤ d.length) (hj : 0 ≤ j ∧ j ≤ 5) (h0 : ∀ n d', B ≤ n → Pm d d' → Ret (Q97.l0 N d0 a b n i (j + 1) d') (PmB d)) :
  ∀ (k n : Nat) (t : Int) (d' : List MvT), t ≤ k → 0 ≤ t → t < i → B + 1000010 + k + 1 ≤ n → Pm d d' → Ret (Q97.l2 N d0 a b n i j t d') (PmB d) := by
 have fin : ∀ (n : Nat) (d' : List MvT), B + 1000010 ≤ n → Pm d d' → Ret (bif (leI 2 (b - i)) then (Q97.l3 N d0 a b n i j (i + 1) d') else Q97.l0 N d0 a b n i (j + 1) d') (PmB d) := by
  intro n d' hn hp
  refine Ret.bif (fun _ => ?_) (fun _ => h0 n d' (by omega) hp)
  exact partM_l3 hN d hd hi1 hb hj h0 1000001 n (i + 1) d' (by omega) (by omega) (by omega) (by omega) hp
 intro k
 induction k with
 | zero =>
  intro n t d' hk h1 h2 hn hp
  obtain ⟨n, rfl⟩ : ∃ m, n = m + 1 := ⟨n - 1, by omega⟩
  rw [Q97.l2_s, Q97.s2, bif_f (leI_f (by omega))]
  simp (disch := omega) only [w64_id]
  exact fin n d' (by omega) hp
 | succ k ih =>
  intro n t d' hk h1 h2 hn hp
  have hl := hp.length_eq
  obtain ⟨n, rfl⟩ : ∃ m, n = m + 1 := ⟨n - 1, by omega⟩
  rw [Q97.l2_s, Q97.s2]
  refine Ret.bif (fun c => ?_) (fun _ => by simpa (disch := omega) only [w64_id] using fin n d' (by omega) hp)
  rw [leI_iff] at c
  by_cases hti : t < d.length
  ·simp (disch := omega) only [w64_id, chk_idx, List.length_set, cmpM_eq (show 4 ≤ N by omega), ob]
   refine Ret.bif (fun _ => fin n d' (by omega) hp) (fun _ => ?_)
   exact ih n (t - 1) _ (by omega) (by omega) (by omega) (by omega) (hp.swp (by omega) (by omega) (by omega) (by omega))
  ·omega
theorem partM_l1 {d0 : List MvT} {a b j : Int} {B : Nat} (ha : 0 ≤ a) (hb : b ≤ d.length) (hj : 0 ≤ j ∧ j ≤ 4) (h0 : ∀ n i d', a + 1 ≤ i → i ≤ b → B ≤ n → Pm d d' → Ret (Q97.l0 N d0 a b n i (j + 1) d') (PmB d)) :
  ∀ (k n : Nat) (i : Int) (d' : List MvT), b - i ≤ k → a + 1 ≤ i → i ≤ b → B + 2000030 + k + 1 ≤ n → Pm d d' → Ret (Q97.l1 N d0 a b n i j d') (PmB d) := by
 intro k
 induction k with
 | zero =>
  intro n i d' hk h1 h2 hn hp
  obtain ⟨n, rfl⟩ : ∃ m, n = m + 1 := ⟨n - 1, by omega⟩
  rw [Q97.l1_s, Q97.s1, bif_f (ltI_f (by omega)), bif_t (eqI_t (by omega))]
  exact Ret.ret hp
 | succ k ih =>
  intro n i d' hk h1 h2 hn hp
  have hl := hp.length_eq
  obtain ⟨n, rfl⟩ : ∃ m, n = m + 1 := ⟨n - 1, by omega⟩
  rw [Q97.l1_s, Q97.s1]
  refine Ret.bif (fun c => ?_) (fun c => ?_)
  ·rw [ltI_iff] at c
   simp (disch := omega) only [w64_id, chk_idx, List.length_set, cmpM_eq (show 4 ≤ N by omega), ob]
   refine Ret.bif (fun _ => ih n (i + 1) d' (by omega) (by omega) (by omega) (by omega) hp) (fun _ => ?_)
   refine Ret.bif (fun _ => Ret.ret hp) (fun _ => Ret.bif (fun _ => Ret.ret hp) (fun _ => ?_))
   have hp' := hp.swp (i := i) (j := i - 1) (by omega) (by omega) (by omega) (by omega)
   refine Ret.bif (fun _ => ?_) (fun _ => Ret.bif (fun _ => ?_) (fun _ => h0 n i _ h1 h2 (by omega) hp'))
   ·exact partM_l2 hN d hd ha (by omega) h2 hb (by omega) (fun n d' h hp => h0 n i d' h1 h2 h hp) 1000000 n (i - 1) _ (by omega) (by omega) (by omega) (by omega) hp'
   ·exact partM_l3 hN d hd (by omega) hb (by omega) (fun n d' h hp => h0 n i d' h1 h2 h hp) 1000000 n (i + 1) _ (by omega) (by omega) (by omega) (by omega) hp'
  ·rw [ltI_iff'] at c
   rw [bif_t (eqI_t (by omega))]
   exact Ret.ret hp
theorem partM_l0 {d0 : List MvT} {a b : Int} (ha : 0 ≤ a) (hb : b ≤ d.length) : ∀ (k n : Nat) (i j : Int) (d' : List MvT), 5 - j ≤ k → 0 ≤ j → j ≤ 5 → a + 1 ≤ i → i ≤ b → 4000100 * k + 1 ≤ n → Pm d d' → Ret (Q97.l0 N d0 a b n i j d') (PmB d) := by
 intro k
 induction k with
 | zero =>
  intro n i j d' hk h1 h2 h3 h4 hn hp
  obtain ⟨n, rfl⟩ : ∃ m, n = m + 1 := ⟨n - 1, by omega⟩
  rw [Q97.l0_s, Q97.s0, bif_f (ltI_f (by omega))]
  exact Ret.ret hp
 | succ k ih =>
  intro n i j d' hk h1 h2 h3 h4 hn hp
  obtain ⟨n, rfl⟩ : ∃ m, n = m + 1 := ⟨n - 1, by omega⟩
  rw [Q97.l0_s, Q97.s0]
  refine Ret.bif (fun c => ?_) (fun _ => Ret.ret hp)
  rw [ltI_iff] at c
  exact partM_l1 hN d hd (B := 4000100 * k + 1) ha hb (by omega) (fun n i d' g1 g2 g3 hp => ih n i (j + 1) d' (by omega) (by omega) (by omega) g1 g2 g3 hp) 1000000 n i d' (by omega) h3 h4 (by omega) hp
theorem partM {d0 : List MvT} {a b : Int} (ha : 0 ≤ a) (hab : a < b) (hb : b ≤ d.length) (hp : Pm d d0) : Ret (Q97 N d0 a b) (PmB d) := by
 unfold Q97 Q97.e
 rw [w64_id (by omega) (by omega)]
 exact partM_l0 hN d hd ha hb 5 N (a + 1) 0 d0 (by omega) (by omega) (by omega) (by omega) (by omega) (by omega) hp
abbrev PmE (d : List MvT) (a b : Int) (y : Int × List MvT) : Prop := (a < y.1 ∧ y.1 ≤ b) ∧ Pm d y.2
theorem equM_l {d0 : List MvT} {a b p : Int} (ha : 0 ≤ a) (hb : b ≤ d.length) : ∀ (n : Nat) (i j : Int) (d' : List MvT), a < i → i ≤ j + 2 → i ≤ b → j < b → Pm d d' →
  (3 * (j - i + 2) + 1 ≤ n → Ret (Q98.l2 N d0 a b p n i j d') (PmE d a b)) ∧
  (3 * (j - i + 2) + 2 ≤ n → Ret (Q98.l1 N d0 a b p n i j d') (PmE d a b)) ∧
  (3 * (j - i + 2) + 3 ≤ n → Ret (Q98.l0 N d0 a b p n i j d') (PmE d a b)) := by
 intro n
 induction n with
 | zero => exact fun i j d' h1 h2 hib h3 hp => ⟨fun h => by omega, fun h => by omega, fun h => by omega⟩
 | succ n ih =>
  intro i j d' h1 h2 hib h3 hp
  have hl := hp.length_eq
  refine ⟨fun h => ?_, fun h => ?_, fun h => ?_⟩
  ·rw [Q98.l2_s, Q98.s2]
   refine Ret.bif (fun c => ?_) (fun c => ?_)
   ·rw [leI_iff] at c
    simp (disch := omega) only [w64_id, chk_idx, List.length_set, cmpM_eq (show 4 ≤ N by omega), ob]
    refine Ret.bif (fun _ => (ih i (j - 1) d' h1 (by omega) hib (by omega) hp).1 (by omega)) (fun _ => ?_)
    refine Ret.bif (fun c => Ret.ret ⟨by rw [ltI_iff] at c; omega, hp⟩) (fun c2 => ?_)
    exact (ih (i + 1) (j - 1) _ (by omega) (by omega) (by omega) (by omega) (hp.swp (by omega) (by omega) (by omega) (by omega))).2.2 (by omega)
   ·rw [leI_iff'] at c
    rw [bif_t (ltI_t c)]
    exact Ret.ret ⟨by omega, hp⟩
  ·rw [Q98.l1_s, Q98.s1]
   refine Ret.bif (fun c => ?_) (fun c => (ih i j d' h1 h2 hib h3 hp).1 (by omega))
   rw [leI_iff] at c
   simp (disch := omega) only [w64_id, chk_idx, List.length_set, cmpM_eq (show 4 ≤ N by omega), ob]
   exact Ret.bif (fun _ => (ih (i + 1) j d' (by omega) (by omega) (by omega) h3 hp).2.1 (by omega)) (fun _ => (ih i j d' h1 h2 hib h3 hp).1 (by omega))
  ·rw [Q98.l0_s, Q98.s0]
   exact (ih i j d' h1 h2 hib h3 hp).2.1 (by omega)
theorem equM {d0 : List MvT} {a b p : Int} (ha : 0 ≤ a) (hab : a < b) (hb : b ≤ d.length) (hpv : a ≤ p ∧ p < b) (hp : Pm d d0) : Ret (Q98 N d0 a b p) (PmE d a b) := by
 unfold Q98 Q98.e
 have hl := hp.length_eq
 simp (disch := omega) only [w64_id, chk_idx, List.length_set]
 exact (equM_l hN d hd ha hb N (a + 1) (b - 1) _ (by omega) (by omega) (by omega) (by omega) (hp.swp (by omega) (by omega) (by omega) (by omega))).2.2 (by omega)
abbrev PmP (d : List MvT) (a b : Int) (y : Int × (Bool × List MvT)) : Prop := (a ≤ y.1 ∧ y.1 < b) ∧ Pm d y.2.2
theorem parM_l {d0 : List MvT} {a b p : Int} (ha : 0 ≤ a) (hb : b ≤ d.length) : ∀ (n : Nat) (i j : Int) (d' : List MvT), a < i → i ≤ j + 2 → a ≤ j → i ≤ b → j < b → Pm d d' →
  (3 * (j - i + 2) + 1 ≤ n → Ret (Q99.l4 N d0 a b p n i j d') (PmP d a b)) ∧
  (3 * (j - i + 2) + 2 ≤ n → Ret (Q99.l3 N d0 a b p n i j d') (PmP d a b)) ∧
  (3 * (j - i + 2) + 3 ≤ n → Ret (Q99.l2 N d0 a b p n i j d') (PmP d a b)) := by
 intro n
 induction n with
 | zero => exact fun i j d' h1 h2 hja hib h3 hp => ⟨fun h => by omega, fun h => by omega, fun h => by omega⟩
 | succ n ih =>
  intro i j d' h1 h2 hja hib h3 hp
  have hl := hp.length_eq
  refine ⟨fun h => ?_, fun h => ?_, fun h => ?_⟩
  ·rw [Q99.l4_s, Q99.s4]
   refine Ret.bif (fun c => ?_) (fun c => ?_)
   ·rw [leI_iff] at c
    simp (disch := omega) only [w64_id, chk_idx, List.length_set, cmpM_eq (show 4 ≤ N by omega), ob]
    refine Ret.bif (fun _ => (ih i (j - 1) d' h1 (by omega) (by omega) hib (by omega) hp).1 (by omega)) (fun _ => ?_)
    refine Ret.bif (fun c => Ret.ret ⟨by omega, hp.swp (by omega) (by omega) (by omega) (by omega)⟩) (fun c2 => ?_)
    exact (ih (i + 1) (j - 1) _ (by omega) (by omega) (by omega) (by omega) (by omega) (hp.swp (by omega) (by omega) (by omega) (by omega))).2.2 (by omega)
   ·rw [leI_iff'] at c
    rw [bif_t (ltI_t c)]
    simp (disch := omega) only [w64_id, chk_idx, List.length_set]
    exact Ret.ret ⟨by omega, hp.swp (by omega) (by omega) (by omega) (by omega)⟩
  ·rw [Q99.l3_s, Q99.s3]
   refine Ret.bif (fun c => ?_) (fun c => (ih i j d' h1 h2 hja hib h3 hp).1 (by omega))
   rw [leI_iff] at c
   simp (disch := omega) only [w64_id, chk_idx, List.length_set, cmpM_eq (show 4 ≤ N by omega), ob]
   exact Ret.bif (fun _ => (ih (i + 1) j d' (by omega) (by omega) hja (by omega) h3 hp).2.1 (by omega)) (fun _ => (ih i j d' h1 h2 hja hib h3 hp).1 (by omega))
  ·rw [Q99.l2_s, Q99.s2]
   exact (ih i j d' h1 h2 hja hib h3 hp).2.1 (by omega)
theorem parM_l1 {d0 : List MvT} {a b p : Int} (ha : 0 ≤ a) (hb : b ≤ d.length) : ∀ (n : Nat) (i j : Int) (d' : List MvT), a < i → i ≤ j + 2 → a ≤ j → i ≤ b → j < b → Pm d d' →
  3 * (j - i + 2) + 4 ≤ n → Ret (Q99.l1 N d0 a b p n i j d') (PmP d a b) := by
 intro n
 induction n with
 | zero => exact fun i j d' h1 h2 hja hib h3 hp h => by omega
 | succ n ih =>
  intro i j d' h1 h2 hja hib h3 hp h
  have hl := hp.length_eq
  rw [Q99.l1_s, Q99.s1]
  refine Ret.bif (fun c => ?_) (fun c => ?_)
  ·rw [leI_iff] at c
   simp (disch := omega) only [w64_id, chk_idx, List.length_set, cmpM_eq (show 4 ≤ N by omega), ob]
   refine Ret.bif (fun _ => ih i (j - 1) d' h1 (by omega) (by omega) hib (by omega) hp (by omega)) (fun _ => ?_)
   refine Ret.bif (fun c => Ret.ret ⟨by omega, hp.swp (by omega) (by omega) (by omega) (by omega)⟩) (fun c2 => ?_)
   exact (parM_l hN d hd ha hb n (i + 1) (j - 1) _ (by omega) (by omega) (by omega) (by omega) (by omega) (hp.swp (by omega) (by omega) (by omega) (by omega))).2.2 (by omega)
  ·rw [leI_iff'] at c
   rw [bif_t (ltI_t c)]
   simp (disch := omega) only [w64_id, chk_idx, List.length_set]
   exact Ret.ret ⟨by omega, hp.swp (by omega) (by omega) (by omega) (by omega)⟩
theorem parM_l0 {d0 : List MvT} {a b p : Int} (ha : 0 ≤ a) (hab : a < b) (hb : b ≤ d.length) : ∀ (k n : Nat) (i : Int) (d' : List MvT), b - i ≤ k → a < i → i ≤ b → 3000010 + k + 1 ≤ n → Pm d d' → Ret (Q99.l0 N d0 a b p n i d') (PmP d a b) := by
 intro k
 induction k with
 | zero =>
  intro n i d' hk h1 h2 hn hp
  obtain ⟨n, rfl⟩ : ∃ m, n = m + 1 := ⟨n - 1, by omega⟩
  rw [Q99.l0_s, Q99.s0]
  simp (disch := omega) only [w64_id]
  rw [bif_f (leI_f (by omega))]
  exact parM_l1 hN d hd ha hb n i (b - 1) d' h1 (by omega) (by omega) h2 (by omega) hp (by omega)
 | succ k ih =>
  intro n i d' hk h1 h2 hn hp
  have hl := hp.length_eq
  obtain ⟨n, rfl⟩ : ∃ m, n = m + 1 := ⟨n - 1, by omega⟩
  rw [Q99.l0_s, Q99.s0]
  simp (disch := omega) only [w64_id]
  refine Ret.bif (fun c => ?_) (fun _ => parM_l1 hN d hd ha hb n i (b - 1) d' h1 (by omega) (by omega) h2 (by omega) hp (by omega))
  rw [leI_iff] at c
  simp (disch := omega) only [w64_id, chk_idx, List.length_set, cmpM_eq (show 4 ≤ N by omega), ob]
  exact Ret.bif (fun _ => ih n (i + 1) d' (by omega) (by omega) (by omega) (by omega) hp) (fun _ => parM_l1 hN d hd ha hb n i (b - 1) d' h1 (by omega) (by omega) h2 (by omega) hp (by omega))
theorem parM {d0 : List MvT} {a b p : Int} (ha : 0 ≤ a) (hab : a < b) (hb : b ≤ d.length) (hpv : a ≤ p ∧ p < b) (hp : Pm d d0) : Ret (Q99 N d0 a b p) (PmP d a b) := by
 unfold Q99 Q99.e
 have hl := hp.length_eq
 simp (disch := omega) only [w64_id, chk_idx, List.length_set]
 exact parM_l0 hN d hd ha hab hb 1000000 N (a + 1) _ (by omega) (by omega) (by omega) (by omega) (hp.swp (by omega) (by omega) (by omega) (by omega))
end
end Go.Proofs.YtfihdjjilofklaaGreat.Am
set_option linter.unusedVariables false
set_option linter.unusedSimpArgs false
set_option linter.unusedSectionVars false
namespace Go.Proofs.YtfihdjjilofklaaGreat.Am
open Go
theorem wrapU (y : Int) : IntKind.wrap .u64 y = y % 18446744073709551616 := by
 unfold IntKind.wrap
 have e : (2 : Int) ^ IntKind.bits .u64 = 18446744073709551616 := by decide
 simp only [e]
 simp [IntKind.signed]
theorem and_le (x : Int) (m : Nat) (hm : m < 18446744073709551616) : 0 ≤ Go.bits .and .u64 x (m : Int) ∧ Go.bits .and .u64 x (m : Int) ≤ m := by
 have h1 : ((BitVec.ofInt 64 x &&& BitVec.ofInt 64 (m : Int)).toNat) ≤ m := by
  rw [BitVec.toNat_and]
  refine Nat.le_trans Nat.and_le_right ?_
  rw [BitVec.ofInt_natCast, BitVec.toNat_ofNat]
  exact Nat.mod_le _ _
 have h2 : Go.bits .and .u64 x (m : Int) = (((BitVec.ofInt 64 x &&& BitVec.ofInt 64 (m : Int)).toNat : Nat) : Int) := by
  have hw : ∀ y : Int, IntKind.u64.wrap y = y % 18446744073709551616 := fun y => by
   unfold IntKind.wrap
   have e : (2 : Int) ^ IntKind.bits .u64 = 18446744073709551616 := by decide
   simp only [e]
   simp [IntKind.signed]
  show IntKind.u64.wrap (((BitVec.ofInt 64 x &&& BitVec.ofInt 64 (m : Int)).toNat : Nat) : Int) = _
  rw [hw]
  exact Int.emod_eq_of_lt (by omega) (by omega)
 rw [h2]
 omega
def lenOk (k : Nat) : Bool := match Q80 0 (IntKind.wrap .u64 (k : Int)) with
 | some v => leI 0 v && (ltI v 20 && Nat.ble (2 ^ v.toNat) (2 * k))
 | none => false
theorem lenOk_all : (upto 8192 fun k => lenOk (k + 1)) = true := by decide +kernel
theorem bitsLen_le (N : Nat) {k : Nat} (h1 : 1 ≤ k) (h2 : k ≤ 8192) : ∃ v : Int, Q80 N (IntKind.wrap .u64 (k : Int)) = some v ∧ 0 ≤ v ∧ v < 20 ∧ 2 ^ v.toNat ≤ 2 * k := by
 have := upto_at lenOk_all (i := k - 1) (by omega)
 rw [show k - 1 + 1 = k by omega] at this
 unfold lenOk at this
 split at this
 ·rename_i v hv
  simp only [Bool.and_eq_true, leI_iff, ltI_iff] at this
  exact ⟨v, hv, this.1, this.2.1, Nat.le_of_ble_eq_true this.2.2⟩
 ·cases this
section
variable {N : Nat} (hN : 100000000 ≤ N) (d : List MvT) (hd : d.length ≤ 8192)
include hN hd
theorem breakM_l0 {d0 : List MvT} {a b : Int} (ha : 0 ≤ a) (hab : 8 ≤ b - a) (hb : b ≤ d.length) {m : Nat} (hm1 : 1 ≤ m) (hm : m ≤ 2 * (b - a)) : ∀ (k n : Nat) (idx : Int) (d' : List MvT) (rnd : Int), a + (b - a) / 4 * 2 + 2 - idx ≤ k → a ≤ idx → k + 1 ≤ n → Pm d d' → Ret (Q94.l0 N d0 a b n (m : Int) idx d' rnd) (Pm d) := by
 have ht : Int.tdiv (b - a) 4 = (b - a) / 4 := Int.tdiv_eq_ediv_of_nonneg (by omega)
 intro k
 induction k with
 | zero =>
  intro n idx d' rnd hk h1 hn hp
  obtain ⟨n, rfl⟩ : ∃ m, n = m + 1 := ⟨n - 1, by omega⟩
  rw [Q94.l0_s, Q94.s0]
  rw [w64_id (x := b - a) (by omega) (by omega), ht]
  simp (disch := omega) only [w64_id]
  rw [bif_f (leI_f (by omega))]
  exact Ret.ret hp
 | succ k ih =>
  intro n idx d' rnd hk h1 hn hp
  have hl := hp.length_eq
  obtain ⟨n, rfl⟩ : ∃ m, n = m + 1 := ⟨n - 1, by omega⟩
  rw [Q94.l0_s, Q94.s0]
  rw [w64_id (x := b - a) (by omega) (by omega), ht]
  simp (disch := omega) only [w64_id]
  refine Ret.bif (fun c => ?_) (fun _ => Ret.ret hp)
  rw [leI_iff] at c
  obtain ⟨y, hy⟩ : ∃ y, Q107 N rnd = some y := ⟨_, rfl⟩
  rw [hy, ob]
  have hmm : IntKind.wrap .u64 ((m : Int) - 1) = ((m - 1 : Nat) : Int) := by
   unfold IntKind.wrap
   have e : (2 : Int) ^ IntKind.bits .u64 = 18446744073709551616 := by decide
   simp only [e]
   have : ((m : Int) - 1) % 18446744073709551616 = ((m - 1 : Nat) : Int) := by omega
   simp [IntKind.signed, this]
  rw [hmm]
  obtain ⟨q1, q2⟩ := and_le y.1 (m - 1) (by omega)
  generalize Go.bits .and .u64 y.1 ((m - 1 : Nat) : Int) = v at q1 q2
  simp (disch := omega) only [w64_id]
  refine Ret.bif (fun c2 => ?_) (fun c2 => ?_)
  ·rw [leI_iff] at c2
   simp (disch := omega) only [w64_id, chk_idx, List.length_set]
   exact ih n (idx + 1) _ _ (by omega) (by omega) (by omega) (hp.swp (by omega) (by omega) (by omega) (by omega))
  ·rw [leI_iff'] at c2
   simp (disch := omega) only [w64_id, chk_idx, List.length_set]
   exact ih n (idx + 1) _ _ (by omega) (by omega) (by omega) (hp.swp (by omega) (by omega) (by omega) (by omega))
theorem breakM {d0 : List MvT} {a b : Int} (ha : 0 ≤ a) (hab : a ≤ b) (hb : b ≤ d.length) (hp : Pm d d0) : Ret (Q94 N d0 a b) (Pm d) := by
 unfold Q94 Q94.e
 have ht : Int.tdiv (b - a) 4 = (b - a) / 4 := Int.tdiv_eq_ediv_of_nonneg (by omega)
 rw [w64_id (x := b - a) (by omega) (by omega), ht]
 simp (disch := omega) only [w64_id]
 refine Ret.bif (fun c => ?_) (fun _ => Ret.ret hp)
 rw [leI_iff] at c
 obtain ⟨l, hl⟩ : ∃ l : Nat, b - a = l := ⟨(b - a).toNat, by omega⟩
 obtain ⟨v, v1, v2, v3, v4⟩ := bitsLen_le N (k := l) (by omega) (by omega)
 unfold Q106 Q106.e
 rw [hl, v1, ob, bif_f (ltI_f v2), ob]
 have hpw : (1 : Nat) ≤ 2 ^ v.toNat := Nat.one_le_two_pow
 have hw : IntKind.wrap .u64 (1 * 2 ^ (min v.toNat 64)) = ((2 ^ v.toNat : Nat) : Int) := by
  rw [Nat.min_eq_left (by omega), wrapU]
  have e2 : (1 : Int) * 2 ^ v.toNat = ((2 ^ v.toNat : Nat) : Int) := by simp
  rw [e2]
  exact Int.emod_eq_of_lt (by omega) (by omega)
 rw [hw, ← hl]
 exact breakM_l0 hN d hd ha c hb hpw (by omega) 10000 N _ d0 _ (by omega) (by omega) (by omega) hp
end
def pdTail (N : Nat) (self : List MvT → Int → Int → Int → Option (List MvT)) (r0 : Int → Int → Int → Bool → Bool → List MvT → Option (List MvT)) (a b lim : Int) (wB wP : Bool) (y : List MvT) (p : Int) : Option (List MvT) :=
 let part := (Q99 N y a b p).bind fun y11 =>
  let v12 : Int := (w64 (Int.tdiv (w64 (b - a)) 8))
  bif (ltI (w64 (y11.1 - a)) (w64 (b - y11.1))) then ((self y11.2.2 a y11.1 lim).bind fun y15 =>
   r0 (w64 (y11.1 + 1)) b lim (leI v12 (w64 (y11.1 - a))) y11.2.1 y15)
  else (self y11.2.2 (w64 (y11.1 + 1)) b lim).bind fun y17 =>
  r0 a y11.1 lim (leI v12 (w64 (b - y11.1))) y11.2.1 y17
 bif (ltI 0 a) then (chk ((leI 0 (w64 (a - 1))) && (ltI (w64 (a - 1)) (y.length : Int))) <|
  chk ((leI 0 p) && (ltI p (y.length : Int))) <|
  (Q60 N (gD z0 y (w64 (a - 1))) (gD z0 y p)).bind fun y9 =>
  bif (!(ltI y9 0)) then ((Q98 N y a b p).bind fun y10 =>
   r0 y10.1 b lim wB wP y10.2)
  else part)
 else part
section
variable {N : Nat} (hN : 100000000 ≤ N) (d : List MvT) (hd : d.length ≤ 8192)
include hN hd
theorem pdTail_ok {self : List MvT → Int → Int → Int → Option (List MvT)} {r0 : Int → Int → Int → Bool → Bool → List MvT → Option (List MvT)} {a b : Int} (ha : 0 ≤ a) (hab : a < b) (hb : b ≤ d.length)
  (hs : ∀ a' b' l d', a ≤ a' → a' ≤ b' → b' ≤ b → b' - a' < b - a → Pm d d' → Ret (self d' a' b' l) (Pm d))
  (hr : ∀ a' b' l wB wP d', a ≤ a' → a' ≤ b' → b' ≤ b → b' - a' < b - a → Pm d d' → Ret (r0 a' b' l wB wP d') (Pm d))
  (lim : Int) (wB wP : Bool) {y : List MvT} (hp : Pm d y) {p : Int} (hpv : a ≤ p ∧ p < b) : Ret (pdTail N self r0 a b lim wB wP y p) (Pm d) := by
 have hl := hp.length_eq
 have hpart : Ret ((Q99 N y a b p).bind fun y11 =>
  let v12 : Int := (w64 (Int.tdiv (w64 (b - a)) 8))
  bif (ltI (w64 (y11.1 - a)) (w64 (b - y11.1))) then ((self y11.2.2 a y11.1 lim).bind fun y15 =>
   r0 (w64 (y11.1 + 1)) b lim (leI v12 (w64 (y11.1 - a))) y11.2.1 y15)
  else (self y11.2.2 (w64 (y11.1 + 1)) b lim).bind fun y17 =>
  r0 a y11.1 lim (leI v12 (w64 (b - y11.1))) y11.2.1 y17) (Pm d) := by
  refine Ret.bnd (parM hN d (by omega) ha hab hb hpv hp) fun y11 h11 => ?_
  obtain ⟨⟨g1, g2⟩, g3⟩ := h11
  have e : w64 (y11.1 + 1) = y11.1 + 1 := w64_id (by omega) (by omega)
  simp only [e]
  refine Ret.bif (fun _ => ?_) (fun _ => ?_)
  ·exact Ret.bnd (hs _ _ _ _ (by omega) g1 (by omega) (by omega) g3) fun y15 h15 => hr _ _ _ _ _ _ (by omega) (by omega) (by omega) (by omega) h15
  ·exact Ret.bnd (hs _ _ _ _ (by omega) (by omega) (by omega) (by omega) g3) fun y15 h15 => hr _ _ _ _ _ _ (by omega) g1 (by omega) (by omega) h15
 unfold pdTail
 refine Ret.bif (fun c => ?_) (fun _ => hpart)
 rw [ltI_iff] at c
 simp (disch := omega) only [w64_id, chk_idx, cmpM_eq (show 4 ≤ N by omega), ob]
 refine Ret.bif (fun _ => ?_) (fun _ => ?_)
 ·refine Ret.bnd (equM hN d (by omega) ha hab hb hpv hp) fun y10 h10 => ?_
  exact hr _ _ _ _ _ _ (by omega) (by omega) (by omega) (by omega) h10.2
 ·have := hpart
  simpa (disch := omega) only [w64_id] using this
end
end Go.Proofs.YtfihdjjilofklaaGreat.Am
set_option linter.unusedVariables false
set_option linter.unusedSimpArgs false
set_option linter.unusedSectionVars false
namespace Go.Proofs.YtfihdjjilofklaaGreat.Am
open Go
section
variable {N : Nat} (hN : 100000000 ≤ N) (d : List MvT) (hd : d.length ≤ 8192)
include hN hd
theorem pdqM_l0 {d0 : List MvT} {a0 b0 l0 : Int} {self : List MvT → Int → Int → Int → Option (List MvT)} {K : Int}
  (hs : ∀ (a' b' l : Int) (d' : List MvT), 0 ≤ a' → a' ≤ b' → b' ≤ d.length → b' - a' < K → Pm d d' → Ret (self d' a' b' l) (Pm d)) :
  ∀ (m n : Nat) (a b lim : Int) (wB wP : Bool) (d' : List MvT), b - a ≤ m → b - a ≤ K → 0 ≤ a → a ≤ b → b ≤ d.length → m + 1 ≤ n → Pm d d' → Ret (Q79.l0 N self d0 a0 b0 l0 n a b lim wB wP d') (Pm d) := by
 intro m
 induction m using Nat.strongRecOn with
 | _ m ih =>
 intro n a b lim wB wP d' hm hK ha hab hb hn hp
 obtain ⟨n, rfl⟩ : ∃ q, n = q + 1 := ⟨n - 1, by omega⟩
 have hl := hp.length_eq
 rw [Q79.l0_s, Q79.s0]
 refine Ret.bif (fun c => Ret.bnd (insM (by omega) d (by omega) ha hab hb (by rw [leI_iff, w64_id (by omega) (by omega)] at c; exact c) (by omega) hp) fun y hy => Ret.ret hy) (fun c => ?_)
 rw [leI_iff', w64_id (by omega) (by omega)] at c
 have hab' : a < b := by omega
 refine Ret.bif (fun _ => Ret.bnd (heapM (by omega) d (by omega) ha hab' hb hp) fun y hy => Ret.ret hy) (fun _ => ?_)
 have hs' : ∀ a' b' l d', a ≤ a' → a' ≤ b' → b' ≤ b → b' - a' < b - a → Pm d d' → Ret (self d' a' b' l) (Pm d) := fun a' b' l d' h1 h2 h3 h4 h5 => hs a' b' l d' (by omega) h2 (by omega) (by omega) h5
 have hr' : ∀ a' b' l wB wP d', a ≤ a' → a' ≤ b' → b' ≤ b → b' - a' < b - a → Pm d d' → Ret (Q79.l0 N self d0 a0 b0 l0 n a' b' l wB wP d') (Pm d) := fun a' b' l wB wP d' h1 h2 h3 h4 h5 =>
  ih (b' - a').toNat (by omega) n a' b' l wB wP d' (by omega) (by omega) (by omega) h2 (by omega) (by omega) h5
 have tail : ∀ (lim : Int) (wB wP : Bool) {y : List MvT}, Pm d y → ∀ {p : Int}, (a ≤ p ∧ p < b) → Ret (pdTail N self (Q79.l0 N self d0 a0 b0 l0 n) a b lim wB wP y p) (Pm d) := fun lim wB wP y hy p hpv => pdTail_ok hN d hd ha hab' hb hs' hr' lim wB wP hy hpv
 have piv : ∀ {y : List MvT}, Pm d y → Ret (Q95 N y a b) fun z => a ≤ z.1 ∧ z.1 < b := fun hy => pivotM (by omega) d (by omega) hy.length_eq ha (by omega) hb
 have rev : ∀ {y : List MvT}, Pm d y → Ret (Q96 N y a b) (Pm d) := fun hy => reverseM (by omega) d (by omega) ha hab' hb hy
 have prt : ∀ {y : List MvT}, Pm d y → Ret (Q97 N y a b) (PmB d) := fun hy => partM hN d (by omega) ha hab' hb hy
 have v7 : ∀ z : Int, a ≤ z ∧ z < b → w64 (w64 (b - 1) - w64 (z - a)) = b - 1 - (z - a) := fun z hz => by
  rw [w64_id (x := b - 1) (by omega) (by omega), w64_id (x := z - a) (by omega) (by omega), w64_id (by omega) (by omega)]
 refine Ret.bif (fun _ => ?_) (fun _ => ?_)
 ·refine Ret.bnd (breakM hN d hd ha hab hb hp) fun y4 h4 => ?_
  refine Ret.bnd (piv h4) fun y5 h5 => ?_
  refine Ret.bif (fun _ => ?_) (fun _ => ?_)
  ·refine Ret.bnd (rev h4) fun y6 h6 => ?_
   simp only [v7 y5.1 h5]
   refine Ret.bif (fun _ => Ret.bif (fun _ => Ret.bnd (prt h6) fun y8 h8 => Ret.bif (fun _ => Ret.ret h8) (fun _ => ?_)) (fun _ => ?_)) (fun _ => ?_)
   ·exact tail _ _ _ h8 (by omega)
   ·exact tail _ _ _ h6 (by omega)
   ·exact tail _ _ _ h6 (by omega)
  ·refine Ret.bif (fun _ => Ret.bif (fun _ => Ret.bif (fun _ => Ret.bnd (prt h4) fun y8 h8 => Ret.bif (fun _ => Ret.ret h8) (fun _ => ?_)) (fun _ => ?_)) (fun _ => ?_)) (fun _ => ?_)
   ·exact tail _ _ _ h8 h5
   ·exact tail _ _ _ h4 h5
   ·exact tail _ _ _ h4 h5
   ·exact tail _ _ _ h4 h5
 ·refine Ret.bnd (piv hp) fun y5 h5 => ?_
  refine Ret.bif (fun _ => ?_) (fun _ => ?_)
  ·refine Ret.bnd (rev hp) fun y6 h6 => ?_
   simp only [v7 y5.1 h5]
   refine Ret.bif (fun _ => Ret.bif (fun _ => Ret.bnd (prt h6) fun y8 h8 => Ret.bif (fun _ => Ret.ret h8) (fun _ => ?_)) (fun _ => ?_)) (fun _ => ?_)
   ·exact tail _ _ _ h8 (by omega)
   ·exact tail _ _ _ h6 (by omega)
   ·exact tail _ _ _ h6 (by omega)
  ·refine Ret.bif (fun _ => Ret.bif (fun _ => Ret.bif (fun _ => Ret.bnd (prt hp) fun y8 h8 => Ret.bif (fun _ => Ret.ret h8) (fun _ => ?_)) (fun _ => ?_)) (fun _ => ?_)) (fun _ => ?_)
   ·exact tail _ _ _ h8 h5
   ·exact tail _ _ _ hp h5
   ·exact tail _ _ _ hp h5
   ·exact tail _ _ _ hp h5
end
theorem pdqM (d : List MvT) (hd : d.length ≤ 8192) : ∀ (k N : Nat) (d0 : List MvT) (a b lim : Int), b - a ≤ k → 100000000 + k < N → 0 ≤ a → a ≤ b → b ≤ d.length → Pm d d0 → Ret (Q79 N d0 a b lim) (Pm d) := by
 intro k
 induction k using Nat.strongRecOn with
 | _ k ih =>
 intro N d0 a b lim hk hN ha hab hb hp
 obtain ⟨N, rfl⟩ : ∃ q, N = q + 1 := ⟨N - 1, by omega⟩
 rw [Q79_s, Q79.e]
 refine pdqM_l0 (by omega) d hd (K := b - a) (fun a' b' l d' h1 h2 h3 h4 h5 => ?_) (b - a).toNat N a b lim true true d0 (by omega) (Int.le_refl _) ha hab hb (by omega) hp
 exact ih (b' - a').toNat (by omega) N d' a' b' l (by omega) (by omega) h1 h2 h3 h5
theorem sortM {N : Nat} (hN : 200000000 ≤ N) (d : List MvT) (hd : d.length ≤ 8192) : Ret (Q59 N d) (Pm d) := by
 unfold Q59 Q59.e
 by_cases h0 : d.length = 0
 ·obtain rfl := List.length_eq_zero_iff.1 h0
  obtain ⟨v, hv⟩ : ∃ v, Q80 N (IntKind.wrap .u64 (([] : List MvT).length : Int)) = some v := ⟨0, by kernel_rfl⟩
  rw [hv, ob]
  exact Ret.bnd (pdqM [] (by simp) 0 N [] 0 _ v (by simp) (by omega) (by omega) (by simp) (by simp) (List.Perm.refl _)) fun y hy => Ret.ret hy
 ·obtain ⟨v, hv, _⟩ := bitsLen_le N (k := d.length) (by omega) hd
  rw [hv, ob]
  exact Ret.bnd (pdqM d hd d.length N d 0 _ v (by omega) (by omega) (by omega) (by omega) (Int.le_refl _) (List.Perm.refl _)) fun y hy => Ret.ret hy
end Go.Proofs.YtfihdjjilofklaaGreat.Am
