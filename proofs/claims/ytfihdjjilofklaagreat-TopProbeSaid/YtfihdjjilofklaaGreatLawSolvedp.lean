/- Plain: what one round over a table finds. -/
import Derived.Test.YtfihdjjilofklaaGreatLawTablep
import Derived.Test.YtfihdjjilofklaaGreatLawRCopyp
import Derived.Test.YtfihdjjilofklaaGreatLawDoFp
set_option linter.unusedVariables false
set_option linter.unusedSimpArgs false
set_option linter.unusedSectionVars false
namespace Go.Proofs.YtfihdjjilofklaaGreat.Am
open Go
abbrev EnT := Int × Int
abbrev zEn : EnT := ((0 : Int), (0 : Int))
def en (T : TabT) (k : Int) : EnT := gD zEn T.2.2.2.2.1 k
def lp (T : TabT) (j : Int) : PosT := gD zPos T.2.1 j
def xs (T : TabT) (j : Int) : List Int := gD ([] : List Int) T.2.2.1 j
def winB (T : TabT) (n mine : Int) (x : List Int) : Bool := x.any fun k => eqI (en T k).1 mine && eqI (en T k).2 (n - 1)
def lossB (T : TabT) (other : Int) (x : List Int) : Bool := x.all fun k => eqI (en T k).1 other
def pickV (T : TabT) (n : Int) (j : Nat) : Option Int :=
 if (en T j).1 ≠ 0 then none
 else if winB T n (1 + (lp T j).2.2.1) (xs T j) = true then some (1 + (lp T j).2.2.1)
 else if lossB T (2 - (lp T j).2.2.1) (xs T j) = true then some (2 - (lp T j).2.2.1) else none
def scan (T : TabT) (n : Int) : Nat → Nat → List (Nat × Int)
 | 0, _ => []
 | k + 1, j => (match pickV T n j with
  | some v => [(j, v)]
  | none => []) ++ scan T n k (j + 1)
def setE (n : Int) (m : List EnT) (S : List (Nat × Int)) : List EnT := S.foldl (fun m s => m.set s.1 (s.2, n)) m
theorem setE_len (n : Int) : ∀ (S : List (Nat × Int)) (m : List EnT), (setE n m S).length = m.length
 | [], m => rfl
 | s :: S, m => by
  show (setE n (m.set s.1 (s.2, n)) S).length = _
  rw [setE_len n S, List.length_set]
theorem scan_mem {T : TabT} {n : Int} : ∀ (k j : Nat) (s : Nat × Int), s ∈ scan T n k j ↔ j ≤ s.1 ∧ s.1 < j + k ∧ pickV T n s.1 = some s.2
 | 0, j, s => by simp only [scan, List.not_mem_nil, false_iff]; omega
 | k + 1, j, s => by
  obtain ⟨i, v⟩ := s
  simp only [scan, List.mem_append, scan_mem k (j + 1)]
  constructor
  ·rintro (h | h)
   ·cases hp : pickV T n j with
    | none => rw [hp] at h; cases h
    | some v' =>
     rw [hp] at h
     simp only [List.mem_singleton, Prod.mk.injEq] at h
     obtain ⟨rfl, rfl⟩ := h
     exact ⟨Nat.le_refl _, by omega, hp⟩
   ·exact ⟨by omega, by omega, h.2.2⟩
  ·rintro ⟨h1, h2, h3⟩
   by_cases e : i = j
   ·subst e
    left
    rw [h3]
    simp
   ·right
    exact ⟨by omega, by omega, h3⟩
theorem setE_get {T : TabT} {n : Int} : ∀ (k j : Nat) (m : List EnT), j + k ≤ m.length → ∀ i, (setE n m (scan T n k j))[i]? = if j ≤ i ∧ i < j + k then (match pickV T n i with
  | some v => some (v, n)
  | none => m[i]?) else m[i]?
 | 0, j, m, h, i => by rw [if_neg (by omega)]; rfl
 | k + 1, j, m, h, i => by
  cases hp : pickV T n j with
  | none =>
   have e : setE n m (scan T n (k + 1) j) = setE n m (scan T n k (j + 1)) := by simp only [scan, hp, List.nil_append]
   rw [e, setE_get k (j + 1) m (by omega)]
   by_cases h1 : i = j
   ·subst h1
    rw [if_neg (by omega), if_pos (by omega), hp]
   ·by_cases h2 : j + 1 ≤ i ∧ i < j + 1 + k
    ·rw [if_pos h2, if_pos (by omega)]
    ·rw [if_neg h2, if_neg (by omega)]
  | some v =>
   have e : setE n m (scan T n (k + 1) j) = setE n (m.set j (v, n)) (scan T n k (j + 1)) := by simp only [scan, hp]; rfl
   rw [e, setE_get k (j + 1) _ (by rw [List.length_set]; omega)]
   by_cases h1 : i = j
   ·subst h1
    rw [if_neg (by omega), if_pos (by omega), hp, List.getElem?_set_self (by omega)]
   ·rw [List.getElem?_set_ne (fun e => h1 e.symm)]
    by_cases h2 : j + 1 ≤ i ∧ i < j + 1 + k
    ·rw [if_pos h2, if_pos (by omega)]
    ·rw [if_neg h2, if_neg (by omega)]
structure RW (T : TabT) : Prop where
 sz : T.2.1.length ≤ 3000
 en : T.2.2.2.2.1.length = T.2.1.length
 nx : T.2.2.1.length = T.2.1.length
 kid : ∀ x ∈ T.2.2.1, x.length ≤ 8192 ∧ ∀ k ∈ x, 0 ≤ k ∧ k < (T.2.1.length : Int)
 turn : ∀ p ∈ T.2.1, p.2.2.1 = 0 ∨ p.2.2.1 = 1
def roundT (T : TabT) (n : Int) : TabT := (T.1, (T.2.1, (T.2.2.1, (T.2.2.2.1, (setE n T.2.2.2.2.1 (scan T n T.2.2.2.2.1.length 0), T.2.2.2.2.2)))))
section
variable {N : Nat} {T : TabT} (hT : RW T) {n0 : Int} (hn0 : 1 ≤ n0 ∧ n0 ≤ 100000) (X : Option (Bool × TabT))
include hT hn0
theorem rd_l1 (j : Nat) (mine other : Int) (x : List Int) (hx : x.length ≤ 8192 ∧ ∀ k ∈ x, 0 ≤ k ∧ k < (T.2.1.length : Int)) (F R : List Int) (hF : F.length ≤ 3000 ∧ R.length ≤ 3000) (B : Nat)
  (hE : ∀ n w l, B ≤ n → w = winB T n0 mine x → l = lossB T other x → (bif w then Q34.l0 N T n0 n (T.2.2.2.2.1.length : Int) (w64 ((j : Int) + 1)) (F ++ [(j : Int)]) (R ++ [mine]) else bif l then Q34.l0 N T n0 n (T.2.2.2.2.1.length : Int) (w64 ((j : Int) + 1)) (F ++ [(j : Int)]) (R ++ [other]) else Q34.l0 N T n0 n (T.2.2.2.2.1.length : Int) (w64 ((j : Int) + 1)) F R) = X) :
  ∀ (k c n : Nat) (w l : Bool), c + k = x.length → B + k < n → (w || winB T n0 mine (x.drop c)) = winB T n0 mine x → (l && lossB T other (x.drop c)) = lossB T other x →
   Q34.l1 N T n0 n (j : Int) mine other w l (T.2.2.2.2.1.length : Int) (j : Int) x (x.length : Int) (c : Int) F R = X
 | 0, c, n, w, l, hk, hn, hw, hl => by
  obtain ⟨n, rfl⟩ := nxt (n := n) (by omega)
  rw [List.drop_of_length_le (by omega)] at hw hl
  have hw : w = winB T n0 mine x := by rw [← hw]; simp [winB]
  have hl : l = lossB T other x := by rw [← hl]; simp [lossB]
  rw [Q34.l1_s, Q34.s1, bif_f (ltI_f (by omega))]
  have := hE n w l (by omega) hw hl
  rw [← this, chk_cap (by simp only [List.length_singleton]; omega), chk_cap (by simp only [List.length_singleton]; omega), chk_cap (by simp only [List.length_singleton]; omega)]
  first | done | rw [chk_cap (by simp only [List.length_singleton]; omega)]
 | k + 1, c, n, w, l, hk, hn, hw, hl => by
  obtain ⟨n, rfl⟩ := nxt (n := n) (by omega)
  have hc : c < x.length := by omega
  obtain ⟨hx1, hx2⟩ := hx
  have hkc := hx2 x[c] (List.getElem_mem hc)
  have hen := hT.en
  have ih := fun w l => rd_l1 j mine other x ⟨hx1, hx2⟩ F R hF B hE k (c + 1) n w l (by omega) (by omega)
  rw [List.drop_eq_getElem_cons hc] at hw hl
  simp only [winB, lossB, List.any_cons, List.all_cons] at hw hl ih
  rw [Q34.l1_s, Q34.s1, bif_t (ltI_t (by omega)), chk_of (idx_ok hc), gD_nat hc, chk_idx hkc.1 (by omega), w64_id (x := (c : Int) + 1) (by omega) (by omega), w64_id (x := n0 - 1) (by omega) (by omega), show ((c : Int) + 1) = ((c + 1 : Nat) : Int) by omega]
  show (bif w then (bif l then _ else _) else bif eqI (en T x[c]).1 mine then _ else bif l then _ else _) = X
  cases w <;> cases l <;> cases h1 : eqI (en T x[c]).1 mine <;> simp only [cond_true, cond_false]
  all_goals
   first
    | (refine ih _ _ ?_ ?_)
  all_goals (first | (rw [← hw]; simp only [h1, Bool.true_and, Bool.false_and, Bool.true_or, Bool.false_or, Bool.or_assoc]; done) | (rw [← hl]; simp only [Bool.true_and, Bool.false_and]; done) | (rw [← hl]; simp only [Bool.true_and, Bool.false_and]; rfl) | (rw [← hw]; simp only [h1, Bool.true_and, Bool.false_and, Bool.true_or, Bool.false_or]; rfl))
theorem rwins_eq {t : Int} (ht : t = 0 ∨ t = 1) : Q62 N t = some (1 + t) ∧ Q62 N (w64 (1 - t)) = some (2 - t) := by
 rcases ht with rfl | rfl <;> exact ⟨rfl, rfl⟩
theorem rd_l0 (B C : Nat) (hC : C = 8200) (hE : ∀ n, B ≤ n → Q34.l2 N T n0 n (((scan T n0 T.2.2.2.2.1.length 0).length : Nat) : Int) 0 T.2.2.2.2.1 ((scan T n0 T.2.2.2.2.1.length 0).map fun s => (s.1 : Int)) ((scan T n0 T.2.2.2.2.1.length 0).map (·.2)) = X) :
  ∀ (k j n : Nat) (S : List (Nat × Int)), j + k = T.2.2.2.2.1.length → S.length ≤ j → B + k * C < n → S ++ scan T n0 k j = scan T n0 T.2.2.2.2.1.length 0 →
   Q34.l0 N T n0 n (T.2.2.2.2.1.length : Int) (j : Int) (S.map fun s => (s.1 : Int)) (S.map (·.2)) = X
 | 0, j, n, S, hk, hS, hn, hs => by
  obtain ⟨n, rfl⟩ := nxt (n := n) (by omega)
  simp only [scan, List.append_nil] at hs
  rw [Q34.l0_s, Q34.s0, bif_f (ltI_f (by omega)), hs]
  have := hE n (by omega)
  rw [← this, List.length_map]
 | k + 1, j, n, S, hk, hS, hn, hs => by
  have hkC : (k + 1) * C = k * C + C := Nat.succ_mul k C
  generalize hkc : k * C = kC at *
  obtain ⟨n, rfl⟩ := nxt (n := n) (by omega)
  have hsz := hT.sz
  have hen := hT.en
  have hnx := hT.nx
  have hj : j < T.2.2.2.2.1.length := by omega
  have hjl : j < T.2.1.length := by omega
  have hjx : j < T.2.2.1.length := by omega
  have ih := fun (n : Nat) (S : List (Nat × Int)) (h1 : S.length ≤ j + 1) (h2 : B + kC < n) h3 => rd_l0 B C hC hE k (j + 1) n S (by omega) h1 (by rw [hkc]; exact h2) h3
  have e1 : gD zEn T.2.2.2.2.1 (j : Int) = en T j := rfl
  have e2 : gD zPos T.2.1 (j : Int) = lp T j := rfl
  have e3 : gD ([] : List Int) T.2.2.1 (j : Int) = xs T j := rfl
  have hscan : scan T n0 (k + 1) j = (match pickV T n0 j with
   | some v => [(j, v)]
   | none => []) ++ scan T n0 k (j + 1) := rfl
  rw [Q34.l0_s, Q34.s0, bif_t (ltI_t (by omega)), chk_of (idx_ok hj)]
  show (bif (!(eqI (en T j).1 0)) then _ else _) = X
  rw [show w64 ((j : Int) + 1) = ((j + 1 : Nat) : Int) by rw [w64_id (by omega) (by omega)]; omega]
  by_cases h0 : (en T j).1 = 0
  ·rw [bif_f (by rw [eqI_t h0]; rfl), chk_of (idx_ok hjl), chk_of (idx_ok hjl)]
   have ht : (lp T j).2.2.1 = 0 ∨ (lp T j).2.2.1 = 1 := hT.turn _ (by unfold lp; rw [gD_nat hjl]; exact List.getElem_mem _)
   obtain ⟨w1, w2⟩ := rwins_eq (N := N) hT hn0 ht
   show (Q62 N (lp T j).2.2.1).bind _ = X
   rw [w1, ob]
   show (Q62 N (w64 (1 - (lp T j).2.2.1))).bind _ = X
   rw [w2, ob, chk_of (idx_ok hjx)]
   show Q34.l1 N T n0 n (j : Int) (1 + (lp T j).2.2.1) (2 - (lp T j).2.2.1) false true (T.2.2.2.2.1.length : Int) (j : Int) (xs T j) ((xs T j).length : Int) 0 _ _ = X
   have hx : (xs T j).length ≤ 8192 ∧ ∀ k ∈ xs T j, 0 ≤ k ∧ k < (T.2.1.length : Int) := hT.kid _ (by unfold xs; rw [gD_nat hjx]; exact List.getElem_mem _)
   refine rd_l1 hT hn0 X j (1 + (lp T j).2.2.1) (2 - (lp T j).2.2.1) (xs T j) hx _ _ (by simp only [List.length_map]; omega) (B + kC + 1) (fun n w l hn hw hl => ?_) (xs T j).length 0 n false true (by omega) (by omega) (by simp) (by simp)
   rw [show w64 ((j : Int) + 1) = ((j + 1 : Nat) : Int) by rw [w64_id (by omega) (by omega)]; omega]
   have hpk : pickV T n0 j = if winB T n0 (1 + (lp T j).2.2.1) (xs T j) = true then some (1 + (lp T j).2.2.1) else if lossB T (2 - (lp T j).2.2.1) (xs T j) = true then some (2 - (lp T j).2.2.1) else none := by
    unfold pickV; rw [if_neg (by simp [h0])]
   rw [← hw, ← hl] at hpk
   cases w with
   | true =>
    rw [cond_true]
    rw [if_pos rfl] at hpk
    have := ih n (S ++ [(j, 1 + (lp T j).2.2.1)]) (by simp only [List.length_append, List.length_singleton]; omega) (by omega) (by rw [← hs, hscan, hpk, List.append_assoc])
    simpa using this
   | false =>
    rw [cond_false]
    rw [if_neg (by simp)] at hpk
    cases l with
    | true =>
     rw [cond_true]
     rw [if_pos rfl] at hpk
     have := ih n (S ++ [(j, 2 - (lp T j).2.2.1)]) (by simp only [List.length_append, List.length_singleton]; omega) (by omega) (by rw [← hs, hscan, hpk, List.append_assoc])
     simpa using this
    | false =>
     rw [cond_false]
     rw [if_neg (by simp)] at hpk
     exact ih n S (by omega) (by omega) (by rw [← hs, hscan, hpk]; rfl)
  ·rw [bif_t (by rw [eqI_f h0]; rfl)]
   have hpk : pickV T n0 j = none := by unfold pickV; rw [if_pos h0]
   exact ih n S (by omega) (by omega) (by rw [← hs, hscan, hpk]; rfl)
theorem rd_l2 (S : List (Nat × Int)) (hS : S.length ≤ 3000) (hmem : ∀ s ∈ S, s.1 < T.2.2.2.2.1.length) : ∀ (k c n : Nat) (m : List EnT), c + k = S.length → k < n → m.length = T.2.2.2.2.1.length →
  Q34.l2 N T n0 n (S.length : Int) (c : Int) m (S.map fun s => (s.1 : Int)) (S.map (·.2)) = some (decide (0 < S.length), (T.1, (T.2.1, (T.2.2.1, (T.2.2.2.1, (setE n0 m (S.drop c), T.2.2.2.2.2))))))
 | 0, c, n, m, hk, hn, hm => by
  obtain ⟨n, rfl⟩ := nxt (n := n) (by omega)
  rw [Q34.l2_s, Q34.s2, bif_f (ltI_f (by omega)), List.drop_of_length_le (by omega), List.length_map]
  unfold ltI setE
  simp
 | k + 1, c, n, m, hk, hn, hm => by
  obtain ⟨n, rfl⟩ := nxt (n := n) (by omega)
  have hc : c < S.length := by omega
  have h1 : c < (S.map fun s => (s.1 : Int)).length := by rw [List.length_map]; exact hc
  have h2 : c < (S.map (·.2)).length := by rw [List.length_map]; exact hc
  have h3 := hmem _ (List.getElem_mem hc)
  rw [Q34.l2_s, Q34.s2, bif_t (ltI_t (by omega)), chk_of (idx_ok h1), chk_of (idx_ok h2), gD_nat h1, gD_nat h2, List.getElem_map, List.getElem_map, chk_of (idx_ok (by omega)), w64_id (by omega) (by omega), show ((c : Int) + 1) = ((c + 1 : Nat) : Int) by omega, Int.toNat_natCast]
  rw [rd_l2 S hS hmem k (c + 1) n _ (by omega) (by omega) (by rw [List.length_set]; exact hm), List.drop_eq_getElem_cons hc]
  rfl
theorem scan_len (n : Int) : ∀ (k j : Nat), (scan T n k j).length ≤ k
 | 0, j => Nat.le_refl _
 | k + 1, j => by
  have := scan_len n k (j + 1)
  simp only [scan, List.length_append]
  cases pickV T n j <;> simp <;> omega
theorem round_eq (hN : 50000000 ≤ N) : Q34 N T n0 = some (decide (0 < (scan T n0 T.2.2.2.2.1.length 0).length), roundT T n0) := by
 have hsz := hT.sz
 have hen := hT.en
 have hl := scan_len hT hn0 n0 T.2.2.2.2.1.length 0
 unfold Q34 Q34.e
 refine rd_l0 hT hn0 _ 4000 8200 rfl (fun n hn => ?_) T.2.2.2.2.1.length 0 N [] (by omega) (by simp) ?_ (by simp)
 ·rw [show (0 : Int) = ((0 : Nat) : Int) by rfl, rd_l2 hT hn0 _ (by omega) (fun s hs => by have := (scan_mem _ _ s).1 hs; omega) (scan T n0 T.2.2.2.2.1.length 0).length 0 n _ (by omega) (by omega) rfl]
  rfl
 ·have : T.2.2.2.2.1.length * 8200 ≤ 3000 * 8200 := Nat.mul_le_mul_right _ (by omega)
  omega
end
end Go.Proofs.YtfihdjjilofklaaGreat.Am
set_option linter.unusedVariables false
set_option linter.unusedSimpArgs false
set_option linter.unusedSectionVars false
namespace Go.Proofs.YtfihdjjilofklaaGreat.Am
open Go
abbrev NewT := Option TabT × Int
noncomputable section
def nw0 (N : Nat) (r : RulesT) (n : Nat) (i : Int) (T : TabT) : Option NewT :=
 Q12.l0 N r n i T.1.1 T.1.2.1 T.1.2.2.1 T.1.2.2.2.2.2.1 T.1.2.2.2.2.2.2.1 T.1.2.2.2.2.2.2.2.2.1 T.1.2.2.2.2.2.2.2.2.2.1 T.1.2.2.2.2.2.2.2.2.2.2 T.1.2.2.2.1 T.1.2.2.2.2.1 T.1.2.2.2.2.2.2.2.1 T.2.1 T.2.2.1 T.2.2.2.1 T.2.2.2.2.1 T.2.2.2.2.2
def nw1 (N : Nat) (r : RulesT) (n : Nat) (i k c : Int) (T : TabT) (p : PosT) (v : Int) (g : List MvT) (x : List Int) : Option NewT :=
 Q12.l1 N r n i k c T.1.1 T.1.2.1 T.1.2.2.1 T.1.2.2.2.2.2.1 T.1.2.2.2.2.2.2.1 T.1.2.2.2.2.2.2.2.2.1 T.1.2.2.2.2.2.2.2.2.2.1 T.1.2.2.2.2.2.2.2.2.2.2 T.1.2.2.2.1 T.1.2.2.2.2.1 T.1.2.2.2.2.2.2.2.1 T.2.1 T.2.2.1 T.2.2.2.1 T.2.2.2.2.1 T.2.2.2.2.2 p.1 p.2.1.1 p.2.1.2 p.2.2.1 p.2.2.2 v g x
def nw2 (N : Nat) (r : RulesT) (n : Nat) (i : Int) (T : TabT) : Option NewT :=
 Q12.l2 N r n i T.1.1 T.1.2.1 T.1.2.2.1 T.1.2.2.2.2.2.1 T.1.2.2.2.2.2.2.1 T.1.2.2.2.2.2.2.2.2.1 T.1.2.2.2.2.2.2.2.2.2.1 T.1.2.2.2.2.2.2.2.2.2.2 T.1.2.2.2.1 T.1.2.2.2.2.1 T.1.2.2.2.2.2.2.2.1 T.2.1 T.2.2.1 T.2.2.2.1 T.2.2.2.2.1 T.2.2.2.2.2
def nw3 (N : Nat) (r : RulesT) (n : Nat) (k j : Int) (T : TabT) : Option NewT :=
 Q12.l3 N r n k j T.1.1 T.1.2.1 T.1.2.2.1 T.1.2.2.2.2.2.1 T.1.2.2.2.2.2.2.1 T.1.2.2.2.2.2.2.2.2.1 T.1.2.2.2.2.2.2.2.2.2.1 T.1.2.2.2.2.2.2.2.2.2.2 T.1.2.2.2.1 T.1.2.2.2.2.1 T.1.2.2.2.2.2.2.2.1 T.2.1 T.2.2.1 T.2.2.2.1 T.2.2.2.2.1 T.2.2.2.2.2
def nwE (N : Nat) (r : RulesT) (n : Nat) (i : Int) (T : TabT) (v : Int) (g : List MvT) (x : List Int) : Option NewT :=
 chk (capOk 24 (T.2.2.1.length + ([x] : List (List Int)).length)) <|
 chk (capOk 24 (T.2.2.2.1.length + ([g] : List (List MvT)).length)) <|
 chk (capOk 16 (T.2.2.2.2.1.length + ([(v, (0 : Int))] : List (Int × Int)).length)) <|
 bif (ltI 3000 (T.2.1.length : Int)) then (some (none, 2))
 else nw0 N r n (w64 (i + 1)) (T.1, (T.2.1, (T.2.2.1 ++ [x], (T.2.2.2.1 ++ [g], (T.2.2.2.2.1 ++ [(v, 0)], T.2.2.2.2.2)))))
theorem nw0_s (N : Nat) (r : RulesT) (n : Nat) (i : Int) (T : TabT) : nw0 N r (n + 1) i T =
 bif (ltI i (T.2.1.length : Int)) then (chk ((leI 0 i) && (ltI i (T.2.1.length : Int))) <|
  (Q32 N r (gD zPos T.2.1 i)).bind fun y7 =>
  bif (eqI y7 0) then ((Q33 N r (gD zPos T.2.1 i)).bind fun y8 => nw1 N r n i (y8.length : Int) 0 T (gD zPos T.2.1 i) y7 y8 [])
  else nwE N r n i T y7 [] [])
 else nw2 N r n 1 T := by
 unfold nw0
 rw [Q12.l0_s, Q12.s0]
 simp only [bothK_same]
 try rfl
theorem nw1_s (N : Nat) (r : RulesT) (n : Nat) (i k c : Int) (T : TabT) (p : PosT) (v : Int) (g : List MvT) (x : List Int) : nw1 N r (n + 1) i k c T p v g x =
 bif (ltI c k) then (chk ((leI 0 c) && (ltI c (g.length : Int))) <|
  (Q24 N r p (gD z0 g c)).bind fun y28 =>
  (Q30 N T y28).bind fun y29 =>
  chk (capOk 8 (x.length + ([y29.1] : List Int).length)) <|
  nw1 N r n i k (w64 (c + 1)) y29.2 p v g (x ++ [y29.1]))
 else nwE N r n i T v g x := by
 unfold nw1
 rw [Q12.l1_s, Q12.s1]
 simp only [bothK_same]
 try rfl
theorem nw2_s (N : Nat) (r : RulesT) (n : Nat) (i : Int) (T : TabT) : nw2 N r (n + 1) i T =
 (Q34 N T i).bind fun y => bif y.1 then nw2 N r n (w64 (i + 1)) y.2 else nw3 N r n (y.2.2.2.2.2.1.length : Int) 0 y.2 := by
 unfold nw2
 rw [Q12.l2_s, Q12.s2]
 try rfl
theorem nw3_s (N : Nat) (r : RulesT) (n : Nat) (k j : Int) (T : TabT) : nw3 N r (n + 1) k j T =
 bif (ltI j k) then (chk ((leI 0 j) && (ltI j (T.2.2.2.2.1.length : Int))) <|
  bif (eqI (gD ((0 : Int), (0 : Int)) T.2.2.2.2.1 j).1 0) then (chk ((leI 0 j) && (ltI j (T.2.2.2.2.1.length : Int))) <|
   nw3 N r n k (w64 (j + 1)) (T.1, (T.2.1, (T.2.2.1, (T.2.2.2.1, (T.2.2.2.2.1.set j.toNat (3, 0), T.2.2.2.2.2))))))
  else nw3 N r n k (w64 (j + 1)) T)
 else some (some T, 0) := by
 unfold nw3
 rw [Q12.l3_s, Q12.s3]
 try rfl
end
theorem new_eq (N : Nat) (r : RulesT) : Q12 N r = (Q29 N r).bind fun y1 =>
 bif (!(eqI y1 0)) then (some (none, y1))
 else bif (!(eqI r.2.2.2.2.2.2.2.2.2.1 0)) then (some (none, 1))
 else (Q19 N r).bind fun y3 =>
 (Q31 N r).bind fun y4 =>
 (Q30 N (y3, ([], ([], ([], ([], []))))) y4).bind fun y5 => nw0 N r N 0 y5.2 := rfl
def Kids (r : RulesT) (L : List PosT) (p : PosT) (g : List MvT) (x : List Int) : Prop :=
 x.length = g.length ∧ ∀ (c : Nat) (m : MvT), g[c]? = some m → ∃ k : Nat, x[c]? = some (k : Int) ∧ L[k]? = some (q0 (doI r p m))
def NodR (r : RulesT) (L : List PosT) (nx : List (List Int)) (mv : List (List MvT)) (j : Nat) : Prop :=
 ∃ p x g, L[j]? = some p ∧ nx[j]? = some x ∧ mv[j]? = some g ∧ ((resV r p ≠ 0 ∧ x = []) ∨ (resV r p = 0 ∧ IsGen r p g ∧ Kids r L p g x))
theorem pre_get {α : Type} {l m : List α} (h : l <+: m) {j : Nat} {x : α} (hx : l[j]? = some x) : m[j]? = some x := by
 obtain ⟨s, rfl⟩ := h
 rw [List.getElem?_append_left (List.getElem?_eq_some_iff.1 hx).1]
 exact hx
theorem Kids.mono {r : RulesT} {L L' : List PosT} {p : PosT} {g : List MvT} {x : List Int} (h : Kids r L p g x) (hl : L <+: L') : Kids r L' p g x :=
 ⟨h.1, fun c m hm => by obtain ⟨k, h1, h2⟩ := h.2 c m hm; exact ⟨k, h1, pre_get hl h2⟩⟩
theorem NodR.mono {r : RulesT} {L L' : List PosT} {nx nx' : List (List Int)} {mv mv' : List (List MvT)} {j : Nat} (h : NodR r L nx mv j) (hl : L <+: L') (hn : nx <+: nx') (hm : mv <+: mv') : NodR r L' nx' mv' j := by
 obtain ⟨p, x, g, h1, h2, h3, h4⟩ := h
 exact ⟨p, x, g, pre_get hl h1, pre_get hn h2, pre_get hm h3, h4.imp id fun ⟨a, b, c⟩ => ⟨a, b, c.mono hl⟩⟩
structure Bfs (r : RulesT) (p0 : PosT) (T : TabT) (i : Nat) : Prop where
 rr : T.1 = r
 ok : TOk r T.2.1 T.2.2.2.2.2
 nx : T.2.2.1.length = i
 mv : T.2.2.2.1.length = i
 en : T.2.2.2.2.1.length = i
 le : i ≤ T.2.1.length
 sz : T.2.1.length ≤ 3000
 node : ∀ j, j < i → NodR r T.2.1 T.2.2.1 T.2.2.2.1 j
 ent : ∀ j, j < i → ∃ p, T.2.1[j]? = some p ∧ T.2.2.2.2.1[j]? = some (resV r p, 0)
 fst : T.2.1[0]? = some p0
section
variable {N : Nat} (hN : 200000000 ≤ N) {r : RulesT} (hr : ROk r) {p0 : PosT} {Q : NewT → Prop}
include hN hr
theorem res_eq {p : PosT} (hp : POk r p) : Q32 N r p = some (resV r p) := by
 obtain ⟨g, hg, hgg⟩ := gen_ret hr hp hN
 rw [result_eq hr hp (by omega) hg, any_eq hgg]; rfl
theorem bfs_l1 {p : PosT} (hp : POk r p) {g : List MvT} (hg : IsGen r p g) (i v : Int) (T0 : TabT) (B : Nat)
  (hE : ∀ (n : Nat) (T : TabT) (x : List Int), B ≤ n → T.1 = T0.1 → T.2.2.1 = T0.2.2.1 → T.2.2.2.1 = T0.2.2.2.1 → T.2.2.2.2.1 = T0.2.2.2.2.1 → TOk r T.2.1 T.2.2.2.2.2 → T0.2.1 <+: T.2.1 → Kids r T.2.1 p g x → Ret (nwE N r n i T v g x) Q) :
  ∀ (k c n : Nat) (T : TabT) (x : List Int), c + k = g.length → B + k < n → T.1 = T0.1 → T.2.2.1 = T0.2.2.1 → T.2.2.2.1 = T0.2.2.2.1 → T.2.2.2.2.1 = T0.2.2.2.2.1 → TOk r T.2.1 T.2.2.2.2.2 → T0.2.1 <+: T.2.1 → T.2.1.length ≤ 3000 + c →
   (x.length = c ∧ ∀ (d : Nat) (m : MvT), d < c → g[d]? = some m → ∃ k : Nat, x[d]? = some (k : Int) ∧ T.2.1[k]? = some (q0 (doI r p m))) → Ret (nw1 N r n i (g.length : Int) (c : Int) T p v g x) Q
 | 0, c, n, T, x, hk, hn, h1, h2, h3, h4, h5, h6, h7, hx => by
  obtain ⟨n, rfl⟩ := nxt (n := n) (by omega)
  rw [nw1_s, bif_f (ltI_f (by omega))]
  refine hE n T x (by omega) h1 h2 h3 h4 h5 h6 ⟨by omega, fun d m hm => hx.2 d m ?_ hm⟩
  have := (List.getElem?_eq_some_iff.1 hm).1
  omega
 | k + 1, c, n, T, x, hk, hn, h1, h2, h3, h4, h5, h6, h7, hx => by
  obtain ⟨n, rfl⟩ := nxt (n := n) (by omega)
  have hc : c < g.length := by omega
  have hl := hg.len
  have hmo := cand_ok hr hp ((hg.mem g[c]).1 (List.getElem_mem hc))
  have hq := do_ok hr hp hmo
  rw [nw1_s, bif_t (ltI_t (by omega)), chk_of (idx_ok hc), gD_nat hc, do_eq hr hp N hmo, ob]
  refine Ret.bnd (add_ret (by omega) hr h5 hq (by omega)) fun y hy => ?_
  obtain ⟨j, e1, ha⟩ := hy
  have hxl := hx.1
  rw [chk_cap (by simp only [List.length_singleton]; omega), w64_id (by omega) (by omega), show ((c : Int) + 1) = ((c + 1 : Nat) : Int) by omega]
  refine bfs_l1 hp hg i v T0 B hE k (c + 1) n y.2 _ (by omega) (by omega) (ha.rr.trans h1) (ha.nx.trans h2) (ha.mv.trans h3) (ha.en.trans h4) ha.ok (h6.trans ha.pre) (by have := ha.len; omega) ⟨by simp [hx.1], fun d m hd hm => ?_⟩
  by_cases e : d < c
  ·obtain ⟨k', k1, k2⟩ := hx.2 d m e hm
   exact ⟨k', by rw [List.getElem?_append_left (by omega)]; exact k1, pre_get ha.pre k2⟩
  ·obtain rfl : d = c := by omega
   refine ⟨j, by rw [List.getElem?_append_right (by omega), hx.1]; simp [e1], ?_⟩
   rw [List.getElem?_eq_getElem hc] at hm
   cases hm
   exact ha.at_
theorem bfs_next {T : TabT} {i : Nat} (h : Bfs r p0 T i) (hi : i < T.2.1.length) {T' : TabT} {x : List Int} {g : List MvT} {v : Int} (h1 : T'.1 = T.1) (h2 : T'.2.2.1 = T.2.2.1) (h3 : T'.2.2.2.1 = T.2.2.2.1) (h4 : T'.2.2.2.2.1 = T.2.2.2.2.1) (h5 : TOk r T'.2.1 T'.2.2.2.2.2) (h6 : T.2.1 <+: T'.2.1) (h7 : T'.2.1.length ≤ 3000)
  (hn : NodR r T'.2.1 (T'.2.2.1 ++ [x]) (T'.2.2.2.1 ++ [g]) i) (hv : ∃ p, T.2.1[i]? = some p ∧ v = resV r p) : Bfs r p0 (T'.1, (T'.2.1, (T'.2.2.1 ++ [x], (T'.2.2.2.1 ++ [g], (T'.2.2.2.2.1 ++ [(v, 0)], T'.2.2.2.2.2))))) (i + 1) := by
 refine ⟨h1.trans h.rr, h5, ?_, ?_, ?_, ?_, h7, fun j hj => ?_, fun j hj => ?_, pre_get h6 h.fst⟩
 ·simp [h2, h.nx]
 ·simp [h3, h.mv]
 ·simp [h4, h.en]
 ·have := h6.length_le
  dsimp only
  omega
 ·dsimp only
  by_cases e : j < i
  ·exact (h.node j e).mono h6 (by rw [h2]; exact List.prefix_append _ _) (by rw [h3]; exact List.prefix_append _ _)
  ·obtain rfl : j = i := by omega
   exact hn
 ·dsimp only
  by_cases e : j < i
  ·obtain ⟨p, a, b⟩ := h.ent j e
   exact ⟨p, pre_get h6 a, by rw [h4, List.getElem?_append_left (by rw [h.en]; exact e)]; exact b⟩
  ·obtain rfl : j = i := by omega
   obtain ⟨p, a, b⟩ := hv
   exact ⟨p, pre_get h6 a, by rw [h4, List.getElem?_append_right (by rw [h.en]; exact Nat.le_refl _), h.en]; simp [b]⟩
theorem bfs_l0 (B : Nat) (hQ : Q (none, 2)) (hE : ∀ (n : Nat) (T : TabT), B ≤ n → Bfs r p0 T T.2.1.length → Ret (nw2 N r n 1 T) Q) {M C : Nat} (hM : M = 3001) (hC : C = 10000) : ∀ (k i n : Nat) (T : TabT), i + k = M → Bfs r p0 T i → B + k * C < n → Ret (nw0 N r n (i : Int) T) Q
 | 0, i, n, T, hk, h, hn => by
  have := h.le
  have := h.sz
  omega
 | k + 1, i, n, T, hk, h, hn => by
  have hkC : (k + 1) * C = k * C + C := Nat.succ_mul k C
  generalize hkc : k * C = kC at *
  obtain ⟨n, rfl⟩ := nxt (n := n) (by omega)
  have hle := h.le
  have hsz := h.sz
  by_cases hi : i < T.2.1.length
  ·have hpi : T.2.1[i]? = some T.2.1[i] := List.getElem?_eq_getElem hi
   obtain ⟨hp, hpq⟩ := h.ok.ok _ (List.getElem_mem hi)
   have hnl := h.nx
   have hml := h.mv
   have hel := h.en
   rw [nw0_s, bif_t (ltI_t (by omega)), chk_of (idx_ok hi), gD_nat hi, res_eq hN hr hp, ob]
   have fin : ∀ (n : Nat) (T' : TabT) (x : List Int) (g : List MvT), B + kC < n → T'.1 = T.1 → T'.2.2.1 = T.2.2.1 → T'.2.2.2.1 = T.2.2.2.1 → T'.2.2.2.2.1 = T.2.2.2.2.1 → TOk r T'.2.1 T'.2.2.2.2.2 → T.2.1 <+: T'.2.1 →
     ((resV r T.2.1[i] ≠ 0 ∧ x = []) ∨ (resV r T.2.1[i] = 0 ∧ IsGen r T.2.1[i] g ∧ Kids r T'.2.1 T.2.1[i] g x)) → Ret (nwE N r n (i : Int) T' (resV r T.2.1[i]) g x) Q := by
    intro n T' x g hn h1 h2 h3 h4 h5 h6 h8
    unfold nwE
    rw [h2, h3, h4, chk_cap (by simp only [List.length_singleton]; omega), chk_cap (by simp only [List.length_singleton]; omega), chk_cap (by simp only [List.length_singleton]; omega)]
    by_cases hb : T'.2.1.length ≤ 3000
    ·rw [bif_f (ltI_f (by omega)), w64_id (by omega) (by omega), show ((i : Int) + 1) = ((i + 1 : Nat) : Int) by omega, ← h2, ← h3, ← h4]
     refine bfs_l0 B hQ hE hM hC k (i + 1) n _ (by omega) (bfs_next hN hr h hi h1 h2 h3 h4 h5 h6 hb ?_ ⟨_, hpi, rfl⟩) (by omega)
     refine ⟨T.2.1[i], x, g, pre_get h6 hpi, ?_, ?_, h8⟩
     ·rw [h2, List.getElem?_append_right (by omega), hnl]; simp
     ·rw [h3, List.getElem?_append_right (by omega), hml]; simp
    ·rw [bif_t (ltI_t (by omega))]
     exact Ret.ret hQ
   by_cases h0 : resV r T.2.1[i] = 0
   ·rw [bif_t (eqI_t h0)]
    refine Ret.bnd (gen_ret hr hp hN) fun g hg => ?_
    have hgl := hg.len
    refine bfs_l1 hN hr hp hg _ _ T (B + kC + 1) (fun n T' x hn h1 h2 h3 h4 h5 h6 h8 => fin n T' x g (by omega) h1 h2 h3 h4 h5 h6 (Or.inr ⟨h0, hg, h8⟩)) g.length 0 n T [] (by omega) (by omega) rfl rfl rfl rfl h.ok (List.prefix_refl _) (by omega) ⟨rfl, fun d m hd => absurd hd (Nat.not_lt_zero _)⟩
   ·rw [bif_f (eqI_f h0)]
    exact fin n T [] [] (by omega) rfl rfl rfl rfl h.ok (List.prefix_refl _) (Or.inl ⟨h0, rfl⟩)
  ·rw [nw0_s, bif_f (ltI_f (by omega))]
   obtain rfl : i = T.2.1.length := by omega
   exact hE n T (by omega) h
end
end Go.Proofs.YtfihdjjilofklaaGreat.Am
set_option linter.unusedVariables false
set_option linter.unusedSimpArgs false
set_option linter.unusedSectionVars false
namespace Go.Proofs.YtfihdjjilofklaaGreat.Am
open Go
def StO (r : RulesT) (T : TabT) (n : Int) (j : Nat) : Prop :=
 (resV r (lp T j) ≠ 0 ∧ en T j = (resV r (lp T j), 0)) ∨
 (resV r (lp T j) = 0 ∧ en T j = (0, 0) ∧ (∀ k ∈ xs T j, (en T k).1 = 1 + (lp T j).2.2.1 → n - 1 ≤ (en T k).2) ∧ ∃ k ∈ xs T j, (en T k).1 ≠ 2 - (lp T j).2.2.1 ∨ n - 1 ≤ (en T k).2) ∨
 (resV r (lp T j) = 0 ∧ 1 ≤ (en T j).2 ∧ (en T j).2 < n ∧ ((en T j).1 = 1 ∨ (en T j).1 = 2) ∧ ∃ k ∈ xs T j, en T k = ((en T j).1, (en T j).2 - 1))
def StF (r : RulesT) (T : TabT) (j : Nat) : Prop :=
 (resV r (lp T j) ≠ 0 ∧ en T j = (resV r (lp T j), 0)) ∨
 (resV r (lp T j) = 0 ∧ en T j = (3, 0) ∧ ∃ k ∈ xs T j, (en T k).1 = 3) ∨
 (resV r (lp T j) = 0 ∧ 1 ≤ (en T j).2 ∧ ((en T j).1 = 1 ∨ (en T j).1 = 2) ∧ ∃ k ∈ xs T j, en T k = ((en T j).1, (en T j).2 - 1))
structure TabOk' (r : RulesT) (p0 : PosT) (T : TabT) : Prop where
 rr : T.1 = r
 ok : TOk r T.2.1 T.2.2.2.2.2
 nx : T.2.2.1.length = T.2.1.length
 mv : T.2.2.2.1.length = T.2.1.length
 en : T.2.2.2.2.1.length = T.2.1.length
 sz : T.2.1.length ≤ 3000
 node : ∀ j, j < T.2.1.length → NodR r T.2.1 T.2.2.1 T.2.2.2.1 j
 fst : T.2.1[0]? = some p0
theorem Bfs.tab {r : RulesT} {p0 : PosT} {T : TabT} (h : Bfs r p0 T T.2.1.length) : TabOk' r p0 T := ⟨h.rr, h.ok, h.nx, h.mv, h.en, h.sz, h.node, h.fst⟩
theorem TabOk'.set {r : RulesT} {p0 : PosT} {T : TabT} (h : TabOk' r p0 T) {E : List EnT} (hE : E.length = T.2.2.2.2.1.length) : TabOk' r p0 (T.1, (T.2.1, (T.2.2.1, (T.2.2.2.1, (E, T.2.2.2.2.2))))) :=
 ⟨h.rr, h.ok, h.nx, h.mv, hE.trans h.en, h.sz, h.node, h.fst⟩
theorem gD_some {α : Type} {d x : α} {l : List α} {j : Nat} (h : l[j]? = some x) : gD d l (j : Int) = x := by
 obtain ⟨h1, h2⟩ := List.getElem?_eq_some_iff.1 h
 rw [gD_nat h1]; exact h2
section
variable {r : RulesT} (hr : ROk r) {p0 : PosT} {T : TabT} (h : TabOk' r p0 T)
include h
theorem TabOk'.at_ {j : Nat} (hj : j < T.2.1.length) : T.2.1[j]? = some (lp T j) ∧ T.2.2.1[j]? = some (xs T j) ∧ ∃ g, T.2.2.2.1[j]? = some g ∧ ((resV r (lp T j) ≠ 0 ∧ xs T j = []) ∨ (resV r (lp T j) = 0 ∧ IsGen r (lp T j) g ∧ Kids r T.2.1 (lp T j) g (xs T j))) := by
 obtain ⟨p, x, g, h1, h2, h3, h4⟩ := h.node j hj
 have e1 : lp T j = p := gD_some h1
 have e2 : xs T j = x := gD_some h2
 rw [e1, e2]
 exact ⟨h1, h2, g, h3, h4⟩
theorem TabOk'.pos {j : Nat} (hj : j < T.2.1.length) : POk r (lp T j) ∧ q0 (lp T j) = lp T j := h.ok.ok _ (List.mem_of_getElem? (h.at_ hj).1)
theorem TabOk'.kid {j : Nat} (hj : j < T.2.1.length) : ∀ k ∈ xs T j, ∃ i : Nat, k = (i : Int) ∧ i < T.2.1.length := by
 intro k hk
 obtain ⟨_, _, g, _, h4⟩ := h.at_ hj
 rcases h4 with ⟨_, e⟩ | ⟨_, _, h5, h6⟩
 ·rw [e] at hk; cases hk
 ·obtain ⟨c, hc, rfl⟩ := List.mem_iff_getElem.1 hk
  have hcg : c < g.length := by omega
  obtain ⟨i, i1, i2⟩ := h6 c g[c] (List.getElem?_eq_getElem hcg)
  rw [List.getElem?_eq_getElem hc] at i1
  exact ⟨i, by simpa using i1, (List.getElem?_eq_some_iff.1 i2).1⟩
theorem TabOk'.rw_ : RW T := by
 refine ⟨h.sz, h.en, h.nx, fun x hx => ?_, fun p hp => ?_⟩
 ·obtain ⟨j, hj, rfl⟩ := List.mem_iff_getElem.1 hx
  have hj' : j < T.2.1.length := by rw [← h.nx]; exact hj
  have e : xs T j = T.2.2.1[j] := gD_nat hj
  rw [← e]
  refine ⟨?_, fun k hk => ?_⟩
  ·obtain ⟨_, _, g, _, h4⟩ := h.at_ hj'
   rcases h4 with ⟨_, e⟩ | ⟨_, h5, h6, _⟩
   ·rw [e]; simp
   ·rw [h6]; exact h5.len
  ·obtain ⟨i, rfl, hi⟩ := h.kid hj' k hk
   exact ⟨by omega, by omega⟩
 ·exact (h.ok.ok p hp).1.last.1
end
theorem en_at {T : TabT} {E : List EnT} {k : Nat} {e : EnT} (h : E[k]? = some e) : en (T.1, (T.2.1, (T.2.2.1, (T.2.2.2.1, (E, T.2.2.2.2.2))))) (k : Int) = e := gD_some h
section
variable {r : RulesT} (hr : ROk r) {p0 : PosT} {T : TabT} (h : TabOk' r p0 T) {n : Int} (hn : 1 ≤ n)
include hr h hn
theorem round_en {k : Nat} (hk : k < T.2.1.length) : en (roundT T n) k = match pickV T n k with
  | some v => (v, n)
  | none => en T k := by
 refine en_at ?_
 have hk' : k < T.2.2.2.2.1.length := by rw [h.en]; exact hk
 rw [setE_get _ _ _ (by omega), if_pos (by omega)]
 cases pickV T n k with
 | some v => rfl
 | none =>
  dsimp only
  rw [List.getElem?_eq_getElem hk']
  congr 1
  exact (gD_nat hk').symm
theorem en_bound (hs : ∀ j, j < T.2.1.length → StO r T n j) {k : Nat} (hk : k < T.2.1.length) : (en T k).2 ≤ n - 1 := by
 rcases hs k hk with ⟨_, e⟩ | ⟨_, e, _⟩ | ⟨_, _, e, _⟩
 ·rw [e]; dsimp only; omega
 ·rw [e]; dsimp only; omega
 ·omega
theorem winB_iff {mine : Int} {x : List Int} : winB T n mine x = true ↔ ∃ k ∈ x, en T k = (mine, n - 1) := by
 unfold winB
 rw [List.any_eq_true]
 constructor
 ·rintro ⟨k, hk, e⟩
  rw [Bool.and_eq_true, eqI_iff, eqI_iff] at e
  exact ⟨k, hk, Prod.ext e.1 e.2⟩
 ·rintro ⟨k, hk, e⟩
  exact ⟨k, hk, by rw [Bool.and_eq_true, eqI_iff, eqI_iff, e]; exact ⟨rfl, rfl⟩⟩
theorem lossB_iff {other : Int} {x : List Int} : lossB T other x = true ↔ ∀ k ∈ x, (en T k).1 = other := by
 unfold lossB
 rw [List.all_eq_true]
 exact ⟨fun e k hk => eqI_iff.1 (e k hk), fun e k hk => eqI_iff.2 (e k hk)⟩
theorem pick_open {j : Nat} {v : Int} (e : pickV T n j = some v) : (en T j).1 = 0 := by
 unfold pickV at e
 by_cases h0 : (en T j).1 = 0
 ·exact h0
 ·rw [if_pos h0] at e; cases e
theorem round_keep {k : Nat} (hk : k < T.2.1.length) (h0 : (en T k).1 ≠ 0) : en (roundT T n) k = en T k := by
 rw [round_en hr h hn hk]
 cases hp : pickV T n k with
 | none => rfl
 | some v => exact absurd (pick_open hr h hn hp) h0
theorem turn_at {j : Nat} (hj : j < T.2.1.length) : (lp T j).2.2.1 = 0 ∨ (lp T j).2.2.1 = 1 := (h.pos hj).1.last.1
theorem round_st (hs : ∀ j, j < T.2.1.length → StO r T n j) {j : Nat} (hj : j < T.2.1.length) : StO r (roundT T n) (n + 1) j := by
 have el : lp (roundT T n) j = lp T j := rfl
 have ex : xs (roundT T n) j = xs T j := rfl
 have ht := turn_at hr h hn hj
 unfold StO
 rw [el, ex]
 have hkid := h.kid hj
 rcases hs j hj with ⟨h1, e⟩ | ⟨h1, e, hb, hc⟩ | ⟨h1, e1, e2, e3, hk⟩
 ·left
  exact ⟨h1, by rw [round_keep hr h hn hj (by rw [e]; exact h1)]; exact e⟩
 ·right
  have hp : pickV T n j = if winB T n (1 + (lp T j).2.2.1) (xs T j) = true then some (1 + (lp T j).2.2.1) else if lossB T (2 - (lp T j).2.2.1) (xs T j) = true then some (2 - (lp T j).2.2.1) else none := by
   unfold pickV; rw [if_neg (by rw [e]; simp)]
  have hE := round_en hr h hn hj
  by_cases hw : winB T n (1 + (lp T j).2.2.1) (xs T j) = true
  ·right
   rw [if_pos hw] at hp
   rw [hp] at hE
   obtain ⟨k, hk, ek⟩ := (winB_iff hr h hn).1 hw
   obtain ⟨i, rfl, hi⟩ := hkid k hk
   rw [hE]
   dsimp only
   refine ⟨h1, hn, by omega, by omega, i, hk, ?_⟩
   rw [round_keep hr h hn hi (by rw [ek]; dsimp only; omega), ek]
  ·rw [if_neg hw] at hp
   by_cases hl : lossB T (2 - (lp T j).2.2.1) (xs T j) = true
   ·right
    rw [if_pos hl] at hp
    rw [hp] at hE
    have hl := (lossB_iff hr h hn).1 hl
    obtain ⟨k, hk, ek⟩ := hc
    have ek : n - 1 ≤ (en T k).2 := ek.resolve_left fun q => q (hl k hk)
    obtain ⟨i, rfl, hi⟩ := hkid k hk
    have hbd := en_bound hr h hn hs hi
    have hlk := hl _ hk
    rw [hE]
    dsimp only
    refine ⟨h1, hn, by omega, by omega, i, hk, ?_⟩
    rw [round_keep hr h hn hi (by omega)]
    exact Prod.ext hlk (by dsimp only; omega)
   ·left
    rw [if_neg hl] at hp
    rw [hp] at hE
    refine ⟨h1, by rw [hE]; exact e, fun k hk ek => ?_, ?_⟩
    ·obtain ⟨i, rfl, hi⟩ := hkid k hk
     rw [round_en hr h hn hi] at ek ⊢
     cases hpi : pickV T n i with
     | some v => dsimp only; omega
     | none =>
      rw [hpi] at ek
      dsimp only at ek ⊢
      have b1 := hb _ hk ek
      have b2 := en_bound hr h hn hs hi
      exact absurd ((winB_iff hr h hn).2 ⟨_, hk, Prod.ext ek (by dsimp only; omega)⟩) hw
    ·have : ¬ ∀ k ∈ xs T j, (en T k).1 = 2 - (lp T j).2.2.1 := fun q => hl ((lossB_iff hr h hn).2 q)
     simp only [Classical.not_forall] at this
     obtain ⟨k, hk, ek⟩ := this
     refine ⟨k, hk, ?_⟩
     obtain ⟨i, rfl, hi⟩ := hkid k hk
     rw [round_en hr h hn hi]
     cases hpi : pickV T n i with
     | some v => right; dsimp only; omega
     | none => left; exact ek
 ·right; right
  obtain ⟨k, hk, ek⟩ := hk
  obtain ⟨i, rfl, hi⟩ := hkid k hk
  rw [round_keep hr h hn hj (by omega)]
  refine ⟨h1, e1, by omega, e3, i, hk, ?_⟩
  rw [round_keep hr h hn hi (by rw [ek]; dsimp only; omega), ek]
end
end Go.Proofs.YtfihdjjilofklaaGreat.Am
set_option linter.unusedVariables false
set_option linter.unusedSimpArgs false
set_option linter.unusedSectionVars false
namespace Go.Proofs.YtfihdjjilofklaaGreat.Am
open Go
theorem cnt_le {α : Type} {P : α → Bool} : ∀ {l l' : List α}, l'.length = l.length → (∀ (i : Nat) (a b : α), l[i]? = some a → l'[i]? = some b → P b = true → P a = true) → l'.countP P ≤ l.countP P
 | [], [], _, _ => Nat.le_refl _
 | [], _ :: _, h, _ => by simp at h
 | _ :: _, [], h, _ => by simp at h
 | a :: l, b :: l', h, hp => by
  have ih := cnt_le (P := P) (l := l) (l' := l') (by simpa using h) (fun i x y hx hy => hp (i + 1) x y (by simpa using hx) (by simpa using hy))
  have h0 := hp 0 a b rfl rfl
  rw [List.countP_cons, List.countP_cons]
  cases hb : P b with
  | false => simp; omega
  | true => rw [h0 hb]; simp; exact ih
theorem cnt_lt {α : Type} {P : α → Bool} : ∀ {l l' : List α}, l'.length = l.length → (∀ (i : Nat) (a b : α), l[i]? = some a → l'[i]? = some b → P b = true → P a = true) → (∃ (i : Nat) (a b : α), l[i]? = some a ∧ l'[i]? = some b ∧ P a = true ∧ P b = false) → l'.countP P < l.countP P
 | [], [], _, _, ⟨i, a, b, h, _⟩ => by simp at h
 | [], _ :: _, h, _, _ => by simp at h
 | _ :: _, [], h, _, _ => by simp at h
 | a :: l, b :: l', h, hp, ⟨i, x, y, h1, h2, h3, h4⟩ => by
  have hp' : ∀ (i : Nat) (x y : α), l[i]? = some x → l'[i]? = some y → P y = true → P x = true := fun i x y hx hy => hp (i + 1) x y (by simpa using hx) (by simpa using hy)
  have hl : l'.length = l.length := by simpa using h
  have h0 := hp 0 a b rfl rfl
  rw [List.countP_cons, List.countP_cons]
  cases i with
  | zero =>
   simp only [List.getElem?_cons_zero, Option.some.injEq] at h1 h2
   subst h1 h2
   have := cnt_le hl hp'
   rw [h3, h4]
   simp; omega
  | succ i =>
   have ih := cnt_lt hl hp' ⟨i, x, y, by simpa using h1, by simpa using h2, h3, h4⟩
   cases hb : P b with
   | false => simp; omega
   | true => rw [h0 hb]; simp; exact ih
def cntO (T : TabT) : Nat := T.2.2.2.2.1.countP fun e => eqI e.1 0
def StE (r : RulesT) (T : TabT) (j : Nat) : Prop :=
 (resV r (lp T j) ≠ 0 ∧ en T j = (resV r (lp T j), 0)) ∨
 (resV r (lp T j) = 0 ∧ en T j = (0, 0) ∧ ∃ k ∈ xs T j, (en T k).1 = 0 ∨ (en T k).1 = 3) ∨
 (resV r (lp T j) = 0 ∧ 1 ≤ (en T j).2 ∧ ((en T j).1 = 1 ∨ (en T j).1 = 2) ∧ ∃ k ∈ xs T j, en T k = ((en T j).1, (en T j).2 - 1))
section
variable {r : RulesT} (hr : ROk r) {p0 : PosT} {T : TabT} (h : TabOk' r p0 T)
include hr h
theorem en_get {k : Nat} (hk : k < T.2.1.length) : T.2.2.2.2.1[k]? = some (en T k) := by
 have hk' : k < T.2.2.2.2.1.length := by rw [h.en]; exact hk
 rw [List.getElem?_eq_getElem hk']
 exact congrArg some (gD_nat hk').symm
theorem round_tab (n : Int) : TabOk' r p0 (roundT T n) := h.set (setE_len _ _ _)
theorem round_cnt {n : Int} (hn : 1 ≤ n) (hs : ∀ j, j < T.2.1.length → StO r T n j) (hne : 0 < (scan T n T.2.2.2.2.1.length 0).length) : cntO (roundT T n) < cntO T := by
 have hT := round_tab hr h n
 have hlen : ∀ {i : Nat} {a : EnT}, T.2.2.2.2.1[i]? = some a → i < T.2.1.length := fun ha => by
  have := (List.getElem?_eq_some_iff.1 ha).1
  rw [h.en] at this
  exact this
 have nz : ∀ (i : Nat) (v : Int), i < T.2.1.length → pickV T n i = some v → v ≠ 0 := by
  intro i v hi hp
  have ht := turn_at hr h hn hi
  unfold pickV at hp
  split at hp
  ·cases hp
  ·split at hp
   ·cases hp; omega
   ·split at hp
    ·cases hp; omega
    ·cases hp
 unfold cntO
 refine cnt_lt ?_ (fun i a b ha hb hPb => ?_) ?_
 ·exact setE_len _ _ _
 ·have hi := hlen ha
  rw [en_get hr h hi] at ha
  cases ha
  have hb' := en_get hr hT (k := i) hi
  rw [hb] at hb'
  cases hb'
  rw [round_en hr h hn hi] at hPb
  cases hp : pickV T n i with
  | none => rw [hp] at hPb; exact hPb
  | some v =>
   rw [hp] at hPb
   exact absurd (eqI_iff.1 hPb) (nz i v hi hp)
 ·obtain ⟨s, hs'⟩ := List.exists_mem_of_length_pos hne
  obtain ⟨_, s2, s3⟩ := (scan_mem _ _ s).1 hs'
  have hi : s.1 < T.2.1.length := by rw [← h.en]; omega
  refine ⟨s.1, _, _, en_get hr h hi, en_get hr hT hi, ?_, ?_⟩
  ·exact eqI_t (pick_open hr h hn s3)
  ·rw [round_en hr h hn hi, s3]
   exact eqI_f (nz s.1 s.2 hi s3)
theorem round_none {n : Int} (hn : 1 ≤ n) (hs : ∀ j, j < T.2.1.length → StO r T n j) (he : ¬ 0 < (scan T n T.2.2.2.2.1.length 0).length) : roundT T n = T ∧ ∀ j, j < T.2.1.length → StE r T j := by
 have hnil : scan T n T.2.2.2.2.1.length 0 = [] := List.eq_nil_of_length_eq_zero (by omega)
 refine ⟨by unfold roundT; rw [hnil]; rfl, fun j hj => ?_⟩
 have hnone : ∀ i, i < T.2.1.length → pickV T n i = none := by
  intro i hi
  cases hp : pickV T n i with
  | none => rfl
  | some v =>
   have : (i, v) ∈ scan T n T.2.2.2.2.1.length 0 := (scan_mem _ _ _).2 ⟨Nat.zero_le _, by dsimp only; rw [h.en]; omega, hp⟩
   rw [hnil] at this
   cases this
 have ht := turn_at hr h hn hj
 rcases hs j hj with h1 | ⟨h1, e, hb, hc⟩ | ⟨h1, e1, e2, e3, hk⟩
 ·exact Or.inl h1
 ·refine Or.inr (Or.inl ⟨h1, e, ?_⟩)
  have hp := hnone j hj
  unfold pickV at hp
  rw [if_neg (by rw [e]; simp)] at hp
  split at hp
  ·cases hp
  rename_i hw
  split at hp
  ·cases hp
  rename_i hl
  have : ¬ ∀ k ∈ xs T j, (en T k).1 = 2 - (lp T j).2.2.1 := fun q => hl ((lossB_iff hr h hn).2 q)
  simp only [Classical.not_forall] at this
  obtain ⟨k, hk, ek⟩ := this
  refine ⟨k, hk, ?_⟩
  obtain ⟨i, rfl, hi⟩ := h.kid hj k hk
  have hm : (en T i).1 ≠ 1 + (lp T j).2.2.1 := by
   intro q
   have b1 := hb _ hk q
   have b2 := en_bound hr h hn hs hi
   exact hw ((winB_iff hr h hn).2 ⟨_, hk, Prod.ext q (by dsimp only; omega)⟩)
  rcases hs i hi with ⟨g1, g2⟩ | ⟨_, g2, _⟩ | ⟨_, _, _, g2, _⟩
  ·have := res_range hr (h.pos hi).1 (!(cand r (lp T i)).isEmpty) (r.2.2.2.2.2.2.2.1)
   have e5 : resI r (lp T i) (!(cand r (lp T i)).isEmpty) (r.2.2.2.2.2.2.2.1) = resV r (lp T i) := rfl
   rw [e5] at this
   rw [g2] at ek hm ⊢
   dsimp only at ek hm ⊢
   omega
  ·rw [g2]; exact Or.inl rfl
  ·omega
 ·exact Or.inr (Or.inr ⟨h1, e1, e3, hk⟩)
end
def markE (e : EnT) : EnT := if e.1 = 0 then (3, 0) else e
def markT (T : TabT) : TabT := (T.1, (T.2.1, (T.2.2.1, (T.2.2.2.1, (T.2.2.2.2.1.map markE, T.2.2.2.2.2)))))
structure Solved (r : RulesT) (p0 : PosT) (T : TabT) : Prop where
 tab : TabOk' r p0 T
 st : ∀ j, j < T.2.1.length → StF r T j
 bd : ∀ j : Nat, j < T.2.1.length → (en T j).2 ≤ 5000
section
variable {r : RulesT} (hr : ROk r) {p0 : PosT}
include hr
theorem mark_ok {T : TabT} (h : TabOk' r p0 T) (hs : ∀ j, j < T.2.1.length → StE r T j) (hb : ∀ j : Nat, j < T.2.1.length → (en T j).2 ≤ 5000) : Solved r p0 (markT T) := by
 have hT : TabOk' r p0 (markT T) := h.set (List.length_map _)
 have he : ∀ i : Nat, i < T.2.1.length → en (markT T) i = markE (en T i) := by
  intro i hi
  refine en_at ?_
  rw [List.getElem?_map, en_get hr h hi]
  rfl
 refine ⟨hT, fun j hj => ?_, fun j hj => ?_⟩
 rotate_left
 ·have hj : j < T.2.1.length := hj
  have := hb j hj
  rw [he j hj]
  unfold markE
  split
  ·dsimp only; omega
  ·exact this
 have hj : j < T.2.1.length := hj
 have el : lp (markT T) j = lp T j := rfl
 have ex : xs (markT T) j = xs T j := rfl
 unfold StF
 rw [el, ex, he j hj]
 unfold markE
 rcases hs j hj with ⟨h1, e⟩ | ⟨h1, e, k, hk, ek⟩ | ⟨h1, e1, e3, k, hk, ek⟩
 ·left
  rw [e, if_neg h1]
  exact ⟨h1, rfl⟩
 ·right; left
  obtain ⟨i, rfl, hi⟩ := h.kid hj k hk
  rw [e, if_pos rfl]
  refine ⟨h1, rfl, i, hk, ?_⟩
  rw [he i hi]
  unfold markE
  split
  ·rfl
  ·rename_i q
   exact ek.resolve_left q
 ·right; right
  obtain ⟨i, rfl, hi⟩ := h.kid hj k hk
  rw [if_neg (by omega)]
  refine ⟨h1, e1, e3, i, hk, ?_⟩
  rw [he i hi, ek]
  unfold markE
  rw [if_neg (by dsimp only; omega)]
variable {N : Nat} (hN : 200000000 ≤ N) {Q : NewT → Prop}
include hN
theorem mark_loop {T : TabT} (h : TabOk' r p0 T) (hQ : Q (some (markT T), 0)) : ∀ (k j n : Nat) (m : List EnT), j + k = T.2.2.2.2.1.length → k < n → m.length = T.2.2.2.2.1.length → (∀ i, m[i]? = if i < j then T.2.2.2.2.1[i]?.map markE else T.2.2.2.2.1[i]?) →
  Ret (nw3 N r n (T.2.2.2.2.1.length : Int) (j : Int) (T.1, (T.2.1, (T.2.2.1, (T.2.2.2.1, (m, T.2.2.2.2.2)))))) Q
 | 0, j, n, m, hk, hn, hm, hi => by
  obtain ⟨n, rfl⟩ := nxt (n := n) (by omega)
  rw [nw3_s, bif_f (ltI_f (by omega))]
  have : m = T.2.2.2.2.1.map markE := by
   apply List.ext_getElem?
   intro i
   rw [hi i, List.getElem?_map]
   by_cases c : i < j
   ·rw [if_pos c]
   ·rw [if_neg c, List.getElem?_eq_none (by omega)]
    rfl
  rw [this]
  exact Ret.ret hQ
 | k + 1, j, n, m, hk, hn, hm, hi => by
  obtain ⟨n, rfl⟩ := nxt (n := n) (by omega)
  have hsz := h.sz
  have hen := h.en
  have hj : j < m.length := by omega
  have hj2 : j < T.2.2.2.2.1.length := by omega
  have hmj : m[j]? = some T.2.2.2.2.1[j] := by rw [hi j, if_neg (by omega), List.getElem?_eq_getElem hj2]
  have hgd : gD zEn m (j : Int) = T.2.2.2.2.1[j] := gD_some hmj
  rw [nw3_s, bif_t (ltI_t (by omega))]
  dsimp only
  rw [chk_of (idx_ok hj), chk_of (idx_ok hj), hgd, w64_id (by omega) (by omega), show ((j : Int) + 1) = ((j + 1 : Nat) : Int) by omega, Int.toNat_natCast]
  by_cases h0 : T.2.2.2.2.1[j].1 = 0
  ·rw [bif_t (eqI_t h0)]
   refine mark_loop h hQ k (j + 1) n _ (by omega) (by omega) (by rw [List.length_set]; exact hm) fun i => ?_
   by_cases c : i = j
   ·subst c
    rw [List.getElem?_set_self (by omega), if_pos (by omega), List.getElem?_eq_getElem hj2, Option.map_some]
    unfold markE
    rw [if_pos h0]
   ·rw [List.getElem?_set_ne (fun e => c e.symm), hi i]
    by_cases c2 : i < j
    ·rw [if_pos c2, if_pos (by omega)]
    ·rw [if_neg c2, if_neg (by omega)]
  ·rw [bif_f (eqI_f h0)]
   refine mark_loop h hQ k (j + 1) n _ (by omega) (by omega) hm fun i => ?_
   rw [hi i]
   by_cases c : i = j
   ·subst c
    rw [if_neg (by omega), if_pos (by omega), List.getElem?_eq_getElem hj2, Option.map_some]
    unfold markE
    rw [if_neg h0]
   ·by_cases c2 : i < j
    ·rw [if_pos c2, if_pos (by omega)]
    ·rw [if_neg c2, if_neg (by omega)]
theorem rounds (hQ : ∀ T, Solved r p0 T → Q (some T, 0)) : ∀ (k n : Nat) (i : Int) (T : TabT), cntO T ≤ k → TabOk' r p0 T → (∀ j, j < T.2.1.length → StO r T i j) → 1 ≤ i → i + k ≤ 5000 → 4000 + k < n → Ret (nw2 N r n i T) Q
 | k, 0, i, T, hc, h, hs, h1, hik, hn => by omega
 | k, n + 1, i, T, hc, h, hs, h1, hik, hn => by
  have hsz := h.sz
  have hen := h.en
  rw [nw2_s, round_eq h.rw_ ⟨h1, by omega⟩ (by omega), ob]
  dsimp only
  by_cases hne : 0 < (scan T i T.2.2.2.2.1.length 0).length
  ·rw [bif_t (decide_eq_true hne), w64_id (by omega) (by omega)]
   have hlt := round_cnt hr h h1 hs hne
   exact rounds hQ (k - 1) n (i + 1) (roundT T i) (by omega) (round_tab hr h i) (fun j hj => round_st hr h h1 hs hj) (by omega) (by omega) (by omega)
  ·rw [bif_f (decide_eq_false hne)]
   obtain ⟨e1, e2⟩ := round_none hr h h1 hs hne
   rw [e1]
   refine mark_loop hr hN h (hQ _ (mark_ok hr h e2 fun j hj => by have := en_bound hr h h1 hs hj; omega)) T.2.2.2.2.1.length 0 n T.2.2.2.2.1 (by omega) (by omega) rfl fun i => by rw [if_neg (by omega)]
theorem start_st {T : TabT} (h : Bfs r p0 T T.2.1.length) : ∀ j, j < T.2.1.length → StO r T 1 j := by
 intro j hj
 have ht := h.tab
 have he : ∀ i, i < T.2.1.length → en T i = (resV r (lp T i), 0) := by
  intro i hi
  obtain ⟨p, a, b⟩ := h.ent i hi
  have e1 : lp T i = p := gD_some a
  rw [e1]
  exact gD_some b
 by_cases h0 : resV r (lp T j) = 0
 ·right; left
  refine ⟨h0, by rw [he j hj, h0], fun k hk _ => ?_, ?_⟩
  ·obtain ⟨i, rfl, hi⟩ := ht.kid hj k hk
   rw [he i hi]
   dsimp only
   omega
  ·obtain ⟨_, _, g, _, h4⟩ := ht.at_ hj
   rcases h4 with ⟨q, _⟩ | ⟨_, hg, h5, h6⟩
   ·exact absurd h0 q
   ·have hne := cand_ne hr (ht.pos hj).1 h0
    obtain ⟨m, hm⟩ := List.exists_mem_of_ne_nil _ hne
    obtain ⟨c, hc, hcm⟩ := List.mem_iff_getElem.1 ((hg.mem m).2 hm)
    obtain ⟨i, i1, i2⟩ := h6 c m (by rw [List.getElem?_eq_getElem hc, hcm])
    refine ⟨i, List.mem_of_getElem? i1, Or.inr ?_⟩
    rw [he i (List.getElem?_eq_some_iff.1 i2).1]
    dsimp only
    omega
 ·exact Or.inl ⟨h0, he j hj⟩
end
theorem new_ret {N : Nat} (hN : 200000000 ≤ N) (r : RulesT) : Ret (Q12 N r) fun y => (∃ e, e ≠ 0 ∧ y = (none, e)) ∨ ∃ T, y = (some T, 0) ∧ ROk r ∧ r.2.2.2.2.2.2.2.2.2.1 = 0 ∧ Solved r (freshP r) T := by
 rw [new_eq]
 obtain ⟨e, he, he2⟩ := rcheck (N := N) (by omega) r
 rw [he, ob]
 by_cases h0 : e = 0
 ·have hr := he2.1 h0
  rw [bif_f (by rw [eqI_t h0]; rfl)]
  by_cases hq : r.2.2.2.2.2.2.2.2.2.1 = 0
  ·rw [bif_f (by rw [eqI_t hq]; rfl), rcopy_eq (by omega) hr, ob, fresh_eq N hr (by omega), ob]
   refine Ret.bnd (add_ret (T := (r, ([], ([], ([], ([], [])))))) (by omega) hr (TOk.nil r) (fresh_ok hr) (by simp)) fun y hy => ?_
   obtain ⟨j, e1, ha⟩ := hy
   have hl : y.2.2.1.length ≤ 1 := ha.len
   have hj := ha.at_
   have hj0 := (List.getElem?_eq_some_iff.1 hj).1
   obtain rfl : j = 0 := by omega
   have hb : Bfs r (freshP r) y.2 0 := by
    refine ⟨ha.rr, ha.ok, ?_, ?_, ?_, Nat.zero_le _, by omega, fun j hj => absurd hj (Nat.not_lt_zero _), fun j hj => absurd hj (Nat.not_lt_zero _), hj⟩
    ·rw [ha.nx]; rfl
    ·rw [ha.mv]; rfl
    ·rw [ha.en]; rfl
   refine bfs_l0 hN hr (B := 20000) (M := 3001) (C := 10000) (Or.inl ⟨2, by omega, rfl⟩) (fun n T hn hT => ?_) rfl rfl 3001 0 N y.2 (by omega) hb (by omega)
   have hsz := hT.sz
   have hcn : cntO T ≤ 3000 := by
    have : cntO T ≤ T.2.2.2.2.1.length := List.countP_le_length
    have := hT.en
    omega
   exact rounds hr hN (fun T' h' => Or.inr ⟨T', rfl, hr, hq, h'⟩) 3000 n 1 T hcn hT.tab (start_st hr hN hT) (by omega) (by omega) (by omega)
  ·rw [bif_t (by rw [eqI_f hq]; rfl)]
   exact Ret.ret (Or.inl ⟨1, by omega, rfl⟩)
 ·rw [bif_t (by rw [eqI_f h0]; rfl)]
  exact Ret.ret (Or.inl ⟨e, h0, rfl⟩)
end Go.Proofs.YtfihdjjilofklaaGreat.Am
