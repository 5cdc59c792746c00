/- Plain: is a position over? -/
import Derived.Test.YtfihdjjilofklaaGreatLawDoFp
import Derived.Test.YtfihdjjilofklaaGreatFnp2
import Derived.Test.YtfihdjjilofklaaGreatLawAlongp
set_option linter.unusedVariables false
set_option linter.unusedSimpArgs false
set_option linter.unusedSectionVars false
namespace Go.Proofs.YtfihdjjilofklaaGreat.Am
open Go
def hasB (r : RulesT) (p : PosT) (player x y : Int) : Bool := leI 0 x && (ltI x (r.2.1) && (leI 0 y && (ltI y (r.2.2.1) && eqI (ownI (gD 0 p.1 (y * r.2.1 + x))) player)))
def lineB (r : RulesT) (p : PosT) (player dx dy : Int) : Nat → Int → Int → Bool
 | 0, _, _ => true
 | k + 1, x, y => hasB r p player x y && lineB r p player dx dy k (x + dx) (y + dy)
def rowS (r : RulesT) (p : PosT) (player : Int) (count : Nat) (s : Int) : Bool :=
 lineB r p player 1 0 count (s % r.2.1) (s / r.2.1) || (lineB r p player 0 1 count (s % r.2.1) (s / r.2.1) || (lineB r p player 1 1 count (s % r.2.1) (s / r.2.1) || lineB r p player 1 (-1) count (s % r.2.1) (s / r.2.1)))
def anyS (f : Int → Bool) : Nat → Nat → Bool
 | 0, _ => false
 | k + 1, j => f j || anyS f k (j + 1)
def cntI (v : Int) : List Int → Int
 | [] => 0
 | c :: l => (if c = v then 1 else 0) + cntI v l
def reachB (r : RulesT) (p : PosT) (piece : Int) (s : Int) : Bool := eqI (gD 0 p.1 s) (2 * piece + (1 - p.2.2.1) + 1) && farI r (1 - p.2.2.1) s
def holdsB (r : RulesT) (p : PosT) (x : EndT) : Bool :=
 bif eqI x.1 0 then anyS (rowS r p (1 - p.2.2.1) x.2.2.1.toNat) p.1.length 0
 else bif eqI x.1 1 then anyS (reachB r p x.2.1) p.1.length 0
 else ltI (cntI (2 * x.2.1 + p.2.2.1 + 1) p.1) x.2.2.1
def overI (r : RulesT) (p : PosT) (any : Bool) : Int :=
 if 0 < r.2.2.2.2.2.2.2.2.2.1 ∧ r.2.2.2.2.2.2.2.2.2.1 ≤ p.2.2.2 then 3 else if any = true then 0 else if r.2.2.2.2.2.2.2.2.1 = 0 then 2 - p.2.2.1 else if r.2.2.2.2.2.2.2.2.1 = 1 then 1 + p.2.2.1 else 3
def resI (r : RulesT) (p : PosT) (any : Bool) : List EndT → Int
 | [] => overI r p any
 | x :: l => if holdsB r p x = true then (if x.2.2.2 = true then 1 + p.2.2.1 else 2 - p.2.2.1) else resI r p any l
section
variable {r : RulesT} (hr : ROk r) {p : PosT} (hp : POk r p)
include hr hp
theorem row_l2 (N : Nat) (player count : Int) (hpl : player = 0 ∨ player = 1) (s j d e1 e2 : Int) (he : -1 ≤ e1 ∧ e1 ≤ 1 ∧ -1 ≤ e2 ∧ e2 ≤ 1) (B : Nat) (E : Option Bool)
  (hB : ∀ n, B ≤ n → Q76.l1 N r p player count n s j (w64 (d + 1)) = E) : ∀ (k n : Nat) (x y m : Int), m + k = count → 0 ≤ m → count ≤ 64 → B + k + 1 ≤ n → -1 ≤ x ∧ x ≤ 8 → -1 ≤ y ∧ y ≤ 8 →
  Q76.l2 N r p player count n s x y m j d e1 e2 = bif lineB r p player e1 e2 k x y then some true else E
 | 0, n, x, y, m, hm, hm0, hc, hn, hx, hy => by
  obtain ⟨n, rfl⟩ := nxt (n := n) (by omega)
  rw [Q76.l2_s, Q76.s2, hB n (by omega)]
  simp only [ltI_f (show count ≤ m by omega), eqI_t (show m = count by omega), cond_true, cond_false, lineB]
  cases leI 0 x <;> cases ltI x (r.2.1) <;> cases leI 0 y <;> cases ltI y (r.2.2.1) <;> rfl
 | k + 1, n, x, y, m, hm, hm0, hc, hn, hx, hy => by
  obtain ⟨n, rfl⟩ := nxt (n := n) (by omega)
  have hb := hr.b
  rw [Q76.l2_s, Q76.s2, hB n (by omega)]
  simp only [ltI_t (show m < count by omega), eqI_f (show m ≠ count by omega), cond_true, cond_false, lineB, hasB]
  by_cases c1 : 0 ≤ x
  rotate_left
  ·simp [leI_f (show x < 0 by omega)]
  by_cases c2 : x < r.2.1
  rotate_left
  ·simp [leI_t c1, ltI_f (show r.2.1 ≤ x by omega)]
  by_cases c3 : 0 ≤ y
  rotate_left
  ·simp [leI_t c1, ltI_t c2, leI_f (show y < 0 by omega)]
  by_cases c4 : y < r.2.2.1
  rotate_left
  ·simp [leI_t c1, ltI_t c2, leI_t c3, ltI_f (show r.2.2.1 ≤ y by omega)]
  simp only [leI_t c1, ltI_t c2, leI_t c3, ltI_t c4, cond_true, Bool.true_and]
  have hq := sq_bound (x := x) (y := y) hb ⟨c1, c2⟩ ⟨c3, c4⟩
  have hl := hp.len
  have hcc := cell_ok hp (s := y * r.2.1 + x) (by omega)
  have h6 := hr.ps.le
  rw [w64_id (x := y * r.2.1) (by omega) (by omega), w64_id (x := y * r.2.1 + x) (by omega) (by omega), chk_idx (by omega) (by omega), owner_eq hcc.1 (by omega), ob]
  by_cases c5 : ownI (gD 0 p.1 (y * r.2.1 + x)) = player
  ·rw [bif_t (eqI_t c5), eqI_t c5, Bool.true_and, w64_id (x := x + e1) (by omega) (by omega), w64_id (x := y + e2) (by omega) (by omega), w64_id (x := m + 1) (by omega) (by omega)]
   exact row_l2 N player count hpl s j d e1 e2 he B E hB k n (x + e1) (y + e2) (m + 1) (by omega) (by omega) hc (by omega) (by omega) (by omega)
  ·rw [bif_f (eqI_f c5), eqI_f c5]; rfl
theorem row_l1 (N : Nat) (player count : Int) (hpl : player = 0 ∨ player = 1) (hcnt : 0 ≤ count ∧ count ≤ 64) (s : Int) (hs : 0 ≤ s ∧ s < p.1.length) (j : Int) (B : Nat) (E : Option Bool)
  (hB : ∀ n, B ≤ n → Q76.l0 N r p player count n (w64 (j + 1)) = E) (n : Nat) (hn : B + 300 ≤ n) :
  Q76.l1 N r p player count n s j 0 = bif rowS r p player count.toNat s then some true else E := by
 have hb := hr.b
 have hl := hp.len
 have hq := sq_parts hb (s := s) (by omega)
 have e4 : ∀ n, B + 1 ≤ n → Q76.l1 N r p player count n s j (w64 (3 + 1)) = E := fun n hn => by
  obtain ⟨n, rfl⟩ := nxt (n := n) (by omega)
  rw [show w64 ((3 : Int) + 1) = 4 by decide, Q76.l1_s, Q76.s1, bif_f (by rfl), hB n (by omega)]
 have go : ∀ (d e1 e2 : Int) (B' : Nat) (E' : Option Bool), (-1 ≤ e1 ∧ e1 ≤ 1 ∧ -1 ≤ e2 ∧ e2 ≤ 1) → (∀ n, B' ≤ n → Q76.l1 N r p player count n s j (w64 (d + 1)) = E') → ∀ n, B' + 66 ≤ n →
   Q76.l2 N r p player count n s (Int.tmod s (r.2.1)) (w64 (Int.tdiv s (r.2.1))) 0 j d e1 e2 = bif lineB r p player e1 e2 count.toNat (s % r.2.1) (s / r.2.1) then some true else E' := fun d e1 e2 B' E' he hB' n hn => by
  rw [Int.tdiv_eq_ediv_of_nonneg hs.1, Int.tmod_eq_emod_of_nonneg hs.1, w64_id (x := s / r.2.1) (by omega) (by omega)]
  exact row_l2 hr hp N player count hpl s j d e1 e2 he B' E' hB' count.toNat n _ _ 0 (by omega) (by omega) (by omega) (by omega) (by omega) (by omega)
 have e3 : ∀ n, B + 70 ≤ n → Q76.l1 N r p player count n s j (w64 (2 + 1)) = _ := fun n hn => by
  obtain ⟨n, rfl⟩ := nxt (n := n) (by omega)
  rw [show w64 ((2 : Int) + 1) = 3 by decide, Q76.l1_s, Q76.s1, bif_t (by rfl), bif_f (by rfl), bif_f (by rfl), bif_f (by rfl), bif_t (by rfl), bif_f (eqI_f (by omega)), bif_f (eqI_f (by omega))]
  exact go 3 1 (-1) (B + 1) E (by omega) e4 n (by omega)
 have e2 : ∀ n, B + 140 ≤ n → Q76.l1 N r p player count n s j (w64 (1 + 1)) = _ := fun n hn => by
  obtain ⟨n, rfl⟩ := nxt (n := n) (by omega)
  rw [show w64 ((1 : Int) + 1) = 2 by decide, Q76.l1_s, Q76.s1, bif_t (by rfl), bif_f (by rfl), bif_f (by rfl), bif_t (by rfl), bif_f (eqI_f (by omega)), bif_f (eqI_f (by omega))]
  exact go 2 1 1 (B + 70) _ (by omega) e3 n (by omega)
 have e1 : ∀ n, B + 210 ≤ n → Q76.l1 N r p player count n s j (w64 (0 + 1)) = _ := fun n hn => by
  obtain ⟨n, rfl⟩ := nxt (n := n) (by omega)
  rw [show w64 ((0 : Int) + 1) = 1 by decide, Q76.l1_s, Q76.s1, bif_t (by rfl), bif_f (by rfl), bif_t (by rfl), bif_f (eqI_f (by omega)), bif_f (eqI_f (by omega))]
  exact go 1 0 1 (B + 140) _ (by omega) e2 n (by omega)
 obtain ⟨n, rfl⟩ := nxt (n := n) (by omega)
 rw [Q76.l1_s, Q76.s1, bif_t (by rfl), bif_t (by rfl), bif_f (eqI_f (by omega)), bif_f (eqI_f (by omega)), go 0 1 0 (B + 210) _ (by omega) e1 n (by omega)]
 unfold rowS
 cases lineB r p player 1 0 count.toNat (s % r.2.1) (s / r.2.1) <;> cases lineB r p player 0 1 count.toNat (s % r.2.1) (s / r.2.1) <;> cases lineB r p player 1 1 count.toNat (s % r.2.1) (s / r.2.1) <;> cases lineB r p player 1 (-1) count.toNat (s % r.2.1) (s / r.2.1) <;> rfl
theorem row_l0 (N : Nat) (player count : Int) (hpl : player = 0 ∨ player = 1) (hcnt : 0 ≤ count ∧ count ≤ 64) : ∀ (k j n : Nat), j + k = p.1.length → 301 * k + 1 ≤ n →
  Q76.l0 N r p player count n (j : Int) = some (anyS (rowS r p player count.toNat) k j)
 | 0, j, n, hk, hn => by
  obtain ⟨n, rfl⟩ := nxt (n := n) (by omega)
  rw [Q76.l0_s, Q76.s0, bif_f (ltI_f (by omega))]; rfl
 | k + 1, j, n, hk, hn => by
  obtain ⟨n, rfl⟩ := nxt (n := n) (by omega)
  have hll := len_le hr hp
  rw [Q76.l0_s, Q76.s0, bif_t (ltI_t (by omega)), row_l1 hr hp N player count hpl hcnt j (by omega) j (301 * k + 1) _ (fun n hn => by
   rw [w64_id (by omega) (by omega), show ((j : Int) + 1) = ((j + 1 : Nat) : Int) by omega]
   exact row_l0 N player count hpl hcnt k (j + 1) n (by omega) hn) n (by omega), anyS]
  cases rowS r p player count.toNat j <;> rfl
theorem holds_l0 (N : Nat) (x : EndT) (hx : 0 ≤ x.2.1 ∧ x.2.1 < (r.2.2.2.1).length) : ∀ (k j n : Nat), j + k = p.1.length → k + 1 ≤ n → Q54.l0 N r p x n (j : Int) = some (anyS (reachB r p x.2.1) k j)
 | 0, j, n, hk, hn => by
  obtain ⟨n, rfl⟩ := nxt (n := n) (by omega)
  rw [Q54.l0_s, Q54.s0, bif_f (ltI_f (by omega))]; rfl
 | k + 1, j, n, hk, hn => by
  obtain ⟨n, rfl⟩ := nxt (n := n) (by omega)
  have hll := len_le hr hp
  have hl := hp.len
  have ht := hp.last.1
  have ih := holds_l0 N x hx k (j + 1) n (by omega) (by omega)
  have hcell : Q45 N x.2.1 (w64 (1 - p.2.2.1)) = some (2 * x.2.1 + (1 - p.2.2.1) + 1) := by
   unfold Q45 Q45.e
   simp (disch := omega) only [w64_id]
  rw [Q54.l0_s, Q54.s0, bif_t (ltI_t (by omega)), chk_of (idx_ok (by omega)), hcell, ob, w64_id (x := 1 - p.2.2.1) (by omega) (by omega), far_eq hr.b (by omega), ob, w64_id (x := (j : Int) + 1) (by omega) (by omega), show ((j : Int) + 1) = ((j + 1 : Nat) : Int) by omega, ih, anyS, reachB]
  cases eqI (gD 0 p.1 (j : Int)) (2 * x.2.1 + (1 - p.2.2.1) + 1) <;> cases farI r (1 - p.2.2.1) (j : Int) <;> rfl
theorem holds_l1 (N : Nat) (x : EndT) (hx : 0 ≤ x.2.1 ∧ x.2.1 < (r.2.2.2.1).length) : ∀ (k j n : Nat) (m : Int), j + k = p.1.length → k + 1 ≤ n → 0 ≤ m → m + k ≤ 100 → Q54.l1 N r p x n m (j : Int) = some (ltI (m + cntI (2 * x.2.1 + p.2.2.1 + 1) (p.1.drop j)) x.2.2.1)
 | 0, j, n, m, hk, hn, hm, hm' => by
  obtain ⟨n, rfl⟩ := nxt (n := n) (by omega)
  rw [Q54.l1_s, Q54.s1, bif_f (ltI_f (by omega)), List.drop_of_length_le (by omega), cntI, Int.add_zero]
 | k + 1, j, n, m, hk, hn, hm, hm' => by
  obtain ⟨n, rfl⟩ := nxt (n := n) (by omega)
  have hll := len_le hr hp
  have hj : j < p.1.length := by omega
  have ht := hp.last.1
  have hcell : Q45 N x.2.1 p.2.2.1 = some (2 * x.2.1 + p.2.2.1 + 1) := by
   unfold Q45 Q45.e
   simp (disch := omega) only [w64_id]
  rw [Q54.l1_s, Q54.s1, bif_t (ltI_t (by omega)), chk_of (idx_ok (by omega)), hcell, ob, gD_nat hj, w64_id (x := m + 1) (by omega) (by omega), w64_id (x := (j : Int) + 1) (by omega) (by omega), show ((j : Int) + 1) = ((j + 1 : Nat) : Int) by omega, holds_l1 N x hx k (j + 1) n m (by omega) (by omega) (by omega) (by omega), holds_l1 N x hx k (j + 1) n (m + 1) (by omega) (by omega) (by omega) (by omega), List.drop_eq_getElem_cons hj, cntI]
  by_cases c : p.1[j] = 2 * x.2.1 + p.2.2.1 + 1
  ·rw [bif_t (eqI_t c), if_pos c, Int.add_assoc]
  ·rw [bif_f (eqI_f c), if_neg c, Int.zero_add]
theorem holds_eq {N : Nat} (hN : 30000 ≤ N) {x : EndT} (hx : endOk (r.2.2.2.1).length x) : Q54 N r p x = some (holdsB r p x) := by
 have hll := len_le hr hp
 have ht := hp.last.1
 unfold Q54 Q54.e holdsB
 by_cases c0 : x.1 = 0
 ·rw [bif_t (eqI_t c0), bif_t (eqI_t c0), w64_id (x := 1 - p.2.2.1) (by omega) (by omega)]
  unfold Q76 Q76.e
  have := row_l0 hr hp N (1 - p.2.2.1) x.2.2.1 (by omega) (by omega) p.1.length 0 N (by omega) (by omega)
  rw [show ((0 : Nat) : Int) = 0 from rfl] at this
  rw [this, ob]
 ·rw [bif_f (eqI_f c0), bif_f (eqI_f c0)]
  by_cases c1 : x.1 = 1
  ·rw [bif_t (eqI_t c1), bif_t (eqI_t c1)]
   exact holds_l0 hr hp N x (by omega) p.1.length 0 N (by omega) (by omega)
  ·rw [bif_f (eqI_f c1), bif_f (eqI_f c1)]
   have := holds_l1 hr hp N x (by omega) p.1.length 0 N 0 (by omega) (by omega) (by omega) (by omega)
   rw [List.drop_zero, Int.zero_add] at this
   exact this
theorem wins_eq (N : Nat) {t : Int} (h : 0 ≤ t ∧ t ≤ 1) : Q55 N t = some (1 + t) := by
 unfold Q55 Q55.e
 rw [w64_id (by omega) (by omega)]
theorem result_l0 {N : Nat} (hN : 30000 ≤ N) {l : List MvT} (hl : Q33 N r p = some l) : ∀ (k j n : Nat), j + k = (r.2.2.2.2.2.2.2.1).length → k + 1 ≤ n → Q32.l0 N r p n ((r.2.2.2.2.2.2.2.1).length : Int) (j : Int) = some (resI r p (ltI 0 (l.length : Int)) ((r.2.2.2.2.2.2.2.1).drop j))
 | 0, j, n, hk, hn => by
  obtain ⟨n, rfl⟩ := nxt (n := n) (by omega)
  have ht := hp.last.1
  rw [Q32.l0_s, Q32.s0, bif_f (ltI_f (by omega)), List.drop_of_length_le (by omega), hl, ob, w64_id (x := 1 - p.2.2.1) (by omega) (by omega), wins_eq hr hp N (by omega), wins_eq hr hp N (by omega), ob, ob, resI, overI]
  rw [show 1 + (1 - p.2.2.1) = 2 - p.2.2.1 by omega]
  simp only [ltI, leI, eqI, Bool.cond_eq_ite, decide_eq_true_eq]
  repeat' split
  all_goals first | rfl | (exfalso; omega)
 | k + 1, j, n, hk, hn => by
  obtain ⟨n, rfl⟩ := nxt (n := n) (by omega)
  have ht := hp.last.1
  have hne := hr.ne
  have hj : j < (r.2.2.2.2.2.2.2.1).length := by omega
  have hx := hr.ends (r.2.2.2.2.2.2.2.1)[j] (List.getElem_mem _)
  rw [Q32.l0_s, Q32.s0, bif_t (ltI_t (by omega)), chk_of (idx_ok hj), gD_nat hj, holds_eq hr hp hN hx, ob, w64_id (x := 1 - p.2.2.1) (by omega) (by omega), wins_eq hr hp N (by omega), wins_eq hr hp N (by omega), ob, ob, w64_id (x := (j : Int) + 1) (by omega) (by omega), show ((j : Int) + 1) = ((j + 1 : Nat) : Int) by omega, result_l0 hN hl k (j + 1) n (by omega) (by omega), List.drop_eq_getElem_cons hj, resI]
  rw [show 1 + (1 - p.2.2.1) = 2 - p.2.2.1 by omega]
  cases holdsB r p (r.2.2.2.2.2.2.2.1)[j] <;> cases (r.2.2.2.2.2.2.2.1)[j].2.2.2 <;> rfl
theorem result_eq {N : Nat} (hN : 30000 ≤ N) {l : List MvT} (hl : Q33 N r p = some l) : Q32 N r p = some (resI r p (ltI 0 (l.length : Int)) (r.2.2.2.2.2.2.2.1)) := by
 have hne := hr.ne
 unfold Q32 Q32.e
 have := result_l0 hr hp hN hl (r.2.2.2.2.2.2.2.1).length 0 N (by omega) (by omega)
 rw [List.drop_zero] at this
 exact this
theorem res_range (any : Bool) : ∀ l : List EndT, 0 ≤ resI r p any l ∧ resI r p any l ≤ 3 ∧ (resI r p any l = 0 → any = true)
 | [] => by
  have ht := hp.last.1
  unfold resI overI
  split
  ·omega
  ·split
   ·rename_i h; exact ⟨by omega, by omega, fun _ => h⟩
   ·split
    ·omega
    ·split <;> omega
 | x :: l => by
  have ht := hp.last.1
  have := res_range any l
  unfold resI
  split
  ·split <;> omega
  ·exact this
end
end Go.Proofs.YtfihdjjilofklaaGreat.Am
set_option linter.unusedVariables false
set_option linter.unusedSimpArgs false
set_option linter.unusedSectionVars false
namespace Go.Proofs.YtfihdjjilofklaaGreat.Am
open Go
def resV (r : RulesT) (p : PosT) : Int := resI r p (!(cand r p).isEmpty) (r.2.2.2.2.2.2.2.1)
theorem any_eq {r : RulesT} {p : PosT} {g : List MvT} (hg : IsGen r p g) : ltI 0 (g.length : Int) = !(cand r p).isEmpty := by
 cases hc : cand r p with
 | nil =>
  cases g with
  | nil => rfl
  | cons a g => have := (hg.mem a).1 (List.mem_cons_self ..); rw [hc] at this; cases this
 | cons a l =>
  cases g with
  | nil => have := (hg.mem a).2 (by rw [hc]; exact List.mem_cons_self ..); cases this
  | cons b g => rw [ltI_t (by simp)]; rfl
end Go.Proofs.YtfihdjjilofklaaGreat.Am
set_option linter.unusedVariables false
set_option linter.unusedSimpArgs false
set_option linter.unusedSectionVars false
namespace Go.Proofs.YtfihdjjilofklaaGreat.Am
open Go
def mx (a b : Int) : Int := bif ltI a b then b else a
def foldMax (b : Int) (l : List Int) : Int := l.foldl mx b
def near (n : Int) : Int := if 0 < n then n - 1 else if n < 0 then n + 1 else 0
def scoreV (x t : Int) : Int := if x = 1 + t then 1000 else if x = 2 - t then -1000 else 0
def val (r : RulesT) : Nat → PosT → Int
 | 0, p => if resV r p ≠ 0 then scoreV (resV r p) (p.2.2.1) else 0
 | d + 1, p => if resV r p ≠ 0 then scoreV (resV r p) (p.2.2.1) else foldMax (-1000) ((cand r p).map fun m => near (-(val r d (doI r p m))))
section
variable {r : RulesT} (hr : ROk r)
include hr
theorem cand_ne {p : PosT} (hp : POk r p) (h : resV r p = 0) : cand r p ≠ [] := by
 intro e
 have := (res_range hr hp (!(cand r p).isEmpty) (r.2.2.2.2.2.2.2.1)).2.2 h
 rw [e] at this
 cases this
end
end Go.Proofs.YtfihdjjilofklaaGreat.Am
set_option linter.unusedVariables false
set_option linter.unusedSimpArgs false
namespace Go.Proofs.YtfihdjjilofklaaGreat.Am
open Go
theorem equal_loop (N : Nat) (a b : List Int) (hs : a.length < 4611686018427387904) (hl : a.length = b.length) : ∀ (k j n : Nat), j + k = a.length → k < n →
  Q91.l0 N a b n (j : Int) = some (decide (a.drop j = b.drop j))
 | 0, j, n + 1, hk, hn => by
  simp only [Q91.l0_s, Q91.s0]
  rw [bif_f (ltI_f (by omega)), List.drop_of_length_le (by omega), List.drop_of_length_le (by omega)]
  rfl
 | k + 1, j, n + 1, hk, hn => by
  have hj : j < a.length := by omega
  have hj' : j < b.length := by omega
  simp only [Q91.l0_s, Q91.s0]
  rw [bif_t (ltI_t (by omega)), chk_of (idx_ok hj), chk_of (idx_ok hj'), gD_nat hj, gD_nat hj', List.drop_eq_getElem_cons hj, List.drop_eq_getElem_cons hj']
  by_cases h0 : a[j] = b[j]
  ·rw [bif_f (by simp [eqI, h0]), w64_id (by omega) (by omega)]
   have := equal_loop N a b hs hl k (j + 1) n (by omega) (by omega)
   rw [show ((j : Int) + 1) = ((j + 1 : Nat) : Int) by omega, this]
   exact congrArg some (decide_eq_decide.2 ⟨fun e => by rw [e, h0], fun e => (List.cons.inj e).2⟩)
  ·rw [bif_t (by simp [eqI, h0])]
   exact congrArg some (decide_eq_false fun e => h0 (List.cons.inj e).1).symm
theorem equal_eq {N : Nat} {a b : List Int} (ha : a.length < 4611686018427387904) (hb : b.length < 4611686018427387904) (hN : a.length < N) : Q91 N a b = some (decide (a = b)) := by
 simp only [Q91, Q91.e]
 by_cases hl : a.length = b.length
 ·rw [bif_f (by simp [eqI, hl])]
  have := equal_loop N a b ha hl a.length 0 N (by omega) hN
  simpa using this
 ·rw [bif_t (by simp [eqI]; omega)]
  have : a ≠ b := fun e => hl (by rw [e])
  simp [this]
end Go.Proofs.YtfihdjjilofklaaGreat.Am
set_option linter.unusedVariables false
set_option linter.unusedSimpArgs false
set_option linter.unusedSectionVars false
namespace Go.Proofs.YtfihdjjilofklaaGreat.Am
open Go
theorem copy_l0 (N : Nat) {r : RulesT} (hr : ROk r) : ∀ (k j n : Nat) (m : List PieceT), j + k = (r.2.2.2.1).length → m.length = (r.2.2.2.1).length → (∀ i, i < j → m[i]? = (r.2.2.2.1)[i]?) → k < n →
  Q19.l0 N r n ((r.2.2.2.1).length : Int) (j : Int) m = some r
 | 0, j, n, m, hk, hm, hi, hn => by
  obtain ⟨n, rfl⟩ := nxt (n := n) (by omega)
  have ha := area_le' hr.b
  have hs := hr.ns
  have he := hr.ne
  have : m = r.2.2.2.1 := by
   apply List.ext_getElem?
   intro i
   by_cases h : i < j
   ·exact hi i h
   ·rw [List.getElem?_eq_none (by omega), List.getElem?_eq_none (by omega)]
  subst this
  rw [Q19.l0_s, Q19.s0, bif_f (ltI_f (by omega)), chk_cap (by omega), chk_cap (by omega)]
 | k + 1, j, n, m, hk, hm, hi, hn => by
  obtain ⟨n, rfl⟩ := nxt (n := n) (by omega)
  have hj : j < (r.2.2.2.1).length := by omega
  have h6 := hr.ps.le
  have hw := (piece_ok hr (kind := j) (by omega)).2.1
  rw [gD_nat hj] at hw
  rw [Q19.l0_s, Q19.s0, bif_t (ltI_t (by omega)), chk_of (idx_ok hj), gD_nat hj, chk_cap (by omega), chk_of (idx_ok (by omega)), w64_id (by omega) (by omega), show ((j : Int) + 1) = ((j + 1 : Nat) : Int) by omega, Int.toNat_natCast]
  refine copy_l0 N hr k (j + 1) n _ (by omega) (by simp [hm]) (fun i hi' => ?_) (by omega)
  rw [List.getElem?_set]
  by_cases hij : j = i
  ·subst hij
   rw [if_pos rfl, if_pos (by omega), List.getElem?_eq_getElem hj]
  ·rw [if_neg hij]
   exact hi i (by omega)
theorem rcopy_eq {N : Nat} (hN : 1000 ≤ N) {r : RulesT} (hr : ROk r) : Q19 N r = some r := by
 have h6 := hr.ps.le
 unfold Q19 Q19.e
 dsimp only
 rw [chk_of (by
  rw [leI_t (by omega), decide_eq_true (by omega), Bool.true_and, Bool.true_and, Int.toNat_natCast]
  unfold capOk
  exact decide_eq_true (by omega))]
 have := copy_l0 N hr (r.2.2.2.1).length 0 N (List.replicate ((r.2.2.2.1).length : Int).toNat zP) (by omega) (by simp) (fun i hi => by omega) (by omega)
 rw [show ((0 : Nat) : Int) = 0 from rfl] at this
 exact this
end Go.Proofs.YtfihdjjilofklaaGreat.Am
