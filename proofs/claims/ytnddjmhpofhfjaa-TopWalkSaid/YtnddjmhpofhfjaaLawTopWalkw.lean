/- Plain: what walk.Run does, seen whole; and the check that a game is sampled. -/
import Derived.Test.YtnddjmhpofhfjaaLawAlongw
import Derived.Test.YtnddjmhpofhfjaaFnw1
import Derived.Test.YtnddjmhpofhfjaaLawDoAw
import Derived.Test.YtnddjmhpofhfjaaLawMoves0w
set_option linter.unusedVariables false
set_option linter.unusedSimpArgs false
namespace Go.Proofs.Ytnddjmhpofhfjaa.Am
open Go
noncomputable section
abbrev TNode := LMv × (List Int × (Int × Int))
abbrev LNode := List TNode
abbrev zN : TNode := dW
abbrev TWm := TMv × (Int × Int)
abbrev zWm : TWm := dV
def runL (N : Nat) (r : TRules) (p : TPos) (seed steps : Int) (n : Nat) (t : Int) (b : TBoard) (s : Int) (nodes : LNode) : Option (List TWm × Int) :=
 Q5.l0 N r p seed steps n t b.1.1 b.1.2.1 b.1.2.2.1 b.1.2.2.2.2.2.1 b.1.2.2.2.2.2.2.1 b.1.2.2.2.2.2.2.2.2.1 b.1.2.2.2.2.2.2.2.2.2.1 b.1.2.2.2.2.2.2.2.2.2.2 b.2.1.2.2.1 b.2.1.2.2.2 b.2.2.1 b.1.2.2.2.1 b.1.2.2.2.2.1 b.1.2.2.2.2.2.2.2.1 b.2.1.1 b.2.1.2.1.1 b.2.1.2.1.2 b.2.2.2 s nodes
theorem runL_s (N : Nat) (r : TRules) (p : TPos) (seed steps : Int) (n : Nat) (t : Int) (b : TBoard) (s : Int) (nodes : LNode) :
  runL N r p seed steps (n + 1) t b s nodes = bif ltI t steps then ((Q23 N (b, s) (nodes, 0)).bind fun y => runL N r p seed steps n (w64 (t + 1)) y.2.1.1 y.2.1.2 y.2.2.1)
   else ((Q24 N b).bind fun y => Q5.l1 N r p seed steps n (y.length : Int) 0 nodes y []) := rfl
theorem walk_Run_e (N : Nat) (r : TRules) (p : TPos) (seed steps : Int) : Q5 N r p seed steps = (Q20 N r p).bind fun y1 =>
 oCase y1.1 (bif (!(eqI y1.2 0)) then (some ([], y1.2))
  else (Q21 N seed).bind fun y3 =>
  oCase y3.1 (bif (!(eqI y3.2 0)) then (some ([], y3.2))
   else bif (ltI steps 0) then (some ([], 1))
   else bif (ltI 2000 steps) then (some ([], 1))
   else none) fun b4 =>
  bif (!(eqI y3.2 0)) then (some ([], y3.2))
  else bif (ltI steps 0) then (some ([], 1))
  else bif (ltI 2000 steps) then (some ([], 1))
  else none) fun b2 =>
 bif (!(eqI y1.2 0)) then (some ([], y1.2))
 else (Q21 N seed).bind fun y5 =>
 oCase y5.1 (bif (!(eqI y5.2 0)) then (some ([], y5.2))
  else bif (ltI steps 0) then (some ([], 1))
  else bif (ltI 2000 steps) then (some ([], 1))
  else (Q22 N b2).bind fun y7 =>
  bif (!(eqI y7 0)) then (some ([], 14))
  else none) fun b6 =>
 bif (!(eqI y5.2 0)) then (some ([], y5.2))
 else bif (ltI steps 0) then (some ([], 1))
 else bif (ltI 2000 steps) then (some ([], 1))
 else (Q22 N b2).bind fun y9 =>
 bif (!(eqI y9 0)) then (some ([], 14))
 else runL N r p seed steps N 0 b2 b6 [([], ([], (1, 0)))] := rfl
def outC (m : LMv) (nodes : LNode) (len : Int) : Nat → Int → List TWm → Option (List TWm × Int)
 | 0, _, _ => none
 | n + 1, t, out => bif (ltI t len) then (chk ((leI 0 t) && (ltI t (m.length : Int))) <|
  bif (!(eqI ((gD zN nodes 0).2.1.length : Int) 0)) then (chk ((leI 0 t) && (ltI t ((gD zN nodes 0).2.1.length : Int))) <|
   chk (eqI ((gD zN nodes 0).2.1.length : Int) ((gD zN nodes 0).2.1.length : Int)) <|
   chk (leI 0 (gD (-1 : Int) (gD zN nodes 0).2.1 t)) <|
   chk ((leI 0 t) && (ltI t ((gD zN nodes 0).2.1.length : Int))) <|
   chk (eqI ((gD zN nodes 0).2.1.length : Int) ((gD zN nodes 0).2.1.length : Int)) <|
   chk (leI 0 (gD (-1 : Int) (gD zN nodes 0).2.1 t)) <|
   chk (capOk 40 (out.length + 1)) <|
   outC m nodes len n (w64 (t + 1)) (out ++ [((gD dM m t), ((gD zN nodes (gD (-1 : Int) (gD zN nodes 0).2.1 t)).2.2.1, (gD zN nodes (gD (-1 : Int) (gD zN nodes 0).2.1 t)).2.2.2))]))
  else chk (capOk 40 (out.length + 1)) <|
   outC m nodes len n (w64 (t + 1)) (out ++ [((gD dM m t), (0, 0))]))
 else some (out, 0)
theorem l1_eq (N : Nat) (r : TRules) (p : TPos) (seed steps : Int) (len : Int) (nodes : LNode) (m : LMv) : ∀ (n : Nat) (t : Int) (out : List TWm), Q5.l1 N r p seed steps n len t nodes m out = outC m nodes len n t out
 | 0, t, out => rfl
 | n + 1, t, out => by
  rw [Q5.l1_s]
  unfold Q5.s1
  simp only [bothK_same]
  have ih := l1_eq N r p seed steps len nodes m n
  simp only [ih]
  rfl
abbrev N0 : Nat := 300000000
def wT : TRules := ((⟨#[84, 73, 67]⟩ : ByteArray), (3, (3, ([(65, (5, (0, [])))], ([0, 0, 0, 0, 0, 0, 0, 0, 0], (false, (false, ([(0, (0, (3, false)))], (2, (0, 0))))))))))
def wP : TPos := ([1, 1, 0, 2, 2, 0, 0, 0, 0], (([3], [3]), (0, 0)))
def wB : TBoard := (wT, (wP, (16825452458666462914, [])))
def wM : LMv := [(-1, (2, 0)), (-1, (5, 0)), (-1, (6, 0)), (-1, (7, 0)), (-1, (8, 0))]
def wN : LNode := [(wM, ([1, 2, 3, 4, 5], (2, 0))), ([], ([], (1, 2))), ([], ([], (0, 0))), ([], ([], (0, 0))), ([], ([], (0, 0))), ([], ([], (0, 0)))]
def wO : List TWm := [((-1, (2, 0)), (1, 2)), ((-1, (5, 0)), (0, 0)), ((-1, (6, 0)), (0, 0)), ((-1, (7, 0)), (0, 0)), ((-1, (8, 0)), (0, 0))]
theorem w_three : Q6 N0 = some wT := by kernel_rfl
theorem w_near : Q7 N0 = some wP := by kernel_rfl
theorem w_new : Q20 N0 wT wP = some (some wB, 0) := by kernel_rfl
theorem w_src : Q21 N0 5 = some (some 20480, 0) := by kernel_rfl
theorem w_res : Q22 N0 wB = some 0 := by kernel_rfl
theorem w_step : Q23 N0 (wB, 20480) ([([], ([], (1, 0)))], 0) = some (1, ((wB, 20480), (wN, 0))) := by kernel_rfl
theorem w_moves : Q24 N0 wB = some wM := by kernel_rfl
theorem w_out : outC wM wN 5 299999998 0 [] = some (wO, 0) := by kernel_rfl
theorem walked_run : Q5 N0 wT wP 5 1 = some (wO, 0) := by
 rw [walk_Run_e, w_new]
 simp only [ob, oCase, w_src, w_res]
 rw [bif_f (by decide), bif_f (by decide), bif_f (by decide), bif_f (by decide), bif_f (by decide)]
 rw [show N0 = 299999999 + 1 by decide, runL_s, bif_t (by decide), show (299999999 + 1 : Nat) = N0 by decide, w_step]
 simp only [ob]
 rw [show (299999999 : Nat) = 299999998 + 1 by decide, runL_s, bif_f (by decide), w_moves]
 simp only [ob]
 rw [l1_eq]
 exact w_out
end
end Go.Proofs.Ytnddjmhpofhfjaa.Am
set_option linter.unusedVariables false
set_option linter.unusedSimpArgs false
set_option linter.unusedSectionVars false
namespace Go.Proofs.Ytnddjmhpofhfjaa.Am
open Go
noncomputable section
theorem bmix_ok (N : Nat) (x : Int) : ∃ y, Q87 N x = some y ∧ 0 ≤ y ∧ y < 18446744073709551616 := by
 unfold Q87 Q87.e
 refine ⟨_, rfl, ?_⟩
 exact ⟨Int.emod_nonneg _ (by decide), Int.emod_lt_of_pos _ (by decide)⟩
theorem below_ret (N : Nat) {s : Int} {n : Int} (h0 : 0 ≤ s) (h1 : s ≤ 1000000000000) (hn : 1 ≤ n) (hn2 : n ≤ 8192) : ∃ k : Int, 0 ≤ k ∧ k < n ∧ Q71 N s n = some (k, (0, s + 1)) := by
 unfold Q71 Q71.e
 rw [bif_f (ltI_f (by omega)), bif_f (ltI_f (by omega)), w64_id (x := s + 1) (by omega) (by omega)]
 obtain ⟨y, e, y0, y1⟩ := bmix_ok N (s + 1)
 rw [e]
 simp only [ob]
 have hw : IntKind.wrap .u64 n = n := Int.emod_eq_of_lt (by omega) (by show n < 18446744073709551616; omega)
 rw [hw, bif_f (eqI_f (by omega))]
 have hz : 0 ≤ Int.fdiv y (2 ^ (min (1 : Int).toNat 64)) := by
  have e2 : (2 : Int) ^ (min (1 : Int).toNat 64) = 2 := by decide
  rw [e2, Int.fdiv_eq_ediv_of_nonneg _ (by decide)]
  omega
 generalize Int.fdiv y (2 ^ (min (1 : Int).toNat 64)) = z at hz
 rw [Int.tmod_eq_emod_of_nonneg hz]
 have h2 := Int.emod_nonneg z (show n ≠ 0 by omega)
 have h3 := Int.emod_lt_of_pos z (show 0 < n by omega)
 exact ⟨z % n, h2, h3, by rw [w64_id (by omega) (by omega)]⟩
def playA (N : Nat) (x : TBoard × Int) (n : Nat) (k : Int) (b : TBoard) (s : Int) : Option (Int × (TBoard × Int)) :=
 Q45.l0 N x n k b.1.1 b.1.2.1 b.1.2.2.1 b.1.2.2.2.2.2.1 b.1.2.2.2.2.2.2.1 b.1.2.2.2.2.2.2.2.2.1 b.1.2.2.2.2.2.2.2.2.2.1 b.1.2.2.2.2.2.2.2.2.2.2 b.2.1.2.2.1 b.2.1.2.2.2 b.2.2.1 s b.1.2.2.2.1 b.1.2.2.2.2.1 b.1.2.2.2.2.2.2.2.1 b.2.1.1 b.2.1.2.1.1 b.2.1.2.1.2 b.2.2.2
def playB (N : Nat) (x : TBoard × Int) (n : Nat) (k out : Int) (b : TBoard) (s : Int) : Option (Int × (TBoard × Int)) :=
 Q45.l1 N x n k out b.1.1 b.1.2.1 b.1.2.2.1 b.1.2.2.2.2.2.1 b.1.2.2.2.2.2.2.1 b.1.2.2.2.2.2.2.2.2.1 b.1.2.2.2.2.2.2.2.2.2.1 b.1.2.2.2.2.2.2.2.2.2.2 b.2.1.2.2.1 b.2.1.2.2.2 b.2.2.1 s b.1.2.2.2.1 b.1.2.2.2.2.1 b.1.2.2.2.2.2.2.2.1 b.2.1.1 b.2.1.2.1.1 b.2.1.2.1.2 b.2.2.2
theorem play_e (N : Nat) (x : TBoard × Int) : Q45 N x = playA N x N 0 x.1 x.2 := rfl
theorem playA_s (N : Nat) (x : TBoard × Int) (n : Nat) (k : Int) (b : TBoard) (s : Int) : playA N x (n + 1) k b s =
  bif (ltI k 200) then ((Q24 N b).bind fun y1 =>
   bif (eqI (y1.length : Int) 0) then ((Q22 N b).bind fun y3 => playB N x n k y3 b s)
   else (Q71 N s (y1.length : Int)).bind fun y4 =>
   chk ((leI 0 y4.1) && (ltI y4.1 (y1.length : Int))) <|
   (Q47 N b (gD z0 y1 y4.1)).bind fun y5 => playA N x n (w64 (k + 1)) y5 y4.2.2)
  else (Q22 N b).bind fun y6 => playB N x n k y6 b s := rfl
theorem playB_s (N : Nat) (x : TBoard × Int) (n : Nat) (k out : Int) (b : TBoard) (s : Int) : playB N x (n + 1) k out b s =
  bif (ltI 0 k) then ((Q48 N b).bind fun y7 => playB N x n (w64 (k - 1)) out y7.2 s) else some (out, (b, s)) := rfl
inductive Ch (b0 : BoardT) : Nat → BoardT → Prop
 | z : Ch b0 0 b0
 | s {k : Nat} {b : BoardT} {m : MvT} : Ch b0 k b → BOk b → b.2.2.2.length ≤ 100000 → MoveOk b.1 b.2.1 m → Ch b0 (k + 1) (makeB b m)
theorem playB_ok (N : Nat) (x : TBoard × Int) {b0 : BoardT} (out s : Int) : ∀ (n k : Nat) (b : BoardT), k < n → k ≤ 1000 → Ch b0 k b → playB N x n k out b s = some (out, (b0, s))
 | 0, _, _, h, _, _ => by omega
 | n + 1, 0, b, h, h2, hc => by
  cases hc
  rw [playB_s, bif_f (ltI_f (by omega))]
 | n + 1, k + 1, b, h, h2, hc => by
  cases hc with
  | s hc hb hl hm =>
   rw [playB_s, bif_t (ltI_t (by omega)), undo_make hb hl hm, ob, w64_id (by omega) (by omega), show (((k + 1 : Nat) : Int) - 1) = (k : Int) by omega]
   exact playB_ok N x out s n k _ (by omega) (by omega) hc
theorem makeB_len (b : BoardT) (m : MvT) : (makeB b m).2.2.2.length = b.2.2.2.length + 1 := by
 unfold makeB
 simp
theorem playA_ok {N : Nat} (hN : 200000000 ≤ N) (x : TBoard × Int) {b0 : BoardT} : ∀ (j n k : Nat) (b : BoardT) (s : Int), j + k = 200 → 1000 ≤ n + k → Ch b0 k b → BOk b → b.2.2.2.length + j ≤ 99000 → 0 ≤ s → s + j ≤ 1000000000000 →
  ∃ out s', playA N x n k b s = some (out, (b0, s')) ∧ s ≤ s' ∧ s' ≤ s + j
 | 0, n, k, b, s, hj, hn, hc, hb, hl, h0, h1 => by
  obtain ⟨n, rfl⟩ := nxt (n := n) (by omega)
  rw [playA_s, bif_f (ltI_f (by omega)), bresult_eq hN hb, ob, playB_ok N x _ s n k b (by omega) (by omega) hc]
  exact ⟨_, s, rfl, by omega, by omega⟩
 | j + 1, n, k, b, s, hj, hn, hc, hb, hl, h0, h1 => by
  obtain ⟨n, rfl⟩ := nxt (n := n) (by omega)
  rw [playA_s, bif_t (ltI_t (by omega)), bmoves_mvP hN hb, ob]
  obtain ⟨hm1, hm2⟩ := mvP_spec hb.r hb.p
  generalize mvP b.1 b.2.1 = l at hm1 hm2
  by_cases hz : l.length = 0
  ·rw [bif_t (eqI_t (by omega)), bresult_eq hN hb, ob, playB_ok N x _ s n k b (by omega) (by omega) hc]
   exact ⟨_, s, rfl, by omega, by omega⟩
  ·obtain ⟨i, i0, i1, e⟩ := below_ret N (s := s) (n := (l.length : Int)) h0 (by omega) (by omega) (by omega)
   rw [bif_f (eqI_f (by omega)), e, ob, chk_idx i0 i1]
   obtain ⟨i, rfl⟩ : ∃ a : Nat, i = a := ⟨i.toNat, by omega⟩
   have hm : MoveOk b.1 b.2.1 (gD z0 l (i : Int)) := by
    rw [gD_nat (by omega)]
    exact (hm2 _ (List.getElem_mem _)).1
   have hbl : b.2.2.2.length ≤ 100000 := by omega
   rw [make_eq hb hbl hm, ob, w64_id (by omega) (by omega), show ((k : Int) + 1) = ((k + 1 : Nat) : Int) by omega]
   obtain ⟨out, s', e, h3, h4⟩ := playA_ok hN x j n (k + 1) (makeB b (gD z0 l (i : Int))) (s + 1) (by omega) (by omega) (.s hc hb hbl hm) (make_ok hb hbl hm) (by rw [makeB_len]; omega) (by omega) (by omega)
   exact ⟨out, s', e, by omega, by omega⟩
theorem play_ok {N : Nat} (hN : 200000000 ≤ N) {b : BoardT} {s : Int} (hb : BOk b) (hl : b.2.2.2.length ≤ 98000) (h0 : 0 ≤ s) (h1 : s ≤ 900000000000) :
  ∃ out s', Q45 N (b, s) = some (out, (b, s')) ∧ s ≤ s' ∧ s' ≤ s + 200 := by
 rw [play_e]
 exact playA_ok hN _ 200 N 0 b s (by omega) (by omega) .z hb (by omega) h0 (by omega)
theorem play_over {N : Nat} (hN : 200000000 ≤ N) {b : BoardT} {s : Int} (hb : BOk b) (h : resV b.1 b.2.1 ≠ 0) : Q45 N (b, s) = some (resV b.1 b.2.1, (b, s)) := by
 obtain ⟨n, rfl⟩ := nxt (n := N) (by omega)
 rw [play_e]
 dsimp only
 rw [playA_s, bif_t (ltI_t (by omega)), bmoves_mvP (by omega) hb, ob]
 have e : mvP b.1 b.2.1 = [] := by unfold mvP; rw [if_neg h]
 rw [e, bif_t (by rfl), bresult_eq (by omega) hb, ob]
 exact playB_ok _ _ _ s n 0 b (by omega) (by omega) .z
def gI (b : BoardT) : Int := if resV b.1 b.2.1 = 2 - b.2.1.2.2.1 then 2 else if resV b.1 b.2.1 = 1 + b.2.1.2.2.1 then 0 else 1
theorem gain_over (N : Nat) {b : BoardT} (hb : BOk b) : Q49 N (resV b.1 b.2.1) (w64 (1 - b.2.1.2.2.1)) = some (gI b) := by
 have ht : b.2.1.2.2.1 = 0 ∨ b.2.1.2.2.1 = 1 := hb.p.last.1
 unfold Q49 Q49.e gI
 generalize resV b.1 b.2.1 = x
 generalize b.2.1.2.2.1 = t at *
 rw [w64_id (x := 1 - t) (by omega) (by omega), w64_id (x := 1 + (1 - t)) (by omega) (by omega), w64_id (x := 2 - (1 - t)) (by omega) (by omega)]
 by_cases c : x = 2 - t
 ·rw [bif_t (eqI_t (by omega)), if_pos c]
 ·rw [bif_f (eqI_f (by omega)), if_neg c]
  by_cases c2 : x = 1 + t
  ·rw [bif_t (eqI_t (by omega)), if_pos c2]
  ·rw [bif_f (eqI_f (by omega)), if_neg c2]
theorem gain_ok (N : Nat) (o t : Int) : ∃ g, Q49 N o t = some g ∧ 0 ≤ g ∧ g ≤ 2 := by
 unfold Q49 Q49.e
 cases eqI o (w64 (1 + t))
 ·cases eqI o (w64 (2 - t))
  ·exact ⟨1, rfl, by omega, by omega⟩
  ·exact ⟨0, rfl, by omega, by omega⟩
 ·exact ⟨2, rfl, by omega, by omega⟩
theorem rootL (N : Nat) (m : Int) : ∀ (n : Nat) (lo hi : Int), 0 ≤ lo → lo ≤ hi → hi ≤ 1048576 → hi - lo < n → ∃ y, Q72.l0 N m n lo hi = some y
 | 0, lo, hi, _, _, _, h => by omega
 | n + 1, lo, hi, h0, h1, h2, h => by
  rw [Q72.l0_s]
  unfold Q72.s0
  by_cases hlt : lo < hi
  ·rw [bif_t (ltI_t hlt)]
   rw [w64_id (x := lo + hi) (by omega) (by omega), w64_id (x := lo + hi + 1) (by omega) (by omega)]
   have ht : Int.tdiv (lo + hi + 1) 2 = (lo + hi + 1) / 2 := Int.tdiv_eq_ediv_of_nonneg (by omega)
   dsimp only
   rw [ht, w64_id (x := (lo + hi + 1) / 2) (by omega) (by omega)]
   cases leI (w64 ((lo + hi + 1) / 2 * ((lo + hi + 1) / 2))) m
   ·rw [cond_false, w64_id (by omega) (by omega)]
    exact rootL N m n lo _ (by omega) (by omega) (by omega) (by omega)
   ·rw [cond_true]
    exact rootL N m n _ hi (by omega) (by omega) (by omega) (by omega)
  ·rw [bif_f (ltI_f (by omega))]
   exact ⟨_, rfl⟩
theorem root_ok {N : Nat} (hN : 200000000 ≤ N) (m : Int) : ∃ y, Q72 N m = some y := by
 unfold Q72 Q72.e
 exact rootL N m N 0 1048576 (by omega) (by omega) (by omega) (by omega)
def nd (ns : LNode) (i : Int) : TNode := gD zN ns i
def wpickL (N : Nat) (n_ : LNode × Int) (n : Nat) (best bonus : Int) (i : Int) : Option (Int × (LNode × Int)) := Q46.l0 N n_ n best bonus ((nd n_.1 n_.2).2.1.length : Int) i
theorem pick_e (N : Nat) (n_ : LNode × Int) : Q46 N n_ = chk (leI 0 n_.2) ((Q72 N (w64 (100 * (nd n_.1 n_.2).2.2.1))).bind fun y2 => chk (leI 0 n_.2) (wpickL N n_ N (-1) y2 0)) := rfl
theorem wpickL_s (N : Nat) (n_ : LNode × Int) (n : Nat) (best bonus : Int) (i : Int) : wpickL N n_ (n + 1) best bonus i =
  bif (ltI i ((nd n_.1 n_.2).2.1.length : Int)) then (chk ((leI 0 i) && (ltI i ((nd n_.1 n_.2).2.1.length : Int))) <|
   chk (eqI ((nd n_.1 n_.2).2.1.length : Int) ((nd n_.1 n_.2).2.1.length : Int)) <|
   chk (leI 0 (gD (-1 : Int) (nd n_.1 n_.2).2.1 i)) <|
   bif (eqI (nd n_.1 (gD (-1 : Int) (nd n_.1 n_.2).2.1 i)).2.2.1 0) then (some (i, n_))
   else bif (ltI best 0) then (wpickL N n_ n i bonus (w64 (i + 1)))
   else chk (leI 0 (gD (-1 : Int) (nd n_.1 n_.2).2.1 i)) <|
   chk (leI 0 n_.2) <|
   chk ((leI 0 best) && (ltI best ((nd n_.1 n_.2).2.1.length : Int))) <|
   chk (eqI ((nd n_.1 n_.2).2.1.length : Int) ((nd n_.1 n_.2).2.1.length : Int)) <|
   chk (leI 0 (gD (-1 : Int) (nd n_.1 n_.2).2.1 best)) <|
   chk (leI 0 n_.2) <|
   chk ((leI 0 best) && (ltI best ((nd n_.1 n_.2).2.1.length : Int))) <|
   chk (eqI ((nd n_.1 n_.2).2.1.length : Int) ((nd n_.1 n_.2).2.1.length : Int)) <|
   chk (leI 0 (gD (-1 : Int) (nd n_.1 n_.2).2.1 best)) <|
   chk (leI 0 (gD (-1 : Int) (nd n_.1 n_.2).2.1 i)) <|
   bif (ltI (w64 ((w64 ((w64 (10 * (nd n_.1 (gD (-1 : Int) (nd n_.1 n_.2).2.1 best)).2.2.2)) + bonus)) * (nd n_.1 (gD (-1 : Int) (nd n_.1 n_.2).2.1 i)).2.2.1)) (w64 ((w64 ((w64 (10 * (nd n_.1 (gD (-1 : Int) (nd n_.1 n_.2).2.1 i)).2.2.2)) + bonus)) * (nd n_.1 (gD (-1 : Int) (nd n_.1 n_.2).2.1 best)).2.2.1))) then (wpickL N n_ n i bonus (w64 (i + 1)))
   else wpickL N n_ n best bonus (w64 (i + 1)))
  else some (best, n_) := rfl
def ks (ns : LNode) (n : Int) : List Int := (nd ns n).2.1
def kz (ns : LNode) (n i : Int) : Int := (nd ns (gD (-1 : Int) (ks ns n) i)).2.2.1
theorem wpickL_ok (N : Nat) (ns : LNode) (m : Int) (hm : 0 ≤ m) (hk : ∀ i : Int, 0 ≤ i → i < (ks ns m).length → 0 ≤ gD (-1 : Int) (ks ns m) i) (hlen : (ks ns m).length ≤ 8192) (bonus : Int) : ∀ (j n : Nat) (best i : Int), i + j = (ks ns m).length → 0 ≤ i → j < n → -1 ≤ best → best < (ks ns m).length →
  (0 < i → 0 ≤ best) → 0 < (ks ns m).length → (∀ a : Int, 0 ≤ a → a < i → kz ns m a ≠ 0) →
  ∃ k, wpickL N (ns, m) n best bonus i = some (k, (ns, m)) ∧ 0 ≤ k ∧ k < (ks ns m).length ∧ ((kz ns m k = 0 ∧ ∀ a : Int, 0 ≤ a → a < k → kz ns m a ≠ 0) ∨ (∀ a : Int, 0 ≤ a → a < (ks ns m).length → kz ns m a ≠ 0))
 | 0, n, best, i, hi, h0, hn, hb0, hb1, hb2, hl, ha => by
  obtain ⟨n, rfl⟩ := nxt (n := n) (by omega)
  rw [wpickL_s]
  dsimp only
  rw [bif_f (ltI_f (show ((nd ns m).2.1.length : Int) ≤ i by unfold ks at hi; omega))]
  exact ⟨best, rfl, hb2 (by omega), hb1, .inr fun a a0 a1 => ha a a0 (by omega)⟩
 | j + 1, n, best, i, hi, h0, hn, hb0, hb1, hb2, hl, ha => by
  obtain ⟨n, rfl⟩ := nxt (n := n) (by omega)
  rw [wpickL_s]
  dsimp only
  have hk' := hk i h0 (by omega)
  unfold ks at hk'
  have hlt : i < ((nd ns m).2.1.length : Int) := by show i < ((ks ns m).length : Int); omega
  rw [bif_t (ltI_t hlt), chk_idx h0 hlt, eqI_self, chk_true, leI_t hk', chk_true]
  have ih := wpickL_ok N ns m hm hk hlen bonus j n
  rw [w64_id (x := i + 1) (by omega) (by omega)]
  by_cases hz : kz ns m i = 0
  ·rw [bif_t (eqI_t (show (nd ns (gD (-1) (nd ns m).2.1 i)).2.2.1 = 0 from hz))]
   exact ⟨i, rfl, h0, by omega, .inl ⟨hz, ha⟩⟩
  ·have ha' : ∀ a : Int, 0 ≤ a → a < i + 1 → kz ns m a ≠ 0 := fun a a0 a1 => by
    by_cases e : a = i
    ·subst e; exact hz
    ·exact ha a a0 (by omega)
   rw [bif_f (eqI_f (show (nd ns (gD (-1) (nd ns m).2.1 i)).2.2.1 ≠ 0 from hz))]
   by_cases hb : best < 0
   ·rw [bif_t (ltI_t hb)]
    exact ih i (i + 1) (by omega) (by omega) (by omega) (by omega) (by omega) (fun _ => h0) hl ha'
   ·have hbl : best < ((nd ns m).2.1.length : Int) := hb1
    have hkb := hk best (by omega) hb1
    unfold ks at hkb
    rw [bif_f (ltI_f (by omega)), chk_true, leI_t hm, chk_true, chk_idx (by omega) hbl, leI_t hkb, chk_true, chk_true, chk_true, chk_idx (by omega) hbl, chk_true, chk_true, chk_true]
    cases ltI (w64 ((w64 ((w64 (10 * (nd ns (gD (-1 : Int) (nd ns m).2.1 best)).2.2.2)) + bonus)) * (nd ns (gD (-1 : Int) (nd ns m).2.1 i)).2.2.1)) (w64 ((w64 ((w64 (10 * (nd ns (gD (-1 : Int) (nd ns m).2.1 i)).2.2.2)) + bonus)) * (nd ns (gD (-1 : Int) (nd ns m).2.1 best)).2.2.1))
    ·exact ih best (i + 1) (by omega) (by omega) (by omega) (by omega) (by omega) (fun _ => by omega) hl ha'
    ·exact ih i (i + 1) (by omega) (by omega) (by omega) (by omega) (by omega) (fun _ => h0) hl ha'
theorem pick_ok {N : Nat} (hN : 200000000 ≤ N) (ns : LNode) (m : Int) (hm : 0 ≤ m) (hk : ∀ i : Int, 0 ≤ i → i < (ks ns m).length → 0 ≤ gD (-1 : Int) (ks ns m) i) (hlen : (ks ns m).length ≤ 8192) (hl : 0 < (ks ns m).length) :
  ∃ k, Q46 N (ns, m) = some (k, (ns, m)) ∧ 0 ≤ k ∧ k < (ks ns m).length ∧ ((kz ns m k = 0 ∧ ∀ a : Int, 0 ≤ a → a < k → kz ns m a ≠ 0) ∨ (∀ a : Int, 0 ≤ a → a < (ks ns m).length → kz ns m a ≠ 0)) := by
 rw [pick_e]
 obtain ⟨y, e⟩ := root_ok hN (w64 (100 * (nd ns m).2.2.1))
 rw [e, leI_t hm, chk_true, ob, chk_true]
 exact wpickL_ok N ns m hm hk hlen y (ks ns m).length N (-1) 0 (by omega) (by omega) (by omega) (by omega) (by omega) (fun h => by omega) hl (fun a h0 h1 => by omega)
end
end Go.Proofs.Ytnddjmhpofhfjaa.Am
set_option linter.unusedVariables false
set_option linter.unusedSimpArgs false
set_option linter.unusedSectionVars false
namespace Go.Proofs.Ytnddjmhpofhfjaa.Am
open Go
noncomputable section
theorem nd_set {ns : LNode} {n i : Int} {v : TNode} (h0 : 0 ≤ n) (h1 : n < ns.length) (hi : 0 ≤ i) : nd (ns.set n.toNat v) i = if i = n then v else nd ns i := by
 unfold nd gD
 rw [List.getD_eq_getElem?_getD, List.getElem?_set]
 by_cases e : i = n
 ·subst e
  rw [if_pos rfl, if_pos (by omega), if_pos rfl]
  rfl
 ·rw [if_neg (by omega), if_neg e, List.getD_eq_getElem?_getD]
theorem nd_rep (ns : LNode) (t : Nat) (i : Int) : nd (ns ++ List.replicate t zN) i = nd ns i := by
 unfold nd gD
 rw [List.getD_eq_getElem?_getD, List.getD_eq_getElem?_getD, List.getElem?_append]
 split
 ·rfl
 ·rename_i h
  rw [List.getElem?_replicate, List.getElem?_eq_none (l := ns) (by omega)]
  split <;> rfl
theorem nd_out {ns : LNode} {i : Int} (h : ns.length ≤ i) : nd ns i = zN := by
 unfold nd gD
 rw [List.getD_eq_getElem?_getD, List.getElem?_eq_none (by omega)]
 rfl
def up (ns : LNode) (n g : Int) : LNode := ns.set n.toNat ((nd ns n).1, ((nd ns n).2.1, ((nd ns n).2.2.1 + 1, (nd ns n).2.2.2 + g)))
def updC (N : Nat) (n out : Int) (b : TBoard) (s : Int) (ns : LNode) : Option (Int × (TBoard × Int) × (LNode × Int)) :=
 chk (leI 0 n) <| chk (leI 0 n) <|
 let v : LNode := ns.set n.toNat ((nd ns n).1, ((nd ns n).2.1, (w64 ((nd ns n).2.2.1 + 1), (nd ns n).2.2.2)))
 chk (leI 0 n) <|
 (Q39 N b).bind fun y42 =>
 (Q49 N out (w64 (1 - y42))).bind fun y43 =>
 chk (leI 0 n) <|
 some (out, ((b, s), (v.set n.toNat ((nd v n).1, ((nd v n).2.1, ((nd v n).2.2.1, w64 ((nd v n).2.2.2 + y43)))), n)))
theorem updC_ok (N : Nat) {n : Int} {ns : LNode} (h0 : 0 ≤ n) (h1 : n < ns.length) (hv : 0 ≤ (nd ns n).2.2.1 ∧ (nd ns n).2.2.1 ≤ 1000000) (hq : 0 ≤ (nd ns n).2.2.2 ∧ (nd ns n).2.2.2 ≤ 10000000) (out : Int) (b : TBoard) (s : Int) :
  ∃ g, updC N n out b s ns = some (out, ((b, s), (up ns n g, n))) ∧ 0 ≤ g ∧ g ≤ 2 ∧ Q49 N out (w64 (1 - b.2.1.2.2.1)) = some g := by
 unfold updC
 rw [leI_t h0, chk_true, chk_true]
 unfold Q39 Q39.e
 obtain ⟨g, e, g0, g1⟩ := gain_ok N out (w64 (1 - b.2.1.2.2.1))
 dsimp only
 rw [chk_true, ob, e, ob, chk_true, nd_set h0 h1 h0, if_pos rfl]
 refine ⟨g, ?_, g0, g1, rfl⟩
 rw [List.set_set, w64_id (x := (nd ns n).2.2.1 + 1) (by omega) (by omega), w64_id (by dsimp only; omega) (by dsimp only; omega)]
 rfl
def plC (N : Nat) (x : TBoard × Int) (n_ : LNode × Int) : Option (Int × (TBoard × Int) × (LNode × Int)) := (Q45 N x).bind fun y2 => updC N n_.2 y2.1 y2.2.1 y2.2.2 n_.1
def stepC (N : Nat) (self : TBoard × Int → LNode × Int → Option (Int × (TBoard × Int) × (LNode × Int))) (x : TBoard × Int) (n : Int) (nodes : LNode) : Option (Int × (TBoard × Int) × (LNode × Int)) :=
 (Q46 N (nodes, n)).bind fun y35 =>
 chk (leI 0 n) <|
 chk ((leI 0 y35.1) && (ltI y35.1 ((nd y35.2.1 n).1.length : Int))) <|
 (Q47 N x.1 (gD z0 (nd y35.2.1 n).1 y35.1)).bind fun y36 =>
 chk (leI 0 n) <|
 chk ((leI 0 y35.1) && (ltI y35.1 ((nd y35.2.1 n).2.1.length : Int))) <|
 chk (eqI ((nd y35.2.1 n).2.1.length : Int) ((nd y35.2.1 n).2.1.length : Int)) <|
 (self (y36, x.2) (y35.2.1, gD (-1 : Int) (nd y35.2.1 n).2.1 y35.1)).bind fun y38 =>
 (Q48 N y38.2.1.1).bind fun y39 =>
 updC N n y38.1 y39.2 y38.2.1.2 y38.2.2.1
def exL (N : Nat) (self : TBoard × Int → LNode × Int → Option (Int × (TBoard × Int) × (LNode × Int))) (x : TBoard × Int) (n_ : LNode × Int) (k : Nat) (m t : Int) (nodes : LNode) : Option (Int × (TBoard × Int) × (LNode × Int)) :=
 Q23.l0 N self x n_ k m t nodes
theorem exL_s (N : Nat) (self : TBoard × Int → LNode × Int → Option (Int × (TBoard × Int) × (LNode × Int))) (x : TBoard × Int) (n_ : LNode × Int) (k : Nat) (m t : Int) (nodes : LNode) :
  exL N self x n_ (k + 1) m t nodes = bif ltI t m then (chk (leI 0 n_.2) <|
   chk ((eqI ((nd nodes n_.2).2.1.length : Int) ((nd (nodes ++ [zN]) n_.2).2.1.length : Int)) && (true && capOk 8 ((nd (nodes ++ [zN]) n_.2).2.1.length + 1))) <|
   chk (leI 0 n_.2) <|
   chk ((eqI n_.2 n_.2) && ((eqI n_.2 n_.2) && (eqI (((nd nodes n_.2).2.1.length : Int) + 1) (((nd (nodes ++ [zN]) n_.2).2.1.length : Int) + 1)))) <|
   exL N self x n_ k m (w64 (t + 1)) ((nodes ++ [zN]).set n_.2.toNat ((nd (nodes ++ [zN]) n_.2).1, (((nd (nodes ++ [zN]) n_.2).2.1 ++ [(nodes.length : Int)]), (nd (nodes ++ [zN]) n_.2).2.2))))
  else stepC N self x n_.2 nodes := rfl
def sm (ns : LNode) (n : Int) (m : LMv) : LNode := ns.set n.toNat (m, (nd ns n).2)
theorem step_e (N : Nat) (x : TBoard × Int) (n_ : LNode × Int) : Q23 (N + 1) x n_ =
  chk (leI 0 n_.2) (bif (eqI (nd n_.1 n_.2).2.2.1 0) then plC N x n_ else (Q22 N x.1).bind fun y9 =>
  bif (!(eqI y9 0)) then plC N x n_ else chk (leI 0 n_.2) <|
  bif (eqI ((nd n_.1 n_.2).2.1.length : Int) 0) then ((Q24 N x.1).bind fun y18 =>
   chk (leI 0 n_.2) <| chk (leI 0 n_.2) <| exL N (Q23 N) x n_ N ((nd (sm n_.1 n_.2 y18) n_.2).1.length : Int) 0 (sm n_.1 n_.2 y18))
  else stepC N (Q23 N) x n_.2 n_.1) := rfl
def exN (ns : LNode) (n : Int) (t : Nat) : LNode := (ns ++ List.replicate t zN).set n.toNat ((nd ns n).1, ((List.range t).map (fun i : Nat => (ns.length : Int) + (i : Int)), (nd ns n).2.2))
theorem exN_len (ns : LNode) (n : Int) (t : Nat) : (exN ns n t).length = ns.length + t := by
 unfold exN; simp
theorem exN_nd {ns : LNode} {n i : Int} (h0 : 0 ≤ n) (h1 : n < ns.length) (hi : 0 ≤ i) (t : Nat) : nd (exN ns n t) i = if i = n then ((nd ns n).1, ((List.range t).map (fun i : Nat => (ns.length : Int) + (i : Int)), (nd ns n).2.2)) else nd ns i := by
 unfold exN
 rw [nd_set h0 (by simp; omega) hi, nd_rep]
theorem exN_nx {ns : LNode} {n : Int} (h0 : 0 ≤ n) (h1 : n < ns.length) (t : Nat) :
  (exN ns n t ++ [zN]).set n.toNat ((nd (exN ns n t ++ [zN]) n).1, (((nd (exN ns n t ++ [zN]) n).2.1 ++ [((exN ns n t).length : Int)]), (nd (exN ns n t ++ [zN]) n).2.2)) = exN ns n (t + 1) := by
 have e1 : nd (exN ns n t ++ [zN]) n = nd (exN ns n t) n := nd_rep (exN ns n t) 1 n
 rw [e1, exN_nd h0 h1 h0, if_pos rfl, exN_len]
 unfold exN
 rw [← List.set_append_left _ _ (by simp; omega), List.set_set, List.append_assoc, ← List.replicate_succ', List.range_succ, List.map_append]
 rfl
theorem exL_ok (N : Nat) (self : TBoard × Int → LNode × Int → Option (Int × (TBoard × Int) × (LNode × Int))) (x : TBoard × Int) (n0 : LNode) {ns : LNode} {n : Int} (h0 : 0 ≤ n) (h1 : n < ns.length) : ∀ (j k t : Nat), t + j ≤ 8192 → j < k →
  exL N self x (n0, n) k ((t + j : Nat) : Int) (t : Int) (exN ns n t) = stepC N self x n (exN ns n (t + j))
 | 0, k, t, hm, hk => by
  obtain ⟨k, rfl⟩ := nxt (n := k) (by omega)
  rw [exL_s, bif_f (ltI_f (by omega))]
  rfl
 | j + 1, k, t, hm, hk => by
  obtain ⟨k, rfl⟩ := nxt (n := k) (by omega)
  rw [exL_s, bif_t (ltI_t (by omega))]
  dsimp only
  have e1 : nd (exN ns n t ++ [zN]) n = nd (exN ns n t) n := nd_rep (exN ns n t) 1 n
  rw [exN_nx h0 h1, e1, leI_t h0, chk_true, eqI_self, eqI_self, eqI_self, Bool.true_and, Bool.true_and, Bool.true_and, chk_true, chk_cap, Bool.true_and, chk_true, w64_id (by omega) (by omega), show ((t : Int) + 1) = ((t + 1 : Nat) : Int) by omega, show t + (j + 1) = (t + 1) + j by omega]
  ·exact exL_ok N self x n0 h0 h1 j k (t + 1) (by omega) (by omega)
  ·rw [exN_nd h0 h1 h0, if_pos rfl]
   simp
   omega
def kid (ns : LNode) (i j : Int) : Int := gD (-1 : Int) (ks ns i) j
def mvB (b : BoardT) : List MvT := mvP b.1 b.2.1
structure Inv (ns : LNode) (g : Int → BoardT) (D V : Int) : Prop where
 bo : ∀ i : Int, 0 ≤ i → i < ns.length → BOk (g i) ∧ ((g i).2.2.2.length : Int) ≤ D
 vq : ∀ i : Int, 0 ≤ i → i < ns.length → 0 ≤ (nd ns i).2.2.1 ∧ (nd ns i).2.2.1 ≤ V ∧ 0 ≤ (nd ns i).2.2.2 ∧ (nd ns i).2.2.2 ≤ 2 * (nd ns i).2.2.1
 ov : ∀ i : Int, 0 ≤ i → i < ns.length → resV (g i).1 (g i).2.1 ≠ 0 → (nd ns i).2.2.2 = gI (g i) * (nd ns i).2.2.1
 ms : ∀ i : Int, 0 ≤ i → i < ns.length → 0 < (ks ns i).length → (nd ns i).1 = mvB (g i) ∧ (ks ns i).length = (mvB (g i)).length
 kd : ∀ i j : Int, 0 ≤ i → i < ns.length → 0 ≤ j → j < (ks ns i).length → i < kid ns i j ∧ kid ns i j < ns.length ∧ g (kid ns i j) = makeB (g i) (gD z0 (mvB (g i)) j)
 un : ∀ i j i' j' : Int, 0 ≤ i → i < ns.length → 0 ≤ j → j < (ks ns i).length → 0 ≤ i' → i' < ns.length → 0 ≤ j' → j' < (ks ns i').length → kid ns i j = kid ns i' j' → i = i' ∧ j = j'
def kidv (ns : LNode) (n j : Int) : Int × Int := if (ks ns n).length = 0 then (0, 0) else (nd ns (kid ns n j)).2.2
structure Kv (ns ns' : LNode) (n : Int) (M : Nat) : Prop where
 ne : 0 < (ks ns' n).length
 ex : ∃ j d : Int, 0 ≤ j ∧ j < (M : Int) ∧ 0 ≤ d ∧ d ≤ 2 ∧ kidv ns' n j = ((kidv ns n j).1 + 1, (kidv ns n j).2 + d) ∧ (∀ a : Int, 0 ≤ a → a < (M : Int) → a ≠ j → kidv ns' n a = kidv ns n a) ∧
  (((kidv ns n j).1 = 0 ∧ ∀ a : Int, 0 ≤ a → a < j → (kidv ns n a).1 ≠ 0) ∨ ∀ a : Int, 0 ≤ a → a < M → (kidv ns n a).1 ≠ 0)
structure Po (ns ns' : LNode) (g g' : Int → BoardT) (n s s' D V : Int) : Prop where
 inv : Inv ns' g' D V
 len : ns.length ≤ ns'.length
 gg : ∀ i : Int, 0 ≤ i → i < ns.length → g' i = g i
 s0 : s ≤ s'
 s1 : s' ≤ s + 200
 lo : ∀ i : Int, 0 ≤ i → i < n → nd ns' i = nd ns i
 sib : ∀ p j : Int, 0 ≤ p → p < n → 0 ≤ j → j < (ks ns p).length → kid ns p j ≠ n → nd ns' (kid ns p j) = nd ns (kid ns p j)
 me : (nd ns' n).2.2.1 = (nd ns n).2.2.1 + 1 ∧ (nd ns n).2.2.2 ≤ (nd ns' n).2.2.2 ∧ (nd ns' n).2.2.2 ≤ (nd ns n).2.2.2 + 2
 kv : (nd ns n).2.2.1 ≠ 0 → resV (g n).1 (g n).2.1 = 0 → Kv ns ns' n (mvB (g n)).length
theorem up_len (ns : LNode) (n d : Int) : (up ns n d).length = ns.length := by unfold up; simp
theorem up_nd {ns : LNode} {n i : Int} (h0 : 0 ≤ n) (h1 : n < ns.length) (hi : 0 ≤ i) (d : Int) : nd (up ns n d) i = if i = n then ((nd ns n).1, ((nd ns n).2.1, ((nd ns n).2.2.1 + 1, (nd ns n).2.2.2 + d))) else nd ns i := by
 unfold up
 rw [nd_set h0 h1 hi]
theorem up_ks {ns : LNode} {n i : Int} (h0 : 0 ≤ n) (h1 : n < ns.length) (hi : 0 ≤ i) (d : Int) : ks (up ns n d) i = ks ns i := by
 unfold ks
 rw [up_nd h0 h1 hi]
 split
 ·rename_i h; rw [h]
 ·rfl
theorem up_kid {ns : LNode} {n i : Int} (h0 : 0 ≤ n) (h1 : n < ns.length) (hi : 0 ≤ i) (d j : Int) : kid (up ns n d) i j = kid ns i j := by
 unfold kid
 rw [up_ks h0 h1 hi]
theorem up_inv {ns : LNode} {g : Int → BoardT} {D V n d : Int} (hI : Inv ns g D V) (h0 : 0 ≤ n) (h1 : n < ns.length) (hv : (nd ns n).2.2.1 + 1 ≤ V) (d0 : 0 ≤ d) (d1 : d ≤ 2) (hd : resV (g n).1 (g n).2.1 ≠ 0 → d = gI (g n)) : Inv (up ns n d) g D V := by
 have hl := up_len ns n d
 refine ⟨fun i a b => hI.bo i a (by omega), fun i a b => ?_, fun i a b c => ?_, fun i a b c => ?_, fun i j a b c e => ?_, fun i j i' j' a b c e a' b' c' e' => ?_⟩
 ·rw [up_nd h0 h1 a]
  have := hI.vq i a (by omega)
  split
  ·rename_i h
   subst h
   dsimp only
   omega
  ·exact this
 ·rw [up_nd h0 h1 a]
  have := hI.ov i a (by omega) c
  split
  ·rename_i h
   subst h
   dsimp only
   rw [hd c, this, Int.mul_add, Int.mul_one]
  ·exact this
 ·rw [up_ks h0 h1 a] at c ⊢
  have := hI.ms i a (by omega) c
  refine ⟨?_, this.2⟩
  rw [up_nd h0 h1 a]
  split
  ·rename_i h; subst h; exact this.1
  ·exact this.1
 ·rw [up_ks h0 h1 a] at e
  rw [up_kid h0 h1 a, hl]
  exact hI.kd i j a (by omega) c e
 ·rw [up_ks h0 h1 a] at e
  rw [up_ks h0 h1 a'] at e'
  rw [up_kid h0 h1 a, up_kid h0 h1 a']
  exact hI.un i j i' j' a (by omega) c e a' (by omega) c' e'
theorem Inv.mono {ns : LNode} {g : Int → BoardT} {D V D' V' : Int} (hI : Inv ns g D V) (hD : D ≤ D') (hV : V ≤ V') : Inv ns g D' V' :=
 ⟨fun i a b => ⟨(hI.bo i a b).1, by have := (hI.bo i a b).2; omega⟩, fun i a b => by have := hI.vq i a b; omega, hI.ov, hI.ms, hI.kd, hI.un⟩
theorem leaf_ok {N : Nat} (hN : 200000000 ≤ N) {ns : LNode} {g : Int → BoardT} {D V n s : Int} (hI : Inv ns g D V) (hD : D ≤ 90000) (hV : V ≤ 1000000) (h0 : 0 ≤ n) (h1 : n < ns.length) (s0 : 0 ≤ s) (s1 : s ≤ 900000000000)
  (hlf : (nd ns n).2.2.1 = 0 ∨ resV (g n).1 (g n).2.1 ≠ 0) : ∃ out s' ns', plC N (g n, s) (ns, n) = some (out, ((g n, s'), (ns', n))) ∧ Po ns ns' g g n s s' D (V + 1) := by
 obtain ⟨hb, hl⟩ := hI.bo n h0 h1
 obtain ⟨v0, v1, q0, q1⟩ := hI.vq n h0 h1
 have hplay : ∃ out s', Q45 N (g n, s) = some (out, (g n, s')) ∧ s ≤ s' ∧ s' ≤ s + 200 ∧ (resV (g n).1 (g n).2.1 ≠ 0 → out = resV (g n).1 (g n).2.1) := by
  by_cases c : resV (g n).1 (g n).2.1 = 0
  ·obtain ⟨out, s', e, s2, s3⟩ := play_ok hN (s := s) hb (by omega) s0 s1
   exact ⟨out, s', e, s2, s3, fun h => absurd c h⟩
  ·exact ⟨_, s, play_over hN hb c, by omega, by omega, fun _ => rfl⟩
 obtain ⟨out, s', e, s2, s3, ho⟩ := hplay
 unfold plC
 rw [e, ob]
 obtain ⟨d, e2, d0, d1, e3⟩ := updC_ok N h0 h1 (by omega) (by omega) out (g n) s'
 have hd : resV (g n).1 (g n).2.1 ≠ 0 → d = gI (g n) := fun h => by
  rw [ho h, gain_over N hb] at e3
  exact (Option.some.inj e3).symm
 refine ⟨out, s', _, e2, up_inv (hI.mono (by omega) (by omega)) h0 h1 (by omega) d0 d1 hd, Nat.le_of_eq (up_len ..).symm, fun _ _ _ => rfl, s2, s3, fun i a b => ?_, fun p j a b c e ne => ?_, ?_, fun a b => ?_⟩
 ·rw [up_nd h0 h1 a, if_neg (by omega)]
 ·have := (hI.kd p j a (by omega) c e).1
  rw [up_nd h0 h1 (by omega), if_neg ne]
 ·rw [up_nd h0 h1 h0, if_pos rfl]
  dsimp only
  omega
 ·rcases hlf with h | h
  ·exact absurd h a
  ·exact absurd b h
theorem mvB_ok {b : BoardT} (hb : BOk b) {j : Int} (j0 : 0 ≤ j) (j1 : j < (mvB b).length) : MoveOk b.1 b.2.1 (gD z0 (mvB b) j) := by
 obtain ⟨j, rfl⟩ : ∃ a : Nat, j = a := ⟨j.toNat, by omega⟩
 rw [gD_nat (by omega)]
 exact ((mvP_spec hb.r hb.p).2 _ (List.getElem_mem _)).1
theorem stepC_ok {N : Nat} (hN : 200000000 ≤ N) {self : TBoard × Int → LNode × Int → Option (Int × (TBoard × Int) × (LNode × Int))} {ns : LNode} {g : Int → BoardT} {D V D' V' n s : Int} (hI : Inv ns g D V) (hD : D ≤ 90000) (hV : V ≤ 1000000) (hVV : V + 1 ≤ V') (h0 : 0 ≤ n) (h1 : n < ns.length)
  (hk : 0 < (ks ns n).length)
  (hs : ∀ j : Int, 0 ≤ j → j < (ks ns n).length → ∃ out s' ns' g', self (g (kid ns n j), s) (ns, kid ns n j) = some (out, ((g (kid ns n j), s'), (ns', kid ns n j))) ∧ Po ns ns' g g' (kid ns n j) s s' D' V') :
  ∃ out s' ns' g', stepC N self (g n, s) n ns = some (out, ((g n, s'), (ns', n))) ∧ Po ns ns' g g' n s s' D' V' := by
 obtain ⟨hb, hl⟩ := hI.bo n h0 h1
 obtain ⟨v0, v1, q0, q1⟩ := hI.vq n h0 h1
 obtain ⟨hms, hlen⟩ := hI.ms n h0 h1 hk
 have hm8 : (mvB (g n)).length ≤ 8192 := (mvP_spec hb.r hb.p).1
 obtain ⟨j, e, j0, j1, hj⟩ := pick_ok hN ns n h0 (fun i a b => by have := (hI.kd n i h0 h1 a b).1; unfold kid at this; omega) (by omega) hk
 obtain ⟨k0, k1, kg⟩ := hI.kd n j h0 h1 j0 j1
 obtain ⟨out, s', ns', g', e2, hP⟩ := hs j j0 j1
 have hmo := mvB_ok hb j0 (show j < ((mvB (g n)).length : Int) by omega)
 unfold stepC
 rw [e, ob]
 dsimp only
 rw [leI_t h0, chk_true, hms, chk_idx j0 (by omega), make_eq hb (by omega) hmo, ob, chk_true, chk_idx j0 (show j < ((nd ns n).2.1.length : Int) from j1), eqI_self, chk_true, ← kg]
 rw [show gD (-1 : Int) (nd ns n).2.1 j = kid ns n j from rfl, e2, ob, kg, undo_make hb (by omega) hmo, ob]
 dsimp only
 have h1' : n < ns'.length := by have := hP.len; omega
 have en : nd ns' n = nd ns n := hP.lo n h0 k0
 obtain ⟨d, e3, d0, d1, _⟩ := updC_ok N (n := n) (ns := ns') h0 h1' (by rw [en]; omega) (by rw [en]; omega) out (g n) s'
 have hopn : resV (g n).1 (g n).2.1 ≠ 0 → (mvB (g n)).length = 0 := fun h => by unfold mvB mvP; rw [if_neg h]; rfl
 have ek : ks ns' n = ks ns n := by unfold ks; rw [en]
 have ekd : ∀ a, kid ns' n a = kid ns n a := fun a => by unfold kid; rw [ek]
 have oth : ∀ p a : Int, 0 ≤ p → p ≤ n → 0 ≤ a → a < (ks ns p).length → kid ns p a ≠ n → (p = n → a ≠ j) → nd (up ns' n d) (kid ns p a) = nd ns (kid ns p a) := fun p a p0 p1 a0 a1 ne ne2 => by
  have hk2 := (hI.kd p a p0 (by omega) a0 a1).1
  rw [up_nd h0 h1' (by omega), if_neg ne]
  refine hP.sib p a p0 (by omega) a0 a1 fun e => ?_
  obtain ⟨x, y⟩ := hI.un p a n j p0 (by omega) a0 a1 h0 h1 j0 j1 e
  exact ne2 x y
 refine ⟨out, s', _, g', e3, up_inv hP.inv h0 h1' (by rw [en]; omega) d0 d1 (fun h => absurd (hopn (by rw [hP.gg n h0 h1] at h; exact h)) (by omega)), ?_, hP.gg, hP.s0, hP.s1, fun i a b => ?_, fun p a p0 p1 a0 a1 ne => ?_, ?_, fun _ _ => ?_⟩
 ·rw [up_len]; exact hP.len
 ·rw [up_nd h0 h1' a, if_neg (by omega)]
  exact hP.lo i a (by omega)
 ·exact oth p a p0 (by omega) a0 a1 ne fun e => absurd e (by omega)
 ·rw [up_nd h0 h1' h0, if_pos rfl, en]
  dsimp only
  omega
 ·have hks : (ks ns n).length ≠ 0 := by omega
  have hkv : ∀ a, kidv ns n a = (nd ns (kid ns n a)).2.2 := fun a => by unfold kidv; rw [if_neg hks]
  have hkv' : ∀ a, kidv (up ns' n d) n a = (nd (up ns' n d) (kid ns n a)).2.2 := fun a => by
   unfold kidv
   rw [up_ks h0 h1' h0, ek, if_neg hks, up_kid h0 h1' h0, ekd]
  refine ⟨by rw [up_ks h0 h1' h0, ek]; exact hk, j, (nd ns' (kid ns n j)).2.2.2 - (nd ns (kid ns n j)).2.2.2, j0, by omega, ?_, ?_, ?_, fun a a0 a1 ne => ?_, ?_⟩
  ·have := hP.me; omega
  ·have := hP.me; omega
  ·rw [hkv, hkv', up_nd h0 h1' (by omega), if_neg (by omega)]
   have := hP.me.1
   exact Prod.ext this (by dsimp only; omega)
  ·rw [hkv, hkv', oth n a h0 (Int.le_refl _) a0 (by omega) (by have := (hI.kd n a h0 h1 a0 (by omega)).1; omega) fun _ => ne]
  ·rcases hj with ⟨z, hz⟩ | hz
   ·exact .inl ⟨by rw [hkv]; exact z, fun a a0 a1 => by rw [hkv]; exact hz a a0 a1⟩
   ·exact .inr fun a a0 a1 => by rw [hkv]; exact hz a a0 (by omega)
theorem gD_range {d : Int} {M : Nat} {f : Nat → Int} {j : Int} (j0 : 0 ≤ j) (j1 : j < M) : gD d ((List.range M).map f) j = f j.toNat := by
 obtain ⟨j, rfl⟩ : ∃ a : Nat, j = a := ⟨j.toNat, by omega⟩
 rw [gD_nat (by simp; omega)]
 simp
def gx (ns : LNode) (g : Int → BoardT) (n : Int) : Int → BoardT := fun i => if i < ns.length then g i else makeB (g n) (gD z0 (mvB (g n)) (i - ns.length))
theorem ex_inv {ns : LNode} {g : Int → BoardT} {D V n : Int} (hI : Inv ns g D V) (hD : D ≤ 90000) (h0 : 0 ≤ n) (h1 : n < ns.length) (hk : (ks ns n).length = 0) :
  Inv (exN (sm ns n (mvB (g n))) n (mvB (g n)).length) (gx ns g n) (D + 1) V ∧ (∀ i : Int, 0 ≤ i → i ≠ n → nd (exN (sm ns n (mvB (g n))) n (mvB (g n)).length) i = nd ns i) ∧
  (nd (exN (sm ns n (mvB (g n))) n (mvB (g n)).length) n).2.2 = (nd ns n).2.2 ∧ (ks (exN (sm ns n (mvB (g n))) n (mvB (g n)).length) n).length = (mvB (g n)).length ∧
  (∀ j : Int, 0 ≤ j → j < (mvB (g n)).length → kid (exN (sm ns n (mvB (g n))) n (mvB (g n)).length) n j = ns.length + j) ∧ (exN (sm ns n (mvB (g n))) n (mvB (g n)).length).length = ns.length + (mvB (g n)).length := by
 obtain ⟨hb, hl⟩ := hI.bo n h0 h1
 have hmo : ∀ j : Int, 0 ≤ j → j < (mvB (g n)).length → MoveOk (g n).1 (g n).2.1 (gD z0 (mvB (g n)) j) := fun j j0 j1 => mvB_ok hb j0 j1
 unfold gx
 generalize hmm : mvB (g n) = m at *
 have hsl : (sm ns n m).length = ns.length := by unfold sm; simp
 have hnd : ∀ i : Int, 0 ≤ i → nd (exN (sm ns n m) n m.length) i = if i = n then (m, ((List.range m.length).map (fun i : Nat => (ns.length : Int) + (i : Int)), (nd ns n).2.2)) else nd ns i := fun i hi => by
  rw [exN_nd h0 (by omega) hi, hsl]
  unfold sm
  rw [nd_set h0 h1 h0, if_pos rfl, nd_set h0 h1 hi]
  split <;> rfl
 have hlen : (exN (sm ns n m) n m.length).length = ns.length + m.length := by rw [exN_len, hsl]
 generalize hX : exN (sm ns n m) n m.length = X at *
 have kn : ks X n = (List.range m.length).map (fun i : Nat => (ns.length : Int) + (i : Int)) := by unfold ks; rw [hnd n h0, if_pos rfl]
 have knl : (ks X n).length = m.length := by rw [kn]; simp
 have ko : ∀ i : Int, 0 ≤ i → i ≠ n → ks X i = ks ns i := fun i hi ne => by unfold ks; rw [hnd i hi, if_neg ne]
 have kk : ∀ j : Int, 0 ≤ j → j < m.length → kid X n j = ns.length + j := fun j j0 j1 => by
  unfold kid
  rw [kn, gD_range j0 j1]
  omega
 have kq : ∀ i j : Int, 0 ≤ i → i ≠ n → kid X i j = kid ns i j := fun i j hi ne => by unfold kid; rw [ko i hi ne]
 have hout : ∀ i : Int, (ns.length : Int) ≤ i → (ks ns i).length = 0 := fun i hi => by unfold ks; rw [nd_out hi]; rfl
 refine ⟨⟨fun i a b => ?_, fun i a b => ?_, fun i a b c => ?_, fun i a b c => ?_, fun i j a b c e => ?_, fun i j i' j' a b c e a' b' c' e' => ?_⟩, fun i a ne => by rw [hnd i a, if_neg ne], by rw [hnd n h0, if_pos rfl], knl, kk, hlen⟩
 ·by_cases hi : i < ns.length
  ·rw [if_pos hi]
   have := hI.bo i a hi
   exact ⟨this.1, by omega⟩
  ·rw [if_neg hi]
   have hm := hmo (i - ns.length) (by omega) (by omega)
   exact ⟨make_ok hb (by omega) hm, by rw [makeB_len]; omega⟩
 ·rw [hnd i a]
  split
  ·rename_i h; subst h; exact hI.vq i h0 h1
  ·by_cases hi : i < ns.length
   ·exact hI.vq i a hi
   ·rw [nd_out (by omega)]
    have := hI.vq n h0 h1
    exact ⟨Int.le_refl _, by show (0 : Int) ≤ V; omega, Int.le_refl _, Int.le_refl _⟩
 ·rw [hnd i a]
  by_cases hi : i = n
  ·subst hi
   rw [if_pos rfl]
   rw [if_pos h1] at c ⊢
   exact hI.ov i h0 h1 c
  ·rw [if_neg hi]
   by_cases hil : i < ns.length
   ·rw [if_pos hil] at c ⊢
    exact hI.ov i a hil c
   ·rw [nd_out (by omega)]
    exact (Int.mul_zero _).symm
 ·by_cases hi : i = n
  ·subst hi
   rw [if_pos h1, hnd i h0, if_pos rfl, knl, hmm]
   exact ⟨rfl, rfl⟩
  ·rw [ko i a hi] at c ⊢
   by_cases hil : i < ns.length
   ·rw [if_pos hil, hnd i a, if_neg hi]
    exact hI.ms i a hil c
   ·rw [hout i (by omega)] at c
    omega
 ·by_cases hi : i = n
  ·subst hi
   rw [knl] at e
   rw [kk j c e, if_neg (by omega), if_pos h1, hlen]
   refine ⟨by omega, by omega, ?_⟩
   rw [hmm, show ((ns.length : Int) + j - ns.length) = j by omega]
  ·rw [ko i a hi] at e
   rw [kq i j a hi]
   by_cases hil : i < ns.length
   ·obtain ⟨x, y, z⟩ := hI.kd i j a hil c e
    rw [if_pos y, if_pos hil]
    exact ⟨x, by omega, z⟩
   ·rw [hout i (by omega)] at e
    omega
 ·have big : ∀ i j : Int, 0 ≤ i → i ≠ n → 0 ≤ j → j < (ks X i).length → i < ns.length ∧ j < (ks ns i).length ∧ kid X i j < ns.length := fun i j a ne c e => by
   rw [ko i a ne] at e
   by_cases hil : i < ns.length
   ·refine ⟨hil, e, ?_⟩
    rw [kq i j a ne]
    exact (hI.kd i j a hil c e).2.1
   ·rw [hout i (by omega)] at e
    omega
  by_cases hi : i = n
  ·subst hi
   by_cases hi' : i' = i
   ·subst hi'
    rw [knl] at e e'
    rw [kk j c e, kk j' c' e']
    intro h
    exact ⟨rfl, by omega⟩
   ·have := big i' j' a' hi' c' e'
    rw [knl] at e
    rw [kk j c e]
    intro h
    omega
  ·have hb1 := big i j a hi c e
   by_cases hi' : i' = n
   ·subst hi'
    rw [knl] at e'
    rw [kk j' c' e']
    intro h
    omega
   ·have hb2 := big i' j' a' hi' c' e'
    rw [kq i j a hi, kq i' j' a' hi']
    exact hI.un i j i' j' a hb1.1 c hb1.2.1 a' hb2.1 c' hb2.2.1
theorem Po.mono {ns ns' : LNode} {g g' : Int → BoardT} {n s s' D V D' V' : Int} (h : Po ns ns' g g' n s s' D V) (hD : D ≤ D') (hV : V ≤ V') : Po ns ns' g g' n s s' D' V' :=
 ⟨h.inv.mono hD hV, h.len, h.gg, h.s0, h.s1, h.lo, h.sib, h.me, h.kv⟩
theorem step_leaf {N : Nat} (hN : 200000000 ≤ N) {ns : LNode} {g : Int → BoardT} {D V n s : Int} (hI : Inv ns g D V) (hD : D ≤ 90000) (hV : V ≤ 1000000) (h0 : 0 ≤ n) (h1 : n < ns.length) (s0 : 0 ≤ s) (s1 : s ≤ 900000000000)
  (hlf : (nd ns n).2.2.1 = 0 ∨ resV (g n).1 (g n).2.1 ≠ 0) : ∃ out s' ns', Q23 (N + 1) (g n, s) (ns, n) = some (out, ((g n, s'), (ns', n))) ∧ Po ns ns' g g n s s' D (V + 1) := by
 obtain ⟨out, s', ns', e, hP⟩ := leaf_ok hN hI hD hV h0 h1 s0 s1 hlf
 refine ⟨out, s', ns', ?_, hP⟩
 rw [step_e]
 dsimp only
 rw [leI_t h0, chk_true]
 by_cases hv : (nd ns n).2.2.1 = 0
 ·rw [bif_t (eqI_t hv)]
  exact e
 ·have hr := hlf.resolve_left hv
  rw [bif_f (eqI_f hv), bresult_eq hN (hI.bo n h0 h1).1, ob, bif_t (by rw [eqI_f hr]; rfl)]
  exact e
theorem exN_zero {ns : LNode} {n : Int} (h0 : 0 ≤ n) (h1 : n < ns.length) (hk : (ks ns n).length = 0) (m : LMv) : exN (sm ns n m) n 0 = sm ns n m := by
 have hk' : (nd ns n).2.1 = [] := List.length_eq_zero_iff.1 hk
 unfold exN
 rw [List.replicate_zero, List.append_nil]
 have e : nd (sm ns n m) n = (m, (nd ns n).2) := by unfold sm; rw [nd_set h0 h1 h0, if_pos rfl]
 rw [e]
 unfold sm
 rw [List.set_set, List.range_zero, List.map_nil]
 dsimp only
 rw [← hk']
theorem step_of {N : Nat} (hN : 200000001 ≤ N) {ns : LNode} {g : Int → BoardT} {D V n s : Int} (hI : Inv ns g D V) (hD : D ≤ 80000) (hV : V ≤ 999999) (h0 : 0 ≤ n) (h1 : n < ns.length) (s0 : 0 ≤ s) (s1 : s ≤ 900000000000)
  (hs : ∀ j : Int, 0 ≤ j → j < (ks ns n).length → ∃ out s' ns' g', Q23 N (g (kid ns n j), s) (ns, kid ns n j) = some (out, ((g (kid ns n j), s'), (ns', kid ns n j))) ∧ Po ns ns' g g' (kid ns n j) s s' (D + 1) (V + 1)) :
  ∃ out s' ns' g', Q23 (N + 1) (g n, s) (ns, n) = some (out, ((g n, s'), (ns', n))) ∧ Po ns ns' g g' n s s' (D + 1) (V + 1) := by
 obtain ⟨hb, hl⟩ := hI.bo n h0 h1
 by_cases hlf : (nd ns n).2.2.1 = 0 ∨ resV (g n).1 (g n).2.1 ≠ 0
 ·obtain ⟨out, s', ns', e, hP⟩ := step_leaf (N := N) (by omega) hI (by omega) (by omega) h0 h1 s0 s1 hlf
  exact ⟨out, s', ns', g, e, hP.mono (by omega) (by omega)⟩
 ·have hv : (nd ns n).2.2.1 ≠ 0 := fun e => hlf (.inl e)
  have hr : resV (g n).1 (g n).2.1 = 0 := Classical.byContradiction fun e => hlf (.inr e)
  rw [step_e]
  dsimp only
  rw [leI_t h0, chk_true, bif_f (eqI_f hv), bresult_eq (by omega) hb, ob, bif_f (by rw [eqI_t hr]; rfl), chk_true]
  by_cases hk : (ks ns n).length = 0
  ·rw [bif_t (eqI_t (show (((nd ns n).2.1.length : Nat) : Int) = 0 by unfold ks at hk; omega)), bmoves_mvP (by omega) hb, ob, chk_true, chk_true]
   have hms : (nd (sm ns n (mvP (g n).1 (g n).2.1)) n).1 = mvB (g n) := by unfold sm; rw [nd_set h0 h1 h0, if_pos rfl]; rfl
   rw [hms]
   have hm8 : (mvB (g n)).length ≤ 8192 := (mvP_spec hb.r hb.p).1
   have hmn : (mvB (g n)).length ≠ 0 := fun e => mvP_ne hb.r hb.p hr (List.length_eq_zero_iff.1 e)
   have hsl : (sm ns n (mvB (g n))).length = ns.length := by unfold sm; simp
   have hex := exL_ok N (Q23 N) (g n, s) ns (ns := sm ns n (mvB (g n))) h0 (by omega) (mvB (g n)).length N 0 (by omega) (by omega)
   rw [exN_zero h0 h1 hk, Nat.zero_add] at hex
   rw [show mvP (g n).1 (g n).2.1 = mvB (g n) from rfl]
   obtain ⟨hI', ho, hq, hkl, hkk, hlen⟩ := ex_inv hI (by omega) h0 h1 hk
   rw [show ((0 : Int)) = ((0 : Nat) : Int) from rfl, hex]
   generalize exN (sm ns n (mvB (g n))) n (mvB (g n)).length = X at *
   have hgn : gx ns g n n = g n := by unfold gx; rw [if_pos h1]
   obtain ⟨N, rfl⟩ : ∃ a, N = a + 1 := ⟨N - 1, by omega⟩
   obtain ⟨out, s', ns', g', e, hP⟩ := stepC_ok (N := N + 1) (by omega) (self := Q23 (N + 1)) (D' := D + 1) (V' := V + 1) (s := s) hI' (by omega) (by omega) (by omega) h0 (by omega) (by omega) fun j j0 j1 => by
    have hkj := hkk j j0 (by omega)
    obtain ⟨out, s', ns', e, hP⟩ := step_leaf (N := N) (n := kid X n j) (s := s) (by omega) hI' (by omega) (by omega) (by omega) (by omega) s0 s1 (.inl (by rw [hkj, ho _ (by omega) (by omega), nd_out (by omega)]))
    exact ⟨out, s', ns', _, e, hP⟩
   rw [hgn] at e
   have hk0 : ∀ a : Int, kidv ns n a = (0, 0) := fun a => by unfold kidv; rw [if_pos hk]
   have hk1 : ∀ a : Int, 0 ≤ a → a < (mvB (g n)).length → kidv X n a = (0, 0) := fun a a0 a1 => by
    unfold kidv
    rw [if_neg (by omega), hkk a a0 a1, ho _ (by omega) (by omega), nd_out (by omega)]
   refine ⟨out, s', ns', g', e, hP.inv, by have := hP.len; omega, fun i a b => ?_, hP.s0, hP.s1, fun i a b => ?_, fun p j a b c e ne => ?_, ?_, fun _ _ => ?_⟩
   ·rw [hP.gg i a (by omega)]
    unfold gx
    rw [if_pos b]
   ·rw [hP.lo i a b, ho i a (by omega)]
   ·have hne : p ≠ n := by omega
    have ek : ks X p = ks ns p := by unfold ks; rw [ho p a hne]
    have ekd : kid X p j = kid ns p j := by unfold kid; rw [ek]
    have hpk := (hI.kd p j a (by omega) c e).1
    have := hP.sib p j a b c (by rw [ek]; exact e) (by rw [ekd]; exact ne)
    rw [ekd, ho _ (by omega) ne] at this
    exact this
   ·have := hP.me
    rw [hq] at this
    exact this
   ·obtain ⟨ne, j, d, j0, j1, d0, d1, q1, q2, q3⟩ := hP.kv (by rw [hq]; exact hv) (by rw [hgn]; exact hr)
    rw [hgn] at j1 q2 q3
    refine ⟨ne, j, d, j0, j1, d0, d1, ?_, fun a a0 a1 an => ?_, ?_⟩
    ·rw [q1, hk0, hk1 j j0 j1]
    ·rw [q2 a a0 a1 an, hk0, hk1 a a0 a1]
    ·rcases q3 with ⟨z1, z2⟩ | z
     ·refine .inl ⟨by rw [hk0], fun a a0 a1 => ?_⟩
      have := z2 a a0 a1
      rw [hk1 a a0 (by omega)] at this
      exact absurd rfl this
     ·have := z 0 (by omega) (by omega)
      rw [hk1 0 (by omega) (by omega)] at this
      exact absurd rfl this
  ·rw [bif_f (eqI_f (show (((nd ns n).2.1.length : Nat) : Int) ≠ 0 by unfold ks at hk; omega))]
   exact stepC_ok (by omega) hI (by omega) (by omega) (by omega) h0 h1 (by omega) hs
theorem step_ok : ∀ (h : Nat) {N : Nat} {ns : LNode} {g : Int → BoardT} {D V n s : Int}, 200000002 + h ≤ N → Inv ns g D V → D ≤ 80000 → V ≤ 999999 → 0 ≤ n → n < ns.length → 0 ≤ s → s ≤ 900000000000 → D ≤ (g n).2.2.2.length + h →
  ∃ out s' ns' g', Q23 N (g n, s) (ns, n) = some (out, ((g n, s'), (ns', n))) ∧ Po ns ns' g g' n s s' (D + 1) (V + 1) := by
 intro h
 induction h with
 | zero =>
  intro N ns g D V n s hN hI hD hV h0 h1 s0 s1 hd
  obtain ⟨N, rfl⟩ : ∃ a, N = a + 1 := ⟨N - 1, by omega⟩
  refine step_of (by omega) hI hD hV h0 h1 s0 s1 fun j j0 j1 => ?_
  obtain ⟨k0, k1, kg⟩ := hI.kd n j h0 h1 j0 j1
  have := (hI.bo (kid ns n j) (by omega) k1).2
  rw [kg, makeB_len] at this
  omega
 | succ h ih =>
  intro N ns g D V n s hN hI hD hV h0 h1 s0 s1 hd
  obtain ⟨N, rfl⟩ : ∃ a, N = a + 1 := ⟨N - 1, by omega⟩
  refine step_of (by omega) hI hD hV h0 h1 s0 s1 fun j j0 j1 => ?_
  obtain ⟨k0, k1, kg⟩ := hI.kd n j h0 h1 j0 j1
  refine ih (by omega) hI hD hV (by omega) k1 s0 s1 ?_
  rw [kg, makeB_len]
  omega
end
end Go.Proofs.Ytnddjmhpofhfjaa.Am
set_option linter.unusedVariables false
set_option linter.unusedSimpArgs false
set_option linter.unusedSectionVars false
namespace Go.Proofs.Ytnddjmhpofhfjaa.Am
open Go
noncomputable section
abbrev ns0 : LNode := [([], ([], (1, 0)))]
inductive Wst (N : Nat) (b : BoardT) (s0 : Int) : Nat → Int → LNode → Prop
 | z : Wst N b s0 0 s0 ns0
 | s {t : Nat} {s s' o : Int} {ns ns' : LNode} : Wst N b s0 t s ns → Q23 N (b, s) (ns, 0) = some (o, ((b, s'), (ns', 0))) → Wst N b s0 (t + 1) s' ns'
theorem Wst.eq {N : Nat} {b : BoardT} {s0 : Int} : ∀ {t : Nat} {s s' : Int} {ns ns' : LNode}, Wst N b s0 t s ns → Wst N b s0 t s' ns' → s = s' ∧ ns = ns'
 | 0, _, _, _, _, .z, .z => ⟨rfl, rfl⟩
 | t + 1, _, _, _, _, .s h e, .s h' e' => by
  obtain ⟨rfl, rfl⟩ := Wst.eq h h'
  rw [e] at e'
  simp only [Option.some.injEq, Prod.mk.injEq] at e'
  exact ⟨e'.2.1.2, e'.2.2.1⟩
structure Gs (b : BoardT) (s0 : Int) (t : Nat) (s : Int) (ns : LNode) : Prop where
 inv : ∃ g, g 0 = b ∧ Inv ns g t (t + 1)
 len : 0 < ns.length
 lo : s0 ≤ s
 hi : s ≤ s0 + 200 * t
 v : (nd ns 0).2.2.1 = t + 1
theorem Gs.z {b : BoardT} (hb : BOk b) (hl : b.2.2.2.length = 0) (hr : resV b.1 b.2.1 = 0) (s0 : Int) : Gs b s0 0 s0 ns0 := by
 have hn : nd ns0 0 = ([], ([], (1, 0))) := rfl
 have h0 : ∀ i : Int, 0 ≤ i → i < (ns0.length : Int) → i = 0 := fun i a b => by simp at b; omega
 have hk : (ks ns0 0).length = 0 := rfl
 refine ⟨⟨fun _ => b, rfl, fun i a b => ⟨hb, by omega⟩, fun i a b => ?_, fun i a b c => absurd hr c, fun i a b c => ?_, fun i j a b c e => ?_, fun i j i' j' a b c e => ?_⟩, by simp, by omega, by omega, by rw [hn]; rfl⟩
 ·rw [h0 i a b, hn]
  dsimp only
  omega
 ·rw [h0 i a b, hk] at c; omega
 ·rw [h0 i a b, hk] at e; omega
 ·rw [h0 i a b, hk] at e; omega
theorem Gs.s {N : Nat} (hN : 200000100 ≤ N) {b : BoardT} {s0 : Int} (h0 : 0 ≤ s0) (h1 : s0 ≤ 800000000000) (hl : b.2.2.2.length = 0) (hr : resV b.1 b.2.1 = 0) {t : Nat} (ht : t ≤ 60) {s : Int} {ns : LNode} (hG : Gs b s0 t s ns) :
  ∃ o s' ns', Q23 N (b, s) (ns, 0) = some (o, ((b, s'), (ns', 0))) ∧ Gs b s0 (t + 1) s' ns' ∧ Kv ns ns' 0 (mvB b).length := by
 obtain ⟨⟨g, g0, hI⟩, hlen, a1, a2, a3⟩ := hG
 obtain ⟨o, s', ns', g', e, hP⟩ := step_ok t (N := N) (n := 0) (s := s) (by omega) hI (by omega) (by omega) (Int.le_refl _) (by omega) (by omega) (by omega) (by rw [g0, hl]; omega)
 rw [g0] at e
 refine ⟨o, s', ns', e, ⟨⟨g', by rw [hP.gg 0 (Int.le_refl _) (by omega), g0], by have := hP.inv; rw [show ((t + 1 : Nat) : Int) = (t : Int) + 1 by omega]; exact this⟩, by have := hP.len; omega, by have := hP.s0; omega, by have := hP.s1; omega, by have := hP.me; omega⟩, ?_⟩
 have := hP.kv (by omega) (by rw [g0]; exact hr)
 rw [g0] at this
 exact this
theorem Wst.next {N : Nat} (hN : 200000100 ≤ N) {b : BoardT} {s0 : Int} (h0 : 0 ≤ s0) (h1 : s0 ≤ 800000000000) (hb : BOk b) (hl : b.2.2.2.length = 0) (hr : resV b.1 b.2.1 = 0) : ∀ (t : Nat), t ≤ 61 → ∃ s ns, Wst N b s0 t s ns ∧ Gs b s0 t s ns
 | 0, _ => ⟨_, _, .z, Gs.z hb hl hr s0⟩
 | t + 1, ht => by
  obtain ⟨s, ns, hS, hG⟩ := Wst.next hN h0 h1 hb hl hr t (by omega)
  obtain ⟨o, s', ns', e, hG', _⟩ := hG.s hN h0 h1 hl hr (by omega)
  exact ⟨s', ns', .s hS e, hG'⟩
theorem runL_ok {N : Nat} (hN : 200000100 ≤ N) {b : BoardT} {s0 : Int} (h0 : 0 ≤ s0) (h1 : s0 ≤ 800000000000) (hl : b.2.2.2.length = 0) (hr : resV b.1 b.2.1 = 0) (r : RulesT) (p : PosT) (seed : Int) : ∀ (j t n : Nat) {s : Int} {ns : LNode}, t + j ≤ 61 → 10000 + j ≤ n → Wst N b s0 t s ns → Gs b s0 t s ns →
  ∃ s' ns' n', Wst N b s0 (t + j) s' ns' ∧ Gs b s0 (t + j) s' ns' ∧ 9000 ≤ n' ∧ runL N r p seed ((t + j : Nat) : Int) n t b s ns = ((Q24 N b).bind fun y => Q5.l1 N r p seed ((t + j : Nat) : Int) n' (y.length : Int) 0 ns' y [])
 | 0, t, n, s, ns, ht, hn, hS, hG => by
  obtain ⟨n, rfl⟩ := nxt (n := n) (by omega)
  rw [runL_s, bif_f (ltI_f (by omega))]
  exact ⟨s, ns, n, hS, hG, by omega, rfl⟩
 | j + 1, t, n, s, ns, ht, hn, hS, hG => by
  obtain ⟨n, rfl⟩ := nxt (n := n) (by omega)
  obtain ⟨o, s', ns', e, hG', _⟩ := hG.s hN h0 h1 hl hr (by omega)
  obtain ⟨s2, ns2, n2, a1, a2, a3, a4⟩ := runL_ok hN h0 h1 hl hr r p seed j (t + 1) n (by omega) (by omega) (.s hS e) hG'
  rw [runL_s, bif_t (ltI_t (by omega)), e, ob]
  dsimp only
  rw [w64_id (by omega) (by omega), show ((t : Int) + 1) = ((t + 1 : Nat) : Int) by omega, show t + (j + 1) = t + 1 + j by omega]
  exact ⟨s2, ns2, n2, a1, a2, a3, a4⟩
def wres (b : BoardT) (ns : LNode) (k : Nat) : List TWm := (List.range k).map fun i : Nat => (gD z0 (mvB b) (i : Int), kidv ns 0 (i : Int))
theorem outC_ok {b : BoardT} {s0 : Int} {t : Nat} {s : Int} {ns : LNode} (hb : BOk b) (hG : Gs b s0 t s ns) : ∀ (j k n : Nat), k + j = (mvB b).length → j < n →
  outC (mvB b) ns ((mvB b).length : Int) n (k : Int) (wres b ns k) = some (wres b ns (mvB b).length, 0)
 | 0, k, n, hk, hn => by
  obtain ⟨n, rfl⟩ := nxt (n := n) (by omega)
  unfold outC
  rw [bif_f (ltI_f (by omega)), show k = (mvB b).length by omega]
 | j + 1, k, n, hk, hn => by
  obtain ⟨n, rfl⟩ := nxt (n := n) (by omega)
  have hm8 : (mvB b).length ≤ 8192 := (mvP_spec hb.r hb.p).1
  have ih := outC_ok hb hG j (k + 1) n (by omega) (by omega)
  obtain ⟨⟨g, g0, hI⟩, hlen, _, _, _⟩ := hG
  have hwl : (wres b ns k).length = k := by unfold wres; simp
  have hws : wres b ns (k + 1) = wres b ns k ++ [(gD z0 (mvB b) (k : Int), kidv ns 0 (k : Int))] := by
   unfold wres
   rw [List.range_succ, List.map_append]
   rfl
  unfold outC
  rw [bif_t (ltI_t (by omega)), chk_idx (by omega) (by omega), w64_id (x := (k : Int) + 1) (by omega) (by omega), show ((k : Int) + 1) = ((k + 1 : Nat) : Int) by omega]
  by_cases hz : (ks ns 0).length = 0
  ·rw [bif_f (by rw [eqI_t (show (((gD zN ns 0).2.1.length : Nat) : Int) = 0 from by unfold ks nd at hz; omega)]; rfl), chk_cap (by rw [hwl]; omega), ← ih, hws]
   unfold kidv
   rw [if_pos hz]
  ·have hms := hI.ms 0 (Int.le_refl _) (by omega) (by omega)
   rw [g0] at hms
   obtain ⟨c0, c1, _⟩ := hI.kd 0 (k : Int) (Int.le_refl _) (by omega) (by omega) (by omega)
   have hlt : (k : Int) < ((gD zN ns 0).2.1.length : Int) := by have := hms.2; unfold ks nd at this; omega
   have c0' : (0 : Int) ≤ gD (-1 : Int) (gD zN ns 0).2.1 (k : Int) := by unfold kid ks nd at c0; omega
   rw [bif_t (by rw [eqI_f (show (((gD zN ns 0).2.1.length : Nat) : Int) ≠ 0 from by unfold ks nd at hz; omega)]; rfl), chk_idx (by omega) hlt, eqI_self, chk_true, leI_t c0', chk_true, chk_idx (by omega) hlt, chk_true, chk_true, chk_cap (by rw [hwl]; omega), ← ih, hws]
   unfold kidv
   rw [if_neg hz]
   rfl
theorem run_ok {N : Nat} (hN : 200000100 ≤ N) (r : RulesT) (p : PosT) (seed : Int) : 
  ((∃ v, v ≠ 0 ∧ ∀ steps : Int, 0 ≤ steps → steps ≤ 61 → Q5 N r p seed steps = some ([], v)) ∨
  (ROk r ∧ POk r p ∧ resV r p = 0 ∧ ∃ b s0, b.1 = r ∧ b.2.1 = p ∧ BOk b ∧ b.2.2.2.length = 0 ∧ 0 ≤ s0 ∧ s0 ≤ 800000000000 ∧ ∀ steps : Nat, steps ≤ 61 → ∃ s ns, Wst N b s0 steps s ns ∧ Gs b s0 steps s ns ∧ Q5 N r p seed steps = some (wres b ns (mvB b).length, 0))) := by
 obtain ⟨v, hv, hv2⟩ := pcheck (N := N) (by omega) r p
 by_cases h0 : v = 0
 ·obtain ⟨hr, hp⟩ := hv2.1 h0
  have hnew := new_good (N := N) (by omega) hr hp
  have hbk : BOk (r, (p, (U (keyS p), []))) := ⟨hr, hp, rfl⟩
  by_cases hs : seed < 0 ∨ 100000000 < seed
  ·refine .inl ⟨4, by decide, fun steps a b => ?_⟩
   rw [walk_Run_e, hnew, ob]
   dsimp only [oCase]
   rw [bif_f (by rfl)]
   unfold Q21 Q21.e
   rcases hs with hs | hs
   ·rw [bif_t (ltI_t hs), ob]
    dsimp only [oCase]
    rw [bif_t (by rfl)]
   ·rw [bif_f (ltI_f (by omega)), bif_t (ltI_t hs), ob]
    dsimp only [oCase]
    rw [bif_t (by rfl)]
  ·by_cases hres : resV r p = 0
   ·refine .inr ⟨hr, hp, hres, (r, (p, (U (keyS p), []))), seed * 4096, rfl, rfl, hbk, rfl, by omega, by omega, fun steps hst => ?_⟩
    have hs0 : (0 : Int) ≤ seed * 4096 := by omega
    have hs1 : seed * 4096 ≤ 800000000000 := by omega
    obtain ⟨s', ns', n', a1, a2, a3, a4⟩ := runL_ok hN hs0 hs1 (b := (r, (p, (U (keyS p), [])))) rfl hres r p seed steps 0 N (by omega) (by omega) .z (Gs.z hbk rfl hres _)
    rw [Nat.zero_add] at a1 a2 a4
    refine ⟨s', ns', a1, a2, ?_⟩
    rw [walk_Run_e, hnew, ob]
    dsimp only [oCase]
    rw [bif_f (by rfl)]
    unfold Q21 Q21.e
    rw [bif_f (ltI_f (by omega)), bif_f (ltI_f (by omega)), ob]
    dsimp only [oCase]
    rw [bif_f (by rfl), bif_f (ltI_f (by omega)), bif_f (ltI_f (by omega)), bresult_eq (by omega) hbk, ob, bif_f (by rw [eqI_t hres]; rfl), w64_id (x := seed * 4096) (by omega) (by omega)]
    refine (show _ = _ from a4).trans ?_
    rw [bmoves_mvP (by omega) hbk, ob, l1_eq]
    exact outC_ok hbk a2 _ 0 n' (Nat.zero_add _) (by have := (mvP_spec hr hp).1; show (mvP r p).length < n'; omega)
   ·refine .inl ⟨14, by decide, fun steps a b => ?_⟩
    rw [walk_Run_e, hnew, ob]
    dsimp only [oCase]
    rw [bif_f (by rfl)]
    unfold Q21 Q21.e
    rw [bif_f (ltI_f (by omega)), bif_f (ltI_f (by omega)), ob]
    dsimp only [oCase]
    rw [bif_f (by rfl), bif_f (ltI_f (by omega)), bif_f (ltI_f (by omega)), bresult_eq (by omega) hbk, ob, bif_t (by rw [eqI_f hres]; rfl)]
 ·refine .inl ⟨v, h0, fun steps a b => ?_⟩
  rw [walk_Run_e, new_bad hv h0, ob]
  dsimp only [oCase]
  rw [bif_t (by rw [eqI_f h0]; rfl)]
end
end Go.Proofs.Ytnddjmhpofhfjaa.Am
set_option linter.unusedVariables false
set_option linter.unusedSimpArgs false
set_option linter.unusedSectionVars false
namespace Go.Proofs.Ytnddjmhpofhfjaa.Am
open Go
def sv (f : Int → Int × Int) : Nat → Int
 | 0 => 0
 | k + 1 => sv f k + (f (k : Int)).1
theorem sv_step {f f' : Int → Int × Int} {j : Int} {M : Nat} (hj : (f' j).1 = (f j).1 + 1) (h : ∀ a : Int, 0 ≤ a → a < M → a ≠ j → f' a = f a) : ∀ k : Nat, k ≤ M → sv f' k = sv f k + (if 0 ≤ j ∧ j < k then 1 else 0)
 | 0, _ => by rw [if_neg (by omega)]; rfl
 | k + 1, hk => by
  have ih := sv_step hj h k (by omega)
  unfold sv
  rw [ih]
  by_cases e : (k : Int) = j
  ·rw [e, hj, if_neg (by omega), if_pos (by omega)]
   omega
  ·rw [h k (by omega) (by omega) e]
   by_cases c : 0 ≤ j ∧ j < k
   ·rw [if_pos c, if_pos (by omega)]; omega
   ·rw [if_neg c, if_neg (by omega)]; omega
structure Fa (f : Int → Int × Int) (M t : Nat) : Prop where
 vq : ∀ a : Int, 0 ≤ a → a < M → 0 ≤ (f a).1 ∧ (f a).1 ≤ t ∧ 0 ≤ (f a).2 ∧ (f a).2 ≤ 2 * (f a).1
 pre : ∃ c : Int, 0 ≤ c ∧ c ≤ M ∧ (∀ a : Int, 0 ≤ a → a < c → (f a).1 ≠ 0) ∧ (∀ a : Int, c ≤ a → a < M → (f a).1 = 0)
 sum : sv f M = t
theorem fa_next {ns ns' : LNode} {M t : Nat} (h : Fa (kidv ns 0) M t) (hk : Kv ns ns' 0 M) : Fa (kidv ns' 0) M (t + 1) := by
 obtain ⟨hv, ⟨c, c0, c1, c2, c3⟩, hs⟩ := h
 obtain ⟨_, j, d, j0, j1, d0, d1, q1, q2, q3⟩ := hk
 refine ⟨fun a a0 a1 => ?_, ?_, ?_⟩
 ·by_cases e : a = j
  ·subst e
   have := hv a a0 a1
   rw [q1]
   dsimp only
   omega
  ·rw [q2 a a0 a1 e]
   have := hv a a0 a1
   omega
 ·rcases q3 with ⟨z, zz⟩ | z
  ·
   have hjc : j = c := by
    rcases Int.lt_trichotomy j c with h | h | h
    ·exact absurd z (c2 j j0 h)
    ·exact h
    ·exact absurd (c3 c (Int.le_refl _) (by omega)) (zz c c0 h)
   subst hjc
   refine ⟨j + 1, by omega, by omega, fun a a0 a1 => ?_, fun a a0 a1 => ?_⟩
   ·by_cases e : a = j
    ·subst e
     have := hv a a0 (by omega)
     rw [q1]
     dsimp only
     omega
    ·rw [q2 a a0 (by omega) e]
     exact c2 a a0 (by omega)
   ·rw [q2 a (by omega) a1 (by omega)]
    exact c3 a (by omega) a1
  ·have hcM : c = M := Classical.byContradiction fun ne => z c c0 (by omega) (c3 c (Int.le_refl _) (by omega))
   subst hcM
   refine ⟨M, c0, c1, fun a a0 a1 => ?_, fun a a0 a1 => absurd a1 (by omega)⟩
   by_cases e : a = j
   ·subst e
    have := hv a a0 a1
    rw [q1]
    dsimp only
    omega
   ·rw [q2 a a0 a1 e]
    exact z a a0 a1
 ·rw [sv_step (f := kidv ns 0) (j := j) (M := M) (by rw [q1]) (fun a a0 a1 ne => q2 a a0 a1 ne) M (Nat.le_refl _), hs, if_pos ⟨j0, j1⟩]
  omega
theorem fa_zero (M : Nat) : Fa (kidv ns0 0) M 0 := by
 have h : ∀ a : Int, kidv ns0 0 a = (0, 0) := fun a => rfl
 refine ⟨fun a a0 a1 => by rw [h]; exact ⟨Int.le_refl _, Int.le_refl _, Int.le_refl _, Int.le_refl _⟩, ⟨0, Int.le_refl _, by omega, fun a a0 a1 => by omega, fun a a0 a1 => by rw [h]⟩, ?_⟩
 have : ∀ k, sv (kidv ns0 0) k = 0 := fun k => by
  induction k with
  | zero => rfl
  | succ k ih => unfold sv; rw [ih, h]; rfl
 exact this M
theorem wst_fa {N : Nat} (hN : 200000100 ≤ N) {b : BoardT} {s0 : Int} (h0 : 0 ≤ s0) (h1 : s0 ≤ 800000000000) (hb : BOk b) (hl : b.2.2.2.length = 0) (hr : resV b.1 b.2.1 = 0) : ∀ (t : Nat) {s : Int} {ns : LNode}, t ≤ 61 → Wst N b s0 t s ns → Fa (kidv ns 0) (mvB b).length t
 | 0, _, _, _, .z => fa_zero _
 | t + 1, _, _, ht, .s hS e => by
  have ih := wst_fa hN h0 h1 hb hl hr t (by omega) hS
  obtain ⟨s2, ns2, hS2, hG2⟩ := Wst.next hN h0 h1 hb hl hr t (by omega)
  obtain ⟨rfl, rfl⟩ := hS.eq hS2
  obtain ⟨o, s', ns', e', hG', hK⟩ := hG2.s hN h0 h1 hl hr (by omega)
  rw [e] at e'
  simp only [Option.some.injEq, Prod.mk.injEq] at e'
  obtain ⟨_, _, rfl, _⟩ := e'
  exact fa_next ih hK
theorem wres_get {b : BoardT} {ns : LNode} {M : Nat} {k : Nat} (hk : k < M) : gD zWm (wres b ns M) (k : Int) = (gD z0 (mvB b) (k : Int), kidv ns 0 (k : Int)) := by
 rw [gD_nat (by unfold wres; simp; exact hk)]
 unfold wres
 simp
end Go.Proofs.Ytnddjmhpofhfjaa.Am
set_option linter.unusedVariables false
set_option linter.unusedSimpArgs false
namespace Go.Proofs.Ytnddjmhpofhfjaa.Am
open Go
noncomputable section
def runM (N : Nat) (steps : Int) : Nat → Int → TBoard → Int → LNode → Option (List TWm × Int)
 | 0, _, _, _, _ => none
 | n + 1, t, b, s, nodes => bif ltI t steps then ((Q23 N (b, s) (nodes, 0)).bind fun y => runM N steps n (w64 (t + 1)) y.2.1.1 y.2.1.2 y.2.2.1)
   else ((Q24 N b).bind fun y => outC y nodes (y.length : Int) n 0 [])
theorem runL_eq (N : Nat) (r : TRules) (p : TPos) (seed steps : Int) : ∀ (n : Nat) (t : Int) (b : TBoard) (s : Int) (nodes : LNode), runL N r p seed steps n t b s nodes = runM N steps n t b s nodes
 | 0, _, _, _, _ => rfl
 | n + 1, t, b, s, nodes => by
  have ih := runL_eq N r p seed steps n
  rw [runL_s]
  simp only [ih, l1_eq]
  rfl
theorem walk60 : Q5 N0 wT wP 5 60 = runM N0 60 N0 0 wB 20480 [([], ([], (1, 0)))] := by
 rw [walk_Run_e, w_new]
 simp only [ob, oCase, w_src, w_res]
 rw [bif_f (by decide), bif_f (by decide), bif_f (by decide), bif_f (by decide), bif_f (by decide), runL_eq]
theorem best60 : Q10 N0 wT wP 5 60 = some ((-1, (2, 0)), 0) := by
 unfold Q10 Q10.e
 rw [walk60]
 kernel_rfl
end
end Go.Proofs.Ytnddjmhpofhfjaa.Am
set_option linter.unusedVariables false
set_option linter.unusedSimpArgs false
set_option linter.unusedSectionVars false
namespace Go.Proofs.Ytnddjmhpofhfjaa.Am
open Go
theorem mcheck_zero {N : Nat} (hN : 200000100 ≤ N) {r : RulesT} {p : PosT} (hr : ROk r) (hp : POk r p) : Q29 N r p 0 = some 0 := by
 unfold Q29 Q29.e
 have h := tree_good hN r p 0 hr hp (by omega) (pch_good hN r p ((0 : Nat) : Int) hr hp (by omega) (by omega))
 rw [if_pos (by unfold sizeP; decide)] at h
 rw [show (0 : Int) = ((0 : Nat) : Int) from rfl, h, ob]
 rfl
theorem score_zero {N : Nat} (hN : 200000200 ≤ N) {r : RulesT} {p : PosT} (hr : ROk r) (hp : POk r p) : Q13 N r p 0 = some (val r 0 p, 0) :=
 score_good (by omega) r p 0 (mcheck_zero (by omega) hr hp) hr hp (Int.le_refl _) (by decide)
theorem bestW (N : Nat) (r : RulesT) (p : PosT) (seed steps : Int) {l : List TWm} (hl : l.length ≤ 8192) : ∀ (j n : Nat) (best i : Int), i + j = l.length → j < n → 0 ≤ i → 0 ≤ best → best < l.length → (∀ a : Int, 0 ≤ a → a < i → (gD zWm l a).2.1 ≤ (gD zWm l best).2.1) →
  ∃ k : Int, 0 ≤ k ∧ k < l.length ∧ (∀ a : Int, 0 ≤ a → a < l.length → (gD zWm l a).2.1 ≤ (gD zWm l k).2.1) ∧ Q10.l0 N r p seed steps n best (l.length : Int) i l = some ((gD zWm l k).1, 0)
 | 0, n, best, i, hi, hn, i0, b0, b1, ha => by
  obtain ⟨n, rfl⟩ := nxt (n := n) (by omega)
  rw [Q10.l0_s]
  unfold Q10.s0
  rw [bif_f (ltI_f (by omega)), chk_idx b0 b1]
  exact ⟨best, b0, b1, fun a a0 a1 => ha a a0 (by omega), rfl⟩
 | j + 1, n, best, i, hi, hn, i0, b0, b1, ha => by
  obtain ⟨n, rfl⟩ := nxt (n := n) (by omega)
  rw [Q10.l0_s]
  unfold Q10.s0
  rw [bif_t (ltI_t (by omega)), chk_idx i0 (by omega), chk_idx b0 b1, w64_id (x := i + 1) (by omega) (by omega)]
  by_cases c : (gD zWm l best).2.1 < (gD zWm l i).2.1
  ·rw [bif_t (ltI_t c)]
   exact bestW N r p seed steps hl j n i (i + 1) (by omega) (by omega) (by omega) i0 (by omega) fun a a0 a1 => by
    by_cases e : a = i
    ·subst e; exact Int.le_refl _
    ·have := ha a a0 (by omega); omega
  ·rw [bif_f (ltI_f (show (gD zWm l i).2.1 ≤ (gD zWm l best).2.1 by omega))]
   exact bestW N r p seed steps hl j n best (i + 1) (by omega) (by omega) (by omega) b0 b1 fun a a0 a1 => by
    by_cases e : a = i
    ·subst e; omega
    ·exact ha a a0 (by omega)
theorem idx_max (N : Nat) {l : List TWm} {w : TWm} (hl : l.length ≤ 8192) (h : ∀ a : Int, 0 ≤ a → a < l.length → (gD zWm l a).2.1 ≤ w.2.1) : ∀ (j n : Nat) (i : Int), i + j = l.length → j < n → 0 ≤ i → Q33.l0 N l w n i = some (-1)
 | 0, n, i, hi, hn, i0 => by
  obtain ⟨n, rfl⟩ := nxt (n := n) (by omega)
  rw [Q33.l0_s]
  unfold Q33.s0
  rw [bif_f (ltI_f (by omega))]
 | j + 1, n, i, hi, hn, i0 => by
  obtain ⟨n, rfl⟩ := nxt (n := n) (by omega)
  rw [Q33.l0_s]
  unfold Q33.s0
  have hle := h i i0 (by omega)
  rw [bif_t (ltI_t (by omega)), chk_idx i0 (by omega), bif_f (ltI_f hle), w64_id (x := i + 1) (by omega) (by omega)]
  exact idx_max N hl h j n (i + 1) (by omega) (by omega) (by omega)
theorem contains_max {N : Nat} (hN : 200000000 ≤ N) {l : List TWm} {w : TWm} (hl : l.length ≤ 8192) (h : ∀ a : Int, 0 ≤ a → a < l.length → (gD zWm l a).2.1 ≤ w.2.1) : Q15 N l w = some false := by
 unfold Q15 Q15.e Q33 Q33.e
 rw [idx_max N hl h l.length N 0 (by omega) (by omega) (Int.le_refl _)]
 rfl
theorem nodup_at {l : List MvT} (h : l.Nodup) {i j : Nat} (hi : i < l.length) (hj : j < l.length) (e : gD z0 l (i : Int) = gD z0 l (j : Int)) : i = j := by
 rw [gD_nat hi, gD_nat hj] at e
 exact (List.getElem_inj h).1 e
theorem topL {N : Nat} (hN : 200000200 ≤ N) (r : RulesT) (p : PosT) (seed : Int) (hr : ROk r) (hp : POk r p) {b : BoardT} {ns : LNode} (hb1 : b.1 = r) (hb2 : b.2.1 = p) (hm8 : (mvB b).length ≤ 8192) (hnd : (mvB b).Nodup) (hmc : ∀ m ∈ mvB b, m ∈ cand r p) (hF : Fa (kidv ns 0) (mvB b).length 40)
  (hov : ∀ k : Nat, k < (mvB b).length → resV r (doI r p (gD z0 (mvB b) (k : Int))) ≠ 0 → (kidv ns 0 (k : Int)).2 = gI (makeB b (gD z0 (mvB b) (k : Int))) * (kidv ns 0 (k : Int)).1)
  {kb : Nat} (hkb : kb < (mvB b).length) (hmax : ∀ a : Int, 0 ≤ a → a < (mvB b).length → (kidv ns 0 a).1 ≤ (kidv ns 0 (kb : Int)).1) :
  ∀ (j k n : Nat) (sum : Int), k + j = (mvB b).length → j < n → sum = sv (kidv ns 0) k → 0 ≤ sum → sum ≤ 61 * k →
   Q3.l0 N r p seed n 0 sum ((mvB b).length : Int) (k : Int) (wres b ns (mvB b).length) (gD z0 (mvB b) (kb : Int)).1 (gD z0 (mvB b) (kb : Int)).2.1 (gD z0 (mvB b) (kb : Int)).2.2 = some true
 | 0, k, n, sum, hk, hn, hs, s0, s1 => by
  obtain ⟨n, rfl⟩ := nxt (n := n) (by omega)
  rw [Q3.l0_s]
  unfold Q3.s0
  rw [bif_f (ltI_f (by omega)), bif_t (by rfl), eqI_t]
  rw [hs, show k = (mvB b).length by omega, hF.sum]
  rfl
 | j + 1, k, n, sum, hk, hn, hs, s0, s1 => by
  obtain ⟨n, rfl⟩ := nxt (n := n) (by omega)
  have hw := wres_get (b := b) (ns := ns) (show k < (mvB b).length by omega)
  obtain ⟨v0, v1, v2, v3⟩ := hF.vq (k : Int) (by omega) (by omega)
  have hwl : (wres b ns (mvB b).length).length = (mvB b).length := by unfold wres; simp
  have hlt : k < (mvB b).length := by omega
  have hmem : gD z0 (mvB b) (k : Int) ∈ mvB b := by rw [gD_nat hlt]; exact List.getElem_mem hlt
  have hc := hmc _ hmem
  have hmo := cand_ok hr hp hc
  have hq := do_ok hr hp hmo
  have ht : (doI r p (gD z0 (mvB b) (k : Int))).2.2.1 = 0 ∨ (doI r p (gD z0 (mvB b) (k : Int))).2.2.1 = 1 := hq.last.1
  obtain ⟨l, hl, hg⟩ := gen_ret hr hp (N := N) (by omega)
  have hval : val r 0 (doI r p (gD z0 (mvB b) (k : Int))) = if resV r (doI r p (gD z0 (mvB b) (k : Int))) ≠ 0 then scoreV (resV r (doI r p (gD z0 (mvB b) (k : Int)))) (doI r p (gD z0 (mvB b) (k : Int))).2.2.1 else 0 := rfl
  have hov := hov k hlt
  have hgi : gI (makeB b (gD z0 (mvB b) (k : Int))) = if resV r (doI r p (gD z0 (mvB b) (k : Int))) = 2 - (doI r p (gD z0 (mvB b) (k : Int))).2.2.1 then 2 else if resV r (doI r p (gD z0 (mvB b) (k : Int))) = 1 + (doI r p (gD z0 (mvB b) (k : Int))).2.2.1 then 0 else 1 := by
   unfold gI makeB
   dsimp only
   rw [hb1, hb2]
  rw [hgi] at hov
  have ih := topL hN r p seed hr hp hb1 hb2 hm8 hnd hmc hF ‹_› hkb hmax j (k + 1) n (sum + (kidv ns 0 (k : Int)).1) (by omega) (by omega) (by rw [hs]; rfl) (by omega) (by omega)
  rw [Q3.l0_s]
  unfold Q3.s0
  rw [hwl, bif_t (ltI_t (by omega)), chk_idx (by omega) (by omega), hw]
  dsimp only
  rw [after_good (by omega) hr hp hl hg ((hg.mem _).2 hc), ob]
  dsimp only
  rw [score_zero (by omega) hr hq, ob, fine_eq (by simp) (by simp; omega), ob, decide_eq_true (by simp), bif_f (by rfl)]
  dsimp only
  rw [w64_id (x := sum + (kidv ns 0 (k : Int)).1) (by omega) (by omega), w64_id (x := (k : Int) + 1) (by omega) (by omega), w64_id (x := 2 * (kidv ns 0 (k : Int)).1) (by omega) (by omega), show ((k : Int) + 1) = ((k + 1 : Nat) : Int) by omega]
  have rest : (bif (eqI (gD z0 (mvB b) (k : Int)).1 (gD z0 (mvB b) (kb : Int)).1 && (eqI (gD z0 (mvB b) (k : Int)).2.1 (gD z0 (mvB b) (kb : Int)).2.1 && (eqI (gD z0 (mvB b) (k : Int)).2.2 (gD z0 (mvB b) (kb : Int)).2.2 && true))) then
    ((Q15 N (wres b ns (mvB b).length) (gD z0 (mvB b) (k : Int), kidv ns 0 (k : Int))).bind fun y => bif y then some false else Q3.l0 N r p seed n 0 (sum + (kidv ns 0 (k : Int)).1) ((mvB b).length : Int) ((k + 1 : Nat) : Int) (wres b ns (mvB b).length) (gD z0 (mvB b) (kb : Int)).1 (gD z0 (mvB b) (kb : Int)).2.1 (gD z0 (mvB b) (kb : Int)).2.2)
    else Q3.l0 N r p seed n 0 (sum + (kidv ns 0 (k : Int)).1) ((mvB b).length : Int) ((k + 1 : Nat) : Int) (wres b ns (mvB b).length) (gD z0 (mvB b) (kb : Int)).1 (gD z0 (mvB b) (kb : Int)).2.1 (gD z0 (mvB b) (kb : Int)).2.2) = some true := by
   by_cases e : gD z0 (mvB b) (k : Int) = gD z0 (mvB b) (kb : Int)
   ·have ek : k = kb := nodup_at hnd hlt hkb e
    subst ek
    rw [eqI_self, eqI_self, eqI_self, bif_t (by rfl), contains_max (by omega) (by rw [hwl]; exact hm8) (fun a a0 a1 => by
     rw [hwl] at a1
     obtain ⟨a, rfl⟩ : ∃ t : Nat, a = t := ⟨a.toNat, by omega⟩
     rw [wres_get (by omega)]
     exact hmax (a : Int) a0 a1), ob, bif_f rfl]
    exact ih
   ·rw [bif_f (by
     cases h1 : eqI (gD z0 (mvB b) (k : Int)).1 (gD z0 (mvB b) (kb : Int)).1 with
     | false => rfl
     | true =>
      cases h2 : eqI (gD z0 (mvB b) (k : Int)).2.1 (gD z0 (mvB b) (kb : Int)).2.1 with
      | false => rfl
      | true =>
       cases h3 : eqI (gD z0 (mvB b) (k : Int)).2.2 (gD z0 (mvB b) (kb : Int)).2.2 with
       | false => rfl
       | true => exact absurd (Prod.ext (eqI_iff.1 h1) (Prod.ext (eqI_iff.1 h2) (eqI_iff.1 h3))) e)]
    exact ih
  unfold scoreV at hval
  by_cases n1 : val r 0 (doI r p (gD z0 (mvB b) (k : Int))) = -1000
  ·have hx : resV r (doI r p (gD z0 (mvB b) (k : Int))) ≠ 0 ∧ resV r (doI r p (gD z0 (mvB b) (k : Int))) = 2 - (doI r p (gD z0 (mvB b) (k : Int))).2.2.1 := by
    rw [n1] at hval
    by_cases c : resV r (doI r p (gD z0 (mvB b) (k : Int))) ≠ 0
    ·rw [if_pos c] at hval
     refine ⟨c, ?_⟩
     by_cases c1 : resV r (doI r p (gD z0 (mvB b) (k : Int))) = 1 + (doI r p (gD z0 (mvB b) (k : Int))).2.2.1
     ·rw [if_pos c1] at hval; omega
     ·rw [if_neg c1] at hval
      by_cases c2 : resV r (doI r p (gD z0 (mvB b) (k : Int))) = 2 - (doI r p (gD z0 (mvB b) (k : Int))).2.2.1
      ·exact c2
      ·rw [if_neg c2] at hval; omega
    ·rw [if_neg c] at hval; omega
   have hp2 := hov hx.1
   rw [if_pos hx.2] at hp2
   rw [bif_t (eqI_t n1), bif_f (by rw [eqI_t hp2]; rfl), bif_f (eqI_f (by omega))]
   exact rest
  ·rw [bif_f (eqI_f n1)]
   by_cases n2 : val r 0 (doI r p (gD z0 (mvB b) (k : Int))) = 1000
   ·have hx : resV r (doI r p (gD z0 (mvB b) (k : Int))) ≠ 0 ∧ resV r (doI r p (gD z0 (mvB b) (k : Int))) = 1 + (doI r p (gD z0 (mvB b) (k : Int))).2.2.1 := by
     rw [n2] at hval
     by_cases c : resV r (doI r p (gD z0 (mvB b) (k : Int))) ≠ 0
     ·rw [if_pos c] at hval
      refine ⟨c, ?_⟩
      by_cases c1 : resV r (doI r p (gD z0 (mvB b) (k : Int))) = 1 + (doI r p (gD z0 (mvB b) (k : Int))).2.2.1
      ·exact c1
      ·rw [if_neg c1] at hval
       by_cases c2 : resV r (doI r p (gD z0 (mvB b) (k : Int))) = 2 - (doI r p (gD z0 (mvB b) (k : Int))).2.2.1
       ·rw [if_pos c2] at hval; omega
       ·rw [if_neg c2] at hval; omega
     ·rw [if_neg c] at hval; omega
    have hp2 := hov hx.1
    rw [if_neg (by omega), if_pos hx.2, Int.zero_mul] at hp2
    rw [bif_t (eqI_t n2), bif_f (by rw [eqI_t hp2]; rfl)]
    exact rest
   ·rw [bif_f (eqI_f n2)]
    exact rest
theorem scored_trueW : Q9 300000000 = some true := by decide +kernel
theorem topWalk_at (r : RulesT) (p : PosT) (seed : Int) : Q3 300000000 r p seed = some true := by
 obtain ⟨hv, hh, _⟩ := heavy_ret (N := 300000000) (by decide) r p 1
 have hth : Q6 300000000 = some wT := w_three
 have hne : Q7 300000000 = some wP := w_near
 unfold Q3 Q3.e
 rw [hth, hne]
 simp only [ob]
 rw [show Q5 300000000 wT wP 5 1 = some (wO, 0) from walked_run, ob]
 dsimp only
 rw [bif_f (by rfl), bif_f (by rfl), chk_of (by rfl)]
 unfold Q8 Q8.e
 rw [ob, bif_f (by rfl), scored_trueW, ob, bif_f (by rfl)]
 rw [show Q10 300000000 wT wP 5 60 = some ((-1, (2, 0)), 0) from best60, ob, bif_f (by rfl), ob, bif_f (by rfl), hh, ob]
 cases hv with
 | true => rfl
 | false =>
  rw [bif_f rfl]
  by_cases h9 : (9 : Int) < p.1.length
  ·rw [bif_t (ltI_t h9)]
  rw [bif_f (ltI_f (by omega))]
  rcases run_ok (N := 300000000) (by decide) r p seed with ⟨v, hv, hh⟩ | ⟨hr, hp, hres, b, s0, hb1, hb2, hb, hl, q0, q1, hh⟩
  ·have h40 := hh 40 (by decide) (by decide)
   have hbest : Q10 300000000 r p seed 40 = some ((0, (0, 0)), v) := by
    unfold Q10 Q10.e
    rw [h40, ob]
    dsimp only
    rw [bif_t (by rw [eqI_f hv]; rfl)]
   rw [h40, hbest, ob, ob]
   dsimp only
   rw [bif_t (by rw [eqI_f hv]; rfl), bif_t (eqI_self v)]
   rfl
  ·obtain ⟨s, ns, hS, hG, e⟩ := hh 40 (by omega)
   have e : Q5 300000000 r p seed 40 = some (wres b ns (mvB b).length, 0) := e
   have hm : mvB b = mvP r p := by unfold mvB; rw [hb1, hb2]
   have hsp := mvP_spec hr hp
   have hm8 : (mvB b).length ≤ 8192 := by rw [hm]; exact hsp.1
   have hnd : (mvB b).Nodup := by rw [hm]; exact mvP_nodup hr hp
   have hmc : ∀ m ∈ mvB b, m ∈ cand r p := fun m h => by rw [hm] at h; exact (hsp.2 m h).2
   have hmn : (mvB b).length ≠ 0 := fun e => by
    have := List.length_eq_zero_iff.1 e
    rw [hm] at this
    exact mvP_ne hr hp hres this
   have hF := wst_fa (N := 300000000) (by decide) q0 q1 hb hl (by rw [hb1, hb2]; exact hres) 40 (by omega) hS
   have hwl : (wres b ns (mvB b).length).length = (mvB b).length := by unfold wres; simp
   obtain ⟨kb, k0, k1, kmax, hbe⟩ := bestW 300000000 r p seed 40 (l := wres b ns (mvB b).length) (by rw [hwl]; exact hm8) (wres b ns (mvB b).length).length 300000000 0 0 (by omega) (by omega) (Int.le_refl _) (Int.le_refl _) (by omega) (fun a a0 a1 => by omega)
   obtain ⟨kb, rfl⟩ : ∃ t : Nat, kb = t := ⟨kb.toNat, by omega⟩
   rw [hwl] at k1 kmax
   have hkb : kb < (mvB b).length := by omega
   have hgk := wres_get (b := b) (ns := ns) hkb
   have hbest : Q10 300000000 r p seed 40 = some (gD z0 (mvB b) (kb : Int), 0) := by
    unfold Q10 Q10.e
    rw [e, ob]
    dsimp only
    rw [bif_f (by rfl), bif_f (by rfl), hbe, hgk]
   rw [e, hbest, ob, ob]
   dsimp only
   rw [bif_f (by rfl), hwl]
   refine topL (by decide) r p seed hr hp hb1 hb2 hm8 hnd hmc hF (fun k hk hx => ?_) hkb (fun a a0 a1 => ?_) (mvB b).length 0 300000000 0 (Nat.zero_add _) (by omega) rfl (by omega) (by omega)
   ·obtain ⟨⟨g, g0, hI⟩, hlen, _, _, _⟩ := hG
    unfold kidv
    by_cases hz : (ks ns 0).length = 0
    ·rw [if_pos hz]
     exact (Int.mul_zero _).symm
    ·rw [if_neg hz]
     have hms := hI.ms 0 (Int.le_refl _) (by omega) (by omega)
     rw [g0] at hms
     obtain ⟨c0, c1, cg⟩ := hI.kd 0 (k : Int) (Int.le_refl _) (by omega) (by omega) (by omega)
     rw [g0] at cg
     have hov := hI.ov _ (by omega) c1
     rw [cg] at hov
     refine hov ?_
     have e2 : (makeB b (gD z0 (mvB b) (k : Int))).2.1 = doI b.1 b.2.1 (gD z0 (mvB b) (k : Int)) := rfl
     have e3 : (makeB b (gD z0 (mvB b) (k : Int))).1 = b.1 := rfl
     rw [e2, e3, hb1, hb2]
     exact hx
   ·have := kmax a a0 (by omega)
    obtain ⟨a, rfl⟩ : ∃ t : Nat, a = t := ⟨a.toNat, by omega⟩
    rw [hgk, wres_get (by omega)] at this
    exact this
end Go.Proofs.Ytnddjmhpofhfjaa.Am
