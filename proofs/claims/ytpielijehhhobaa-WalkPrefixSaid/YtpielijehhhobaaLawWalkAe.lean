/- Plain: what walk.Run does, seen whole; and the check that a game is sampled. -/
import Derived.Test.YtpielijehhhobaaLawRete
import Derived.Test.YtpielijehhhobaaFne1
set_option linter.unusedVariables false
set_option linter.unusedSimpArgs false
namespace Go.Proofs.Ytpielijehhhobaa.Am
open Go
noncomputable section
abbrev TNode := LMv × (List Int × (Int × Int))
abbrev LNode := List TNode
abbrev zN : TNode := (([] : LMv), ([] : List Int), ((0 : Int), (0 : Int)))
abbrev TWm := TMv × (Int × Int)
abbrev zWm : TWm := (((0 : Int), ((0 : Int), (0 : Int))), ((0 : Int), (0 : Int)))
def runL (N : Nat) (r : TRules) (p : TPos) (seed steps : Int) (n : Nat) (t : Int) (b : TBoard) (s : Int) (nodes : LNode) : Option (List TWm × Int) :=
 Q12.l0 N r p seed steps n t b.1.1 b.1.2.1 b.1.2.2.1 b.1.2.2.2.2.2.1 b.1.2.2.2.2.2.2.1 b.1.2.2.2.2.2.2.2.2.1 b.1.2.2.2.2.2.2.2.2.2.1 b.1.2.2.2.2.2.2.2.2.2.2 b.2.1.2.2.1 b.2.1.2.2.2 b.2.2.1 b.1.2.2.2.1 b.1.2.2.2.2.1 b.1.2.2.2.2.2.2.2.1 b.2.1.1 b.2.1.2.1.1 b.2.1.2.1.2 b.2.2.2 s nodes
theorem runL_s (N : Nat) (r : TRules) (p : TPos) (seed steps : Int) (n : Nat) (t : Int) (b : TBoard) (s : Int) (nodes : LNode) :
  runL N r p seed steps (n + 1) t b s nodes = bif ltI t steps then ((Q33 N (b, s) (nodes, 0)).bind fun y => runL N r p seed steps n (w64 (t + 1)) y.2.1.1 y.2.1.2 y.2.2.1)
   else ((Q34 N b).bind fun y => Q12.l1 N r p seed steps n (y.length : Int) 0 nodes y []) := rfl
theorem walk_Run_e (N : Nat) (r : TRules) (p : TPos) (seed steps : Int) : Q12 N r p seed steps = (Q27 N r p).bind fun y1 =>
 oCase y1.1 (bif (!(eqI y1.2 0)) then (some ([], y1.2))
  else (Q13 N seed).bind fun y3 =>
  oCase y3.1 (bif (!(eqI y3.2 0)) then (some ([], y3.2))
   else bif (ltI steps 0) then (some ([], 1))
   else bif (ltI 2000 steps) then (some ([], 1))
   else none) fun b4 =>
  bif (!(eqI y3.2 0)) then (some ([], y3.2))
  else bif (ltI steps 0) then (some ([], 1))
  else bif (ltI 2000 steps) then (some ([], 1))
  else none) fun b2 =>
 bif (!(eqI y1.2 0)) then (some ([], y1.2))
 else (Q13 N seed).bind fun y5 =>
 oCase y5.1 (bif (!(eqI y5.2 0)) then (some ([], y5.2))
  else bif (ltI steps 0) then (some ([], 1))
  else bif (ltI 2000 steps) then (some ([], 1))
  else (Q32 N b2).bind fun y7 =>
  bif (!(eqI y7 0)) then (some ([], 14))
  else none) fun b6 =>
 bif (!(eqI y5.2 0)) then (some ([], y5.2))
 else bif (ltI steps 0) then (some ([], 1))
 else bif (ltI 2000 steps) then (some ([], 1))
 else (Q32 N b2).bind fun y9 =>
 bif (!(eqI y9 0)) then (some ([], 14))
 else runL N r p seed steps N 0 b2 b6 [([], ([], (1, 0)))] := rfl
def outC (m : LMv) (nodes : LNode) (len : Int) : Nat → Int → List TWm → Option (List TWm × Int)
 | 0, _, _ => none
 | n + 1, t, out => bif (ltI t len) then (chk ((leI 0 t) && (ltI t (m.length : Int))) <|
  bif (!(eqI ((gD zN nodes 0).2.1.length : Int) 0)) then (chk ((leI 0 t) && (ltI t ((gD zN nodes 0).2.1.length : Int))) <|
   chk (eqI ((gD zN nodes 0).2.1.length : Int) ((gD zN nodes 0).2.1.length : Int)) <|
   chk (leI 0 (gD (-1 : Int) (gD zN nodes 0).2.1 t)) <|
   chk ((leI 0 t) && (ltI t ((gD zN nodes 0).2.1.length : Int))) <|
   chk (eqI ((gD zN nodes 0).2.1.length : Int) ((gD zN nodes 0).2.1.length : Int)) <|
   chk (leI 0 (gD (-1 : Int) (gD zN nodes 0).2.1 t)) <|
   chk (capOk 40 (out.length + 1)) <|
   outC m nodes len n (w64 (t + 1)) (out ++ [((gD ((0 : Int), ((0 : Int), (0 : Int))) m t), ((gD zN nodes (gD (-1 : Int) (gD zN nodes 0).2.1 t)).2.2.1, (gD zN nodes (gD (-1 : Int) (gD zN nodes 0).2.1 t)).2.2.2))]))
  else chk (capOk 40 (out.length + 1)) <|
   outC m nodes len n (w64 (t + 1)) (out ++ [((gD ((0 : Int), ((0 : Int), (0 : Int))) m t), (0, 0))]))
 else some (out, 0)
theorem l1_eq (N : Nat) (r : TRules) (p : TPos) (seed steps : Int) (len : Int) (nodes : LNode) (m : LMv) : ∀ (n : Nat) (t : Int) (out : List TWm), Q12.l1 N r p seed steps n len t nodes m out = outC m nodes len n t out
 | 0, t, out => rfl
 | n + 1, t, out => by
  rw [Q12.l1_s]
  unfold Q12.s1
  simp only [bothK_same]
  have ih := l1_eq N r p seed steps len nodes m n
  simp only [ih]
  rfl
abbrev N0 : Nat := 300000000
def wT : TRules := ((⟨#[84, 73, 67]⟩ : ByteArray), (3, (3, ([(65, (5, (0, [])))], ([0, 0, 0, 0, 0, 0, 0, 0, 0], (false, (false, ([(0, (0, (3, false)))], (2, (0, 0))))))))))
def wP : TPos := ([1, 1, 0, 2, 2, 0, 0, 0, 0], (([3], [3]), (0, 0)))
def wB : TBoard := (wT, (wP, (16825452458666462914, [])))
def wM : LMv := [(-1, (2, 0)), (-1, (5, 0)), (-1, (6, 0)), (-1, (7, 0)), (-1, (8, 0))]
def wN : LNode := [(wM, ([1, 2, 3, 4, 5], (2, 0))), ([], ([], (1, 2))), ([], ([], (0, 0))), ([], ([], (0, 0))), ([], ([], (0, 0))), ([], ([], (0, 0)))]
def wO : List TWm := [((-1, (2, 0)), (1, 2)), ((-1, (5, 0)), (0, 0)), ((-1, (6, 0)), (0, 0)), ((-1, (7, 0)), (0, 0)), ((-1, (8, 0)), (0, 0))]
theorem w_three : Q24 N0 = some wT := by kernel_rfl
theorem w_near : Q25 N0 = some wP := by kernel_rfl
theorem w_new : Q27 N0 wT wP = some (some wB, 0) := by kernel_rfl
theorem w_src : Q13 N0 5 = some (some 20480, 0) := by kernel_rfl
theorem w_res : Q32 N0 wB = some 0 := by kernel_rfl
theorem w_step : Q33 N0 (wB, 20480) ([([], ([], (1, 0)))], 0) = some (1, ((wB, 20480), (wN, 0))) := by kernel_rfl
theorem w_moves : Q34 N0 wB = some wM := by kernel_rfl
theorem w_out : outC wM wN 5 299999998 0 [] = some (wO, 0) := by kernel_rfl
theorem walked_run : Q12 N0 wT wP 5 1 = some (wO, 0) := by
 rw [walk_Run_e, w_new]
 simp only [Option.bind_some, oCase, w_src, w_res]
 rw [bif_f (by decide), bif_f (by decide), bif_f (by decide), bif_f (by decide), bif_f (by decide)]
 rw [show N0 = 299999999 + 1 by decide, runL_s, bif_t (by decide), show (299999999 + 1 : Nat) = N0 by decide, w_step]
 simp only [Option.bind_some]
 rw [show (299999999 : Nat) = 299999998 + 1 by decide, runL_s, bif_f (by decide), w_moves]
 simp only [Option.bind_some]
 rw [l1_eq]
 exact w_out
theorem w_best : Q31 N0 wT wP 5 1 = some ((-1, (2, 0)), 0) := by
 unfold Q31 Q31.e
 rw [walked_run]
 simp only [Option.bind_some]
 kernel_rfl
theorem walked_ok : Q11 N0 = some true := by
 unfold Q11 Q11.e
 rw [w_three, w_near]
 simp only [Option.bind_some]
 rw [walked_run, w_best]
 simp only [Option.bind_some]
 kernel_rfl
end
end Go.Proofs.Ytpielijehhhobaa.Am
