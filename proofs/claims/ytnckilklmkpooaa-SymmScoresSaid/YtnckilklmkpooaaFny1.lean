/- PRINTED by gen.py: what the functions compute, as plain Lean functions with fuel. -/
import Derived.Test.YtnckilklmkpooaaFny
set_option linter.unusedVariables false
set_option linter.unusedSimpArgs false
namespace Go.Proofs.Ytnckilklmkpooaa.Am
open Go
noncomputable section
/-! ### f92: (*gamehall/perft.counter).count -/
def perft_counter_count''.e (N : Nat) (self : Int → TBoard → Int → Option (Int × Int × TBoard)) (r0 : Int → Int → Int → Int → ByteArray → Int → Int → Bool → Bool → Int → Int → Int → Int → Int → Int → LMv → (List TPiece) → LInt → (List TEnd) → LInt → LInt → LInt → (List TUndo) → Option (Int × Int × TBoard)) (c_ : Int) (b_ : TBoard) (depth : Int) : Option (Int × Int × TBoard) :=
  bif (ltI (w64 (c_ - 1)) 0) then (some (1, ((w64 (c_ - 1)), b_)))
  else bif (eqI depth 0) then (some (1, ((w64 (c_ - 1)), b_)))
  else (board_Board_Moves N b_).bind fun y1 =>
  r0 0 (y1.length : Int) 0 (w64 (c_ - 1)) b_.1.1 b_.1.2.1 b_.1.2.2.1 b_.1.2.2.2.2.2.1 b_.1.2.2.2.2.2.2.1 b_.1.2.2.2.2.2.2.2.2.1 b_.1.2.2.2.2.2.2.2.2.2.1 b_.1.2.2.2.2.2.2.2.2.2.2 b_.2.1.2.2.1 b_.2.1.2.2.2 b_.2.2.1 y1 b_.1.2.2.2.1 b_.1.2.2.2.2.1 b_.1.2.2.2.2.2.2.2.1 b_.2.1.1 b_.2.1.2.1.1 b_.2.1.2.1.2 b_.2.2.2
def perft_counter_count''.s0 (N : Nat) (self : Int → TBoard → Int → Option (Int × Int × TBoard)) (c_ : Int) (b_ : TBoard) (depth : Int) (r0 : Int → Int → Int → Int → ByteArray → Int → Int → Bool → Bool → Int → Int → Int → Int → Int → Int → LMv → (List TPiece) → LInt → (List TEnd) → LInt → LInt → LInt → (List TUndo) → Option (Int × Int × TBoard)) (n_ : Int) (t28_ : Int) (t29_ : Int) (c_2 : Int) (b_2 : ByteArray) (b_3 : Int) (b_4 : Int) (b_5 : Bool) (b_6 : Bool) (b_7 : Int) (b_8 : Int) (b_9 : Int) (b_10 : Int) (b_11 : Int) (b_12 : Int) (m9_ : LMv) (m10_ : (List TPiece)) (m11_ : LInt) (m12_ : (List TEnd)) (m13_ : LInt) (m14_ : LInt) (m15_ : LInt) (m16_ : (List TUndo)) : Option (Int × Int × TBoard) :=
  bif (ltI t29_ t28_) then (chk ((leI 0 t29_) && (ltI t29_ (m9_.length : Int))) <|
    (board_Board_Make' N ((b_2, (b_3, (b_4, (m10_, (m11_, (b_5, (b_6, (m12_, (b_7, (b_8, b_9)))))))))), ((m13_, ((m14_, m15_), (b_10, b_11))), (b_12, m16_))) (gD ((0 : Int), ((0 : Int), (0 : Int))) m9_ t29_)).bind fun y2 =>
    (self c_2 y2 (w64 (depth - 1))).bind fun y3 =>
    (board_Board_Undo' N y3.2.2).bind fun y4 =>
    bif (ltI y3.2.1 0) then (some (0, (y3.2.1, y4.2)))
    else r0 (w64 (n_ + y3.1)) t28_ (w64 (t29_ + 1)) y3.2.1 y4.2.1.1 y4.2.1.2.1 y4.2.1.2.2.1 y4.2.1.2.2.2.2.2.1 y4.2.1.2.2.2.2.2.2.1 y4.2.1.2.2.2.2.2.2.2.2.1 y4.2.1.2.2.2.2.2.2.2.2.2.1 y4.2.1.2.2.2.2.2.2.2.2.2.2 y4.2.2.1.2.2.1 y4.2.2.1.2.2.2 y4.2.2.2.1 m9_ y4.2.1.2.2.2.1 y4.2.1.2.2.2.2.1 y4.2.1.2.2.2.2.2.2.2.1 y4.2.2.1.1 y4.2.2.1.2.1.1 y4.2.2.1.2.1.2 y4.2.2.2.2)
  else some (n_, (c_2, ((b_2, (b_3, (b_4, (m10_, (m11_, (b_5, (b_6, (m12_, (b_7, (b_8, b_9)))))))))), ((m13_, ((m14_, m15_), (b_10, b_11))), (b_12, m16_)))))
def perft_counter_count''.L (N : Nat) (self : Int → TBoard → Int → Option (Int × Int × TBoard)) (c_ : Int) (b_ : TBoard) (depth : Int) : Nat → (Int → Int → Int → Int → ByteArray → Int → Int → Bool → Bool → Int → Int → Int → Int → Int → Int → LMv → (List TPiece) → LInt → (List TEnd) → LInt → LInt → LInt → (List TUndo) → Option (Int × Int × TBoard))
  | 0 => fun _ _ _ _ _ _ _ _ _ _ _ _ _ _ _ _ _ _ _ _ _ _ _ => none
  | n + 1 => fun n_ t28_ t29_ c_2 b_2 b_3 b_4 b_5 b_6 b_7 b_8 b_9 b_10 b_11 b_12 m9_ m10_ m11_ m12_ m13_ m14_ m15_ m16_ => perft_counter_count''.s0 N self c_ b_ depth (perft_counter_count''.L N self c_ b_ depth n) n_ t28_ t29_ c_2 b_2 b_3 b_4 b_5 b_6 b_7 b_8 b_9 b_10 b_11 b_12 m9_ m10_ m11_ m12_ m13_ m14_ m15_ m16_
def perft_counter_count''.l0 (N : Nat) (self : Int → TBoard → Int → Option (Int × Int × TBoard)) (c_ : Int) (b_ : TBoard) (depth : Int) (n : Nat) : Int → Int → Int → Int → ByteArray → Int → Int → Bool → Bool → Int → Int → Int → Int → Int → Int → LMv → (List TPiece) → LInt → (List TEnd) → LInt → LInt → LInt → (List TUndo) → Option (Int × Int × TBoard) := (perft_counter_count''.L N self c_ b_ depth n)
theorem perft_counter_count''.l0_s (N : Nat) (self : Int → TBoard → Int → Option (Int × Int × TBoard)) (c_ : Int) (b_ : TBoard) (depth : Int) (n : Nat) (n_ : Int) (t28_ : Int) (t29_ : Int) (c_2 : Int) (b_2 : ByteArray) (b_3 : Int) (b_4 : Int) (b_5 : Bool) (b_6 : Bool) (b_7 : Int) (b_8 : Int) (b_9 : Int) (b_10 : Int) (b_11 : Int) (b_12 : Int) (m9_ : LMv) (m10_ : (List TPiece)) (m11_ : LInt) (m12_ : (List TEnd)) (m13_ : LInt) (m14_ : LInt) (m15_ : LInt) (m16_ : (List TUndo)) : perft_counter_count''.l0 N self c_ b_ depth (n + 1) n_ t28_ t29_ c_2 b_2 b_3 b_4 b_5 b_6 b_7 b_8 b_9 b_10 b_11 b_12 m9_ m10_ m11_ m12_ m13_ m14_ m15_ m16_ = perft_counter_count''.s0 N self c_ b_ depth (perft_counter_count''.l0 N self c_ b_ depth n) n_ t28_ t29_ c_2 b_2 b_3 b_4 b_5 b_6 b_7 b_8 b_9 b_10 b_11 b_12 m9_ m10_ m11_ m12_ m13_ m14_ m15_ m16_ := rfl
def perft_counter_count'' : Nat → Int → TBoard → Int → Option (Int × Int × TBoard)
  | 0 => fun _ _ _ => none
  | N + 1 => fun c_ b_ depth => perft_counter_count''.e N (perft_counter_count'' N) (perft_counter_count''.l0 N (perft_counter_count'' N) c_ b_ depth N) c_ b_ depth
theorem perft_counter_count''_s (N : Nat) (c_ : Int) (b_ : TBoard) (depth : Int) : perft_counter_count'' (N + 1) c_ b_ depth = perft_counter_count''.e N (perft_counter_count'' N) (perft_counter_count''.l0 N (perft_counter_count'' N) c_ b_ depth N) c_ b_ depth := rfl
/-! ### f51: gamehall/perft.Tree -/
def perft_Tree.e (N : Nat) (r_ : TRules) (p_ : TPos) (depth : Int) : Option (Int × Int) :=
  (perft_check N r_ p_ depth).bind fun y1 =>
  oCase y1.1 (bif (!(eqI y1.2 0)) then (some (0, y1.2))
    else none) fun b2 =>
  bif (!(eqI y1.2 0)) then (some (0, y1.2))
  else (perft_counter_count'' N 50000 b2 depth).bind fun y3 =>
  bif (ltI y3.2.1 0) then (some (0, 17))
  else some ((w64 (50000 - y3.2.1)), 0)
def perft_Tree (N : Nat) (r_ : TRules) (p_ : TPos) (depth : Int) : Option (Int × Int) := perft_Tree.e N r_ p_ depth
/-! ### f65: gamehall/minimax.Check -/
def minimax_Check.e (N : Nat) (r_ : TRules) (p_ : TPos) (depth : Int) : Option Int :=
  (perft_Tree N r_ p_ depth).bind fun y1 =>
  some y1.2
def minimax_Check (N : Nat) (r_ : TRules) (p_ : TPos) (depth : Int) : Option Int := minimax_Check.e N r_ p_ depth
/-! ### f53: (*gamehall/board.Board).Turn -/
def board_Board_Turn.e (N : Nat) (b_ : TBoard) : Option Int :=
  some b_.2.1.2.2.1
def board_Board_Turn (N : Nat) (b_ : TBoard) : Option Int := board_Board_Turn.e N b_
/-! ### f107: gamehall/ends.Score -/
def ends_Score.e (N : Nat) (result : Int) (turn : Int) : Option Int :=
  (ends_wins N turn).bind fun y1 =>
  bif (eqI result y1) then some 1000
  else (ends_wins N (w64 (1 - turn))).bind fun y2 =>
  bif (eqI result y2) then (some (-1000))
  else some 0
def ends_Score (N : Nat) (result : Int) (turn : Int) : Option Int := ends_Score.e N result turn
/-! ### f108: gamehall/minimax.Nearer -/
def minimax_Nearer.e (N : Nat) (n_ : Int) : Option Int :=
  bif (ltI 0 n_) then (some (w64 (n_ - 1)))
  else bif (ltI n_ 0) then (some (w64 (n_ + 1)))
  else some 0
def minimax_Nearer (N : Nat) (n_ : Int) : Option Int := minimax_Nearer.e N n_
/-! ### f66: gamehall/minimax.Value -/
def minimax_Value'.e (N : Nat) (self : TBoard → Int → Option (Int × TBoard)) (r0 : Int → Int → Int → ByteArray → Int → Int → Bool → Bool → Int → Int → Int → Int → Int → Int → LMv → (List TPiece) → LInt → (List TEnd) → LInt → LInt → LInt → (List TUndo) → Option (Int × TBoard)) (b_ : TBoard) (depth : Int) : Option (Int × TBoard) :=
  (board_Board_Result N b_).bind fun y1 =>
  bif (!(eqI y1 0)) then ((board_Board_Turn N b_).bind fun y2 =>
    (ends_Score N y1 y2).bind fun y3 =>
    some (y3, b_))
  else bif (eqI depth 0) then (some (0, b_))
  else (board_Board_Moves N b_).bind fun y4 =>
  r0 (-1000) (y4.length : Int) 0 b_.1.1 b_.1.2.1 b_.1.2.2.1 b_.1.2.2.2.2.2.1 b_.1.2.2.2.2.2.2.1 b_.1.2.2.2.2.2.2.2.2.1 b_.1.2.2.2.2.2.2.2.2.2.1 b_.1.2.2.2.2.2.2.2.2.2.2 b_.2.1.2.2.1 b_.2.1.2.2.2 b_.2.2.1 y4 b_.1.2.2.2.1 b_.1.2.2.2.2.1 b_.1.2.2.2.2.2.2.2.1 b_.2.1.1 b_.2.1.2.1.1 b_.2.1.2.1.2 b_.2.2.2
def minimax_Value'.s0 (N : Nat) (self : TBoard → Int → Option (Int × TBoard)) (b_ : TBoard) (depth : Int) (r0 : Int → Int → Int → ByteArray → Int → Int → Bool → Bool → Int → Int → Int → Int → Int → Int → LMv → (List TPiece) → LInt → (List TEnd) → LInt → LInt → LInt → (List TUndo) → Option (Int × TBoard)) (best : Int) (t21_ : Int) (t22_ : Int) (b_2 : ByteArray) (b_3 : Int) (b_4 : Int) (b_5 : Bool) (b_6 : Bool) (b_7 : Int) (b_8 : Int) (b_9 : Int) (b_10 : Int) (b_11 : Int) (b_12 : Int) (m8_ : LMv) (m9_ : (List TPiece)) (m10_ : LInt) (m11_ : (List TEnd)) (m12_ : LInt) (m13_ : LInt) (m14_ : LInt) (m15_ : (List TUndo)) : Option (Int × TBoard) :=
  bif (ltI t22_ t21_) then (chk ((leI 0 t22_) && (ltI t22_ (m8_.length : Int))) <|
    (board_Board_Make' N ((b_2, (b_3, (b_4, (m9_, (m10_, (b_5, (b_6, (m11_, (b_7, (b_8, b_9)))))))))), ((m12_, ((m13_, m14_), (b_10, b_11))), (b_12, m15_))) (gD ((0 : Int), ((0 : Int), (0 : Int))) m8_ t22_)).bind fun y5 =>
    (self y5 (w64 (depth - 1))).bind fun y6 =>
    (minimax_Nearer N (w64 (0 - y6.1))).bind fun y7 =>
    (board_Board_Undo' N y6.2).bind fun y9 =>
    r0 (bif (ltI best y7) then y7 else best) t21_ (w64 (t22_ + 1)) y9.2.1.1 y9.2.1.2.1 y9.2.1.2.2.1 y9.2.1.2.2.2.2.2.1 y9.2.1.2.2.2.2.2.2.1 y9.2.1.2.2.2.2.2.2.2.2.1 y9.2.1.2.2.2.2.2.2.2.2.2.1 y9.2.1.2.2.2.2.2.2.2.2.2.2 y9.2.2.1.2.2.1 y9.2.2.1.2.2.2 y9.2.2.2.1 m8_ y9.2.1.2.2.2.1 y9.2.1.2.2.2.2.1 y9.2.1.2.2.2.2.2.2.2.1 y9.2.2.1.1 y9.2.2.1.2.1.1 y9.2.2.1.2.1.2 y9.2.2.2.2)
  else some (best, ((b_2, (b_3, (b_4, (m9_, (m10_, (b_5, (b_6, (m11_, (b_7, (b_8, b_9)))))))))), ((m12_, ((m13_, m14_), (b_10, b_11))), (b_12, m15_))))
def minimax_Value'.L (N : Nat) (self : TBoard → Int → Option (Int × TBoard)) (b_ : TBoard) (depth : Int) : Nat → (Int → Int → Int → ByteArray → Int → Int → Bool → Bool → Int → Int → Int → Int → Int → Int → LMv → (List TPiece) → LInt → (List TEnd) → LInt → LInt → LInt → (List TUndo) → Option (Int × TBoard))
  | 0 => fun _ _ _ _ _ _ _ _ _ _ _ _ _ _ _ _ _ _ _ _ _ _ => none
  | n + 1 => fun best t21_ t22_ b_2 b_3 b_4 b_5 b_6 b_7 b_8 b_9 b_10 b_11 b_12 m8_ m9_ m10_ m11_ m12_ m13_ m14_ m15_ => minimax_Value'.s0 N self b_ depth (minimax_Value'.L N self b_ depth n) best t21_ t22_ b_2 b_3 b_4 b_5 b_6 b_7 b_8 b_9 b_10 b_11 b_12 m8_ m9_ m10_ m11_ m12_ m13_ m14_ m15_
def minimax_Value'.l0 (N : Nat) (self : TBoard → Int → Option (Int × TBoard)) (b_ : TBoard) (depth : Int) (n : Nat) : Int → Int → Int → ByteArray → Int → Int → Bool → Bool → Int → Int → Int → Int → Int → Int → LMv → (List TPiece) → LInt → (List TEnd) → LInt → LInt → LInt → (List TUndo) → Option (Int × TBoard) := (minimax_Value'.L N self b_ depth n)
theorem minimax_Value'.l0_s (N : Nat) (self : TBoard → Int → Option (Int × TBoard)) (b_ : TBoard) (depth : Int) (n : Nat) (best : Int) (t21_ : Int) (t22_ : Int) (b_2 : ByteArray) (b_3 : Int) (b_4 : Int) (b_5 : Bool) (b_6 : Bool) (b_7 : Int) (b_8 : Int) (b_9 : Int) (b_10 : Int) (b_11 : Int) (b_12 : Int) (m8_ : LMv) (m9_ : (List TPiece)) (m10_ : LInt) (m11_ : (List TEnd)) (m12_ : LInt) (m13_ : LInt) (m14_ : LInt) (m15_ : (List TUndo)) : minimax_Value'.l0 N self b_ depth (n + 1) best t21_ t22_ b_2 b_3 b_4 b_5 b_6 b_7 b_8 b_9 b_10 b_11 b_12 m8_ m9_ m10_ m11_ m12_ m13_ m14_ m15_ = minimax_Value'.s0 N self b_ depth (minimax_Value'.l0 N self b_ depth n) best t21_ t22_ b_2 b_3 b_4 b_5 b_6 b_7 b_8 b_9 b_10 b_11 b_12 m8_ m9_ m10_ m11_ m12_ m13_ m14_ m15_ := rfl
def minimax_Value' : Nat → TBoard → Int → Option (Int × TBoard)
  | 0 => fun _ _ => none
  | N + 1 => fun b_ depth => minimax_Value'.e N (minimax_Value' N) (minimax_Value'.l0 N (minimax_Value' N) b_ depth N) b_ depth
theorem minimax_Value'_s (N : Nat) (b_ : TBoard) (depth : Int) : minimax_Value' (N + 1) b_ depth = minimax_Value'.e N (minimax_Value' N) (minimax_Value'.l0 N (minimax_Value' N) b_ depth N) b_ depth := rfl
/-! ### f30: gamehall/minimax.Score -/
def minimax_Score.e (N : Nat) (r_ : TRules) (p_ : TPos) (depth : Int) : Option (Int × Int) :=
  (minimax_Check N r_ p_ depth).bind fun y1 =>
  bif (!(eqI y1 0)) then (some (0, y1))
  else (board_New N r_ p_).bind fun y2 =>
  oCase y2.1 none fun b3 =>
  (minimax_Value' N b3 depth).bind fun y4 =>
  some (y4.1, 0)
def minimax_Score (N : Nat) (r_ : TRules) (p_ : TPos) (depth : Int) : Option (Int × Int) := minimax_Score.e N r_ p_ depth
/-! ### f90: gamehall/minimax.best -/
def minimax_best'.e (N : Nat) (r0 : Int → Int → Int → ByteArray → Int → Int → Bool → Bool → Int → Int → Int → Int → Int → Int → Int → Int → Int → LMv → (List TPiece) → LInt → (List TEnd) → LInt → LInt → LInt → (List TUndo) → Option (TMv × Int × TBoard)) (b_ : TBoard) (depth : Int) : Option (TMv × Int × TBoard) :=
  (board_Board_Moves N b_).bind fun y1 =>
  r0 (-1001) (y1.length : Int) 0 b_.1.1 b_.1.2.1 b_.1.2.2.1 b_.1.2.2.2.2.2.1 b_.1.2.2.2.2.2.2.1 b_.1.2.2.2.2.2.2.2.2.1 b_.1.2.2.2.2.2.2.2.2.2.1 b_.1.2.2.2.2.2.2.2.2.2.2 b_.2.1.2.2.1 b_.2.1.2.2.2 b_.2.2.1 0 0 0 y1 b_.1.2.2.2.1 b_.1.2.2.2.2.1 b_.1.2.2.2.2.2.2.2.1 b_.2.1.1 b_.2.1.2.1.1 b_.2.1.2.1.2 b_.2.2.2
def minimax_best'.s0 (N : Nat) (b_ : TBoard) (depth : Int) (r0 : Int → Int → Int → ByteArray → Int → Int → Bool → Bool → Int → Int → Int → Int → Int → Int → Int → Int → Int → LMv → (List TPiece) → LInt → (List TEnd) → LInt → LInt → LInt → (List TUndo) → Option (TMv × Int × TBoard)) (most : Int) (t13_ : Int) (t14_ : Int) (b_2 : ByteArray) (b_3 : Int) (b_4 : Int) (b_5 : Bool) (b_6 : Bool) (b_7 : Int) (b_8 : Int) (b_9 : Int) (b_10 : Int) (b_11 : Int) (b_12 : Int) (out : Int) (out2 : Int) (out3 : Int) (m10_ : LMv) (m11_ : (List TPiece)) (m12_ : LInt) (m13_ : (List TEnd)) (m14_ : LInt) (m15_ : LInt) (m16_ : LInt) (m17_ : (List TUndo)) : Option (TMv × Int × TBoard) :=
  bif (ltI t14_ t13_) then (chk ((leI 0 t14_) && (ltI t14_ (m10_.length : Int))) <|
    (board_Board_Make' N ((b_2, (b_3, (b_4, (m11_, (m12_, (b_5, (b_6, (m13_, (b_7, (b_8, b_9)))))))))), ((m14_, ((m15_, m16_), (b_10, b_11))), (b_12, m17_))) (gD ((0 : Int), ((0 : Int), (0 : Int))) m10_ t14_)).bind fun y2 =>
    (minimax_Value' N y2 (w64 (depth - 1))).bind fun y3 =>
    (minimax_Nearer N (w64 (0 - y3.1))).bind fun y4 =>
    (board_Board_Undo' N y3.2).bind fun y5 =>
    bif (ltI most y4) then (r0 y4 t13_ (w64 (t14_ + 1)) y5.2.1.1 y5.2.1.2.1 y5.2.1.2.2.1 y5.2.1.2.2.2.2.2.1 y5.2.1.2.2.2.2.2.2.1 y5.2.1.2.2.2.2.2.2.2.2.1 y5.2.1.2.2.2.2.2.2.2.2.2.1 y5.2.1.2.2.2.2.2.2.2.2.2.2 y5.2.2.1.2.2.1 y5.2.2.1.2.2.2 y5.2.2.2.1 (gD ((0 : Int), ((0 : Int), (0 : Int))) m10_ t14_).1 (gD ((0 : Int), ((0 : Int), (0 : Int))) m10_ t14_).2.1 (gD ((0 : Int), ((0 : Int), (0 : Int))) m10_ t14_).2.2 m10_ y5.2.1.2.2.2.1 y5.2.1.2.2.2.2.1 y5.2.1.2.2.2.2.2.2.2.1 y5.2.2.1.1 y5.2.2.1.2.1.1 y5.2.2.1.2.1.2 y5.2.2.2.2)
    else r0 most t13_ (w64 (t14_ + 1)) y5.2.1.1 y5.2.1.2.1 y5.2.1.2.2.1 y5.2.1.2.2.2.2.2.1 y5.2.1.2.2.2.2.2.2.1 y5.2.1.2.2.2.2.2.2.2.2.1 y5.2.1.2.2.2.2.2.2.2.2.2.1 y5.2.1.2.2.2.2.2.2.2.2.2.2 y5.2.2.1.2.2.1 y5.2.2.1.2.2.2 y5.2.2.2.1 out out2 out3 m10_ y5.2.1.2.2.2.1 y5.2.1.2.2.2.2.1 y5.2.1.2.2.2.2.2.2.2.1 y5.2.2.1.1 y5.2.2.1.2.1.1 y5.2.2.1.2.1.2 y5.2.2.2.2)
  else some ((out, (out2, out3)), (most, ((b_2, (b_3, (b_4, (m11_, (m12_, (b_5, (b_6, (m13_, (b_7, (b_8, b_9)))))))))), ((m14_, ((m15_, m16_), (b_10, b_11))), (b_12, m17_)))))
def minimax_best'.L (N : Nat) (b_ : TBoard) (depth : Int) : Nat → (Int → Int → Int → ByteArray → Int → Int → Bool → Bool → Int → Int → Int → Int → Int → Int → Int → Int → Int → LMv → (List TPiece) → LInt → (List TEnd) → LInt → LInt → LInt → (List TUndo) → Option (TMv × Int × TBoard))
  | 0 => fun _ _ _ _ _ _ _ _ _ _ _ _ _ _ _ _ _ _ _ _ _ _ _ _ _ => none
  | n + 1 => fun most t13_ t14_ b_2 b_3 b_4 b_5 b_6 b_7 b_8 b_9 b_10 b_11 b_12 out out2 out3 m10_ m11_ m12_ m13_ m14_ m15_ m16_ m17_ => minimax_best'.s0 N b_ depth (minimax_best'.L N b_ depth n) most t13_ t14_ b_2 b_3 b_4 b_5 b_6 b_7 b_8 b_9 b_10 b_11 b_12 out out2 out3 m10_ m11_ m12_ m13_ m14_ m15_ m16_ m17_
def minimax_best'.l0 (N : Nat) (b_ : TBoard) (depth : Int) (n : Nat) : Int → Int → Int → ByteArray → Int → Int → Bool → Bool → Int → Int → Int → Int → Int → Int → Int → Int → Int → LMv → (List TPiece) → LInt → (List TEnd) → LInt → LInt → LInt → (List TUndo) → Option (TMv × Int × TBoard) := (minimax_best'.L N b_ depth n)
theorem minimax_best'.l0_s (N : Nat) (b_ : TBoard) (depth : Int) (n : Nat) (most : Int) (t13_ : Int) (t14_ : Int) (b_2 : ByteArray) (b_3 : Int) (b_4 : Int) (b_5 : Bool) (b_6 : Bool) (b_7 : Int) (b_8 : Int) (b_9 : Int) (b_10 : Int) (b_11 : Int) (b_12 : Int) (out : Int) (out2 : Int) (out3 : Int) (m10_ : LMv) (m11_ : (List TPiece)) (m12_ : LInt) (m13_ : (List TEnd)) (m14_ : LInt) (m15_ : LInt) (m16_ : LInt) (m17_ : (List TUndo)) : minimax_best'.l0 N b_ depth (n + 1) most t13_ t14_ b_2 b_3 b_4 b_5 b_6 b_7 b_8 b_9 b_10 b_11 b_12 out out2 out3 m10_ m11_ m12_ m13_ m14_ m15_ m16_ m17_ = minimax_best'.s0 N b_ depth (minimax_best'.l0 N b_ depth n) most t13_ t14_ b_2 b_3 b_4 b_5 b_6 b_7 b_8 b_9 b_10 b_11 b_12 out out2 out3 m10_ m11_ m12_ m13_ m14_ m15_ m16_ m17_ := rfl
def minimax_best' (N : Nat) (b_ : TBoard) (depth : Int) : Option (TMv × Int × TBoard) := minimax_best'.e N (minimax_best'.l0 N b_ depth N) b_ depth
/-! ### f50: gamehall/minimax.Best -/
def minimax_Best.e (N : Nat) (r_ : TRules) (p_ : TPos) (depth : Int) : Option (TMv × Int × Int) :=
  (minimax_Check N r_ p_ depth).bind fun y1 =>
  bif (!(eqI y1 0)) then (some ((0, (0, 0)), (0, y1)))
  else (board_New N r_ p_).bind fun y2 =>
  oCase y2.1 (bif (eqI depth 0) then (some ((0, (0, 0)), (0, 1)))
    else none) fun b3 =>
  bif (eqI depth 0) then (some ((0, (0, 0)), (0, 1)))
  else (board_Board_Result N b3).bind fun y4 =>
  bif (!(eqI y4 0)) then (some ((0, (0, 0)), (0, 14)))
  else (minimax_best' N b3 depth).bind fun y5 =>
  some (y5.1, (y5.2.1, 0))
def minimax_Best (N : Nat) (r_ : TRules) (p_ : TPos) (depth : Int) : Option (TMv × Int × Int) := minimax_Best.e N r_ p_ depth
/-! ### f74: gamehall/gamehallkeep1.fine$1 -/
def gamehallkeep1_fine_1.e (N : Nat) (e_ : Int) : Option Bool :=
  some (!(eqI e_ 0))
def gamehallkeep1_fine_1 (N : Nat) (e_ : Int) : Option Bool := gamehallkeep1_fine_1.e N e_
/-! ### f115: slices.IndexFunc[[]gamehall/api.Errno,gamehall/api.Errno] -/
def slices_IndexFunc_api_Errno_api_Errno.e (N : Nat) (r0 : Int → Option Int) (s_ : LInt) : Option Int :=
  r0 0
def slices_IndexFunc_api_Errno_api_Errno.s0 (N : Nat) (s_ : LInt) (r0 : Int → Option Int) (t8_ : Int) : Option Int :=
  bif (ltI t8_ (s_.length : Int)) then (chk ((leI 0 t8_) && (ltI t8_ (s_.length : Int))) <|
    (gamehallkeep1_fine_1 N (gD (0 : Int) s_ t8_)).bind fun y2 =>
    bif y2 then some t8_
    else r0 (w64 (t8_ + 1)))
  else some (-1)
def slices_IndexFunc_api_Errno_api_Errno.L (N : Nat) (s_ : LInt) : Nat → (Int → Option Int)
  | 0 => fun _ => none
  | n + 1 => fun t8_ => slices_IndexFunc_api_Errno_api_Errno.s0 N s_ (slices_IndexFunc_api_Errno_api_Errno.L N s_ n) t8_
def slices_IndexFunc_api_Errno_api_Errno.l0 (N : Nat) (s_ : LInt) (n : Nat) : Int → Option Int := (slices_IndexFunc_api_Errno_api_Errno.L N s_ n)
theorem slices_IndexFunc_api_Errno_api_Errno.l0_s (N : Nat) (s_ : LInt) (n : Nat) (t8_ : Int) : slices_IndexFunc_api_Errno_api_Errno.l0 N s_ (n + 1) t8_ = slices_IndexFunc_api_Errno_api_Errno.s0 N s_ (slices_IndexFunc_api_Errno_api_Errno.l0 N s_ n) t8_ := rfl
def slices_IndexFunc_api_Errno_api_Errno (N : Nat) (s_ : LInt) : Option Int := slices_IndexFunc_api_Errno_api_Errno.e N (slices_IndexFunc_api_Errno_api_Errno.l0 N s_ N) s_
/-! ### f73: slices.ContainsFunc[[]gamehall/api.Errno,gamehall/api.Errno] -/
def slices_ContainsFunc_api_Errno_api_Errno.e (N : Nat) (s_ : LInt) : Option Bool :=
  (slices_IndexFunc_api_Errno_api_Errno N s_).bind fun y1 =>
  some (leI 0 y1)
def slices_ContainsFunc_api_Errno_api_Errno (N : Nat) (s_ : LInt) : Option Bool := slices_ContainsFunc_api_Errno_api_Errno.e N s_
/-! ### f35: gamehall/gamehallkeep1.fine -/
def gamehallkeep1_fine.e (N : Nat) (l_ : LInt) : Option Bool :=
  (slices_ContainsFunc_api_Errno_api_Errno N l_).bind fun y1 =>
  some (!y1)
def gamehallkeep1_fine (N : Nat) (l_ : LInt) : Option Bool := gamehallkeep1_fine.e N l_
/-! ### f48: gamehall/gamehallkeep1.put -/
def gamehallkeep1_put.e (N : Nat) (s_ : Int) : Option TMv :=
  some ((-1), (s_, 0))
def gamehallkeep1_put (N : Nat) (s_ : Int) : Option TMv := gamehallkeep1_put.e N s_
/-! ### f22: gamehall/gamehallkeep1.scored -/
def gamehallkeep1_scored.e (N : Nat) : Option Bool :=
  (gamehallkeep1_three N).bind fun y1 =>
  (gamehallkeep1_near N).bind fun y2 =>
  (minimax_Score N y1 y2 1).bind fun y3 =>
  (gamehallkeep1_three N).bind fun y4 =>
  (gamehallkeep1_near N).bind fun y5 =>
  (minimax_Best N y4 y5 2).bind fun y6 =>
  (gamehallkeep1_fine N [y3.2, y6.2.2]).bind fun y7 =>
  bif y7 then (bif (eqI y3.1 999) then ((gamehallkeep1_put N 2).bind fun y8 =>
      bif ((eqI y6.1.1 y8.1) && ((eqI y6.1.2.1 y8.2.1) && ((eqI y6.1.2.2 y8.2.2) && true))) then (some (eqI y6.2.1 999))
      else some false)
    else some false)
  else some false
def gamehallkeep1_scored (N : Nat) : Option Bool := gamehallkeep1_scored.e N
/-! ### f26: slices.Clone[[]gamehall/api.RulePiece,gamehall/api.RulePiece] -/
def slices_Clone_api_RulePiece_api_RulePiece.e (N : Nat) (s_ : (List TPiece)) : Option (List TPiece) :=
  chk (capOk 48 (([] : List TPiece).length + s_.length)) <|
  some ([] ++ s_)
def slices_Clone_api_RulePiece_api_RulePiece (N : Nat) (s_ : (List TPiece)) : Option (List TPiece) := slices_Clone_api_RulePiece_api_RulePiece.e N s_
/-! ### f27: slices.Clone[[]gamehall/api.RuleWay,gamehall/api.RuleWay] -/
def slices_Clone_api_RuleWay_api_RuleWay.e (N : Nat) (s_ : (List TWay)) : Option (List TWay) :=
  chk (capOk 32 (([] : List TWay).length + s_.length)) <|
  some ([] ++ s_)
def slices_Clone_api_RuleWay_api_RuleWay (N : Nat) (s_ : (List TWay)) : Option (List TWay) := slices_Clone_api_RuleWay_api_RuleWay.e N s_
/-! ### f28: gamehall/gamehallkeep1.heavy -/
def gamehallkeep1_heavy.e (N : Nat) (r_ : TRules) (p_ : TPos) (depth : Int) : Option Bool :=
  (perft_Tree N r_ p_ depth).bind fun y1 =>
  bif (eqI y1.2 17) then some true
  else bif (ltI 3000 y1.1) then some true
  else some (ltI 20 (p_.1.length : Int))
def gamehallkeep1_heavy (N : Nat) (r_ : TRules) (p_ : TPos) (depth : Int) : Option Bool := gamehallkeep1_heavy.e N r_ p_ depth
/-! ### f6: gamehall/gamehallkeep1.SymmScores -/
def gamehallkeep1_SymmScores.e (N : Nat) (r0 : Int → Int → (List TPiece) → Option Bool) (r1 : Int → Int → Int → Int → Int → (List TPiece) → (List TWay) → (List TWay) → Option Bool) (r_ : TRules) (p_ : TPos) (depth : Int) : Option Bool :=
  (gamehallkeep1_moved N).bind fun y1 =>
  bif (!y1) then some false
  else (gamehallkeep1_scored N).bind fun y2 =>
  bif (!y2) then some false
  else (gamehallkeep1_three N).bind fun y3 =>
  (gamehallkeep1_near N).bind fun y4 =>
  (place_Check N y3 y4).bind fun y5 =>
  bif (!(eqI y5 0)) then some false
  else (place_Check N r_ p_).bind fun y6 =>
  bif (!(eqI y6 0)) then some true
  else (slices_Clone_api_RulePiece_api_RulePiece N r_.2.2.2.1).bind fun y7 =>
  r0 (y7.length : Int) 0 y7
def gamehallkeep1_SymmScores.s0 (N : Nat) (r_ : TRules) (p_ : TPos) (depth : Int) (r0 : Int → Int → (List TPiece) → Option Bool) (r1 : Int → Int → Int → Int → Int → (List TPiece) → (List TWay) → (List TWay) → Option Bool) (t39_ : Int) (t40_ : Int) (pieces : (List TPiece)) : Option Bool :=
  bif (ltI t40_ t39_) then (chk ((leI 0 t40_) && (ltI t40_ (pieces.length : Int))) <|
    chk ((leI 0 t40_) && (ltI t40_ (pieces.length : Int))) <|
    let v8 : Int := ((gD ((0 : Int), ((0 : Int), ((0 : Int), ([] : (List TWay))))) pieces t40_).2.2.2.length : Int)
    let v9 : Int := (bif (ltI 8 v8) then 8 else v8)
    chk (true && ((leI 0 v9) && (leI v9 ((gD ((0 : Int), ((0 : Int), ((0 : Int), ([] : (List TWay))))) pieces t40_).2.2.2.length : Int)))) <|
    (slices_Clone_api_RuleWay_api_RuleWay N (((gD ((0 : Int), ((0 : Int), ((0 : Int), ([] : (List TWay))))) pieces t40_).2.2.2.take v9.toNat).drop (0 : Int).toNat)).bind fun y10 =>
    (slices_Clone_api_RuleWay_api_RuleWay N y10).bind fun y11 =>
    r1 t40_ t39_ t40_ (y11.length : Int) 0 pieces y10 y11)
  else (gamehallkeep1_heavy N (r_.1, (r_.2.1, (r_.2.2.1, (pieces, r_.2.2.2.2)))) p_ depth).bind fun y12 =>
  bif y12 then some true
  else (symm_Apply N r_.2.1 r_.2.2.1 1 p_.1).bind fun y13 =>
  (minimax_Score N (r_.1, (r_.2.1, (r_.2.2.1, (pieces, r_.2.2.2.2)))) p_ depth).bind fun y14 =>
  (minimax_Score N (r_.1, (r_.2.1, (r_.2.2.1, (pieces, r_.2.2.2.2)))) (y13.1, p_.2) depth).bind fun y15 =>
  bif (eqI y13.2 0) then (bif (eqI y14.2 y15.2) then (some (eqI y14.1 y15.1))
    else some false)
  else some false
def gamehallkeep1_SymmScores.s1 (N : Nat) (r_ : TRules) (p_ : TPos) (depth : Int) (r0 : Int → Int → (List TPiece) → Option Bool) (r1 : Int → Int → Int → Int → Int → (List TPiece) → (List TWay) → (List TWay) → Option Bool) (i_ : Int) (t39_ : Int) (t40_ : Int) (t59_ : Int) (t60_ : Int) (pieces : (List TPiece)) (ways : (List TWay)) (m10_ : (List TWay)) : Option Bool :=
  bif (ltI t60_ t59_) then (chk ((leI 0 t60_) && (ltI t60_ (m10_.length : Int))) <|
    let v17 : List TWay := [((w64 (0 - (gD ((0 : Int), ((0 : Int), ((0 : Int), (0 : Int)))) m10_ t60_).1)), (gD ((0 : Int), ((0 : Int), ((0 : Int), (0 : Int)))) m10_ t60_).2)]
    chk (capOk 32 (ways.length + v17.length)) <|
    r1 i_ t39_ t40_ t59_ (w64 (t60_ + 1)) pieces (ways ++ v17) m10_)
  else chk ((leI 0 i_) && (ltI i_ (pieces.length : Int))) <|
  r0 t39_ (w64 (t40_ + 1)) (pieces.set i_.toNat ((gD ((0 : Int), ((0 : Int), ((0 : Int), ([] : (List TWay))))) pieces i_).1, ((gD ((0 : Int), ((0 : Int), ((0 : Int), ([] : (List TWay))))) pieces i_).2.1, ((gD ((0 : Int), ((0 : Int), ((0 : Int), ([] : (List TWay))))) pieces i_).2.2.1, ways))))
def gamehallkeep1_SymmScores.L (N : Nat) (r_ : TRules) (p_ : TPos) (depth : Int) : Nat → (Int → Int → (List TPiece) → Option Bool) × (Int → Int → Int → Int → Int → (List TPiece) → (List TWay) → (List TWay) → Option Bool)
  | 0 => (fun _ _ _ => none, fun _ _ _ _ _ _ _ _ => none)
  | n + 1 => (fun t39_ t40_ pieces => gamehallkeep1_SymmScores.s0 N r_ p_ depth (gamehallkeep1_SymmScores.L N r_ p_ depth n).1 (gamehallkeep1_SymmScores.L N r_ p_ depth n).2 t39_ t40_ pieces, fun i_ t39_ t40_ t59_ t60_ pieces ways m10_ => gamehallkeep1_SymmScores.s1 N r_ p_ depth (gamehallkeep1_SymmScores.L N r_ p_ depth n).1 (gamehallkeep1_SymmScores.L N r_ p_ depth n).2 i_ t39_ t40_ t59_ t60_ pieces ways m10_)
def gamehallkeep1_SymmScores.l0 (N : Nat) (r_ : TRules) (p_ : TPos) (depth : Int) (n : Nat) : Int → Int → (List TPiece) → Option Bool := (gamehallkeep1_SymmScores.L N r_ p_ depth n).1
def gamehallkeep1_SymmScores.l1 (N : Nat) (r_ : TRules) (p_ : TPos) (depth : Int) (n : Nat) : Int → Int → Int → Int → Int → (List TPiece) → (List TWay) → (List TWay) → Option Bool := (gamehallkeep1_SymmScores.L N r_ p_ depth n).2
theorem gamehallkeep1_SymmScores.l0_s (N : Nat) (r_ : TRules) (p_ : TPos) (depth : Int) (n : Nat) (t39_ : Int) (t40_ : Int) (pieces : (List TPiece)) : gamehallkeep1_SymmScores.l0 N r_ p_ depth (n + 1) t39_ t40_ pieces = gamehallkeep1_SymmScores.s0 N r_ p_ depth (gamehallkeep1_SymmScores.l0 N r_ p_ depth n) (gamehallkeep1_SymmScores.l1 N r_ p_ depth n) t39_ t40_ pieces := rfl
theorem gamehallkeep1_SymmScores.l1_s (N : Nat) (r_ : TRules) (p_ : TPos) (depth : Int) (n : Nat) (i_ : Int) (t39_ : Int) (t40_ : Int) (t59_ : Int) (t60_ : Int) (pieces : (List TPiece)) (ways : (List TWay)) (m10_ : (List TWay)) : gamehallkeep1_SymmScores.l1 N r_ p_ depth (n + 1) i_ t39_ t40_ t59_ t60_ pieces ways m10_ = gamehallkeep1_SymmScores.s1 N r_ p_ depth (gamehallkeep1_SymmScores.l0 N r_ p_ depth n) (gamehallkeep1_SymmScores.l1 N r_ p_ depth n) i_ t39_ t40_ t59_ t60_ pieces ways m10_ := rfl
def gamehallkeep1_SymmScores (N : Nat) (r_ : TRules) (p_ : TPos) (depth : Int) : Option Bool := gamehallkeep1_SymmScores.e N (gamehallkeep1_SymmScores.l0 N r_ p_ depth N) (gamehallkeep1_SymmScores.l1 N r_ p_ depth N) r_ p_ depth
end
end Go.Proofs.Ytnckilklmkpooaa.Am
