/- PRINTED by gen.py: what the functions compute, as plain Lean functions with fuel. -/
import Derived.Test.YtnckilklmkpooaaFnd
set_option linter.unusedVariables false
set_option linter.unusedSimpArgs false
namespace Go.Proofs.Ytnckilklmkpooaa.Am
open Go
/-! ### f92: (*gamehall/perft.counter).count -/
def perft_counter_count''.e (N : Nat) (self : Int → TBoard → Int → Option (Int × Int × TBoard)) (r0 : Int → Int → Int → Int → ByteArray → Int → Int → Bool → Bool → Int → Int → Int → Int → Int → Int → LMv → (List TPiece) → LInt → (List TEnd) → LInt → LInt → LInt → (List TUndo) → Option (Int × Int × TBoard)) (c_ : Int) (b_ : TBoard) (depth : Int) : Option (Int × Int × TBoard) :=
  bif (ltI (w64 (c_ - 1)) 0) then (some (1, ((w64 (c_ - 1)), b_)))
  else bif (eqI depth 0) then (some (1, ((w64 (c_ - 1)), b_)))
  else (board_Board_Moves N b_).bind fun y1 =>
  r0 0 (y1.length : Int) 0 (w64 (c_ - 1)) b_.1.1 b_.1.2.1 b_.1.2.2.1 b_.1.2.2.2.2.2.1 b_.1.2.2.2.2.2.2.1 b_.1.2.2.2.2.2.2.2.2.1 b_.1.2.2.2.2.2.2.2.2.2.1 b_.1.2.2.2.2.2.2.2.2.2.2 b_.2.1.2.2.1 b_.2.1.2.2.2 b_.2.2.1 y1 b_.1.2.2.2.1 b_.1.2.2.2.2.1 b_.1.2.2.2.2.2.2.2.1 b_.2.1.1 b_.2.1.2.1.1 b_.2.1.2.1.2 b_.2.2.2
def perft_counter_count''.s0 (N : Nat) (self : Int → TBoard → Int → Option (Int × Int × TBoard)) (c_ : Int) (b_ : TBoard) (depth : Int) (r0 : Int → Int → Int → Int → ByteArray → Int → Int → Bool → Bool → Int → Int → Int → Int → Int → Int → LMv → (List TPiece) → LInt → (List TEnd) → LInt → LInt → LInt → (List TUndo) → Option (Int × Int × TBoard)) (n_ : Int) (t28_ : Int) (t29_ : Int) (c_2 : Int) (b_2 : ByteArray) (b_3 : Int) (b_4 : Int) (b_5 : Bool) (b_6 : Bool) (b_7 : Int) (b_8 : Int) (b_9 : Int) (b_10 : Int) (b_11 : Int) (b_12 : Int) (m9_ : LMv) (m10_ : (List TPiece)) (m11_ : LInt) (m12_ : (List TEnd)) (m13_ : LInt) (m14_ : LInt) (m15_ : LInt) (m16_ : (List TUndo)) : Option (Int × Int × TBoard) :=
  bif (ltI t29_ t28_) then (chk ((leI 0 t29_) && (ltI t29_ (m9_.length : Int))) <|
    (board_Board_Make' N ((b_2, (b_3, (b_4, (m10_, (m11_, (b_5, (b_6, (m12_, (b_7, (b_8, b_9)))))))))), ((m13_, ((m14_, m15_), (b_10, b_11))), (b_12, m16_))) (gD ((0 : Int), ((0 : Int), (0 : Int))) m9_ t29_)).bind fun y2 =>
    (self c_2 y2 (w64 (depth - 1))).bind fun y3 =>
    (board_Board_Undo' N y3.2.2).bind fun y4 =>
    bif (ltI y3.2.1 0) then (some (0, (y3.2.1, y4.2)))
    else r0 (w64 (n_ + y3.1)) t28_ (w64 (t29_ + 1)) y3.2.1 y4.2.1.1 y4.2.1.2.1 y4.2.1.2.2.1 y4.2.1.2.2.2.2.2.1 y4.2.1.2.2.2.2.2.2.1 y4.2.1.2.2.2.2.2.2.2.2.1 y4.2.1.2.2.2.2.2.2.2.2.2.1 y4.2.1.2.2.2.2.2.2.2.2.2.2 y4.2.2.1.2.2.1 y4.2.2.1.2.2.2 y4.2.2.2.1 m9_ y4.2.1.2.2.2.1 y4.2.1.2.2.2.2.1 y4.2.1.2.2.2.2.2.2.2.1 y4.2.2.1.1 y4.2.2.1.2.1.1 y4.2.2.1.2.1.2 y4.2.2.2.2)
  else some (n_, (c_2, ((b_2, (b_3, (b_4, (m10_, (m11_, (b_5, (b_6, (m12_, (b_7, (b_8, b_9)))))))))), ((m13_, ((m14_, m15_), (b_10, b_11))), (b_12, m16_)))))
def perft_counter_count''.L (N : Nat) (self : Int → TBoard → Int → Option (Int × Int × TBoard)) (c_ : Int) (b_ : TBoard) (depth : Int) : Nat → (Int → Int → Int → Int → ByteArray → Int → Int → Bool → Bool → Int → Int → Int → Int → Int → Int → LMv → (List TPiece) → LInt → (List TEnd) → LInt → LInt → LInt → (List TUndo) → Option (Int × Int × TBoard))
  | 0 => fun _ _ _ _ _ _ _ _ _ _ _ _ _ _ _ _ _ _ _ _ _ _ _ => none
  | n + 1 => fun n_ t28_ t29_ c_2 b_2 b_3 b_4 b_5 b_6 b_7 b_8 b_9 b_10 b_11 b_12 m9_ m10_ m11_ m12_ m13_ m14_ m15_ m16_ => perft_counter_count''.s0 N self c_ b_ depth (perft_counter_count''.L N self c_ b_ depth n) n_ t28_ t29_ c_2 b_2 b_3 b_4 b_5 b_6 b_7 b_8 b_9 b_10 b_11 b_12 m9_ m10_ m11_ m12_ m13_ m14_ m15_ m16_
def perft_counter_count''.l0 (N : Nat) (self : Int → TBoard → Int → Option (Int × Int × TBoard)) (c_ : Int) (b_ : TBoard) (depth : Int) (n : Nat) : Int → Int → Int → Int → ByteArray → Int → Int → Bool → Bool → Int → Int → Int → Int → Int → Int → LMv → (List TPiece) → LInt → (List TEnd) → LInt → LInt → LInt → (List TUndo) → Option (Int × Int × TBoard) := (perft_counter_count''.L N self c_ b_ depth n)
theorem perft_counter_count''.l0_s (N : Nat) (self : Int → TBoard → Int → Option (Int × Int × TBoard)) (c_ : Int) (b_ : TBoard) (depth : Int) (n : Nat) (n_ : Int) (t28_ : Int) (t29_ : Int) (c_2 : Int) (b_2 : ByteArray) (b_3 : Int) (b_4 : Int) (b_5 : Bool) (b_6 : Bool) (b_7 : Int) (b_8 : Int) (b_9 : Int) (b_10 : Int) (b_11 : Int) (b_12 : Int) (m9_ : LMv) (m10_ : (List TPiece)) (m11_ : LInt) (m12_ : (List TEnd)) (m13_ : LInt) (m14_ : LInt) (m15_ : LInt) (m16_ : (List TUndo)) : perft_counter_count''.l0 N self c_ b_ depth (n + 1) n_ t28_ t29_ c_2 b_2 b_3 b_4 b_5 b_6 b_7 b_8 b_9 b_10 b_11 b_12 m9_ m10_ m11_ m12_ m13_ m14_ m15_ m16_ = perft_counter_count''.s0 N self c_ b_ depth (perft_counter_count''.l0 N self c_ b_ depth n) n_ t28_ t29_ c_2 b_2 b_3 b_4 b_5 b_6 b_7 b_8 b_9 b_10 b_11 b_12 m9_ m10_ m11_ m12_ m13_ m14_ m15_ m16_ := rfl
def perft_counter_count'' : Nat → Int → TBoard → Int → Option (Int × Int × TBoard)
  | 0 => fun _ _ _ => none
  | N + 1 => fun c_ b_ depth => perft_counter_count''.e N (perft_counter_count'' N) (perft_counter_count''.l0 N (perft_counter_count'' N) c_ b_ depth N) c_ b_ depth
theorem perft_counter_count''_s (N : Nat) (c_ : Int) (b_ : TBoard) (depth : Int) : perft_counter_count'' (N + 1) c_ b_ depth = perft_counter_count''.e N (perft_counter_count'' N) (perft_counter_count''.l0 N (perft_counter_count'' N) c_ b_ depth N) c_ b_ depth := rfl
/-! ### f51: gamehall/perft.Tree -/
def perft_Tree.e (N : Nat) (r_ : TRules) (p_ : TPos) (depth : Int) : Option (Int × Int) :=
  (perft_check N r_ p_ depth).bind fun y1 =>
  oCase y1.1 (bif (!(eqI y1.2 0)) then (some (0, y1.2))
    else none) fun b2 =>
  bif (!(eqI y1.2 0)) then (some (0, y1.2))
  else (perft_counter_count'' N 50000 b2 depth).bind fun y3 =>
  bif (ltI y3.2.1 0) then (some (0, 17))
  else some ((w64 (50000 - y3.2.1)), 0)
def perft_Tree (N : Nat) (r_ : TRules) (p_ : TPos) (depth : Int) : Option (Int × Int) := perft_Tree.e N r_ p_ depth
/-! ### f65: gamehall/minimax.Check -/
def minimax_Check.e (N : Nat) (r_ : TRules) (p_ : TPos) (depth : Int) : Option Int :=
  (perft_Tree N r_ p_ depth).bind fun y1 =>
  some y1.2
def minimax_Check (N : Nat) (r_ : TRules) (p_ : TPos) (depth : Int) : Option Int := minimax_Check.e N r_ p_ depth
/-! ### f53: (*gamehall/board.Board).Turn -/
def board_Board_Turn.e (N : Nat) (b_ : TBoard) : Option Int :=
  some b_.2.1.2.2.1
def board_Board_Turn (N : Nat) (b_ : TBoard) : Option Int := board_Board_Turn.e N b_
/-! ### f107: gamehall/ends.Score -/
def ends_Score.e (N : Nat) (result : Int) (turn : Int) : Option Int :=
  (ends_wins N turn).bind fun y1 =>
  bif (eqI result y1) then some 1000
  else (ends_wins N (w64 (1 - turn))).bind fun y2 =>
  bif (eqI result y2) then (some (-1000))
  else some 0
def ends_Score (N : Nat) (result : Int) (turn : Int) : Option Int := ends_Score.e N result turn
/-! ### f108: gamehall/minimax.Nearer -/
def minimax_Nearer.e (N : Nat) (n_ : Int) : Option Int :=
  bif (ltI 0 n_) then (some (w64 (n_ - 1)))
  else bif (ltI n_ 0) then (some (w64 (n_ + 1)))
  else some 0
def minimax_Nearer (N : Nat) (n_ : Int) : Option Int := minimax_Nearer.e N n_
/-! ### f66: gamehall/minimax.Value -/
def minimax_Value'.e (N : Nat) (self : TBoard → Int → Option (Int × TBoard)) (r0 : Int → Int → Int → ByteArray → Int → Int → Bool → Bool → Int → Int → Int → Int → Int → Int → LMv → (List TPiece) → LInt → (List TEnd) → LInt → LInt → LInt → (List TUndo) → Option (Int × TBoard)) (b_ : TBoard) (depth : Int) : Option (Int × TBoard) :=
  (board_Board_Result N b_).bind fun y1 =>
  bif (!(eqI y1 0)) then ((board_Board_Turn N b_).bind fun y2 =>
    (ends_Score N y1 y2).bind fun y3 =>
    some (y3, b_))
  else bif (eqI depth 0) then (some (0, b_))
  else (board_Board_Moves N b_).bind fun y4 =>
  r0 (-1000) (y4.length : Int) 0 b_.1.1 b_.1.2.1 b_.1.2.2.1 b_.1.2.2.2.2.2.1 b_.1.2.2.2.2.2.2.1 b_.1.2.2.2.2.2.2.2.2.1 b_.1.2.2.2.2.2.2.2.2.2.1 b_.1.2.2.2.2.2.2.2.2.2.2 b_.2.1.2.2.1 b_.2.1.2.2.2 b_.2.2.1 y4 b_.1.2.2.2.1 b_.1.2.2.2.2.1 b_.1.2.2.2.2.2.2.2.1 b_.2.1.1 b_.2.1.2.1.1 b_.2.1.2.1.2 b_.2.2.2
def minimax_Value'.s0 (N : Nat) (self : TBoard → Int → Option (Int × TBoard)) (b_ : TBoard) (depth : Int) (r0 : Int → Int → Int → ByteArray → Int → Int → Bool → Bool → Int → Int → Int → Int → Int → Int → LMv → (List TPiece) → LInt → (List TEnd) → LInt → LInt → LInt → (List TUndo) → Option (Int × TBoard)) (best : Int) (t21_ : Int) (t22_ : Int) (b_2 : ByteArray) (b_3 : Int) (b_4 : Int) (b_5 : Bool) (b_6 : Bool) (b_7 : Int) (b_8 : Int) (b_9 : Int) (b_10 : Int) (b_11 : Int) (b_12 : Int) (m8_ : LMv) (m9_ : (List TPiece)) (m10_ : LInt) (m11_ : (List TEnd)) (m12_ : LInt) (m13_ : LInt) (m14_ : LInt) (m15_ : (List TUndo)) : Option (Int × TBoard) :=
  bif (ltI t22_ t21_) then (chk ((leI 0 t22_) && (ltI t22_ (m8_.length : Int))) <|
    (board_Board_Make' N ((b_2, (b_3, (b_4, (m9_, (m10_, (b_5, (b_6, (m11_, (b_7, (b_8, b_9)))))))))), ((m12_, ((m13_, m14_), (b_10, b_11))), (b_12, m15_))) (gD ((0 : Int), ((0 : Int), (0 : Int))) m8_ t22_)).bind fun y5 =>
    (self y5 (w64 (depth - 1))).bind fun y6 =>
    (minimax_Nearer N (w64 (0 - y6.1))).bind fun y7 =>
    (board_Board_Undo' N y6.2).bind fun y9 =>
    r0 (bif (ltI best y7) then y7 else best) t21_ (w64 (t22_ + 1)) y9.2.1.1 y9.2.1.2.1 y9.2.1.2.2.1 y9.2.1.2.2.2.2.2.1 y9.2.1.2.2.2.2.2.2.1 y9.2.1.2.2.2.2.2.2.2.2.1 y9.2.1.2.2.2.2.2.2.2.2.2.1 y9.2.1.2.2.2.2.2.2.2.2.2.2 y9.2.2.1.2.2.1 y9.2.2.1.2.2.2 y9.2.2.2.1 m8_ y9.2.1.2.2.2.1 y9.2.1.2.2.2.2.1 y9.2.1.2.2.2.2.2.2.2.1 y9.2.2.1.1 y9.2.2.1.2.1.1 y9.2.2.1.2.1.2 y9.2.2.2.2)
  else some (best, ((b_2, (b_3, (b_4, (m9_, (m10_, (b_5, (b_6, (m11_, (b_7, (b_8, b_9)))))))))), ((m12_, ((m13_, m14_), (b_10, b_11))), (b_12, m15_))))
def minimax_Value'.L (N : Nat) (self : TBoard → Int → Option (Int × TBoard)) (b_ : TBoard) (depth : Int) : Nat → (Int → Int → Int → ByteArray → Int → Int → Bool → Bool → Int → Int → Int → Int → Int → Int → LMv → (List TPiece) → LInt → (List TEnd) → LInt → LInt → LInt → (List TUndo) → Option (Int × TBoard))
  | 0 => fun _ _ _ _ _ _ _ _ _ _ _ _ _ _ _ _ _ _ _ _ _ _ => none
  | n + 1 => fun best t21_ t22_ b_2 b_3 b_4 b_5 b_6 b_7 b_8 b_9 b_10 b_11 b_12 m8_ m9_ m10_ m11_ m12_ m13_ m14_ m15_ => minimax_Value'.s0 N self b_ depth (minimax_Value'.L N self b_ depth n) best t21_ t22_ b_2 b_3 b_4 b_5 b_6 b_7 b_8 b_9 b_10 b_11 b_12 m8_ m9_ m10_ m11_ m12_ m13_ m14_ m15_
def minimax_Value'.l0 (N : Nat) (self : TBoard → Int → Option (Int × TBoard)) (b_ : TBoard) (depth : Int) (n : Nat) : Int → Int → Int → ByteArray → Int → Int → Bool → Bool → Int → Int → Int → Int → Int → Int → LMv → (List TPiece) → LInt → (List TEnd) → LInt → LInt → LInt → (List TUndo) → Option (Int × TBoard) := (minimax_Value'.L N self b_ depth n)
theorem minimax_Value'.l0_s (N : Nat) (self : TBoard → Int → Option (Int × TBoard)) (b_ : TBoard) (depth : Int) (n : Nat) (best : Int) (t21_ : Int) (t22_ : Int) (b_2 : ByteArray) (b_3 : Int) (b_4 : Int) (b_5 : Bool) (b_6 : Bool) (b_7 : Int) (b_8 : Int) (b_9 : Int) (b_10 : Int) (b_11 : Int) (b_12 : Int) (m8_ : LMv) (m9_ : (List TPiece)) (m10_ : LInt) (m11_ : (List TEnd)) (m12_ : LInt) (m13_ : LInt) (m14_ : LInt) (m15_ : (List TUndo)) : minimax_Value'.l0 N self b_ depth (n + 1) best t21_ t22_ b_2 b_3 b_4 b_5 b_6 b_7 b_8 b_9 b_10 b_11 b_12 m8_ m9_ m10_ m11_ m12_ m13_ m14_ m15_ = minimax_Value'.s0 N self b_ depth (minimax_Value'.l0 N self b_ depth n) best t21_ t22_ b_2 b_3 b_4 b_5 b_6 b_7 b_8 b_9 b_10 b_11 b_12 m8_ m9_ m10_ m11_ m12_ m13_ m14_ m15_ := rfl
def minimax_Value' : Nat → TBoard → Int → Option (Int × TBoard)
  | 0 => fun _ _ => none
  | N + 1 => fun b_ depth => minimax_Value'.e N (minimax_Value' N) (minimax_Value'.l0 N (minimax_Value' N) b_ depth N) b_ depth
theorem minimax_Value'_s (N : Nat) (b_ : TBoard) (depth : Int) : minimax_Value' (N + 1) b_ depth = minimax_Value'.e N (minimax_Value' N) (minimax_Value'.l0 N (minimax_Value' N) b_ depth N) b_ depth := rfl
/-! ### f30: gamehall/minimax.Score -/
def minimax_Score.e (N : Nat) (r_ : TRules) (p_ : TPos) (depth : Int) : Option (Int × Int) :=
  (minimax_Check N r_ p_ depth).bind fun y1 =>
  bif (!(eqI y1 0)) then (some (0, y1))
  else (board_New N r_ p_).bind fun y2 =>
  oCase y2.1 none fun b3 =>
  (minimax_Value' N b3 depth).bind fun y4 =>
  some (y4.1, 0)
def minimax_Score (N : Nat) (r_ : TRules) (p_ : TPos) (depth : Int) : Option (Int × Int) := minimax_Score.e N r_ p_ depth
/-! ### f90: gamehall/minimax.best -/
def minimax_best'.e (N : Nat) (r0 : Int → Int → Int → ByteArray → Int → Int → Bool → Bool → Int → Int → Int → Int → Int → Int → Int → Int → Int → LMv → (List TPiece) → LInt → (List TEnd) → LInt → LInt → LInt → (List TUndo) → Option (TMv × Int × TBoard)) (b_ : TBoard) (depth : Int) : Option (TMv × Int × TBoard) :=
  (board_Board_Moves N b_).bind fun y1 =>
  r0 (-1001) (y1.length : Int) 0 b_.1.1 b_.1.2.1 b_.1.2.2.1 b_.1.2.2.2.2.2.1 b_.1.2.2.2.2.2.2.1 b_.1.2.2.2.2.2.2.2.2.1 b_.1.2.2.2.2.2.2.2.2.2.1 b_.1.2.2.2.2.2.2.2.2.2.2 b_.2.1.2.2.1 b_.2.1.2.2.2 b_.2.2.1 0 0 0 y1 b_.1.2.2.2.1 b_.1.2.2.2.2.1 b_.1.2.2.2.2.2.2.2.1 b_.2.1.1 b_.2.1.2.1.1 b_.2.1.2.1.2 b_.2.2.2
def minimax_best'.s0 (N : Nat) (b_ : TBoard) (depth : Int) (r0 : Int → Int → Int → ByteArray → Int → Int → Bool → Bool → Int → Int → Int → Int → Int → Int → Int → Int → Int → LMv → (List TPiece) → LInt → (List TEnd) → LInt → LInt → LInt → (List TUndo) → Option (TMv × Int × TBoard)) (most : Int) (t13_ : Int) (t14_ : Int) (b_2 : ByteArray) (b_3 : Int) (b_4 : Int) (b_5 : Bool) (b_6 : Bool) (b_7 : Int) (b_8 : Int) (b_9 : Int) (b_10 : Int) (b_11 : Int) (b_12 : Int) (out : Int) (out2 : Int) (out3 : Int) (m10_ : LMv) (m11_ : (List TPiece)) (m12_ : LInt) (m13_ : (List TEnd)) (m14_ : LInt) (m15_ : LInt) (m16_ : LInt) (m17_ : (List TUndo)) : Option (TMv × Int × TBoard) :=
  bif (ltI t14_ t13_) then (chk ((leI 0 t14_) && (ltI t14_ (m10_.length : Int))) <|
    (board_Board_Make' N ((b_2, (b_3, (b_4, (m11_, (m12_, (b_5, (b_6, (m13_, (b_7, (b_8, b_9)))))))))), ((m14_, ((m15_, m16_), (b_10, b_11))), (b_12, m17_))) (gD ((0 : Int), ((0 : Int), (0 : Int))) m10_ t14_)).bind fun y2 =>
    (minimax_Value' N y2 (w64 (depth - 1))).bind fun y3 =>
    (minimax_Nearer N (w64 (0 - y3.1))).bind fun y4 =>
    (board_Board_Undo' N y3.2).bind fun y5 =>
    bif (ltI most y4) then (r0 y4 t13_ (w64 (t14_ + 1)) y5.2.1.1 y5.2.1.2.1 y5.2.1.2.2.1 y5.2.1.2.2.2.2.2.1 y5.2.1.2.2.2.2.2.2.1 y5.2.1.2.2.2.2.2.2.2.2.1 y5.2.1.2.2.2.2.2.2.2.2.2.1 y5.2.1.2.2.2.2.2.2.2.2.2.2 y5.2.2.1.2.2.1 y5.2.2.1.2.2.2 y5.2.2.2.1 (gD ((0 : Int), ((0 : Int), (0 : Int))) m10_ t14_).1 (gD ((0 : Int), ((0 : Int), (0 : Int))) m10_ t14_).2.1 (gD ((0 : Int), ((0 : Int), (0 : Int))) m10_ t14_).2.2 m10_ y5.2.1.2.2.2.1 y5.2.1.2.2.2.2.1 y5.2.1.2.2.2.2.2.2.2.1 y5.2.2.1.1 y5.2.2.1.2.1.1 y5.2.2.1.2.1.2 y5.2.2.2.2)
    else r0 most t13_ (w64 (t14_ + 1)) y5.2.1.1 y5.2.1.2.1 y5.2.1.2.2.1 y5.2.1.2.2.2.2.2.1 y5.2.1.2.2.2.2.2.2.1 y5.2.1.2.2.2.2.2.2.2.2.1 y5.2.1.2.2.2.2.2.2.2.2.2.1 y5.2.1.2.2.2.2.2.2.2.2.2.2 y5.2.2.1.2.2.1 y5.2.2.1.2.2.2 y5.2.2.2.1 out out2 out3 m10_ y5.2.1.2.2.2.1 y5.2.1.2.2.2.2.1 y5.2.1.2.2.2.2.2.2.2.1 y5.2.2.1.1 y5.2.2.1.2.1.1 y5.2.2.1.2.1.2 y5.2.2.2.2)
  else some ((out, (out2, out3)), (most, ((b_2, (b_3, (b_4, (m11_, (m12_, (b_5, (b_6, (m13_, (b_7, (b_8, b_9)))))))))), ((m14_, ((m15_, m16_), (b_10, b_11))), (b_12, m17_)))))
def minimax_best'.L (N : Nat) (b_ : TBoard) (depth : Int) : Nat → (Int → Int → Int → ByteArray → Int → Int → Bool → Bool → Int → Int → Int → Int → Int → Int → Int → Int → Int → LMv → (List TPiece) → LInt → (List TEnd) → LInt → LInt → LInt → (List TUndo) → Option (TMv × Int × TBoard))
  | 0 => fun _ _ _ _ _ _ _ _ _ _ _ _ _ _ _ _ _ _ _ _ _ _ _ _ _ => none
  | n + 1 => fun most t13_ t14_ b_2 b_3 b_4 b_5 b_6 b_7 b_8 b_9 b_10 b_11 b_12 out out2 out3 m10_ m11_ m12_ m13_ m14_ m15_ m16_ m17_ => minimax_best'.s0 N b_ depth (minimax_best'.L N b_ depth n) most t13_ t14_ b_2 b_3 b_4 b_5 b_6 b_7 b_8 b_9 b_10 b_11 b_12 out out2 out3 m10_ m11_ m12_ m13_ m14_ m15_ m16_ m17_
def minimax_best'.l0 (N : Nat) (b_ : TBoard) (depth : Int) (n : Nat) : Int → Int → Int → ByteArray → Int → Int → Bool → Bool → Int → Int → Int → Int → Int → Int → Int → Int → Int → LMv → (List TPiece) → LInt → (List TEnd) → LInt → LInt → LInt → (List TUndo) → Option (TMv × Int × TBoard) := (minimax_best'.L N b_ depth n)
theorem minimax_best'.l0_s (N : Nat) (b_ : TBoard) (depth : Int) (n : Nat) (most : Int) (t13_ : Int) (t14_ : Int) (b_2 : ByteArray) (b_3 : Int) (b_4 : Int) (b_5 : Bool) (b_6 : Bool) (b_7 : Int) (b_8 : Int) (b_9 : Int) (b_10 : Int) (b_11 : Int) (b_12 : Int) (out : Int) (out2 : Int) (out3 : Int) (m10_ : LMv) (m11_ : (List TPiece)) (m12_ : LInt) (m13_ : (List TEnd)) (m14_ : LInt) (m15_ : LInt) (m16_ : LInt) (m17_ : (List TUndo)) : minimax_best'.l0 N b_ depth (n + 1) most t13_ t14_ b_2 b_3 b_4 b_5 b_6 b_7 b_8 b_9 b_10 b_11 b_12 out out2 out3 m10_ m11_ m12_ m13_ m14_ m15_ m16_ m17_ = minimax_best'.s0 N b_ depth (minimax_best'.l0 N b_ depth n) most t13_ t14_ b_2 b_3 b_4 b_5 b_6 b_7 b_8 b_9 b_10 b_11 b_12 out out2 out3 m10_ m11_ m12_ m13_ m14_ m15_ m16_ m17_ := rfl
def minimax_best' (N : Nat) (b_ : TBoard) (depth : Int) : Option (TMv × Int × TBoard) := minimax_best'.e N (minimax_best'.l0 N b_ depth N) b_ depth
/-! ### f50: gamehall/minimax.Best -/
def minimax_Best.e (N : Nat) (r_ : TRules) (p_ : TPos) (depth : Int) : Option (TMv × Int × Int) :=
  (minimax_Check N r_ p_ depth).bind fun y1 =>
  bif (!(eqI y1 0)) then (some ((0, (0, 0)), (0, y1)))
  else (board_New N r_ p_).bind fun y2 =>
  oCase y2.1 (bif (eqI depth 0) then (some ((0, (0, 0)), (0, 1)))
    else none) fun b3 =>
  bif (eqI depth 0) then (some ((0, (0, 0)), (0, 1)))
  else (board_Board_Result N b3).bind fun y4 =>
  bif (!(eqI y4 0)) then (some ((0, (0, 0)), (0, 14)))
  else (minimax_best' N b3 depth).bind fun y5 =>
  some (y5.1, (y5.2.1, 0))
def minimax_Best (N : Nat) (r_ : TRules) (p_ : TPos) (depth : Int) : Option (TMv × Int × Int) := minimax_Best.e N r_ p_ depth
/-! ### f85: gamehall/moves.Do -/
def moves_Do.e (N : Nat) (r_ : TRules) (p_ : TPos) (m_ : TMv) : Option TPos :=
  (place_Copy N p_).bind fun y1 =>
  bif (ltI m_.1 0) then (bif (eqI p_.2.2.1 0) then (chk ((leI 0 m_.2.2) && (ltI m_.2.2 (y1.2.1.1.length : Int))) <|
      chk ((leI 0 m_.2.2) && (ltI m_.2.2 (y1.2.1.1.length : Int))) <|
      let v4 : List Int := (y1.2.1.1.set m_.2.2.toNat (w64 ((gD (0 : Int) y1.2.1.1 m_.2.2) - 1)))
      chk ((leI 0 m_.2.1) && (ltI m_.2.1 (p_.1.length : Int))) <|
      bif (!(eqI (gD (0 : Int) p_.1 m_.2.1) 0)) then (bif (eqI p_.2.2.1 0) then (bif r_.2.2.2.2.2.2.1 then ((moves_Kind N (gD (0 : Int) p_.1 m_.2.1)).bind fun y6 =>
            (moves_Kind N (gD (0 : Int) p_.1 m_.2.1)).bind fun y7 =>
            chk ((leI 0 y7) && (ltI y7 (v4.length : Int))) <|
            let v8 : Int := (w64 ((gD (0 : Int) v4 y7) + 1))
            chk ((leI 0 y6) && (ltI y6 (v4.length : Int))) <|
            (moves_Cell N m_.2.2 p_.2.2.1).bind fun y10 =>
            chk ((leI 0 m_.2.1) && (ltI m_.2.1 (y1.1.length : Int))) <|
            some ((y1.1.set m_.2.1.toNat y10), (((v4.set y6.toNat (bif (ltI 1000 v8) then 1000 else v8)), y1.2.1.2), ((w64 (1 - p_.2.2.1)), 0))))
          else (moves_Cell N m_.2.2 p_.2.2.1).bind fun y12 =>
          chk ((leI 0 m_.2.1) && (ltI m_.2.1 (y1.1.length : Int))) <|
          some ((y1.1.set m_.2.1.toNat y12), ((v4, y1.2.1.2), ((w64 (1 - p_.2.2.1)), 0))))
        else bif (eqI p_.2.2.1 1) then (bif r_.2.2.2.2.2.2.1 then ((moves_Kind N (gD (0 : Int) p_.1 m_.2.1)).bind fun y14 =>
            (moves_Kind N (gD (0 : Int) p_.1 m_.2.1)).bind fun y15 =>
            chk ((leI 0 y15) && (ltI y15 (y1.2.1.2.length : Int))) <|
            let v16 : Int := (w64 ((gD (0 : Int) y1.2.1.2 y15) + 1))
            chk ((leI 0 y14) && (ltI y14 (y1.2.1.2.length : Int))) <|
            (moves_Cell N m_.2.2 p_.2.2.1).bind fun y19 =>
            chk ((leI 0 m_.2.1) && (ltI m_.2.1 (y1.1.length : Int))) <|
            some ((y1.1.set m_.2.1.toNat y19), ((v4, (y1.2.1.2.set y14.toNat (bif (ltI 1000 v16) then 1000 else v16))), ((w64 (1 - p_.2.2.1)), 0))))
          else (moves_Cell N m_.2.2 p_.2.2.1).bind fun y21 =>
          chk ((leI 0 m_.2.1) && (ltI m_.2.1 (y1.1.length : Int))) <|
          some ((y1.1.set m_.2.1.toNat y21), ((v4, y1.2.1.2), ((w64 (1 - p_.2.2.1)), 0))))
        else none)
      else (moves_Cell N m_.2.2 p_.2.2.1).bind fun y23 =>
      chk ((leI 0 m_.2.1) && (ltI m_.2.1 (y1.1.length : Int))) <|
      some ((y1.1.set m_.2.1.toNat y23), ((v4, y1.2.1.2), ((w64 (1 - p_.2.2.1)), 0))))
    else bif (eqI p_.2.2.1 1) then (chk ((leI 0 m_.2.2) && (ltI m_.2.2 (y1.2.1.2.length : Int))) <|
      chk ((leI 0 m_.2.2) && (ltI m_.2.2 (y1.2.1.2.length : Int))) <|
      let v26 : List Int := (y1.2.1.2.set m_.2.2.toNat (w64 ((gD (0 : Int) y1.2.1.2 m_.2.2) - 1)))
      chk ((leI 0 m_.2.1) && (ltI m_.2.1 (p_.1.length : Int))) <|
      bif (!(eqI (gD (0 : Int) p_.1 m_.2.1) 0)) then (bif (eqI p_.2.2.1 0) then (bif r_.2.2.2.2.2.2.1 then ((moves_Kind N (gD (0 : Int) p_.1 m_.2.1)).bind fun y28 =>
            (moves_Kind N (gD (0 : Int) p_.1 m_.2.1)).bind fun y29 =>
            chk ((leI 0 y29) && (ltI y29 (y1.2.1.1.length : Int))) <|
            let v30 : Int := (w64 ((gD (0 : Int) y1.2.1.1 y29) + 1))
            chk ((leI 0 y28) && (ltI y28 (y1.2.1.1.length : Int))) <|
            (moves_Cell N m_.2.2 p_.2.2.1).bind fun y33 =>
            chk ((leI 0 m_.2.1) && (ltI m_.2.1 (y1.1.length : Int))) <|
            some ((y1.1.set m_.2.1.toNat y33), (((y1.2.1.1.set y28.toNat (bif (ltI 1000 v30) then 1000 else v30)), v26), ((w64 (1 - p_.2.2.1)), 0))))
          else (moves_Cell N m_.2.2 p_.2.2.1).bind fun y35 =>
          chk ((leI 0 m_.2.1) && (ltI m_.2.1 (y1.1.length : Int))) <|
          some ((y1.1.set m_.2.1.toNat y35), ((y1.2.1.1, v26), ((w64 (1 - p_.2.2.1)), 0))))
        else bif (eqI p_.2.2.1 1) then (bif r_.2.2.2.2.2.2.1 then ((moves_Kind N (gD (0 : Int) p_.1 m_.2.1)).bind fun y37 =>
            (moves_Kind N (gD (0 : Int) p_.1 m_.2.1)).bind fun y38 =>
            chk ((leI 0 y38) && (ltI y38 (v26.length : Int))) <|
            let v39 : Int := (w64 ((gD (0 : Int) v26 y38) + 1))
            chk ((leI 0 y37) && (ltI y37 (v26.length : Int))) <|
            (moves_Cell N m_.2.2 p_.2.2.1).bind fun y41 =>
            chk ((leI 0 m_.2.1) && (ltI m_.2.1 (y1.1.length : Int))) <|
            some ((y1.1.set m_.2.1.toNat y41), ((y1.2.1.1, (v26.set y37.toNat (bif (ltI 1000 v39) then 1000 else v39))), ((w64 (1 - p_.2.2.1)), 0))))
          else (moves_Cell N m_.2.2 p_.2.2.1).bind fun y43 =>
          chk ((leI 0 m_.2.1) && (ltI m_.2.1 (y1.1.length : Int))) <|
          some ((y1.1.set m_.2.1.toNat y43), ((y1.2.1.1, v26), ((w64 (1 - p_.2.2.1)), 0))))
        else none)
      else (moves_Cell N m_.2.2 p_.2.2.1).bind fun y45 =>
      chk ((leI 0 m_.2.1) && (ltI m_.2.1 (y1.1.length : Int))) <|
      some ((y1.1.set m_.2.1.toNat y45), ((y1.2.1.1, v26), ((w64 (1 - p_.2.2.1)), 0))))
    else none)
  else chk ((leI 0 m_.1) && (ltI m_.1 (y1.1.length : Int))) <|
  chk ((leI 0 m_.2.1) && (ltI m_.2.1 (p_.1.length : Int))) <|
  bif (!(eqI (gD (0 : Int) p_.1 m_.2.1) 0)) then (bif (eqI p_.2.2.1 0) then (bif r_.2.2.2.2.2.2.1 then ((moves_Kind N (gD (0 : Int) p_.1 m_.2.1)).bind fun y48 =>
        (moves_Kind N (gD (0 : Int) p_.1 m_.2.1)).bind fun y49 =>
        chk ((leI 0 y49) && (ltI y49 (y1.2.1.1.length : Int))) <|
        let v50 : Int := (w64 ((gD (0 : Int) y1.2.1.1 y49) + 1))
        chk ((leI 0 y48) && (ltI y48 (y1.2.1.1.length : Int))) <|
        (moves_Cell N m_.2.2 p_.2.2.1).bind fun y53 =>
        chk ((leI 0 m_.2.1) && (ltI m_.2.1 ((y1.1.set m_.1.toNat 0).length : Int))) <|
        some (((y1.1.set m_.1.toNat 0).set m_.2.1.toNat y53), (((y1.2.1.1.set y48.toNat (bif (ltI 1000 v50) then 1000 else v50)), y1.2.1.2), ((w64 (1 - p_.2.2.1)), 0))))
      else (moves_Cell N m_.2.2 p_.2.2.1).bind fun y55 =>
      chk ((leI 0 m_.2.1) && (ltI m_.2.1 ((y1.1.set m_.1.toNat 0).length : Int))) <|
      some (((y1.1.set m_.1.toNat 0).set m_.2.1.toNat y55), (y1.2.1, ((w64 (1 - p_.2.2.1)), 0))))
    else bif (eqI p_.2.2.1 1) then (bif r_.2.2.2.2.2.2.1 then ((moves_Kind N (gD (0 : Int) p_.1 m_.2.1)).bind fun y57 =>
        (moves_Kind N (gD (0 : Int) p_.1 m_.2.1)).bind fun y58 =>
        chk ((leI 0 y58) && (ltI y58 (y1.2.1.2.length : Int))) <|
        let v59 : Int := (w64 ((gD (0 : Int) y1.2.1.2 y58) + 1))
        chk ((leI 0 y57) && (ltI y57 (y1.2.1.2.length : Int))) <|
        (moves_Cell N m_.2.2 p_.2.2.1).bind fun y62 =>
        chk ((leI 0 m_.2.1) && (ltI m_.2.1 ((y1.1.set m_.1.toNat 0).length : Int))) <|
        some (((y1.1.set m_.1.toNat 0).set m_.2.1.toNat y62), ((y1.2.1.1, (y1.2.1.2.set y57.toNat (bif (ltI 1000 v59) then 1000 else v59))), ((w64 (1 - p_.2.2.1)), 0))))
      else (moves_Cell N m_.2.2 p_.2.2.1).bind fun y64 =>
      chk ((leI 0 m_.2.1) && (ltI m_.2.1 ((y1.1.set m_.1.toNat 0).length : Int))) <|
      some (((y1.1.set m_.1.toNat 0).set m_.2.1.toNat y64), (y1.2.1, ((w64 (1 - p_.2.2.1)), 0))))
    else none)
  else (moves_Cell N m_.2.2 p_.2.2.1).bind fun y66 =>
  chk ((leI 0 m_.2.1) && (ltI m_.2.1 ((y1.1.set m_.1.toNat 0).length : Int))) <|
  some (((y1.1.set m_.1.toNat 0).set m_.2.1.toNat y66), (y1.2.1, ((w64 (1 - p_.2.2.1)), (bif (ltI 200 (w64 (p_.2.2.2 + 1))) then 200 else (w64 (p_.2.2.2 + 1))))))
def moves_Do (N : Nat) (r_ : TRules) (p_ : TPos) (m_ : TMv) : Option TPos := moves_Do.e N r_ p_ m_
/-! ### f82: (*gamehall/cert.maker).add -/
def cert_maker_add'.e (N : Nat) (self : (TRules × ((List (TMv × LInt)) × Bool)) → TPos → Int → Option (Int × (TRules × ((List (TMv × LInt)) × Bool)))) (r0 : Int → Int → ByteArray → Int → Int → (List TPiece) → LInt → Bool → Bool → (List TEnd) → Int → Int → Int → Bool → (List (TMv × LInt)) → LInt → LInt → LInt → Int → Int → LMv → LInt → Option (Int × (TRules × ((List (TMv × LInt)) × Bool)))) (x_ : (TRules × ((List (TMv × LInt)) × Bool))) (p_ : TPos) (depth : Int) : Option (Int × (TRules × ((List (TMv × LInt)) × Bool))) :=
  bif (eqI (x_.2.1.length : Int) 5000) then (some (0, (x_.1, (x_.2.1, true))))
  else bif x_.2.2 then (some (0, x_))
  else (minimax_Best N x_.1 p_ depth).bind fun y2 =>
  chk (capOk 48 (x_.2.1.length + ([(y2.1, [])] : List (TMv × LInt)).length)) <|
  (moves_Do N x_.1 p_ y2.1).bind fun y3 =>
  (ends_Result N x_.1 y3).bind fun y4 =>
  bif (!(eqI y4 0)) then (some ((x_.2.1.length : Int), (x_.1, ((x_.2.1 ++ [(y2.1, [])]), x_.2.2))))
  else (moves_Gen N x_.1 y3).bind fun y5 =>
  r0 (y5.length : Int) 0 x_.1.1 x_.1.2.1 x_.1.2.2.1 x_.1.2.2.2.1 x_.1.2.2.2.2.1 x_.1.2.2.2.2.2.1 x_.1.2.2.2.2.2.2.1 x_.1.2.2.2.2.2.2.2.1 x_.1.2.2.2.2.2.2.2.2.1 x_.1.2.2.2.2.2.2.2.2.2.1 x_.1.2.2.2.2.2.2.2.2.2.2 x_.2.2 (x_.2.1 ++ [(y2.1, [])]) y3.1 y3.2.1.1 y3.2.1.2 y3.2.2.1 y3.2.2.2 y5 []
def cert_maker_add'.s0 (N : Nat) (self : (TRules × ((List (TMv × LInt)) × Bool)) → TPos → Int → Option (Int × (TRules × ((List (TMv × LInt)) × Bool)))) (x_ : (TRules × ((List (TMv × LInt)) × Bool))) (p_ : TPos) (depth : Int) (r0 : Int → Int → ByteArray → Int → Int → (List TPiece) → LInt → Bool → Bool → (List TEnd) → Int → Int → Int → Bool → (List (TMv × LInt)) → LInt → LInt → LInt → Int → Int → LMv → LInt → Option (Int × (TRules × ((List (TMv × LInt)) × Bool)))) (t73_ : Int) (t74_ : Int) (x_2 : ByteArray) (x_3 : Int) (x_4 : Int) (x_5 : (List TPiece)) (x_6 : LInt) (x_7 : Bool) (x_8 : Bool) (x_9 : (List TEnd)) (x_10 : Int) (x_11 : Int) (x_12 : Int) (x_13 : Bool) (m5_ : (List (TMv × LInt))) (m6_ : LInt) (m7_ : LInt) (m8_ : LInt) (q_ : Int) (q_2 : Int) (m10_ : LMv) (replies : LInt) : Option (Int × (TRules × ((List (TMv × LInt)) × Bool))) :=
  bif (ltI t74_ t73_) then (chk ((leI 0 t74_) && (ltI t74_ (m10_.length : Int))) <|
    (moves_Do N (x_2, (x_3, (x_4, (x_5, (x_6, (x_7, (x_8, (x_9, (x_10, (x_11, x_12)))))))))) (m6_, ((m7_, m8_), (q_, q_2))) (gD ((0 : Int), ((0 : Int), (0 : Int))) m10_ t74_)).bind fun y6 =>
    (ends_Result N (x_2, (x_3, (x_4, (x_5, (x_6, (x_7, (x_8, (x_9, (x_10, (x_11, x_12)))))))))) y6).bind fun y7 =>
    bif (!(eqI y7 0)) then (chk (capOk 8 (replies.length + ([(-1)] : List Int).length)) <|
      r0 t73_ (w64 (t74_ + 1)) x_2 x_3 x_4 x_5 x_6 x_7 x_8 x_9 x_10 x_11 x_12 x_13 m5_ m6_ m7_ m8_ q_ q_2 m10_ (replies ++ [(-1)]))
    else (self ((x_2, (x_3, (x_4, (x_5, (x_6, (x_7, (x_8, (x_9, (x_10, (x_11, x_12)))))))))), (m5_, x_13)) y6 (w64 (depth - 2))).bind fun y8 =>
    chk (capOk 8 (replies.length + ([y8.1] : List Int).length)) <|
    r0 t73_ (w64 (t74_ + 1)) y8.2.1.1 y8.2.1.2.1 y8.2.1.2.2.1 y8.2.1.2.2.2.1 y8.2.1.2.2.2.2.1 y8.2.1.2.2.2.2.2.1 y8.2.1.2.2.2.2.2.2.1 y8.2.1.2.2.2.2.2.2.2.1 y8.2.1.2.2.2.2.2.2.2.2.1 y8.2.1.2.2.2.2.2.2.2.2.2.1 y8.2.1.2.2.2.2.2.2.2.2.2.2 y8.2.2.2 y8.2.2.1 m6_ m7_ m8_ q_ q_2 m10_ (replies ++ [y8.1]))
  else chk ((leI 0 (x_.2.1.length : Int)) && (ltI (x_.2.1.length : Int) (m5_.length : Int))) <|
  some ((x_.2.1.length : Int), ((x_2, (x_3, (x_4, (x_5, (x_6, (x_7, (x_8, (x_9, (x_10, (x_11, x_12)))))))))), ((m5_.set (x_.2.1.length : Int).toNat ((gD (((0 : Int), ((0 : Int), (0 : Int))), ([] : LInt)) m5_ (x_.2.1.length : Int)).1, replies)), x_13)))
def cert_maker_add'.L (N : Nat) (self : (TRules × ((List (TMv × LInt)) × Bool)) → TPos → Int → Option (Int × (TRules × ((List (TMv × LInt)) × Bool)))) (x_ : (TRules × ((List (TMv × LInt)) × Bool))) (p_ : TPos) (depth : Int) : Nat → (Int → Int → ByteArray → Int → Int → (List TPiece) → LInt → Bool → Bool → (List TEnd) → Int → Int → Int → Bool → (List (TMv × LInt)) → LInt → LInt → LInt → Int → Int → LMv → LInt → Option (Int × (TRules × ((List (TMv × LInt)) × Bool))))
  | 0 => fun _ _ _ _ _ _ _ _ _ _ _ _ _ _ _ _ _ _ _ _ _ _ => none
  | n + 1 => fun t73_ t74_ x_2 x_3 x_4 x_5 x_6 x_7 x_8 x_9 x_10 x_11 x_12 x_13 m5_ m6_ m7_ m8_ q_ q_2 m10_ replies => cert_maker_add'.s0 N self x_ p_ depth (cert_maker_add'.L N self x_ p_ depth n) t73_ t74_ x_2 x_3 x_4 x_5 x_6 x_7 x_8 x_9 x_10 x_11 x_12 x_13 m5_ m6_ m7_ m8_ q_ q_2 m10_ replies
def cert_maker_add'.l0 (N : Nat) (self : (TRules × ((List (TMv × LInt)) × Bool)) → TPos → Int → Option (Int × (TRules × ((List (TMv × LInt)) × Bool)))) (x_ : (TRules × ((List (TMv × LInt)) × Bool))) (p_ : TPos) (depth : Int) (n : Nat) : Int → Int → ByteArray → Int → Int → (List TPiece) → LInt → Bool → Bool → (List TEnd) → Int → Int → Int → Bool → (List (TMv × LInt)) → LInt → LInt → LInt → Int → Int → LMv → LInt → Option (Int × (TRules × ((List (TMv × LInt)) × Bool))) := (cert_maker_add'.L N self x_ p_ depth n)
theorem cert_maker_add'.l0_s (N : Nat) (self : (TRules × ((List (TMv × LInt)) × Bool)) → TPos → Int → Option (Int × (TRules × ((List (TMv × LInt)) × Bool)))) (x_ : (TRules × ((List (TMv × LInt)) × Bool))) (p_ : TPos) (depth : Int) (n : Nat) (t73_ : Int) (t74_ : Int) (x_2 : ByteArray) (x_3 : Int) (x_4 : Int) (x_5 : (List TPiece)) (x_6 : LInt) (x_7 : Bool) (x_8 : Bool) (x_9 : (List TEnd)) (x_10 : Int) (x_11 : Int) (x_12 : Int) (x_13 : Bool) (m5_ : (List (TMv × LInt))) (m6_ : LInt) (m7_ : LInt) (m8_ : LInt) (q_ : Int) (q_2 : Int) (m10_ : LMv) (replies : LInt) : cert_maker_add'.l0 N self x_ p_ depth (n + 1) t73_ t74_ x_2 x_3 x_4 x_5 x_6 x_7 x_8 x_9 x_10 x_11 x_12 x_13 m5_ m6_ m7_ m8_ q_ q_2 m10_ replies = cert_maker_add'.s0 N self x_ p_ depth (cert_maker_add'.l0 N self x_ p_ depth n) t73_ t74_ x_2 x_3 x_4 x_5 x_6 x_7 x_8 x_9 x_10 x_11 x_12 x_13 m5_ m6_ m7_ m8_ q_ q_2 m10_ replies := rfl
def cert_maker_add' : Nat → (TRules × ((List (TMv × LInt)) × Bool)) → TPos → Int → Option (Int × (TRules × ((List (TMv × LInt)) × Bool)))
  | 0 => fun _ _ _ => none
  | N + 1 => fun x_ p_ depth => cert_maker_add'.e N (cert_maker_add' N) (cert_maker_add'.l0 N (cert_maker_add' N) x_ p_ depth N) x_ p_ depth
theorem cert_maker_add'_s (N : Nat) (x_ : (TRules × ((List (TMv × LInt)) × Bool))) (p_ : TPos) (depth : Int) : cert_maker_add' (N + 1) x_ p_ depth = cert_maker_add'.e N (cert_maker_add' N) (cert_maker_add'.l0 N (cert_maker_add' N) x_ p_ depth N) x_ p_ depth := rfl
/-! ### f41: gamehall/cert.Make -/
def cert_Make.e (N : Nat) (r_ : TRules) (p_ : TPos) (depth : Int) : Option ((List (TMv × LInt)) × Int) :=
  (minimax_Score N r_ p_ depth).bind fun y1 =>
  bif (!(eqI y1.2 0)) then (some ([], y1.2))
  else (ends_Result N r_ p_).bind fun y2 =>
  bif (!(eqI y2 0)) then (some ([], 14))
  else bif (leI y1.1 0) then (some ([], 8))
  else (cert_maker_add' N (r_, ([], false)) p_ depth).bind fun y3 =>
  bif y3.2.2.2 then (some ([], 2))
  else some (y3.2.2.1, 0)
def cert_Make (N : Nat) (r_ : TRules) (p_ : TPos) (depth : Int) : Option ((List (TMv × LInt)) × Int) := cert_Make.e N r_ p_ depth
/-! ### f83: gamehall/cert.tree -/
def cert_tree.e (N : Nat) (r0 : Int → LInt → Option Bool) (r1 : Int → Int → LInt → Int → Int → LInt → Option Bool) (r2 : Int → Int → LInt → Option Bool) (l_ : (List (TMv × LInt))) : Option Bool :=
  chk (leI 0 (l_.length : Int) && (decide ((l_.length : Int).toNat ≤ 140737488355328) && capOk 8 (l_.length : Int).toNat)) <|
  r0 0 (List.replicate (l_.length : Int).toNat (0 : Int))
def cert_tree.s0 (N : Nat) (l_ : (List (TMv × LInt))) (r0 : Int → LInt → Option Bool) (r1 : Int → Int → LInt → Int → Int → LInt → Option Bool) (r2 : Int → Int → LInt → Option Bool) (t15_ : Int) (named : LInt) : Option Bool :=
  bif (ltI t15_ (l_.length : Int)) then (chk ((leI 0 t15_) && (ltI t15_ (l_.length : Int))) <|
    r1 t15_ t15_ (gD (((0 : Int), ((0 : Int), (0 : Int))), ([] : LInt)) l_ t15_).2 ((gD (((0 : Int), ((0 : Int), (0 : Int))), ([] : LInt)) l_ t15_).2.length : Int) 0 named)
  else r2 (named.length : Int) 0 named
def cert_tree.s1 (N : Nat) (l_ : (List (TMv × LInt))) (r0 : Int → LInt → Option Bool) (r1 : Int → Int → LInt → Int → Int → LInt → Option Bool) (r2 : Int → Int → LInt → Option Bool) (i_ : Int) (t15_ : Int) (t21_ : LInt) (t22_ : Int) (t23_ : Int) (named : LInt) : Option Bool :=
  bif (ltI t23_ t22_) then (chk ((leI 0 t23_) && (ltI t23_ (t21_.length : Int))) <|
    bif (eqI (gD (0 : Int) t21_ t23_) (-1)) then (r1 i_ t15_ t21_ t22_ (w64 (t23_ + 1)) named)
    else bif (leI (gD (0 : Int) t21_ t23_) i_) then some false
    else bif (leI (l_.length : Int) (gD (0 : Int) t21_ t23_)) then some false
    else chk ((leI 0 (gD (0 : Int) t21_ t23_)) && (ltI (gD (0 : Int) t21_ t23_) (named.length : Int))) <|
    chk ((leI 0 (gD (0 : Int) t21_ t23_)) && (ltI (gD (0 : Int) t21_ t23_) (named.length : Int))) <|
    r1 i_ t15_ t21_ t22_ (w64 (t23_ + 1)) (named.set (gD (0 : Int) t21_ t23_).toNat (w64 ((gD (0 : Int) named (gD (0 : Int) t21_ t23_)) + 1))))
  else r0 (w64 (t15_ + 1)) named
def cert_tree.s2 (N : Nat) (l_ : (List (TMv × LInt))) (r0 : Int → LInt → Option Bool) (r1 : Int → Int → LInt → Int → Int → LInt → Option Bool) (r2 : Int → Int → LInt → Option Bool) (t47_ : Int) (t48_ : Int) (m0_ : LInt) : Option Bool :=
  bif (ltI t48_ t47_) then (chk ((leI 0 t48_) && (ltI t48_ (m0_.length : Int))) <|
    bif (ltI 0 t48_) then (bif (!(eqI (gD (0 : Int) m0_ t48_) 1)) then some false
      else r2 t47_ (w64 (t48_ + 1)) m0_)
    else r2 t47_ (w64 (t48_ + 1)) m0_)
  else some true
def cert_tree.L (N : Nat) (l_ : (List (TMv × LInt))) : Nat → (Int → LInt → Option Bool) × (Int → Int → LInt → Int → Int → LInt → Option Bool) × (Int → Int → LInt → Option Bool)
  | 0 => (fun _ _ => none, fun _ _ _ _ _ _ => none, fun _ _ _ => none)
  | n + 1 => (fun t15_ named => cert_tree.s0 N l_ (cert_tree.L N l_ n).1 (cert_tree.L N l_ n).2.1 (cert_tree.L N l_ n).2.2 t15_ named, fun i_ t15_ t21_ t22_ t23_ named => cert_tree.s1 N l_ (cert_tree.L N l_ n).1 (cert_tree.L N l_ n).2.1 (cert_tree.L N l_ n).2.2 i_ t15_ t21_ t22_ t23_ named, fun t47_ t48_ m0_ => cert_tree.s2 N l_ (cert_tree.L N l_ n).1 (cert_tree.L N l_ n).2.1 (cert_tree.L N l_ n).2.2 t47_ t48_ m0_)
def cert_tree.l0 (N : Nat) (l_ : (List (TMv × LInt))) (n : Nat) : Int → LInt → Option Bool := (cert_tree.L N l_ n).1
def cert_tree.l1 (N : Nat) (l_ : (List (TMv × LInt))) (n : Nat) : Int → Int → LInt → Int → Int → LInt → Option Bool := (cert_tree.L N l_ n).2.1
def cert_tree.l2 (N : Nat) (l_ : (List (TMv × LInt))) (n : Nat) : Int → Int → LInt → Option Bool := (cert_tree.L N l_ n).2.2
theorem cert_tree.l0_s (N : Nat) (l_ : (List (TMv × LInt))) (n : Nat) (t15_ : Int) (named : LInt) : cert_tree.l0 N l_ (n + 1) t15_ named = cert_tree.s0 N l_ (cert_tree.l0 N l_ n) (cert_tree.l1 N l_ n) (cert_tree.l2 N l_ n) t15_ named := rfl
theorem cert_tree.l1_s (N : Nat) (l_ : (List (TMv × LInt))) (n : Nat) (i_ : Int) (t15_ : Int) (t21_ : LInt) (t22_ : Int) (t23_ : Int) (named : LInt) : cert_tree.l1 N l_ (n + 1) i_ t15_ t21_ t22_ t23_ named = cert_tree.s1 N l_ (cert_tree.l0 N l_ n) (cert_tree.l1 N l_ n) (cert_tree.l2 N l_ n) i_ t15_ t21_ t22_ t23_ named := rfl
theorem cert_tree.l2_s (N : Nat) (l_ : (List (TMv × LInt))) (n : Nat) (t47_ : Int) (t48_ : Int) (m0_ : LInt) : cert_tree.l2 N l_ (n + 1) t47_ t48_ m0_ = cert_tree.s2 N l_ (cert_tree.l0 N l_ n) (cert_tree.l1 N l_ n) (cert_tree.l2 N l_ n) t47_ t48_ m0_ := rfl
def cert_tree (N : Nat) (l_ : (List (TMv × LInt))) : Option Bool := cert_tree.e N (cert_tree.l0 N l_ N) (cert_tree.l1 N l_ N) (cert_tree.l2 N l_ N) l_
/-! ### f84: (*gamehall/cert.checker).node -/
def cert_checker_node.e (N : Nat) (self : (TRules × ((List (TMv × LInt)) × Int)) → Int → TPos → Option Int) (r0 : Bool → Int → Int → LMv → Option Int) (r1 : Int → Int → Int → LInt → LInt → LInt → Int → Int → LMv → Option Int) (x_ : (TRules × ((List (TMv × LInt)) × Int))) (k_ : Int) (p_ : TPos) : Option Int :=
  chk ((leI 0 k_) && (ltI k_ (x_.2.1.length : Int))) <|
  (moves_Gen N x_.1 p_).bind fun y1 =>
  r0 false (y1.length : Int) 0 y1
def cert_checker_node.s0 (N : Nat) (self : (TRules × ((List (TMv × LInt)) × Int)) → Int → TPos → Option Int) (x_ : (TRules × ((List (TMv × LInt)) × Int))) (k_ : Int) (p_ : TPos) (r0 : Bool → Int → Int → LMv → Option Int) (r1 : Int → Int → Int → LInt → LInt → LInt → Int → Int → LMv → Option Int) (legal : Bool) (t33_ : Int) (t34_ : Int) (m2_ : LMv) : Option Int :=
  bif (ltI t34_ t33_) then (chk ((leI 0 t34_) && (ltI t34_ (m2_.length : Int))) <|
    bif legal then (r0 true t33_ (w64 (t34_ + 1)) m2_)
    else r0 ((eqI (gD ((0 : Int), ((0 : Int), (0 : Int))) m2_ t34_).1 (gD (((0 : Int), ((0 : Int), (0 : Int))), ([] : LInt)) x_.2.1 k_).1.1) && ((eqI (gD ((0 : Int), ((0 : Int), (0 : Int))) m2_ t34_).2.1 (gD (((0 : Int), ((0 : Int), (0 : Int))), ([] : LInt)) x_.2.1 k_).1.2.1) && ((eqI (gD ((0 : Int), ((0 : Int), (0 : Int))) m2_ t34_).2.2 (gD (((0 : Int), ((0 : Int), (0 : Int))), ([] : LInt)) x_.2.1 k_).1.2.2) && true))) t33_ (w64 (t34_ + 1)) m2_)
  else bif (!legal) then some 0
  else (moves_Do N x_.1 p_ (gD (((0 : Int), ((0 : Int), (0 : Int))), ([] : LInt)) x_.2.1 k_).1).bind fun y3 =>
  (ends_Result N x_.1 y3).bind fun y4 =>
  bif (!(eqI y4 0)) then (bif (ltI 0 ((gD (((0 : Int), ((0 : Int), (0 : Int))), ([] : LInt)) x_.2.1 k_).2.length : Int)) then some 0
    else bif (!(eqI y4 x_.2.2)) then some 0
    else some 1)
  else (moves_Gen N x_.1 y3).bind fun y6 =>
  bif (!(eqI ((gD (((0 : Int), ((0 : Int), (0 : Int))), ([] : LInt)) x_.2.1 k_).2.length : Int) (y6.length : Int))) then some 0
  else r1 0 (y6.length : Int) 0 y3.1 y3.2.1.1 y3.2.1.2 y3.2.2.1 y3.2.2.2 y6
def cert_checker_node.s1 (N : Nat) (self : (TRules × ((List (TMv × LInt)) × Int)) → Int → TPos → Option Int) (x_ : (TRules × ((List (TMv × LInt)) × Int))) (k_ : Int) (p_ : TPos) (r0 : Bool → Int → Int → LMv → Option Int) (r1 : Int → Int → Int → LInt → LInt → LInt → Int → Int → LMv → Option Int) (most : Int) (t89_ : Int) (t90_ : Int) (m3_ : LInt) (m4_ : LInt) (m5_ : LInt) (q_ : Int) (q_2 : Int) (m7_ : LMv) : Option Int :=
  bif (ltI t90_ t89_) then (chk ((leI 0 t90_) && (ltI t90_ (m7_.length : Int))) <|
    (moves_Do N x_.1 (m3_, ((m4_, m5_), (q_, q_2))) (gD ((0 : Int), ((0 : Int), (0 : Int))) m7_ t90_)).bind fun y9 =>
    (ends_Result N x_.1 y9).bind fun y10 =>
    chk ((leI 0 t90_) && (ltI t90_ ((gD (((0 : Int), ((0 : Int), (0 : Int))), ([] : LInt)) x_.2.1 k_).2.length : Int))) <|
    bif (!((!(eqI y10 0)) == (eqI (gD (0 : Int) (gD (((0 : Int), ((0 : Int), (0 : Int))), ([] : LInt)) x_.2.1 k_).2 t90_) (-1)))) then some 0
    else bif (!(eqI y10 0)) then (bif (!(eqI y10 x_.2.2)) then some 0
      else bif (eqI y10 0) then (chk ((leI 0 t90_) && (ltI t90_ ((gD (((0 : Int), ((0 : Int), (0 : Int))), ([] : LInt)) x_.2.1 k_).2.length : Int))) <|
        (self x_ (gD (0 : Int) (gD (((0 : Int), ((0 : Int), (0 : Int))), ([] : LInt)) x_.2.1 k_).2 t90_) y9).bind fun y13 =>
        bif (eqI y13 0) then some 0
        else r1 (bif (ltI most (w64 (y13 + 2))) then (w64 (y13 + 2)) else most) t89_ (w64 (t90_ + 1)) m3_ m4_ m5_ q_ q_2 m7_)
      else r1 (bif (ltI most 2) then 2 else most) t89_ (w64 (t90_ + 1)) m3_ m4_ m5_ q_ q_2 m7_)
    else bif (eqI y10 0) then (chk ((leI 0 t90_) && (ltI t90_ ((gD (((0 : Int), ((0 : Int), (0 : Int))), ([] : LInt)) x_.2.1 k_).2.length : Int))) <|
      (self x_ (gD (0 : Int) (gD (((0 : Int), ((0 : Int), (0 : Int))), ([] : LInt)) x_.2.1 k_).2 t90_) y9).bind fun y16 =>
      bif (eqI y16 0) then some 0
      else r1 (bif (ltI most (w64 (y16 + 2))) then (w64 (y16 + 2)) else most) t89_ (w64 (t90_ + 1)) m3_ m4_ m5_ q_ q_2 m7_)
    else r1 (bif (ltI most 2) then 2 else most) t89_ (w64 (t90_ + 1)) m3_ m4_ m5_ q_ q_2 m7_)
  else some most
def cert_checker_node.L (N : Nat) (self : (TRules × ((List (TMv × LInt)) × Int)) → Int → TPos → Option Int) (x_ : (TRules × ((List (TMv × LInt)) × Int))) (k_ : Int) (p_ : TPos) : Nat → (Bool → Int → Int → LMv → Option Int) × (Int → Int → Int → LInt → LInt → LInt → Int → Int → LMv → Option Int)
  | 0 => (fun _ _ _ _ => none, fun _ _ _ _ _ _ _ _ _ => none)
  | n + 1 => (fun legal t33_ t34_ m2_ => cert_checker_node.s0 N self x_ k_ p_ (cert_checker_node.L N self x_ k_ p_ n).1 (cert_checker_node.L N self x_ k_ p_ n).2 legal t33_ t34_ m2_, fun most t89_ t90_ m3_ m4_ m5_ q_ q_2 m7_ => cert_checker_node.s1 N self x_ k_ p_ (cert_checker_node.L N self x_ k_ p_ n).1 (cert_checker_node.L N self x_ k_ p_ n).2 most t89_ t90_ m3_ m4_ m5_ q_ q_2 m7_)
def cert_checker_node.l0 (N : Nat) (self : (TRules × ((List (TMv × LInt)) × Int)) → Int → TPos → Option Int) (x_ : (TRules × ((List (TMv × LInt)) × Int))) (k_ : Int) (p_ : TPos) (n : Nat) : Bool → Int → Int → LMv → Option Int := (cert_checker_node.L N self x_ k_ p_ n).1
def cert_checker_node.l1 (N : Nat) (self : (TRules × ((List (TMv × LInt)) × Int)) → Int → TPos → Option Int) (x_ : (TRules × ((List (TMv × LInt)) × Int))) (k_ : Int) (p_ : TPos) (n : Nat) : Int → Int → Int → LInt → LInt → LInt → Int → Int → LMv → Option Int := (cert_checker_node.L N self x_ k_ p_ n).2
theorem cert_checker_node.l0_s (N : Nat) (self : (TRules × ((List (TMv × LInt)) × Int)) → Int → TPos → Option Int) (x_ : (TRules × ((List (TMv × LInt)) × Int))) (k_ : Int) (p_ : TPos) (n : Nat) (legal : Bool) (t33_ : Int) (t34_ : Int) (m2_ : LMv) : cert_checker_node.l0 N self x_ k_ p_ (n + 1) legal t33_ t34_ m2_ = cert_checker_node.s0 N self x_ k_ p_ (cert_checker_node.l0 N self x_ k_ p_ n) (cert_checker_node.l1 N self x_ k_ p_ n) legal t33_ t34_ m2_ := rfl
theorem cert_checker_node.l1_s (N : Nat) (self : (TRules × ((List (TMv × LInt)) × Int)) → Int → TPos → Option Int) (x_ : (TRules × ((List (TMv × LInt)) × Int))) (k_ : Int) (p_ : TPos) (n : Nat) (most : Int) (t89_ : Int) (t90_ : Int) (m3_ : LInt) (m4_ : LInt) (m5_ : LInt) (q_ : Int) (q_2 : Int) (m7_ : LMv) : cert_checker_node.l1 N self x_ k_ p_ (n + 1) most t89_ t90_ m3_ m4_ m5_ q_ q_2 m7_ = cert_checker_node.s1 N self x_ k_ p_ (cert_checker_node.l0 N self x_ k_ p_ n) (cert_checker_node.l1 N self x_ k_ p_ n) most t89_ t90_ m3_ m4_ m5_ q_ q_2 m7_ := rfl
def cert_checker_node : Nat → (TRules × ((List (TMv × LInt)) × Int)) → Int → TPos → Option Int
  | 0 => fun _ _ _ => none
  | N + 1 => fun x_ k_ p_ => cert_checker_node.e N (cert_checker_node N) (cert_checker_node.l0 N (cert_checker_node N) x_ k_ p_ N) (cert_checker_node.l1 N (cert_checker_node N) x_ k_ p_ N) x_ k_ p_
theorem cert_checker_node_s (N : Nat) (x_ : (TRules × ((List (TMv × LInt)) × Int))) (k_ : Int) (p_ : TPos) : cert_checker_node (N + 1) x_ k_ p_ = cert_checker_node.e N (cert_checker_node N) (cert_checker_node.l0 N (cert_checker_node N) x_ k_ p_ N) (cert_checker_node.l1 N (cert_checker_node N) x_ k_ p_ N) x_ k_ p_ := rfl
/-! ### f42: gamehall/cert.Check -/
def cert_Check.e (N : Nat) (r_ : TRules) (p_ : TPos) (l_ : (List (TMv × LInt))) : Option (Int × Int) :=
  (place_Check N r_ p_).bind fun y1 =>
  bif (!(eqI y1 0)) then (some (0, y1))
  else bif (ltI 5000 (l_.length : Int)) then (some (0, 2))
  else bif (eqI (l_.length : Int) 0) then (some (0, 3))
  else (ends_Result N r_ p_).bind fun y4 =>
  bif (!(eqI y4 0)) then (some (0, 14))
  else (cert_tree N l_).bind fun y5 =>
  bif (!y5) then (some (0, 3))
  else (cert_checker_node N (r_, (l_, (w64 (1 + p_.2.2.1)))) 0 p_).bind fun y6 =>
  bif (eqI y6 0) then (some (0, 16))
  else some (y6, 0)
def cert_Check (N : Nat) (r_ : TRules) (p_ : TPos) (l_ : (List (TMv × LInt))) : Option (Int × Int) := cert_Check.e N r_ p_ l_
/-! ### f48: gamehall/gamehallkeep1.put -/
def gamehallkeep1_put.e (N : Nat) (s_ : Int) : Option TMv :=
  some ((-1), (s_, 0))
def gamehallkeep1_put (N : Nat) (s_ : Int) : Option TMv := gamehallkeep1_put.e N s_
/-! ### f74: gamehall/gamehallkeep1.fine$1 -/
def gamehallkeep1_fine_1.e (N : Nat) (e_ : Int) : Option Bool :=
  some (!(eqI e_ 0))
def gamehallkeep1_fine_1 (N : Nat) (e_ : Int) : Option Bool := gamehallkeep1_fine_1.e N e_
/-! ### f115: slices.IndexFunc[[]gamehall/api.Errno,gamehall/api.Errno] -/
def slices_IndexFunc_api_Errno_api_Errno.e (N : Nat) (r0 : Int → Option Int) (s_ : LInt) : Option Int :=
  r0 0
def slices_IndexFunc_api_Errno_api_Errno.s0 (N : Nat) (s_ : LInt) (r0 : Int → Option Int) (t8_ : Int) : Option Int :=
  bif (ltI t8_ (s_.length : Int)) then (chk ((leI 0 t8_) && (ltI t8_ (s_.length : Int))) <|
    (gamehallkeep1_fine_1 N (gD (0 : Int) s_ t8_)).bind fun y2 =>
    bif y2 then some t8_
    else r0 (w64 (t8_ + 1)))
  else some (-1)
def slices_IndexFunc_api_Errno_api_Errno.L (N : Nat) (s_ : LInt) : Nat → (Int → Option Int)
  | 0 => fun _ => none
  | n + 1 => fun t8_ => slices_IndexFunc_api_Errno_api_Errno.s0 N s_ (slices_IndexFunc_api_Errno_api_Errno.L N s_ n) t8_
def slices_IndexFunc_api_Errno_api_Errno.l0 (N : Nat) (s_ : LInt) (n : Nat) : Int → Option Int := (slices_IndexFunc_api_Errno_api_Errno.L N s_ n)
theorem slices_IndexFunc_api_Errno_api_Errno.l0_s (N : Nat) (s_ : LInt) (n : Nat) (t8_ : Int) : slices_IndexFunc_api_Errno_api_Errno.l0 N s_ (n + 1) t8_ = slices_IndexFunc_api_Errno_api_Errno.s0 N s_ (slices_IndexFunc_api_Errno_api_Errno.l0 N s_ n) t8_ := rfl
def slices_IndexFunc_api_Errno_api_Errno (N : Nat) (s_ : LInt) : Option Int := slices_IndexFunc_api_Errno_api_Errno.e N (slices_IndexFunc_api_Errno_api_Errno.l0 N s_ N) s_
/-! ### f73: slices.ContainsFunc[[]gamehall/api.Errno,gamehall/api.Errno] -/
def slices_ContainsFunc_api_Errno_api_Errno.e (N : Nat) (s_ : LInt) : Option Bool :=
  (slices_IndexFunc_api_Errno_api_Errno N s_).bind fun y1 =>
  some (leI 0 y1)
def slices_ContainsFunc_api_Errno_api_Errno (N : Nat) (s_ : LInt) : Option Bool := slices_ContainsFunc_api_Errno_api_Errno.e N s_
/-! ### f35: gamehall/gamehallkeep1.fine -/
def gamehallkeep1_fine.e (N : Nat) (l_ : LInt) : Option Bool :=
  (slices_ContainsFunc_api_Errno_api_Errno N l_).bind fun y1 =>
  some (!y1)
def gamehallkeep1_fine (N : Nat) (l_ : LInt) : Option Bool := gamehallkeep1_fine.e N l_
/-! ### f40: gamehall/gamehallkeep1.proved -/
def gamehallkeep1_proved.e (N : Nat) : Option Bool :=
  (gamehallkeep1_three N).bind fun y1 =>
  (gamehallkeep1_near N).bind fun y2 =>
  (cert_Make N y1 y2 3).bind fun y3 =>
  (gamehallkeep1_three N).bind fun y4 =>
  (gamehallkeep1_near N).bind fun y5 =>
  (cert_Check N y4 y5 y3.1).bind fun y6 =>
  (gamehallkeep1_three N).bind fun y7 =>
  (gamehallkeep1_near N).bind fun y8 =>
  (gamehallkeep1_put N 5).bind fun y9 =>
  (cert_Check N y7 y8 [(y9, [])]).bind fun y10 =>
  (gamehallkeep1_fine N [y3.2, y6.2]).bind fun y11 =>
  bif y11 then (bif (eqI (y3.1.length : Int) 1) then (chk (true && (ltI 0 (y3.1.length : Int))) <|
      (gamehallkeep1_put N 2).bind fun y13 =>
      bif ((eqI (gD (((0 : Int), ((0 : Int), (0 : Int))), ([] : LInt)) y3.1 0).1.1 y13.1) && ((eqI (gD (((0 : Int), ((0 : Int), (0 : Int))), ([] : LInt)) y3.1 0).1.2.1 y13.2.1) && ((eqI (gD (((0 : Int), ((0 : Int), (0 : Int))), ([] : LInt)) y3.1 0).1.2.2 y13.2.2) && true))) then (bif (eqI y6.1 1) then (some (eqI y10.2 16))
        else some false)
      else some false)
    else some false)
  else some false
def gamehallkeep1_proved (N : Nat) : Option Bool := gamehallkeep1_proved.e N
/-! ### f22: gamehall/gamehallkeep1.scored -/
def gamehallkeep1_scored.e (N : Nat) : Option Bool :=
  (gamehallkeep1_three N).bind fun y1 =>
  (gamehallkeep1_near N).bind fun y2 =>
  (minimax_Score N y1 y2 1).bind fun y3 =>
  (gamehallkeep1_three N).bind fun y4 =>
  (gamehallkeep1_near N).bind fun y5 =>
  (minimax_Best N y4 y5 2).bind fun y6 =>
  (gamehallkeep1_fine N [y3.2, y6.2.2]).bind fun y7 =>
  bif y7 then (bif (eqI y3.1 999) then ((gamehallkeep1_put N 2).bind fun y8 =>
      bif ((eqI y6.1.1 y8.1) && ((eqI y6.1.2.1 y8.2.1) && ((eqI y6.1.2.2 y8.2.2) && true))) then (some (eqI y6.2.1 999))
      else some false)
    else some false)
  else some false
def gamehallkeep1_scored (N : Nat) : Option Bool := gamehallkeep1_scored.e N
/-! ### f28: gamehall/gamehallkeep1.heavy -/
def gamehallkeep1_heavy.e (N : Nat) (r_ : TRules) (p_ : TPos) (depth : Int) : Option Bool :=
  (perft_Tree N r_ p_ depth).bind fun y1 =>
  bif (eqI y1.2 17) then some true
  else bif (ltI 3000 y1.1) then some true
  else some (ltI 20 (p_.1.length : Int))
def gamehallkeep1_heavy (N : Nat) (r_ : TRules) (p_ : TPos) (depth : Int) : Option Bool := gamehallkeep1_heavy.e N r_ p_ depth
/-! ### f43: slices.Clone[[]gamehall/api.CertNode,gamehall/api.CertNode] -/
def slices_Clone_api_CertNode_api_CertNode.e (N : Nat) (s_ : (List (TMv × LInt))) : Option (List (TMv × LInt)) :=
  chk (capOk 48 (([] : List (TMv × LInt)).length + s_.length)) <|
  some ([] ++ s_)
def slices_Clone_api_CertNode_api_CertNode (N : Nat) (s_ : (List (TMv × LInt))) : Option (List (TMv × LInt)) := slices_Clone_api_CertNode_api_CertNode.e N s_
/-! ### f11: gamehall/gamehallkeep1.CertBreaks -/
def gamehallkeep1_CertBreaks.e (N : Nat) (r_ : TRules) (p_ : TPos) (depth : Int) (at_ : Int) (to : Int) : Option Bool :=
  (gamehallkeep1_proved N).bind fun y1 =>
  bif (!y1) then some false
  else (gamehallkeep1_scored N).bind fun y2 =>
  bif (!y2) then some false
  else (gamehallkeep1_heavy N r_ p_ depth).bind fun y3 =>
  bif y3 then some true
  else (cert_Make N r_ p_ depth).bind fun y4 =>
  bif (!(eqI y4.2 0)) then (some (eqI (y4.1.length : Int) 0))
  else bif (eqI (y4.1.length : Int) 0) then (some (eqI (y4.1.length : Int) 0))
  else (slices_Clone_api_CertNode_api_CertNode N y4.1).bind fun y8 =>
  bif (eqI (y8.length : Int) 0) then none
  else bif (eqI (y8.length : Int) 0) then none
  else let v11 : Int := (Int.tmod (w64 ((Int.tmod at_ (y8.length : Int)) + (y8.length : Int))) (y8.length : Int))
  chk ((leI 0 v11) && (ltI v11 (y8.length : Int))) <|
  (slices_Clone_int_int N (gD (((0 : Int), ((0 : Int), (0 : Int))), ([] : LInt)) y8 v11).2).bind fun y12 =>
  bif (eqI (Int.tmod to 2) 0) then (bif (ltI 0 (y12.length : Int)) then (bif (eqI (y12.length : Int) 0) then none
      else bif (eqI (y12.length : Int) 0) then none
      else let v16 : Int := (Int.tmod (w64 ((Int.tmod to (y12.length : Int)) + (y12.length : Int))) (y12.length : Int))
      chk ((leI 0 v16) && (ltI v16 (y12.length : Int))) <|
      chk ((leI 0 v16) && (ltI v16 (y12.length : Int))) <|
      chk ((leI 0 v11) && (ltI v11 (y8.length : Int))) <|
      (cert_Check N r_ p_ (y8.set v11.toNat ((gD (((0 : Int), ((0 : Int), (0 : Int))), ([] : LInt)) y8 v11).1, (y12.set v16.toNat (w64 ((gD (0 : Int) y12 v16) + (w64 (1 + (Int.tmod at_ 3))))))))).bind fun y20 =>
      bif (!(eqI y20.2 0)) then (some (eqI y20.1 0))
      else bif (ltI 6 y20.1) then some true
      else (gamehallkeep1_heavy N r_ p_ y20.1).bind fun y21 =>
      bif y21 then some true
      else (minimax_Score N r_ p_ y20.1).bind fun y22 =>
      bif (eqI y22.2 0) then (some (leI (w64 (1000 - y20.1)) y22.1))
      else some false)
    else chk ((leI 0 v11) && (ltI v11 (y8.length : Int))) <|
    (cert_Check N r_ p_ (y8.set v11.toNat (((gD (((0 : Int), ((0 : Int), (0 : Int))), ([] : LInt)) y8 v11).1.1, ((Int.tmod to 64), (gD (((0 : Int), ((0 : Int), (0 : Int))), ([] : LInt)) y8 v11).1.2.2)), y12))).bind fun y25 =>
    bif (!(eqI y25.2 0)) then (some (eqI y25.1 0))
    else bif (ltI 6 y25.1) then some true
    else (gamehallkeep1_heavy N r_ p_ y25.1).bind fun y26 =>
    bif y26 then some true
    else (minimax_Score N r_ p_ y25.1).bind fun y27 =>
    bif (eqI y27.2 0) then (some (leI (w64 (1000 - y25.1)) y27.1))
    else some false)
  else chk ((leI 0 v11) && (ltI v11 (y8.length : Int))) <|
  (cert_Check N r_ p_ (y8.set v11.toNat (((gD (((0 : Int), ((0 : Int), (0 : Int))), ([] : LInt)) y8 v11).1.1, ((Int.tmod to 64), (gD (((0 : Int), ((0 : Int), (0 : Int))), ([] : LInt)) y8 v11).1.2.2)), y12))).bind fun y30 =>
  bif (!(eqI y30.2 0)) then (some (eqI y30.1 0))
  else bif (ltI 6 y30.1) then some true
  else (gamehallkeep1_heavy N r_ p_ y30.1).bind fun y31 =>
  bif y31 then some true
  else (minimax_Score N r_ p_ y30.1).bind fun y32 =>
  bif (eqI y32.2 0) then (some (leI (w64 (1000 - y30.1)) y32.1))
  else some false
def gamehallkeep1_CertBreaks (N : Nat) (r_ : TRules) (p_ : TPos) (depth : Int) (at_ : Int) (to : Int) : Option Bool := gamehallkeep1_CertBreaks.e N r_ p_ depth at_ to
end Go.Proofs.Ytnckilklmkpooaa.Am
