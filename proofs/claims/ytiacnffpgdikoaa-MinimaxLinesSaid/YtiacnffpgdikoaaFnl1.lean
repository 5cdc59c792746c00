/- PRINTED by gen.py: what the functions compute, as plain Lean functions with fuel. -/
import Derived.Test.YtiacnffpgdikoaaFnl
set_option linter.unusedVariables false
set_option linter.unusedSimpArgs false
namespace Go.Proofs.Ytiacnffpgdikoaa.Am
open Go
noncomputable section
/-! ### f77: (*gamehall/perft.counter).count -/
def perft_counter_count''.e (N : Nat) (self : Int → TBoard → Int → Option (Int × Int × TBoard)) (r0 : Int → Int → Int → Int → ByteArray → Int → Int → Bool → Bool → Int → Int → Int → Int → Int → Int → LMv → (List TPiece) → LInt → (List TEnd) → LInt → LInt → LInt → (List TUndo) → Option (Int × Int × TBoard)) (c_ : Int) (b_ : TBoard) (depth : Int) : Option (Int × Int × TBoard) :=
  bif (ltI (w64 (c_ - 1)) 0) then (some (1, ((w64 (c_ - 1)), b_)))
  else bif (eqI depth 0) then (some (1, ((w64 (c_ - 1)), b_)))
  else (board_Board_Moves N b_).bind fun y1 =>
  r0 0 (y1.length : Int) 0 (w64 (c_ - 1)) b_.1.1 b_.1.2.1 b_.1.2.2.1 b_.1.2.2.2.2.2.1 b_.1.2.2.2.2.2.2.1 b_.1.2.2.2.2.2.2.2.2.1 b_.1.2.2.2.2.2.2.2.2.2.1 b_.1.2.2.2.2.2.2.2.2.2.2 b_.2.1.2.2.1 b_.2.1.2.2.2 b_.2.2.1 y1 b_.1.2.2.2.1 b_.1.2.2.2.2.1 b_.1.2.2.2.2.2.2.2.1 b_.2.1.1 b_.2.1.2.1.1 b_.2.1.2.1.2 b_.2.2.2
def perft_counter_count''.s0 (N : Nat) (self : Int → TBoard → Int → Option (Int × Int × TBoard)) (c_ : Int) (b_ : TBoard) (depth : Int) (r0 : Int → Int → Int → Int → ByteArray → Int → Int → Bool → Bool → Int → Int → Int → Int → Int → Int → LMv → (List TPiece) → LInt → (List TEnd) → LInt → LInt → LInt → (List TUndo) → Option (Int × Int × TBoard)) (n_ : Int) (t28_ : Int) (t29_ : Int) (c_2 : Int) (b_2 : ByteArray) (b_3 : Int) (b_4 : Int) (b_5 : Bool) (b_6 : Bool) (b_7 : Int) (b_8 : Int) (b_9 : Int) (b_10 : Int) (b_11 : Int) (b_12 : Int) (m9_ : LMv) (m10_ : (List TPiece)) (m11_ : LInt) (m12_ : (List TEnd)) (m13_ : LInt) (m14_ : LInt) (m15_ : LInt) (m16_ : (List TUndo)) : Option (Int × Int × TBoard) :=
  bif (ltI t29_ t28_) then (chk ((leI 0 t29_) && (ltI t29_ (m9_.length : Int))) <|
    (board_Board_Make' N ((b_2, (b_3, (b_4, (m10_, (m11_, (b_5, (b_6, (m12_, (b_7, (b_8, b_9)))))))))), ((m13_, ((m14_, m15_), (b_10, b_11))), (b_12, m16_))) (gD ((0 : Int), ((0 : Int), (0 : Int))) m9_ t29_)).bind fun y2 =>
    (self c_2 y2 (w64 (depth - 1))).bind fun y3 =>
    (board_Board_Undo' N y3.2.2).bind fun y4 =>
    bif (ltI y3.2.1 0) then (some (0, (y3.2.1, y4.2)))
    else r0 (w64 (n_ + y3.1)) t28_ (w64 (t29_ + 1)) y3.2.1 y4.2.1.1 y4.2.1.2.1 y4.2.1.2.2.1 y4.2.1.2.2.2.2.2.1 y4.2.1.2.2.2.2.2.2.1 y4.2.1.2.2.2.2.2.2.2.2.1 y4.2.1.2.2.2.2.2.2.2.2.2.1 y4.2.1.2.2.2.2.2.2.2.2.2.2 y4.2.2.1.2.2.1 y4.2.2.1.2.2.2 y4.2.2.2.1 m9_ y4.2.1.2.2.2.1 y4.2.1.2.2.2.2.1 y4.2.1.2.2.2.2.2.2.2.1 y4.2.2.1.1 y4.2.2.1.2.1.1 y4.2.2.1.2.1.2 y4.2.2.2.2)
  else some (n_, (c_2, ((b_2, (b_3, (b_4, (m10_, (m11_, (b_5, (b_6, (m12_, (b_7, (b_8, b_9)))))))))), ((m13_, ((m14_, m15_), (b_10, b_11))), (b_12, m16_)))))
def perft_counter_count''.L (N : Nat) (self : Int → TBoard → Int → Option (Int × Int × TBoard)) (c_ : Int) (b_ : TBoard) (depth : Int) : Nat → (Int → Int → Int → Int → ByteArray → Int → Int → Bool → Bool → Int → Int → Int → Int → Int → Int → LMv → (List TPiece) → LInt → (List TEnd) → LInt → LInt → LInt → (List TUndo) → Option (Int × Int × TBoard))
  | 0 => fun _ _ _ _ _ _ _ _ _ _ _ _ _ _ _ _ _ _ _ _ _ _ _ => none
  | n + 1 => fun n_ t28_ t29_ c_2 b_2 b_3 b_4 b_5 b_6 b_7 b_8 b_9 b_10 b_11 b_12 m9_ m10_ m11_ m12_ m13_ m14_ m15_ m16_ => perft_counter_count''.s0 N self c_ b_ depth (perft_counter_count''.L N self c_ b_ depth n) n_ t28_ t29_ c_2 b_2 b_3 b_4 b_5 b_6 b_7 b_8 b_9 b_10 b_11 b_12 m9_ m10_ m11_ m12_ m13_ m14_ m15_ m16_
def perft_counter_count''.l0 (N : Nat) (self : Int → TBoard → Int → Option (Int × Int × TBoard)) (c_ : Int) (b_ : TBoard) (depth : Int) (n : Nat) : Int → Int → Int → Int → ByteArray → Int → Int → Bool → Bool → Int → Int → Int → Int → Int → Int → LMv → (List TPiece) → LInt → (List TEnd) → LInt → LInt → LInt → (List TUndo) → Option (Int × Int × TBoard) := (perft_counter_count''.L N self c_ b_ depth n)
theorem perft_counter_count''.l0_s (N : Nat) (self : Int → TBoard → Int → Option (Int × Int × TBoard)) (c_ : Int) (b_ : TBoard) (depth : Int) (n : Nat) (n_ : Int) (t28_ : Int) (t29_ : Int) (c_2 : Int) (b_2 : ByteArray) (b_3 : Int) (b_4 : Int) (b_5 : Bool) (b_6 : Bool) (b_7 : Int) (b_8 : Int) (b_9 : Int) (b_10 : Int) (b_11 : Int) (b_12 : Int) (m9_ : LMv) (m10_ : (List TPiece)) (m11_ : LInt) (m12_ : (List TEnd)) (m13_ : LInt) (m14_ : LInt) (m15_ : LInt) (m16_ : (List TUndo)) : perft_counter_count''.l0 N self c_ b_ depth (n + 1) n_ t28_ t29_ c_2 b_2 b_3 b_4 b_5 b_6 b_7 b_8 b_9 b_10 b_11 b_12 m9_ m10_ m11_ m12_ m13_ m14_ m15_ m16_ = perft_counter_count''.s0 N self c_ b_ depth (perft_counter_count''.l0 N self c_ b_ depth n) n_ t28_ t29_ c_2 b_2 b_3 b_4 b_5 b_6 b_7 b_8 b_9 b_10 b_11 b_12 m9_ m10_ m11_ m12_ m13_ m14_ m15_ m16_ := rfl
def perft_counter_count'' : Nat → Int → TBoard → Int → Option (Int × Int × TBoard)
  | 0 => fun _ _ _ => none
  | N + 1 => fun c_ b_ depth => perft_counter_count''.e N (perft_counter_count'' N) (perft_counter_count''.l0 N (perft_counter_count'' N) c_ b_ depth N) c_ b_ depth
theorem perft_counter_count''_s (N : Nat) (c_ : Int) (b_ : TBoard) (depth : Int) : perft_counter_count'' (N + 1) c_ b_ depth = perft_counter_count''.e N (perft_counter_count'' N) (perft_counter_count''.l0 N (perft_counter_count'' N) c_ b_ depth N) c_ b_ depth := rfl
/-! ### f55: gamehall/perft.Tree -/
def perft_Tree.e (N : Nat) (r_ : TRules) (p_ : TPos) (depth : Int) : Option (Int × Int) :=
  (perft_check N r_ p_ depth).bind fun y1 =>
  oCase y1.1 (bif (!(eqI y1.2 0)) then (some (0, y1.2))
    else none) fun b2 =>
  bif (!(eqI y1.2 0)) then (some (0, y1.2))
  else (perft_counter_count'' N 50000 b2 depth).bind fun y3 =>
  bif (ltI y3.2.1 0) then (some (0, 17))
  else some ((w64 (50000 - y3.2.1)), 0)
def perft_Tree (N : Nat) (r_ : TRules) (p_ : TPos) (depth : Int) : Option (Int × Int) := perft_Tree.e N r_ p_ depth
/-! ### f49: gamehall/minimax.Check -/
def minimax_Check.e (N : Nat) (r_ : TRules) (p_ : TPos) (depth : Int) : Option Int :=
  (perft_Tree N r_ p_ depth).bind fun y1 =>
  some y1.2
def minimax_Check (N : Nat) (r_ : TRules) (p_ : TPos) (depth : Int) : Option Int := minimax_Check.e N r_ p_ depth
/-! ### f79: (*gamehall/board.Board).Turn -/
def board_Board_Turn.e (N : Nat) (b_ : TBoard) : Option Int :=
  some b_.2.1.2.2.1
def board_Board_Turn (N : Nat) (b_ : TBoard) : Option Int := board_Board_Turn.e N b_
/-! ### f78: gamehall/ends.Score -/
def ends_Score.e (N : Nat) (result : Int) (turn : Int) : Option Int :=
  (ends_wins N turn).bind fun y1 =>
  bif (eqI result y1) then some 1000
  else (ends_wins N (w64 (1 - turn))).bind fun y2 =>
  bif (eqI result y2) then (some (-1000))
  else some 0
def ends_Score (N : Nat) (result : Int) (turn : Int) : Option Int := ends_Score.e N result turn
/-! ### f33: gamehall/minimax.Nearer -/
def minimax_Nearer.e (N : Nat) (n_ : Int) : Option Int :=
  bif (ltI 0 n_) then (some (w64 (n_ - 1)))
  else bif (ltI n_ 0) then (some (w64 (n_ + 1)))
  else some 0
def minimax_Nearer (N : Nat) (n_ : Int) : Option Int := minimax_Nearer.e N n_
/-! ### f56: gamehall/minimax.Value -/
def minimax_Value'.e (N : Nat) (self : TBoard → Int → Option (Int × TBoard)) (r0 : Int → Int → Int → ByteArray → Int → Int → Bool → Bool → Int → Int → Int → Int → Int → Int → LMv → (List TPiece) → LInt → (List TEnd) → LInt → LInt → LInt → (List TUndo) → Option (Int × TBoard)) (b_ : TBoard) (depth : Int) : Option (Int × TBoard) :=
  (board_Board_Result N b_).bind fun y1 =>
  bif (!(eqI y1 0)) then ((board_Board_Turn N b_).bind fun y2 =>
    (ends_Score N y1 y2).bind fun y3 =>
    some (y3, b_))
  else bif (eqI depth 0) then (some (0, b_))
  else (board_Board_Moves N b_).bind fun y4 =>
  r0 (-1000) (y4.length : Int) 0 b_.1.1 b_.1.2.1 b_.1.2.2.1 b_.1.2.2.2.2.2.1 b_.1.2.2.2.2.2.2.1 b_.1.2.2.2.2.2.2.2.2.1 b_.1.2.2.2.2.2.2.2.2.2.1 b_.1.2.2.2.2.2.2.2.2.2.2 b_.2.1.2.2.1 b_.2.1.2.2.2 b_.2.2.1 y4 b_.1.2.2.2.1 b_.1.2.2.2.2.1 b_.1.2.2.2.2.2.2.2.1 b_.2.1.1 b_.2.1.2.1.1 b_.2.1.2.1.2 b_.2.2.2
def minimax_Value'.s0 (N : Nat) (self : TBoard → Int → Option (Int × TBoard)) (b_ : TBoard) (depth : Int) (r0 : Int → Int → Int → ByteArray → Int → Int → Bool → Bool → Int → Int → Int → Int → Int → Int → LMv → (List TPiece) → LInt → (List TEnd) → LInt → LInt → LInt → (List TUndo) → Option (Int × TBoard)) (best : Int) (t21_ : Int) (t22_ : Int) (b_2 : ByteArray) (b_3 : Int) (b_4 : Int) (b_5 : Bool) (b_6 : Bool) (b_7 : Int) (b_8 : Int) (b_9 : Int) (b_10 : Int) (b_11 : Int) (b_12 : Int) (m8_ : LMv) (m9_ : (List TPiece)) (m10_ : LInt) (m11_ : (List TEnd)) (m12_ : LInt) (m13_ : LInt) (m14_ : LInt) (m15_ : (List TUndo)) : Option (Int × TBoard) :=
  bif (ltI t22_ t21_) then (chk ((leI 0 t22_) && (ltI t22_ (m8_.length : Int))) <|
    (board_Board_Make' N ((b_2, (b_3, (b_4, (m9_, (m10_, (b_5, (b_6, (m11_, (b_7, (b_8, b_9)))))))))), ((m12_, ((m13_, m14_), (b_10, b_11))), (b_12, m15_))) (gD ((0 : Int), ((0 : Int), (0 : Int))) m8_ t22_)).bind fun y5 =>
    (self y5 (w64 (depth - 1))).bind fun y6 =>
    (minimax_Nearer N (w64 (0 - y6.1))).bind fun y7 =>
    (board_Board_Undo' N y6.2).bind fun y9 =>
    r0 (bif (ltI best y7) then y7 else best) t21_ (w64 (t22_ + 1)) y9.2.1.1 y9.2.1.2.1 y9.2.1.2.2.1 y9.2.1.2.2.2.2.2.1 y9.2.1.2.2.2.2.2.2.1 y9.2.1.2.2.2.2.2.2.2.2.1 y9.2.1.2.2.2.2.2.2.2.2.2.1 y9.2.1.2.2.2.2.2.2.2.2.2.2 y9.2.2.1.2.2.1 y9.2.2.1.2.2.2 y9.2.2.2.1 m8_ y9.2.1.2.2.2.1 y9.2.1.2.2.2.2.1 y9.2.1.2.2.2.2.2.2.2.1 y9.2.2.1.1 y9.2.2.1.2.1.1 y9.2.2.1.2.1.2 y9.2.2.2.2)
  else some (best, ((b_2, (b_3, (b_4, (m9_, (m10_, (b_5, (b_6, (m11_, (b_7, (b_8, b_9)))))))))), ((m12_, ((m13_, m14_), (b_10, b_11))), (b_12, m15_))))
def minimax_Value'.L (N : Nat) (self : TBoard → Int → Option (Int × TBoard)) (b_ : TBoard) (depth : Int) : Nat → (Int → Int → Int → ByteArray → Int → Int → Bool → Bool → Int → Int → Int → Int → Int → Int → LMv → (List TPiece) → LInt → (List TEnd) → LInt → LInt → LInt → (List TUndo) → Option (Int × TBoard))
  | 0 => fun _ _ _ _ _ _ _ _ _ _ _ _ _ _ _ _ _ _ _ _ _ _ => none
  | n + 1 => fun best t21_ t22_ b_2 b_3 b_4 b_5 b_6 b_7 b_8 b_9 b_10 b_11 b_12 m8_ m9_ m10_ m11_ m12_ m13_ m14_ m15_ => minimax_Value'.s0 N self b_ depth (minimax_Value'.L N self b_ depth n) best t21_ t22_ b_2 b_3 b_4 b_5 b_6 b_7 b_8 b_9 b_10 b_11 b_12 m8_ m9_ m10_ m11_ m12_ m13_ m14_ m15_
def minimax_Value'.l0 (N : Nat) (self : TBoard → Int → Option (Int × TBoard)) (b_ : TBoard) (depth : Int) (n : Nat) : Int → Int → Int → ByteArray → Int → Int → Bool → Bool → Int → Int → Int → Int → Int → Int → LMv → (List TPiece) → LInt → (List TEnd) → LInt → LInt → LInt → (List TUndo) → Option (Int × TBoard) := (minimax_Value'.L N self b_ depth n)
theorem minimax_Value'.l0_s (N : Nat) (self : TBoard → Int → Option (Int × TBoard)) (b_ : TBoard) (depth : Int) (n : Nat) (best : Int) (t21_ : Int) (t22_ : Int) (b_2 : ByteArray) (b_3 : Int) (b_4 : Int) (b_5 : Bool) (b_6 : Bool) (b_7 : Int) (b_8 : Int) (b_9 : Int) (b_10 : Int) (b_11 : Int) (b_12 : Int) (m8_ : LMv) (m9_ : (List TPiece)) (m10_ : LInt) (m11_ : (List TEnd)) (m12_ : LInt) (m13_ : LInt) (m14_ : LInt) (m15_ : (List TUndo)) : minimax_Value'.l0 N self b_ depth (n + 1) best t21_ t22_ b_2 b_3 b_4 b_5 b_6 b_7 b_8 b_9 b_10 b_11 b_12 m8_ m9_ m10_ m11_ m12_ m13_ m14_ m15_ = minimax_Value'.s0 N self b_ depth (minimax_Value'.l0 N self b_ depth n) best t21_ t22_ b_2 b_3 b_4 b_5 b_6 b_7 b_8 b_9 b_10 b_11 b_12 m8_ m9_ m10_ m11_ m12_ m13_ m14_ m15_ := rfl
def minimax_Value' : Nat → TBoard → Int → Option (Int × TBoard)
  | 0 => fun _ _ => none
  | N + 1 => fun b_ depth => minimax_Value'.e N (minimax_Value' N) (minimax_Value'.l0 N (minimax_Value' N) b_ depth N) b_ depth
theorem minimax_Value'_s (N : Nat) (b_ : TBoard) (depth : Int) : minimax_Value' (N + 1) b_ depth = minimax_Value'.e N (minimax_Value' N) (minimax_Value'.l0 N (minimax_Value' N) b_ depth N) b_ depth := rfl
/-! ### f52: gamehall/minimax.best -/
def minimax_best'.e (N : Nat) (r0 : Int → Int → Int → ByteArray → Int → Int → Bool → Bool → Int → Int → Int → Int → Int → Int → Int → Int → Int → LMv → (List TPiece) → LInt → (List TEnd) → LInt → LInt → LInt → (List TUndo) → Option (TMv × Int × TBoard)) (b_ : TBoard) (depth : Int) : Option (TMv × Int × TBoard) :=
  (board_Board_Moves N b_).bind fun y1 =>
  r0 (-1001) (y1.length : Int) 0 b_.1.1 b_.1.2.1 b_.1.2.2.1 b_.1.2.2.2.2.2.1 b_.1.2.2.2.2.2.2.1 b_.1.2.2.2.2.2.2.2.2.1 b_.1.2.2.2.2.2.2.2.2.2.1 b_.1.2.2.2.2.2.2.2.2.2.2 b_.2.1.2.2.1 b_.2.1.2.2.2 b_.2.2.1 0 0 0 y1 b_.1.2.2.2.1 b_.1.2.2.2.2.1 b_.1.2.2.2.2.2.2.2.1 b_.2.1.1 b_.2.1.2.1.1 b_.2.1.2.1.2 b_.2.2.2
def minimax_best'.s0 (N : Nat) (b_ : TBoard) (depth : Int) (r0 : Int → Int → Int → ByteArray → Int → Int → Bool → Bool → Int → Int → Int → Int → Int → Int → Int → Int → Int → LMv → (List TPiece) → LInt → (List TEnd) → LInt → LInt → LInt → (List TUndo) → Option (TMv × Int × TBoard)) (most : Int) (t13_ : Int) (t14_ : Int) (b_2 : ByteArray) (b_3 : Int) (b_4 : Int) (b_5 : Bool) (b_6 : Bool) (b_7 : Int) (b_8 : Int) (b_9 : Int) (b_10 : Int) (b_11 : Int) (b_12 : Int) (out : Int) (out2 : Int) (out3 : Int) (m10_ : LMv) (m11_ : (List TPiece)) (m12_ : LInt) (m13_ : (List TEnd)) (m14_ : LInt) (m15_ : LInt) (m16_ : LInt) (m17_ : (List TUndo)) : Option (TMv × Int × TBoard) :=
  bif (ltI t14_ t13_) then (chk ((leI 0 t14_) && (ltI t14_ (m10_.length : Int))) <|
    (board_Board_Make' N ((b_2, (b_3, (b_4, (m11_, (m12_, (b_5, (b_6, (m13_, (b_7, (b_8, b_9)))))))))), ((m14_, ((m15_, m16_), (b_10, b_11))), (b_12, m17_))) (gD ((0 : Int), ((0 : Int), (0 : Int))) m10_ t14_)).bind fun y2 =>
    (minimax_Value' N y2 (w64 (depth - 1))).bind fun y3 =>
    (minimax_Nearer N (w64 (0 - y3.1))).bind fun y4 =>
    (board_Board_Undo' N y3.2).bind fun y5 =>
    bif (ltI most y4) then (r0 y4 t13_ (w64 (t14_ + 1)) y5.2.1.1 y5.2.1.2.1 y5.2.1.2.2.1 y5.2.1.2.2.2.2.2.1 y5.2.1.2.2.2.2.2.2.1 y5.2.1.2.2.2.2.2.2.2.2.1 y5.2.1.2.2.2.2.2.2.2.2.2.1 y5.2.1.2.2.2.2.2.2.2.2.2.2 y5.2.2.1.2.2.1 y5.2.2.1.2.2.2 y5.2.2.2.1 (gD ((0 : Int), ((0 : Int), (0 : Int))) m10_ t14_).1 (gD ((0 : Int), ((0 : Int), (0 : Int))) m10_ t14_).2.1 (gD ((0 : Int), ((0 : Int), (0 : Int))) m10_ t14_).2.2 m10_ y5.2.1.2.2.2.1 y5.2.1.2.2.2.2.1 y5.2.1.2.2.2.2.2.2.2.1 y5.2.2.1.1 y5.2.2.1.2.1.1 y5.2.2.1.2.1.2 y5.2.2.2.2)
    else r0 most t13_ (w64 (t14_ + 1)) y5.2.1.1 y5.2.1.2.1 y5.2.1.2.2.1 y5.2.1.2.2.2.2.2.1 y5.2.1.2.2.2.2.2.2.1 y5.2.1.2.2.2.2.2.2.2.2.1 y5.2.1.2.2.2.2.2.2.2.2.2.1 y5.2.1.2.2.2.2.2.2.2.2.2.2 y5.2.2.1.2.2.1 y5.2.2.1.2.2.2 y5.2.2.2.1 out out2 out3 m10_ y5.2.1.2.2.2.1 y5.2.1.2.2.2.2.1 y5.2.1.2.2.2.2.2.2.2.1 y5.2.2.1.1 y5.2.2.1.2.1.1 y5.2.2.1.2.1.2 y5.2.2.2.2)
  else some ((out, (out2, out3)), (most, ((b_2, (b_3, (b_4, (m11_, (m12_, (b_5, (b_6, (m13_, (b_7, (b_8, b_9)))))))))), ((m14_, ((m15_, m16_), (b_10, b_11))), (b_12, m17_)))))
def minimax_best'.L (N : Nat) (b_ : TBoard) (depth : Int) : Nat → (Int → Int → Int → ByteArray → Int → Int → Bool → Bool → Int → Int → Int → Int → Int → Int → Int → Int → Int → LMv → (List TPiece) → LInt → (List TEnd) → LInt → LInt → LInt → (List TUndo) → Option (TMv × Int × TBoard))
  | 0 => fun _ _ _ _ _ _ _ _ _ _ _ _ _ _ _ _ _ _ _ _ _ _ _ _ _ => none
  | n + 1 => fun most t13_ t14_ b_2 b_3 b_4 b_5 b_6 b_7 b_8 b_9 b_10 b_11 b_12 out out2 out3 m10_ m11_ m12_ m13_ m14_ m15_ m16_ m17_ => minimax_best'.s0 N b_ depth (minimax_best'.L N b_ depth n) most t13_ t14_ b_2 b_3 b_4 b_5 b_6 b_7 b_8 b_9 b_10 b_11 b_12 out out2 out3 m10_ m11_ m12_ m13_ m14_ m15_ m16_ m17_
def minimax_best'.l0 (N : Nat) (b_ : TBoard) (depth : Int) (n : Nat) : Int → Int → Int → ByteArray → Int → Int → Bool → Bool → Int → Int → Int → Int → Int → Int → Int → Int → Int → LMv → (List TPiece) → LInt → (List TEnd) → LInt → LInt → LInt → (List TUndo) → Option (TMv × Int × TBoard) := (minimax_best'.L N b_ depth n)
theorem minimax_best'.l0_s (N : Nat) (b_ : TBoard) (depth : Int) (n : Nat) (most : Int) (t13_ : Int) (t14_ : Int) (b_2 : ByteArray) (b_3 : Int) (b_4 : Int) (b_5 : Bool) (b_6 : Bool) (b_7 : Int) (b_8 : Int) (b_9 : Int) (b_10 : Int) (b_11 : Int) (b_12 : Int) (out : Int) (out2 : Int) (out3 : Int) (m10_ : LMv) (m11_ : (List TPiece)) (m12_ : LInt) (m13_ : (List TEnd)) (m14_ : LInt) (m15_ : LInt) (m16_ : LInt) (m17_ : (List TUndo)) : minimax_best'.l0 N b_ depth (n + 1) most t13_ t14_ b_2 b_3 b_4 b_5 b_6 b_7 b_8 b_9 b_10 b_11 b_12 out out2 out3 m10_ m11_ m12_ m13_ m14_ m15_ m16_ m17_ = minimax_best'.s0 N b_ depth (minimax_best'.l0 N b_ depth n) most t13_ t14_ b_2 b_3 b_4 b_5 b_6 b_7 b_8 b_9 b_10 b_11 b_12 out out2 out3 m10_ m11_ m12_ m13_ m14_ m15_ m16_ m17_ := rfl
def minimax_best' (N : Nat) (b_ : TBoard) (depth : Int) : Option (TMv × Int × TBoard) := minimax_best'.e N (minimax_best'.l0 N b_ depth N) b_ depth
/-! ### f27: gamehall/minimax.Line -/
def minimax_Line.e (N : Nat) (r0 : Int → ByteArray → Int → Int → Bool → Bool → Int → Int → Int → Int → Int → Int → (List TPiece) → LInt → (List TEnd) → LInt → LInt → LInt → (List TUndo) → LMv → Option (LMv × Int)) (r_ : TRules) (p_ : TPos) (depth : Int) : Option (LMv × Int) :=
  (minimax_Check N r_ p_ depth).bind fun y1 =>
  bif (!(eqI y1 0)) then (some ([], y1))
  else (board_New N r_ p_).bind fun y2 =>
  oCase y2.1 none fun b3 =>
  r0 depth b3.1.1 b3.1.2.1 b3.1.2.2.1 b3.1.2.2.2.2.2.1 b3.1.2.2.2.2.2.2.1 b3.1.2.2.2.2.2.2.2.2.1 b3.1.2.2.2.2.2.2.2.2.2.1 b3.1.2.2.2.2.2.2.2.2.2.2 b3.2.1.2.2.1 b3.2.1.2.2.2 b3.2.2.1 b3.1.2.2.2.1 b3.1.2.2.2.2.1 b3.1.2.2.2.2.2.2.2.1 b3.2.1.1 b3.2.1.2.1.1 b3.2.1.2.1.2 b3.2.2.2 []
def minimax_Line.s0 (N : Nat) (r_ : TRules) (p_ : TPos) (depth : Int) (r0 : Int → ByteArray → Int → Int → Bool → Bool → Int → Int → Int → Int → Int → Int → (List TPiece) → LInt → (List TEnd) → LInt → LInt → LInt → (List TUndo) → LMv → Option (LMv × Int)) (depth2 : Int) (b_ : ByteArray) (b_2 : Int) (b_3 : Int) (b_4 : Bool) (b_5 : Bool) (b_6 : Int) (b_7 : Int) (b_8 : Int) (b_9 : Int) (b_10 : Int) (b_11 : Int) (m3_ : (List TPiece)) (m4_ : LInt) (m5_ : (List TEnd)) (m6_ : LInt) (m7_ : LInt) (m8_ : LInt) (m9_ : (List TUndo)) (out : LMv) : Option (LMv × Int) :=
  bif (ltI 0 depth2) then ((board_Board_Result N ((b_, (b_2, (b_3, (m3_, (m4_, (b_4, (b_5, (m5_, (b_6, (b_7, b_8)))))))))), ((m6_, ((m7_, m8_), (b_9, b_10))), (b_11, m9_)))).bind fun y4 =>
    bif (eqI y4 0) then ((minimax_best' N ((b_, (b_2, (b_3, (m3_, (m4_, (b_4, (b_5, (m5_, (b_6, (b_7, b_8)))))))))), ((m6_, ((m7_, m8_), (b_9, b_10))), (b_11, m9_))) depth2).bind fun y5 =>
      chk (capOk 24 (out.length + ([y5.1] : List TMv).length)) <|
      (board_Board_Make' N y5.2.2 y5.1).bind fun y6 =>
      r0 (w64 (depth2 - 1)) y6.1.1 y6.1.2.1 y6.1.2.2.1 y6.1.2.2.2.2.2.1 y6.1.2.2.2.2.2.2.1 y6.1.2.2.2.2.2.2.2.2.1 y6.1.2.2.2.2.2.2.2.2.2.1 y6.1.2.2.2.2.2.2.2.2.2.2 y6.2.1.2.2.1 y6.2.1.2.2.2 y6.2.2.1 y6.1.2.2.2.1 y6.1.2.2.2.2.1 y6.1.2.2.2.2.2.2.2.1 y6.2.1.1 y6.2.1.2.1.1 y6.2.1.2.1.2 y6.2.2.2 (out ++ [y5.1]))
    else some (out, 0))
  else some (out, 0)
def minimax_Line.L (N : Nat) (r_ : TRules) (p_ : TPos) (depth : Int) : Nat → (Int → ByteArray → Int → Int → Bool → Bool → Int → Int → Int → Int → Int → Int → (List TPiece) → LInt → (List TEnd) → LInt → LInt → LInt → (List TUndo) → LMv → Option (LMv × Int))
  | 0 => fun _ _ _ _ _ _ _ _ _ _ _ _ _ _ _ _ _ _ _ _ => none
  | n + 1 => fun depth2 b_ b_2 b_3 b_4 b_5 b_6 b_7 b_8 b_9 b_10 b_11 m3_ m4_ m5_ m6_ m7_ m8_ m9_ out => minimax_Line.s0 N r_ p_ depth (minimax_Line.L N r_ p_ depth n) depth2 b_ b_2 b_3 b_4 b_5 b_6 b_7 b_8 b_9 b_10 b_11 m3_ m4_ m5_ m6_ m7_ m8_ m9_ out
def minimax_Line.l0 (N : Nat) (r_ : TRules) (p_ : TPos) (depth : Int) (n : Nat) : Int → ByteArray → Int → Int → Bool → Bool → Int → Int → Int → Int → Int → Int → (List TPiece) → LInt → (List TEnd) → LInt → LInt → LInt → (List TUndo) → LMv → Option (LMv × Int) := (minimax_Line.L N r_ p_ depth n)
theorem minimax_Line.l0_s (N : Nat) (r_ : TRules) (p_ : TPos) (depth : Int) (n : Nat) (depth2 : Int) (b_ : ByteArray) (b_2 : Int) (b_3 : Int) (b_4 : Bool) (b_5 : Bool) (b_6 : Int) (b_7 : Int) (b_8 : Int) (b_9 : Int) (b_10 : Int) (b_11 : Int) (m3_ : (List TPiece)) (m4_ : LInt) (m5_ : (List TEnd)) (m6_ : LInt) (m7_ : LInt) (m8_ : LInt) (m9_ : (List TUndo)) (out : LMv) : minimax_Line.l0 N r_ p_ depth (n + 1) depth2 b_ b_2 b_3 b_4 b_5 b_6 b_7 b_8 b_9 b_10 b_11 m3_ m4_ m5_ m6_ m7_ m8_ m9_ out = minimax_Line.s0 N r_ p_ depth (minimax_Line.l0 N r_ p_ depth n) depth2 b_ b_2 b_3 b_4 b_5 b_6 b_7 b_8 b_9 b_10 b_11 m3_ m4_ m5_ m6_ m7_ m8_ m9_ out := rfl
def minimax_Line (N : Nat) (r_ : TRules) (p_ : TPos) (depth : Int) : Option (LMv × Int) := minimax_Line.e N (minimax_Line.l0 N r_ p_ depth N) r_ p_ depth
/-! ### f28: gamehall/gamehallkeep1.put -/
def gamehallkeep1_put.e (N : Nat) (s_ : Int) : Option TMv :=
  some ((-1), (s_, 0))
def gamehallkeep1_put (N : Nat) (s_ : Int) : Option TMv := gamehallkeep1_put.e N s_
/-! ### f31: gamehall/minimax.Score -/
def minimax_Score.e (N : Nat) (r_ : TRules) (p_ : TPos) (depth : Int) : Option (Int × Int) :=
  (minimax_Check N r_ p_ depth).bind fun y1 =>
  bif (!(eqI y1 0)) then (some (0, y1))
  else (board_New N r_ p_).bind fun y2 =>
  oCase y2.1 none fun b3 =>
  (minimax_Value' N b3 depth).bind fun y4 =>
  some (y4.1, 0)
def minimax_Score (N : Nat) (r_ : TRules) (p_ : TPos) (depth : Int) : Option (Int × Int) := minimax_Score.e N r_ p_ depth
/-! ### f54: gamehall/minimax.Best -/
def minimax_Best.e (N : Nat) (r_ : TRules) (p_ : TPos) (depth : Int) : Option (TMv × Int × Int) :=
  (minimax_Check N r_ p_ depth).bind fun y1 =>
  bif (!(eqI y1 0)) then (some ((0, (0, 0)), (0, y1)))
  else (board_New N r_ p_).bind fun y2 =>
  oCase y2.1 (bif (eqI depth 0) then (some ((0, (0, 0)), (0, 1)))
    else none) fun b3 =>
  bif (eqI depth 0) then (some ((0, (0, 0)), (0, 1)))
  else (board_Board_Result N b3).bind fun y4 =>
  bif (!(eqI y4 0)) then (some ((0, (0, 0)), (0, 14)))
  else (minimax_best' N b3 depth).bind fun y5 =>
  some (y5.1, (y5.2.1, 0))
def minimax_Best (N : Nat) (r_ : TRules) (p_ : TPos) (depth : Int) : Option (TMv × Int × Int) := minimax_Best.e N r_ p_ depth
/-! ### f42: gamehall/gamehallkeep1.fine$1 -/
def gamehallkeep1_fine_1.e (N : Nat) (e_ : Int) : Option Bool :=
  some (!(eqI e_ 0))
def gamehallkeep1_fine_1 (N : Nat) (e_ : Int) : Option Bool := gamehallkeep1_fine_1.e N e_
/-! ### f68: slices.IndexFunc[[]gamehall/api.Errno,gamehall/api.Errno] -/
def slices_IndexFunc_api_Errno_api_Errno.e (N : Nat) (r0 : Int → Option Int) (s_ : LInt) : Option Int :=
  r0 0
def slices_IndexFunc_api_Errno_api_Errno.s0 (N : Nat) (s_ : LInt) (r0 : Int → Option Int) (t8_ : Int) : Option Int :=
  bif (ltI t8_ (s_.length : Int)) then (chk ((leI 0 t8_) && (ltI t8_ (s_.length : Int))) <|
    (gamehallkeep1_fine_1 N (gD (0 : Int) s_ t8_)).bind fun y2 =>
    bif y2 then some t8_
    else r0 (w64 (t8_ + 1)))
  else some (-1)
def slices_IndexFunc_api_Errno_api_Errno.L (N : Nat) (s_ : LInt) : Nat → (Int → Option Int)
  | 0 => fun _ => none
  | n + 1 => fun t8_ => slices_IndexFunc_api_Errno_api_Errno.s0 N s_ (slices_IndexFunc_api_Errno_api_Errno.L N s_ n) t8_
def slices_IndexFunc_api_Errno_api_Errno.l0 (N : Nat) (s_ : LInt) (n : Nat) : Int → Option Int := (slices_IndexFunc_api_Errno_api_Errno.L N s_ n)
theorem slices_IndexFunc_api_Errno_api_Errno.l0_s (N : Nat) (s_ : LInt) (n : Nat) (t8_ : Int) : slices_IndexFunc_api_Errno_api_Errno.l0 N s_ (n + 1) t8_ = slices_IndexFunc_api_Errno_api_Errno.s0 N s_ (slices_IndexFunc_api_Errno_api_Errno.l0 N s_ n) t8_ := rfl
def slices_IndexFunc_api_Errno_api_Errno (N : Nat) (s_ : LInt) : Option Int := slices_IndexFunc_api_Errno_api_Errno.e N (slices_IndexFunc_api_Errno_api_Errno.l0 N s_ N) s_
/-! ### f41: slices.ContainsFunc[[]gamehall/api.Errno,gamehall/api.Errno] -/
def slices_ContainsFunc_api_Errno_api_Errno.e (N : Nat) (s_ : LInt) : Option Bool :=
  (slices_IndexFunc_api_Errno_api_Errno N s_).bind fun y1 =>
  some (leI 0 y1)
def slices_ContainsFunc_api_Errno_api_Errno (N : Nat) (s_ : LInt) : Option Bool := slices_ContainsFunc_api_Errno_api_Errno.e N s_
/-! ### f12: gamehall/gamehallkeep1.fine -/
def gamehallkeep1_fine.e (N : Nat) (l_ : LInt) : Option Bool :=
  (slices_ContainsFunc_api_Errno_api_Errno N l_).bind fun y1 =>
  some (!y1)
def gamehallkeep1_fine (N : Nat) (l_ : LInt) : Option Bool := gamehallkeep1_fine.e N l_
/-! ### f29: gamehall/gamehallkeep1.scored -/
def gamehallkeep1_scored.e (N : Nat) : Option Bool :=
  (gamehallkeep1_three N).bind fun y1 =>
  (gamehallkeep1_near N).bind fun y2 =>
  (minimax_Score N y1 y2 1).bind fun y3 =>
  (gamehallkeep1_three N).bind fun y4 =>
  (gamehallkeep1_near N).bind fun y5 =>
  (minimax_Best N y4 y5 2).bind fun y6 =>
  (gamehallkeep1_fine N [y3.2, y6.2.2]).bind fun y7 =>
  bif y7 then (bif (eqI y3.1 999) then ((gamehallkeep1_put N 2).bind fun y8 =>
      bif ((eqI y6.1.1 y8.1) && ((eqI y6.1.2.1 y8.2.1) && ((eqI y6.1.2.2 y8.2.2) && true))) then (some (eqI y6.2.1 999))
      else some false)
    else some false)
  else some false
def gamehallkeep1_scored (N : Nat) : Option Bool := gamehallkeep1_scored.e N
/-! ### f60: gamehall/place.Fresh -/
def place_Fresh.e (N : Nat) (r0 : Int → LInt → LInt → LInt → Option TPos) (r1 : Int → Int → Int → Int → LInt → LInt → LInt → Option TPos) (r_ : TRules) : Option TPos :=
  (slices_Clone_int_int N r_.2.2.2.2.1).bind fun y1 =>
  r0 0 y1 [] []
def place_Fresh.s0 (N : Nat) (r_ : TRules) (r0 : Int → LInt → LInt → LInt → Option TPos) (r1 : Int → Int → Int → Int → LInt → LInt → LInt → Option TPos) (t11_ : Int) (m2_ : LInt) (m4_ : LInt) (m5_ : LInt) : Option TPos :=
  bif (ltI t11_ 2) then (r1 t11_ t11_ (r_.2.2.2.1.length : Int) 0 m2_ m4_ m5_)
  else some (m2_, ((m4_, m5_), (0, 0)))
def place_Fresh.s1 (N : Nat) (r_ : TRules) (r0 : Int → LInt → LInt → LInt → Option TPos) (r1 : Int → Int → Int → Int → LInt → LInt → LInt → Option TPos) (o_ : Int) (t11_ : Int) (t16_ : Int) (t17_ : Int) (m2_ : LInt) (m4_ : LInt) (m5_ : LInt) : Option TPos :=
  bif (ltI t17_ t16_) then (chk ((leI 0 t17_) && (ltI t17_ (r_.2.2.2.1.length : Int))) <|
    bif (eqI o_ 0) then (let v3 : List Int := [(gD ((0 : Int), ((0 : Int), ((0 : Int), ([] : (List TWay))))) r_.2.2.2.1 t17_).2.1]
      chk (capOk 8 (m4_.length + v3.length)) <|
      r1 0 t11_ t16_ (w64 (t17_ + 1)) m2_ (m4_ ++ v3) m5_)
    else bif (eqI o_ 1) then (let v4 : List Int := [(gD ((0 : Int), ((0 : Int), ((0 : Int), ([] : (List TWay))))) r_.2.2.2.1 t17_).2.1]
      chk (capOk 8 (m5_.length + v4.length)) <|
      r1 1 t11_ t16_ (w64 (t17_ + 1)) m2_ m4_ (m5_ ++ v4))
    else none)
  else r0 (w64 (t11_ + 1)) m2_ m4_ m5_
def place_Fresh.L (N : Nat) (r_ : TRules) : Nat → (Int → LInt → LInt → LInt → Option TPos) × (Int → Int → Int → Int → LInt → LInt → LInt → Option TPos)
  | 0 => (fun _ _ _ _ => none, fun _ _ _ _ _ _ _ => none)
  | n + 1 => (fun t11_ m2_ m4_ m5_ => place_Fresh.s0 N r_ (place_Fresh.L N r_ n).1 (place_Fresh.L N r_ n).2 t11_ m2_ m4_ m5_, fun o_ t11_ t16_ t17_ m2_ m4_ m5_ => place_Fresh.s1 N r_ (place_Fresh.L N r_ n).1 (place_Fresh.L N r_ n).2 o_ t11_ t16_ t17_ m2_ m4_ m5_)
def place_Fresh.l0 (N : Nat) (r_ : TRules) (n : Nat) : Int → LInt → LInt → LInt → Option TPos := (place_Fresh.L N r_ n).1
def place_Fresh.l1 (N : Nat) (r_ : TRules) (n : Nat) : Int → Int → Int → Int → LInt → LInt → LInt → Option TPos := (place_Fresh.L N r_ n).2
theorem place_Fresh.l0_s (N : Nat) (r_ : TRules) (n : Nat) (t11_ : Int) (m2_ : LInt) (m4_ : LInt) (m5_ : LInt) : place_Fresh.l0 N r_ (n + 1) t11_ m2_ m4_ m5_ = place_Fresh.s0 N r_ (place_Fresh.l0 N r_ n) (place_Fresh.l1 N r_ n) t11_ m2_ m4_ m5_ := rfl
theorem place_Fresh.l1_s (N : Nat) (r_ : TRules) (n : Nat) (o_ : Int) (t11_ : Int) (t16_ : Int) (t17_ : Int) (m2_ : LInt) (m4_ : LInt) (m5_ : LInt) : place_Fresh.l1 N r_ (n + 1) o_ t11_ t16_ t17_ m2_ m4_ m5_ = place_Fresh.s1 N r_ (place_Fresh.l0 N r_ n) (place_Fresh.l1 N r_ n) o_ t11_ t16_ t17_ m2_ m4_ m5_ := rfl
def place_Fresh (N : Nat) (r_ : TRules) : Option TPos := place_Fresh.e N (place_Fresh.l0 N r_ N) (place_Fresh.l1 N r_ N) r_
/-! ### f38: gamehall/place.Begin -/
def place_Begin.e (N : Nat) (r_ : TRules) : Option (TPos × Int) :=
  (rules_Check N r_).bind fun y1 =>
  bif (!(eqI y1 0)) then (some (([], (([], []), (0, 0))), y1))
  else (place_Fresh N r_).bind fun y2 =>
  some (y2, 0)
def place_Begin (N : Nat) (r_ : TRules) : Option (TPos × Int) := place_Begin.e N r_
/-! ### f11: gamehall/moves.All -/
def moves_All.e (N : Nat) (r_ : TRules) (p_ : TPos) : Option (LMv × Int) :=
  (place_Check N r_ p_).bind fun y1 =>
  bif (!(eqI y1 0)) then (some ([], y1))
  else (moves_Gen N r_ p_).bind fun y2 =>
  some (y2, 0)
def moves_All (N : Nat) (r_ : TRules) (p_ : TPos) : Option (LMv × Int) := moves_All.e N r_ p_
/-! ### f43: slices.Index[[]gamehall/api.Move,gamehall/api.Move] -/
def slices_Index_api_Move_api_Move.e (N : Nat) (r0 : Int → Option Int) (s_ : LMv) (v_ : TMv) : Option Int :=
  r0 0
def slices_Index_api_Move_api_Move.s0 (N : Nat) (s_ : LMv) (v_ : TMv) (r0 : Int → Option Int) (t8_ : Int) : Option Int :=
  bif (ltI t8_ (s_.length : Int)) then (chk ((leI 0 t8_) && (ltI t8_ (s_.length : Int))) <|
    bif ((eqI v_.1 (gD ((0 : Int), ((0 : Int), (0 : Int))) s_ t8_).1) && ((eqI v_.2.1 (gD ((0 : Int), ((0 : Int), (0 : Int))) s_ t8_).2.1) && ((eqI v_.2.2 (gD ((0 : Int), ((0 : Int), (0 : Int))) s_ t8_).2.2) && true))) then some t8_
    else r0 (w64 (t8_ + 1)))
  else some (-1)
def slices_Index_api_Move_api_Move.L (N : Nat) (s_ : LMv) (v_ : TMv) : Nat → (Int → Option Int)
  | 0 => fun _ => none
  | n + 1 => fun t8_ => slices_Index_api_Move_api_Move.s0 N s_ v_ (slices_Index_api_Move_api_Move.L N s_ v_ n) t8_
def slices_Index_api_Move_api_Move.l0 (N : Nat) (s_ : LMv) (v_ : TMv) (n : Nat) : Int → Option Int := (slices_Index_api_Move_api_Move.L N s_ v_ n)
theorem slices_Index_api_Move_api_Move.l0_s (N : Nat) (s_ : LMv) (v_ : TMv) (n : Nat) (t8_ : Int) : slices_Index_api_Move_api_Move.l0 N s_ v_ (n + 1) t8_ = slices_Index_api_Move_api_Move.s0 N s_ v_ (slices_Index_api_Move_api_Move.l0 N s_ v_ n) t8_ := rfl
def slices_Index_api_Move_api_Move (N : Nat) (s_ : LMv) (v_ : TMv) : Option Int := slices_Index_api_Move_api_Move.e N (slices_Index_api_Move_api_Move.l0 N s_ v_ N) s_ v_
/-! ### f14: slices.Contains[[]gamehall/api.Move,gamehall/api.Move] -/
def slices_Contains_api_Move_api_Move.e (N : Nat) (s_ : LMv) (v_ : TMv) : Option Bool :=
  (slices_Index_api_Move_api_Move N s_ v_).bind fun y1 =>
  some (leI 0 y1)
def slices_Contains_api_Move_api_Move (N : Nat) (s_ : LMv) (v_ : TMv) : Option Bool := slices_Contains_api_Move_api_Move.e N s_ v_
/-! ### f39: gamehall/moves.Legal -/
def moves_Legal.e (N : Nat) (r_ : TRules) (p_ : TPos) (m_ : TMv) : Option (Bool × Int) :=
  (place_Check N r_ p_).bind fun y1 =>
  bif (!(eqI y1 0)) then (some (false, y1))
  else (moves_Gen N r_ p_).bind fun y2 =>
  (slices_Contains_api_Move_api_Move N y2 m_).bind fun y3 =>
  some (y3, 0)
def moves_Legal (N : Nat) (r_ : TRules) (p_ : TPos) (m_ : TMv) : Option (Bool × Int) := moves_Legal.e N r_ p_ m_
/-! ### f57: gamehall/moves.Do -/
def moves_Do.e (N : Nat) (r_ : TRules) (p_ : TPos) (m_ : TMv) : Option TPos :=
  (place_Copy N p_).bind fun y1 =>
  bif (ltI m_.1 0) then (bif (eqI p_.2.2.1 0) then (chk ((leI 0 m_.2.2) && (ltI m_.2.2 (y1.2.1.1.length : Int))) <|
      chk ((leI 0 m_.2.2) && (ltI m_.2.2 (y1.2.1.1.length : Int))) <|
      let v4 : List Int := (y1.2.1.1.set m_.2.2.toNat (w64 ((gD (0 : Int) y1.2.1.1 m_.2.2) - 1)))
      chk ((leI 0 m_.2.1) && (ltI m_.2.1 (p_.1.length : Int))) <|
      bif (!(eqI (gD (0 : Int) p_.1 m_.2.1) 0)) then (bif (eqI p_.2.2.1 0) then (bif r_.2.2.2.2.2.2.1 then ((moves_Kind N (gD (0 : Int) p_.1 m_.2.1)).bind fun y6 =>
            (moves_Kind N (gD (0 : Int) p_.1 m_.2.1)).bind fun y7 =>
            chk ((leI 0 y7) && (ltI y7 (v4.length : Int))) <|
            let v8 : Int := (w64 ((gD (0 : Int) v4 y7) + 1))
            chk ((leI 0 y6) && (ltI y6 (v4.length : Int))) <|
            (moves_Cell N m_.2.2 p_.2.2.1).bind fun y10 =>
            chk ((leI 0 m_.2.1) && (ltI m_.2.1 (y1.1.length : Int))) <|
            some ((y1.1.set m_.2.1.toNat y10), (((v4.set y6.toNat (bif (ltI 1000 v8) then 1000 else v8)), y1.2.1.2), ((w64 (1 - p_.2.2.1)), 0))))
          else (moves_Cell N m_.2.2 p_.2.2.1).bind fun y12 =>
          chk ((leI 0 m_.2.1) && (ltI m_.2.1 (y1.1.length : Int))) <|
          some ((y1.1.set m_.2.1.toNat y12), ((v4, y1.2.1.2), ((w64 (1 - p_.2.2.1)), 0))))
        else bif (eqI p_.2.2.1 1) then (bif r_.2.2.2.2.2.2.1 then ((moves_Kind N (gD (0 : Int) p_.1 m_.2.1)).bind fun y14 =>
            (moves_Kind N (gD (0 : Int) p_.1 m_.2.1)).bind fun y15 =>
            chk ((leI 0 y15) && (ltI y15 (y1.2.1.2.length : Int))) <|
            let v16 : Int := (w64 ((gD (0 : Int) y1.2.1.2 y15) + 1))
            chk ((leI 0 y14) && (ltI y14 (y1.2.1.2.length : Int))) <|
            (moves_Cell N m_.2.2 p_.2.2.1).bind fun y19 =>
            chk ((leI 0 m_.2.1) && (ltI m_.2.1 (y1.1.length : Int))) <|
            some ((y1.1.set m_.2.1.toNat y19), ((v4, (y1.2.1.2.set y14.toNat (bif (ltI 1000 v16) then 1000 else v16))), ((w64 (1 - p_.2.2.1)), 0))))
          else (moves_Cell N m_.2.2 p_.2.2.1).bind fun y21 =>
          chk ((leI 0 m_.2.1) && (ltI m_.2.1 (y1.1.length : Int))) <|
          some ((y1.1.set m_.2.1.toNat y21), ((v4, y1.2.1.2), ((w64 (1 - p_.2.2.1)), 0))))
        else none)
      else (moves_Cell N m_.2.2 p_.2.2.1).bind fun y23 =>
      chk ((leI 0 m_.2.1) && (ltI m_.2.1 (y1.1.length : Int))) <|
      some ((y1.1.set m_.2.1.toNat y23), ((v4, y1.2.1.2), ((w64 (1 - p_.2.2.1)), 0))))
    else bif (eqI p_.2.2.1 1) then (chk ((leI 0 m_.2.2) && (ltI m_.2.2 (y1.2.1.2.length : Int))) <|
      chk ((leI 0 m_.2.2) && (ltI m_.2.2 (y1.2.1.2.length : Int))) <|
      let v26 : List Int := (y1.2.1.2.set m_.2.2.toNat (w64 ((gD (0 : Int) y1.2.1.2 m_.2.2) - 1)))
      chk ((leI 0 m_.2.1) && (ltI m_.2.1 (p_.1.length : Int))) <|
      bif (!(eqI (gD (0 : Int) p_.1 m_.2.1) 0)) then (bif (eqI p_.2.2.1 0) then (bif r_.2.2.2.2.2.2.1 then ((moves_Kind N (gD (0 : Int) p_.1 m_.2.1)).bind fun y28 =>
            (moves_Kind N (gD (0 : Int) p_.1 m_.2.1)).bind fun y29 =>
            chk ((leI 0 y29) && (ltI y29 (y1.2.1.1.length : Int))) <|
            let v30 : Int := (w64 ((gD (0 : Int) y1.2.1.1 y29) + 1))
            chk ((leI 0 y28) && (ltI y28 (y1.2.1.1.length : Int))) <|
            (moves_Cell N m_.2.2 p_.2.2.1).bind fun y33 =>
            chk ((leI 0 m_.2.1) && (ltI m_.2.1 (y1.1.length : Int))) <|
            some ((y1.1.set m_.2.1.toNat y33), (((y1.2.1.1.set y28.toNat (bif (ltI 1000 v30) then 1000 else v30)), v26), ((w64 (1 - p_.2.2.1)), 0))))
          else (moves_Cell N m_.2.2 p_.2.2.1).bind fun y35 =>
          chk ((leI 0 m_.2.1) && (ltI m_.2.1 (y1.1.length : Int))) <|
          some ((y1.1.set m_.2.1.toNat y35), ((y1.2.1.1, v26), ((w64 (1 - p_.2.2.1)), 0))))
        else bif (eqI p_.2.2.1 1) then (bif r_.2.2.2.2.2.2.1 then ((moves_Kind N (gD (0 : Int) p_.1 m_.2.1)).bind fun y37 =>
            (moves_Kind N (gD (0 : Int) p_.1 m_.2.1)).bind fun y38 =>
            chk ((leI 0 y38) && (ltI y38 (v26.length : Int))) <|
            let v39 : Int := (w64 ((gD (0 : Int) v26 y38) + 1))
            chk ((leI 0 y37) && (ltI y37 (v26.length : Int))) <|
            (moves_Cell N m_.2.2 p_.2.2.1).bind fun y41 =>
            chk ((leI 0 m_.2.1) && (ltI m_.2.1 (y1.1.length : Int))) <|
            some ((y1.1.set m_.2.1.toNat y41), ((y1.2.1.1, (v26.set y37.toNat (bif (ltI 1000 v39) then 1000 else v39))), ((w64 (1 - p_.2.2.1)), 0))))
          else (moves_Cell N m_.2.2 p_.2.2.1).bind fun y43 =>
          chk ((leI 0 m_.2.1) && (ltI m_.2.1 (y1.1.length : Int))) <|
          some ((y1.1.set m_.2.1.toNat y43), ((y1.2.1.1, v26), ((w64 (1 - p_.2.2.1)), 0))))
        else none)
      else (moves_Cell N m_.2.2 p_.2.2.1).bind fun y45 =>
      chk ((leI 0 m_.2.1) && (ltI m_.2.1 (y1.1.length : Int))) <|
      some ((y1.1.set m_.2.1.toNat y45), ((y1.2.1.1, v26), ((w64 (1 - p_.2.2.1)), 0))))
    else none)
  else chk ((leI 0 m_.1) && (ltI m_.1 (y1.1.length : Int))) <|
  chk ((leI 0 m_.2.1) && (ltI m_.2.1 (p_.1.length : Int))) <|
  bif (!(eqI (gD (0 : Int) p_.1 m_.2.1) 0)) then (bif (eqI p_.2.2.1 0) then (bif r_.2.2.2.2.2.2.1 then ((moves_Kind N (gD (0 : Int) p_.1 m_.2.1)).bind fun y48 =>
        (moves_Kind N (gD (0 : Int) p_.1 m_.2.1)).bind fun y49 =>
        chk ((leI 0 y49) && (ltI y49 (y1.2.1.1.length : Int))) <|
        let v50 : Int := (w64 ((gD (0 : Int) y1.2.1.1 y49) + 1))
        chk ((leI 0 y48) && (ltI y48 (y1.2.1.1.length : Int))) <|
        (moves_Cell N m_.2.2 p_.2.2.1).bind fun y53 =>
        chk ((leI 0 m_.2.1) && (ltI m_.2.1 ((y1.1.set m_.1.toNat 0).length : Int))) <|
        some (((y1.1.set m_.1.toNat 0).set m_.2.1.toNat y53), (((y1.2.1.1.set y48.toNat (bif (ltI 1000 v50) then 1000 else v50)), y1.2.1.2), ((w64 (1 - p_.2.2.1)), 0))))
      else (moves_Cell N m_.2.2 p_.2.2.1).bind fun y55 =>
      chk ((leI 0 m_.2.1) && (ltI m_.2.1 ((y1.1.set m_.1.toNat 0).length : Int))) <|
      some (((y1.1.set m_.1.toNat 0).set m_.2.1.toNat y55), (y1.2.1, ((w64 (1 - p_.2.2.1)), 0))))
    else bif (eqI p_.2.2.1 1) then (bif r_.2.2.2.2.2.2.1 then ((moves_Kind N (gD (0 : Int) p_.1 m_.2.1)).bind fun y57 =>
        (moves_Kind N (gD (0 : Int) p_.1 m_.2.1)).bind fun y58 =>
        chk ((leI 0 y58) && (ltI y58 (y1.2.1.2.length : Int))) <|
        let v59 : Int := (w64 ((gD (0 : Int) y1.2.1.2 y58) + 1))
        chk ((leI 0 y57) && (ltI y57 (y1.2.1.2.length : Int))) <|
        (moves_Cell N m_.2.2 p_.2.2.1).bind fun y62 =>
        chk ((leI 0 m_.2.1) && (ltI m_.2.1 ((y1.1.set m_.1.toNat 0).length : Int))) <|
        some (((y1.1.set m_.1.toNat 0).set m_.2.1.toNat y62), ((y1.2.1.1, (y1.2.1.2.set y57.toNat (bif (ltI 1000 v59) then 1000 else v59))), ((w64 (1 - p_.2.2.1)), 0))))
      else (moves_Cell N m_.2.2 p_.2.2.1).bind fun y64 =>
      chk ((leI 0 m_.2.1) && (ltI m_.2.1 ((y1.1.set m_.1.toNat 0).length : Int))) <|
      some (((y1.1.set m_.1.toNat 0).set m_.2.1.toNat y64), (y1.2.1, ((w64 (1 - p_.2.2.1)), 0))))
    else none)
  else (moves_Cell N m_.2.2 p_.2.2.1).bind fun y66 =>
  chk ((leI 0 m_.2.1) && (ltI m_.2.1 ((y1.1.set m_.1.toNat 0).length : Int))) <|
  some (((y1.1.set m_.1.toNat 0).set m_.2.1.toNat y66), (y1.2.1, ((w64 (1 - p_.2.2.1)), (bif (ltI 200 (w64 (p_.2.2.2 + 1))) then 200 else (w64 (p_.2.2.2 + 1))))))
def moves_Do (N : Nat) (r_ : TRules) (p_ : TPos) (m_ : TMv) : Option TPos := moves_Do.e N r_ p_ m_
/-! ### f32: gamehall/moves.After -/
def moves_After.e (N : Nat) (r_ : TRules) (p_ : TPos) (m_ : TMv) : Option (TPos × Int) :=
  (moves_Legal N r_ p_ m_).bind fun y1 =>
  bif (!(eqI y1.2 0)) then (some (([], (([], []), (0, 0))), y1.2))
  else bif (!y1.1) then (some (([], (([], []), (0, 0))), 13))
  else (moves_Do N r_ p_ m_).bind fun y2 =>
  some (y2, 0)
def moves_After (N : Nat) (r_ : TRules) (p_ : TPos) (m_ : TMv) : Option (TPos × Int) := moves_After.e N r_ p_ m_
/-! ### f10: gamehall/gamehallkeep1.plays -/
def gamehallkeep1_plays.e (N : Nat) : Option Bool :=
  (gamehallkeep1_three N).bind fun y1 =>
  (place_Begin N y1).bind fun y2 =>
  (gamehallkeep1_three N).bind fun y3 =>
  (moves_All N y3 y2.1).bind fun y4 =>
  (gamehallkeep1_three N).bind fun y5 =>
  (gamehallkeep1_put N 4).bind fun y6 =>
  (moves_After N y5 y2.1 y6).bind fun y7 =>
  (gamehallkeep1_three N).bind fun y8 =>
  (gamehallkeep1_put N 9).bind fun y9 =>
  (moves_Legal N y8 y2.1 y9).bind fun y10 =>
  (gamehallkeep1_fine N [y2.2, y4.2, y7.2, y10.2]).bind fun y12 =>
  bif y12 then (bif (eqI (y4.1.length : Int) 9) then (chk (true && (ltI 8 (y4.1.length : Int))) <|
      (gamehallkeep1_put N 8).bind fun y14 =>
      bif ((eqI (gD ((0 : Int), ((0 : Int), (0 : Int))) y4.1 8).1 y14.1) && ((eqI (gD ((0 : Int), ((0 : Int), (0 : Int))) y4.1 8).2.1 y14.2.1) && ((eqI (gD ((0 : Int), ((0 : Int), (0 : Int))) y4.1 8).2.2 y14.2.2) && true))) then (bif (eqI (y7.1.1.length : Int) 9) then (chk (true && (ltI 4 (y7.1.1.length : Int))) <|
          bif (eqI (gD (0 : Int) y7.1.1 4) 1) then (some (!y10.1))
          else some false)
        else some false)
      else some false)
    else some false)
  else some false
def gamehallkeep1_plays (N : Nat) : Option Bool := gamehallkeep1_plays.e N
/-! ### f30: gamehall/gamehallkeep1.heavy -/
def gamehallkeep1_heavy.e (N : Nat) (r_ : TRules) (p_ : TPos) (depth : Int) : Option Bool :=
  (perft_Tree N r_ p_ depth).bind fun y1 =>
  bif (eqI y1.2 17) then some true
  else bif (ltI 3000 y1.1) then some true
  else some (ltI 20 (p_.1.length : Int))
def gamehallkeep1_heavy (N : Nat) (r_ : TRules) (p_ : TPos) (depth : Int) : Option Bool := gamehallkeep1_heavy.e N r_ p_ depth
/-! ### f6: gamehall/gamehallkeep1.MinimaxLines -/
def gamehallkeep1_MinimaxLines.e (N : Nat) (r0 : Int → Int → Int → LMv → LInt → LInt → LInt → Int → Int → Option Bool) (r1 : Int → Int → Int → Int → Int → Option Bool) (r_ : TRules) (p_ : TPos) (depth : Int) : Option Bool :=
  (gamehallkeep1_three N).bind fun y1 =>
  (gamehallkeep1_near N).bind fun y2 =>
  (minimax_Line N y1 y2 3).bind fun y3 =>
  bif (!(eqI y3.2 0)) then some false
  else bif (!(eqI (y3.1.length : Int) 1)) then some false
  else chk (true && (ltI 0 (y3.1.length : Int))) <|
  (gamehallkeep1_put N 2).bind fun y5 =>
  bif (!((eqI (gD ((0 : Int), ((0 : Int), (0 : Int))) y3.1 0).1 y5.1) && ((eqI (gD ((0 : Int), ((0 : Int), (0 : Int))) y3.1 0).2.1 y5.2.1) && ((eqI (gD ((0 : Int), ((0 : Int), (0 : Int))) y3.1 0).2.2 y5.2.2) && true)))) then some false
  else (gamehallkeep1_scored N).bind fun y7 =>
  bif (!y7) then some false
  else (gamehallkeep1_plays N).bind fun y8 =>
  bif (!y8) then some false
  else (gamehallkeep1_heavy N r_ p_ depth).bind fun y9 =>
  bif y9 then some true
  else (minimax_Line N r_ p_ depth).bind fun y10 =>
  (minimax_Score N r_ p_ depth).bind fun y11 =>
  (gamehallkeep1_fine N [y10.2, y11.2]).bind fun y12 =>
  bif (!y12) then (bif (eqI y10.2 y11.2) then (some (eqI (y10.1.length : Int) 0))
    else some false)
  else bif (ltI depth (y10.1.length : Int)) then some false
  else r0 y11.1 (y10.1.length : Int) 0 y10.1 p_.1 p_.2.1.1 p_.2.1.2 p_.2.2.1 p_.2.2.2
def gamehallkeep1_MinimaxLines.s0 (N : Nat) (r_ : TRules) (p_ : TPos) (depth : Int) (r0 : Int → Int → Int → LMv → LInt → LInt → LInt → Int → Int → Option Bool) (r1 : Int → Int → Int → Int → Int → Option Bool) (n_ : Int) (t84_ : Int) (t85_ : Int) (l_ : LMv) (q_ : LInt) (q_2 : LInt) (q_3 : LInt) (q_4 : Int) (q_5 : Int) : Option Bool :=
  bif (ltI t85_ t84_) then (chk ((leI 0 t85_) && (ltI t85_ (l_.length : Int))) <|
    (moves_After N r_ (q_, ((q_2, q_3), (q_4, q_5))) (gD ((0 : Int), ((0 : Int), (0 : Int))) l_ t85_)).bind fun y15 =>
    bif (!(eqI y15.2 0)) then some false
    else r0 n_ t84_ (w64 (t85_ + 1)) l_ y15.1.1 y15.1.2.1.1 y15.1.2.1.2 y15.1.2.2.1 y15.1.2.2.2)
  else (minimax_Score N r_ (q_, ((q_2, q_3), (q_4, q_5))) (w64 (depth - (l_.length : Int)))).bind fun y17 =>
  r1 n_ y17.1 y17.2 (l_.length : Int) 0
def gamehallkeep1_MinimaxLines.s1 (N : Nat) (r_ : TRules) (p_ : TPos) (depth : Int) (r0 : Int → Int → Int → LMv → LInt → LInt → LInt → Int → Int → Option Bool) (r1 : Int → Int → Int → Int → Int → Option Bool) (n_ : Int) (last : Int) (g_ : Int) (t110_ : Int) (t111_ : Int) : Option Bool :=
  bif (ltI t111_ t110_) then ((minimax_Nearer N (w64 (0 - last))).bind fun y18 =>
    r1 n_ y18 g_ t110_ (w64 (t111_ + 1)))
  else bif (eqI g_ 0) then (some (eqI last n_))
  else some false
def gamehallkeep1_MinimaxLines.L (N : Nat) (r_ : TRules) (p_ : TPos) (depth : Int) : Nat → (Int → Int → Int → LMv → LInt → LInt → LInt → Int → Int → Option Bool) × (Int → Int → Int → Int → Int → Option Bool)
  | 0 => (fun _ _ _ _ _ _ _ _ _ => none, fun _ _ _ _ _ => none)
  | n + 1 => (fun n_ t84_ t85_ l_ q_ q_2 q_3 q_4 q_5 => gamehallkeep1_MinimaxLines.s0 N r_ p_ depth (gamehallkeep1_MinimaxLines.L N r_ p_ depth n).1 (gamehallkeep1_MinimaxLines.L N r_ p_ depth n).2 n_ t84_ t85_ l_ q_ q_2 q_3 q_4 q_5, fun n_ last g_ t110_ t111_ => gamehallkeep1_MinimaxLines.s1 N r_ p_ depth (gamehallkeep1_MinimaxLines.L N r_ p_ depth n).1 (gamehallkeep1_MinimaxLines.L N r_ p_ depth n).2 n_ last g_ t110_ t111_)
def gamehallkeep1_MinimaxLines.l0 (N : Nat) (r_ : TRules) (p_ : TPos) (depth : Int) (n : Nat) : Int → Int → Int → LMv → LInt → LInt → LInt → Int → Int → Option Bool := (gamehallkeep1_MinimaxLines.L N r_ p_ depth n).1
def gamehallkeep1_MinimaxLines.l1 (N : Nat) (r_ : TRules) (p_ : TPos) (depth : Int) (n : Nat) : Int → Int → Int → Int → Int → Option Bool := (gamehallkeep1_MinimaxLines.L N r_ p_ depth n).2
theorem gamehallkeep1_MinimaxLines.l0_s (N : Nat) (r_ : TRules) (p_ : TPos) (depth : Int) (n : Nat) (n_ : Int) (t84_ : Int) (t85_ : Int) (l_ : LMv) (q_ : LInt) (q_2 : LInt) (q_3 : LInt) (q_4 : Int) (q_5 : Int) : gamehallkeep1_MinimaxLines.l0 N r_ p_ depth (n + 1) n_ t84_ t85_ l_ q_ q_2 q_3 q_4 q_5 = gamehallkeep1_MinimaxLines.s0 N r_ p_ depth (gamehallkeep1_MinimaxLines.l0 N r_ p_ depth n) (gamehallkeep1_MinimaxLines.l1 N r_ p_ depth n) n_ t84_ t85_ l_ q_ q_2 q_3 q_4 q_5 := rfl
theorem gamehallkeep1_MinimaxLines.l1_s (N : Nat) (r_ : TRules) (p_ : TPos) (depth : Int) (n : Nat) (n_ : Int) (last : Int) (g_ : Int) (t110_ : Int) (t111_ : Int) : gamehallkeep1_MinimaxLines.l1 N r_ p_ depth (n + 1) n_ last g_ t110_ t111_ = gamehallkeep1_MinimaxLines.s1 N r_ p_ depth (gamehallkeep1_MinimaxLines.l0 N r_ p_ depth n) (gamehallkeep1_MinimaxLines.l1 N r_ p_ depth n) n_ last g_ t110_ t111_ := rfl
def gamehallkeep1_MinimaxLines (N : Nat) (r_ : TRules) (p_ : TPos) (depth : Int) : Option Bool := gamehallkeep1_MinimaxLines.e N (gamehallkeep1_MinimaxLines.l0 N r_ p_ depth N) (gamehallkeep1_MinimaxLines.l1 N r_ p_ depth N) r_ p_ depth
end
end Go.Proofs.Ytiacnffpgdikoaa.Am
