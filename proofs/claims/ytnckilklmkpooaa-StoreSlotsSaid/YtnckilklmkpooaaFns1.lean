/- PRINTED by gen.py: what the functions compute, as plain Lean functions with fuel. -/
import Derived.Test.YtnckilklmkpooaaFns
set_option linter.unusedVariables false
set_option linter.unusedSimpArgs false
namespace Go.Proofs.Ytnckilklmkpooaa.Am
open Go
noncomputable section
/-! ### f96: (*gamehall/board.Board).Undo -/
def board_Board_Undo'.e (N : Nat) (b_ : TBoard) : Option (Int × TBoard) :=
  bif (eqI (b_.2.2.2.length : Int) 0) then (some (8, b_))
  else let v2 : Int := (w64 ((b_.2.2.2.length : Int) - 1))
  chk ((leI 0 v2) && (ltI v2 (b_.2.2.2.length : Int))) <|
  let v3 : Int := (w64 ((b_.2.2.2.length : Int) - 1))
  chk ((leI 0 v3) && (leI v3 (b_.2.2.2.length : Int))) <|
  bif (eqI (w64 (1 - b_.2.1.2.2.1)) 0) then (chk ((leI 0 (gD (((0 : Int), ((0 : Int), (0 : Int))), ((0 : Int), ((0 : Int), (false, ((0 : Int), (0 : Int)))))) b_.2.2.2 v2).1.2.1) && (ltI (gD (((0 : Int), ((0 : Int), (0 : Int))), ((0 : Int), ((0 : Int), (false, ((0 : Int), (0 : Int)))))) b_.2.2.2 v2).1.2.1 (b_.2.1.1.length : Int))) <|
    let v4 : List Int := (b_.2.1.1.set (gD (((0 : Int), ((0 : Int), (0 : Int))), ((0 : Int), ((0 : Int), (false, ((0 : Int), (0 : Int)))))) b_.2.2.2 v2).1.2.1.toNat (gD (((0 : Int), ((0 : Int), (0 : Int))), ((0 : Int), ((0 : Int), (false, ((0 : Int), (0 : Int)))))) b_.2.2.2 v2).2.2.1)
    bif (gD (((0 : Int), ((0 : Int), (0 : Int))), ((0 : Int), ((0 : Int), (false, ((0 : Int), (0 : Int)))))) b_.2.2.2 v2).2.2.2.1 then ((moves_Kind N (gD (((0 : Int), ((0 : Int), (0 : Int))), ((0 : Int), ((0 : Int), (false, ((0 : Int), (0 : Int)))))) b_.2.2.2 v2).2.2.1).bind fun y5 =>
      chk ((leI 0 y5) && (ltI y5 (b_.2.1.2.1.1.length : Int))) <|
      chk ((leI 0 y5) && (ltI y5 (b_.2.1.2.1.1.length : Int))) <|
      let v7 : List Int := (b_.2.1.2.1.1.set y5.toNat (w64 ((gD (0 : Int) b_.2.1.2.1.1 y5) - 1)))
      bif (ltI (gD (((0 : Int), ((0 : Int), (0 : Int))), ((0 : Int), ((0 : Int), (false, ((0 : Int), (0 : Int)))))) b_.2.2.2 v2).1.1 0) then (chk ((leI 0 (gD (((0 : Int), ((0 : Int), (0 : Int))), ((0 : Int), ((0 : Int), (false, ((0 : Int), (0 : Int)))))) b_.2.2.2 v2).1.2.2) && (ltI (gD (((0 : Int), ((0 : Int), (0 : Int))), ((0 : Int), ((0 : Int), (false, ((0 : Int), (0 : Int)))))) b_.2.2.2 v2).1.2.2 (v7.length : Int))) <|
        chk ((leI 0 (gD (((0 : Int), ((0 : Int), (0 : Int))), ((0 : Int), ((0 : Int), (false, ((0 : Int), (0 : Int)))))) b_.2.2.2 v2).1.2.2) && (ltI (gD (((0 : Int), ((0 : Int), (0 : Int))), ((0 : Int), ((0 : Int), (false, ((0 : Int), (0 : Int)))))) b_.2.2.2 v2).1.2.2 (v7.length : Int))) <|
        some (0, (b_.1, ((v4, (((v7.set (gD (((0 : Int), ((0 : Int), (0 : Int))), ((0 : Int), ((0 : Int), (false, ((0 : Int), (0 : Int)))))) b_.2.2.2 v2).1.2.2.toNat (w64 ((gD (0 : Int) v7 (gD (((0 : Int), ((0 : Int), (0 : Int))), ((0 : Int), ((0 : Int), (false, ((0 : Int), (0 : Int)))))) b_.2.2.2 v2).1.2.2) + 1))), b_.2.1.2.1.2), ((w64 (1 - b_.2.1.2.2.1)), (gD (((0 : Int), ((0 : Int), (0 : Int))), ((0 : Int), ((0 : Int), (false, ((0 : Int), (0 : Int)))))) b_.2.2.2 v2).2.2.2.2.1))), ((gD (((0 : Int), ((0 : Int), (0 : Int))), ((0 : Int), ((0 : Int), (false, ((0 : Int), (0 : Int)))))) b_.2.2.2 v2).2.2.2.2.2, (b_.2.2.2.take v3.toNat))))))
      else chk ((leI 0 (gD (((0 : Int), ((0 : Int), (0 : Int))), ((0 : Int), ((0 : Int), (false, ((0 : Int), (0 : Int)))))) b_.2.2.2 v2).1.1) && (ltI (gD (((0 : Int), ((0 : Int), (0 : Int))), ((0 : Int), ((0 : Int), (false, ((0 : Int), (0 : Int)))))) b_.2.2.2 v2).1.1 (v4.length : Int))) <|
      some (0, (b_.1, (((v4.set (gD (((0 : Int), ((0 : Int), (0 : Int))), ((0 : Int), ((0 : Int), (false, ((0 : Int), (0 : Int)))))) b_.2.2.2 v2).1.1.toNat (gD (((0 : Int), ((0 : Int), (0 : Int))), ((0 : Int), ((0 : Int), (false, ((0 : Int), (0 : Int)))))) b_.2.2.2 v2).2.1), ((v7, b_.2.1.2.1.2), ((w64 (1 - b_.2.1.2.2.1)), (gD (((0 : Int), ((0 : Int), (0 : Int))), ((0 : Int), ((0 : Int), (false, ((0 : Int), (0 : Int)))))) b_.2.2.2 v2).2.2.2.2.1))), ((gD (((0 : Int), ((0 : Int), (0 : Int))), ((0 : Int), ((0 : Int), (false, ((0 : Int), (0 : Int)))))) b_.2.2.2 v2).2.2.2.2.2, (b_.2.2.2.take v3.toNat))))))
    else bif (ltI (gD (((0 : Int), ((0 : Int), (0 : Int))), ((0 : Int), ((0 : Int), (false, ((0 : Int), (0 : Int)))))) b_.2.2.2 v2).1.1 0) then (chk ((leI 0 (gD (((0 : Int), ((0 : Int), (0 : Int))), ((0 : Int), ((0 : Int), (false, ((0 : Int), (0 : Int)))))) b_.2.2.2 v2).1.2.2) && (ltI (gD (((0 : Int), ((0 : Int), (0 : Int))), ((0 : Int), ((0 : Int), (false, ((0 : Int), (0 : Int)))))) b_.2.2.2 v2).1.2.2 (b_.2.1.2.1.1.length : Int))) <|
      chk ((leI 0 (gD (((0 : Int), ((0 : Int), (0 : Int))), ((0 : Int), ((0 : Int), (false, ((0 : Int), (0 : Int)))))) b_.2.2.2 v2).1.2.2) && (ltI (gD (((0 : Int), ((0 : Int), (0 : Int))), ((0 : Int), ((0 : Int), (false, ((0 : Int), (0 : Int)))))) b_.2.2.2 v2).1.2.2 (b_.2.1.2.1.1.length : Int))) <|
      some (0, (b_.1, ((v4, (((b_.2.1.2.1.1.set (gD (((0 : Int), ((0 : Int), (0 : Int))), ((0 : Int), ((0 : Int), (false, ((0 : Int), (0 : Int)))))) b_.2.2.2 v2).1.2.2.toNat (w64 ((gD (0 : Int) b_.2.1.2.1.1 (gD (((0 : Int), ((0 : Int), (0 : Int))), ((0 : Int), ((0 : Int), (false, ((0 : Int), (0 : Int)))))) b_.2.2.2 v2).1.2.2) + 1))), b_.2.1.2.1.2), ((w64 (1 - b_.2.1.2.2.1)), (gD (((0 : Int), ((0 : Int), (0 : Int))), ((0 : Int), ((0 : Int), (false, ((0 : Int), (0 : Int)))))) b_.2.2.2 v2).2.2.2.2.1))), ((gD (((0 : Int), ((0 : Int), (0 : Int))), ((0 : Int), ((0 : Int), (false, ((0 : Int), (0 : Int)))))) b_.2.2.2 v2).2.2.2.2.2, (b_.2.2.2.take v3.toNat))))))
    else chk ((leI 0 (gD (((0 : Int), ((0 : Int), (0 : Int))), ((0 : Int), ((0 : Int), (false, ((0 : Int), (0 : Int)))))) b_.2.2.2 v2).1.1) && (ltI (gD (((0 : Int), ((0 : Int), (0 : Int))), ((0 : Int), ((0 : Int), (false, ((0 : Int), (0 : Int)))))) b_.2.2.2 v2).1.1 (v4.length : Int))) <|
    some (0, (b_.1, (((v4.set (gD (((0 : Int), ((0 : Int), (0 : Int))), ((0 : Int), ((0 : Int), (false, ((0 : Int), (0 : Int)))))) b_.2.2.2 v2).1.1.toNat (gD (((0 : Int), ((0 : Int), (0 : Int))), ((0 : Int), ((0 : Int), (false, ((0 : Int), (0 : Int)))))) b_.2.2.2 v2).2.1), (b_.2.1.2.1, ((w64 (1 - b_.2.1.2.2.1)), (gD (((0 : Int), ((0 : Int), (0 : Int))), ((0 : Int), ((0 : Int), (false, ((0 : Int), (0 : Int)))))) b_.2.2.2 v2).2.2.2.2.1))), ((gD (((0 : Int), ((0 : Int), (0 : Int))), ((0 : Int), ((0 : Int), (false, ((0 : Int), (0 : Int)))))) b_.2.2.2 v2).2.2.2.2.2, (b_.2.2.2.take v3.toNat))))))
  else bif (eqI (w64 (1 - b_.2.1.2.2.1)) 1) then (chk ((leI 0 (gD (((0 : Int), ((0 : Int), (0 : Int))), ((0 : Int), ((0 : Int), (false, ((0 : Int), (0 : Int)))))) b_.2.2.2 v2).1.2.1) && (ltI (gD (((0 : Int), ((0 : Int), (0 : Int))), ((0 : Int), ((0 : Int), (false, ((0 : Int), (0 : Int)))))) b_.2.2.2 v2).1.2.1 (b_.2.1.1.length : Int))) <|
    let v16 : List Int := (b_.2.1.1.set (gD (((0 : Int), ((0 : Int), (0 : Int))), ((0 : Int), ((0 : Int), (false, ((0 : Int), (0 : Int)))))) b_.2.2.2 v2).1.2.1.toNat (gD (((0 : Int), ((0 : Int), (0 : Int))), ((0 : Int), ((0 : Int), (false, ((0 : Int), (0 : Int)))))) b_.2.2.2 v2).2.2.1)
    bif (gD (((0 : Int), ((0 : Int), (0 : Int))), ((0 : Int), ((0 : Int), (false, ((0 : Int), (0 : Int)))))) b_.2.2.2 v2).2.2.2.1 then ((moves_Kind N (gD (((0 : Int), ((0 : Int), (0 : Int))), ((0 : Int), ((0 : Int), (false, ((0 : Int), (0 : Int)))))) b_.2.2.2 v2).2.2.1).bind fun y17 =>
      chk ((leI 0 y17) && (ltI y17 (b_.2.1.2.1.2.length : Int))) <|
      chk ((leI 0 y17) && (ltI y17 (b_.2.1.2.1.2.length : Int))) <|
      let v19 : List Int := (b_.2.1.2.1.2.set y17.toNat (w64 ((gD (0 : Int) b_.2.1.2.1.2 y17) - 1)))
      bif (ltI (gD (((0 : Int), ((0 : Int), (0 : Int))), ((0 : Int), ((0 : Int), (false, ((0 : Int), (0 : Int)))))) b_.2.2.2 v2).1.1 0) then (chk ((leI 0 (gD (((0 : Int), ((0 : Int), (0 : Int))), ((0 : Int), ((0 : Int), (false, ((0 : Int), (0 : Int)))))) b_.2.2.2 v2).1.2.2) && (ltI (gD (((0 : Int), ((0 : Int), (0 : Int))), ((0 : Int), ((0 : Int), (false, ((0 : Int), (0 : Int)))))) b_.2.2.2 v2).1.2.2 (v19.length : Int))) <|
        chk ((leI 0 (gD (((0 : Int), ((0 : Int), (0 : Int))), ((0 : Int), ((0 : Int), (false, ((0 : Int), (0 : Int)))))) b_.2.2.2 v2).1.2.2) && (ltI (gD (((0 : Int), ((0 : Int), (0 : Int))), ((0 : Int), ((0 : Int), (false, ((0 : Int), (0 : Int)))))) b_.2.2.2 v2).1.2.2 (v19.length : Int))) <|
        some (0, (b_.1, ((v16, ((b_.2.1.2.1.1, (v19.set (gD (((0 : Int), ((0 : Int), (0 : Int))), ((0 : Int), ((0 : Int), (false, ((0 : Int), (0 : Int)))))) b_.2.2.2 v2).1.2.2.toNat (w64 ((gD (0 : Int) v19 (gD (((0 : Int), ((0 : Int), (0 : Int))), ((0 : Int), ((0 : Int), (false, ((0 : Int), (0 : Int)))))) b_.2.2.2 v2).1.2.2) + 1)))), ((w64 (1 - b_.2.1.2.2.1)), (gD (((0 : Int), ((0 : Int), (0 : Int))), ((0 : Int), ((0 : Int), (false, ((0 : Int), (0 : Int)))))) b_.2.2.2 v2).2.2.2.2.1))), ((gD (((0 : Int), ((0 : Int), (0 : Int))), ((0 : Int), ((0 : Int), (false, ((0 : Int), (0 : Int)))))) b_.2.2.2 v2).2.2.2.2.2, (b_.2.2.2.take v3.toNat))))))
      else chk ((leI 0 (gD (((0 : Int), ((0 : Int), (0 : Int))), ((0 : Int), ((0 : Int), (false, ((0 : Int), (0 : Int)))))) b_.2.2.2 v2).1.1) && (ltI (gD (((0 : Int), ((0 : Int), (0 : Int))), ((0 : Int), ((0 : Int), (false, ((0 : Int), (0 : Int)))))) b_.2.2.2 v2).1.1 (v16.length : Int))) <|
      some (0, (b_.1, (((v16.set (gD (((0 : Int), ((0 : Int), (0 : Int))), ((0 : Int), ((0 : Int), (false, ((0 : Int), (0 : Int)))))) b_.2.2.2 v2).1.1.toNat (gD (((0 : Int), ((0 : Int), (0 : Int))), ((0 : Int), ((0 : Int), (false, ((0 : Int), (0 : Int)))))) b_.2.2.2 v2).2.1), ((b_.2.1.2.1.1, v19), ((w64 (1 - b_.2.1.2.2.1)), (gD (((0 : Int), ((0 : Int), (0 : Int))), ((0 : Int), ((0 : Int), (false, ((0 : Int), (0 : Int)))))) b_.2.2.2 v2).2.2.2.2.1))), ((gD (((0 : Int), ((0 : Int), (0 : Int))), ((0 : Int), ((0 : Int), (false, ((0 : Int), (0 : Int)))))) b_.2.2.2 v2).2.2.2.2.2, (b_.2.2.2.take v3.toNat))))))
    else bif (ltI (gD (((0 : Int), ((0 : Int), (0 : Int))), ((0 : Int), ((0 : Int), (false, ((0 : Int), (0 : Int)))))) b_.2.2.2 v2).1.1 0) then (chk ((leI 0 (gD (((0 : Int), ((0 : Int), (0 : Int))), ((0 : Int), ((0 : Int), (false, ((0 : Int), (0 : Int)))))) b_.2.2.2 v2).1.2.2) && (ltI (gD (((0 : Int), ((0 : Int), (0 : Int))), ((0 : Int), ((0 : Int), (false, ((0 : Int), (0 : Int)))))) b_.2.2.2 v2).1.2.2 (b_.2.1.2.1.2.length : Int))) <|
      chk ((leI 0 (gD (((0 : Int), ((0 : Int), (0 : Int))), ((0 : Int), ((0 : Int), (false, ((0 : Int), (0 : Int)))))) b_.2.2.2 v2).1.2.2) && (ltI (gD (((0 : Int), ((0 : Int), (0 : Int))), ((0 : Int), ((0 : Int), (false, ((0 : Int), (0 : Int)))))) b_.2.2.2 v2).1.2.2 (b_.2.1.2.1.2.length : Int))) <|
      some (0, (b_.1, ((v16, ((b_.2.1.2.1.1, (b_.2.1.2.1.2.set (gD (((0 : Int), ((0 : Int), (0 : Int))), ((0 : Int), ((0 : Int), (false, ((0 : Int), (0 : Int)))))) b_.2.2.2 v2).1.2.2.toNat (w64 ((gD (0 : Int) b_.2.1.2.1.2 (gD (((0 : Int), ((0 : Int), (0 : Int))), ((0 : Int), ((0 : Int), (false, ((0 : Int), (0 : Int)))))) b_.2.2.2 v2).1.2.2) + 1)))), ((w64 (1 - b_.2.1.2.2.1)), (gD (((0 : Int), ((0 : Int), (0 : Int))), ((0 : Int), ((0 : Int), (false, ((0 : Int), (0 : Int)))))) b_.2.2.2 v2).2.2.2.2.1))), ((gD (((0 : Int), ((0 : Int), (0 : Int))), ((0 : Int), ((0 : Int), (false, ((0 : Int), (0 : Int)))))) b_.2.2.2 v2).2.2.2.2.2, (b_.2.2.2.take v3.toNat))))))
    else chk ((leI 0 (gD (((0 : Int), ((0 : Int), (0 : Int))), ((0 : Int), ((0 : Int), (false, ((0 : Int), (0 : Int)))))) b_.2.2.2 v2).1.1) && (ltI (gD (((0 : Int), ((0 : Int), (0 : Int))), ((0 : Int), ((0 : Int), (false, ((0 : Int), (0 : Int)))))) b_.2.2.2 v2).1.1 (v16.length : Int))) <|
    some (0, (b_.1, (((v16.set (gD (((0 : Int), ((0 : Int), (0 : Int))), ((0 : Int), ((0 : Int), (false, ((0 : Int), (0 : Int)))))) b_.2.2.2 v2).1.1.toNat (gD (((0 : Int), ((0 : Int), (0 : Int))), ((0 : Int), ((0 : Int), (false, ((0 : Int), (0 : Int)))))) b_.2.2.2 v2).2.1), (b_.2.1.2.1, ((w64 (1 - b_.2.1.2.2.1)), (gD (((0 : Int), ((0 : Int), (0 : Int))), ((0 : Int), ((0 : Int), (false, ((0 : Int), (0 : Int)))))) b_.2.2.2 v2).2.2.2.2.1))), ((gD (((0 : Int), ((0 : Int), (0 : Int))), ((0 : Int), ((0 : Int), (false, ((0 : Int), (0 : Int)))))) b_.2.2.2 v2).2.2.2.2.2, (b_.2.2.2.take v3.toNat))))))
  else none
def board_Board_Undo' (N : Nat) (b_ : TBoard) : Option (Int × TBoard) := board_Board_Undo'.e N b_
/-! ### f92: (*gamehall/perft.counter).count -/
def perft_counter_count''.e (N : Nat) (self : Int → TBoard → Int → Option (Int × Int × TBoard)) (r0 : Int → Int → Int → Int → ByteArray → Int → Int → Bool → Bool → Int → Int → Int → Int → Int → Int → LMv → (List TPiece) → LInt → (List TEnd) → LInt → LInt → LInt → (List TUndo) → Option (Int × Int × TBoard)) (c_ : Int) (b_ : TBoard) (depth : Int) : Option (Int × Int × TBoard) :=
  bif (ltI (w64 (c_ - 1)) 0) then (some (1, ((w64 (c_ - 1)), b_)))
  else bif (eqI depth 0) then (some (1, ((w64 (c_ - 1)), b_)))
  else (board_Board_Moves N b_).bind fun y1 =>
  r0 0 (y1.length : Int) 0 (w64 (c_ - 1)) b_.1.1 b_.1.2.1 b_.1.2.2.1 b_.1.2.2.2.2.2.1 b_.1.2.2.2.2.2.2.1 b_.1.2.2.2.2.2.2.2.2.1 b_.1.2.2.2.2.2.2.2.2.2.1 b_.1.2.2.2.2.2.2.2.2.2.2 b_.2.1.2.2.1 b_.2.1.2.2.2 b_.2.2.1 y1 b_.1.2.2.2.1 b_.1.2.2.2.2.1 b_.1.2.2.2.2.2.2.2.1 b_.2.1.1 b_.2.1.2.1.1 b_.2.1.2.1.2 b_.2.2.2
def perft_counter_count''.s0 (N : Nat) (self : Int → TBoard → Int → Option (Int × Int × TBoard)) (c_ : Int) (b_ : TBoard) (depth : Int) (r0 : Int → Int → Int → Int → ByteArray → Int → Int → Bool → Bool → Int → Int → Int → Int → Int → Int → LMv → (List TPiece) → LInt → (List TEnd) → LInt → LInt → LInt → (List TUndo) → Option (Int × Int × TBoard)) (n_ : Int) (t28_ : Int) (t29_ : Int) (c_2 : Int) (b_2 : ByteArray) (b_3 : Int) (b_4 : Int) (b_5 : Bool) (b_6 : Bool) (b_7 : Int) (b_8 : Int) (b_9 : Int) (b_10 : Int) (b_11 : Int) (b_12 : Int) (m9_ : LMv) (m10_ : (List TPiece)) (m11_ : LInt) (m12_ : (List TEnd)) (m13_ : LInt) (m14_ : LInt) (m15_ : LInt) (m16_ : (List TUndo)) : Option (Int × Int × TBoard) :=
  bif (ltI t29_ t28_) then (chk ((leI 0 t29_) && (ltI t29_ (m9_.length : Int))) <|
    (board_Board_Make' N ((b_2, (b_3, (b_4, (m10_, (m11_, (b_5, (b_6, (m12_, (b_7, (b_8, b_9)))))))))), ((m13_, ((m14_, m15_), (b_10, b_11))), (b_12, m16_))) (gD ((0 : Int), ((0 : Int), (0 : Int))) m9_ t29_)).bind fun y2 =>
    (self c_2 y2 (w64 (depth - 1))).bind fun y3 =>
    (board_Board_Undo' N y3.2.2).bind fun y4 =>
    bif (ltI y3.2.1 0) then (some (0, (y3.2.1, y4.2)))
    else r0 (w64 (n_ + y3.1)) t28_ (w64 (t29_ + 1)) y3.2.1 y4.2.1.1 y4.2.1.2.1 y4.2.1.2.2.1 y4.2.1.2.2.2.2.2.1 y4.2.1.2.2.2.2.2.2.1 y4.2.1.2.2.2.2.2.2.2.2.1 y4.2.1.2.2.2.2.2.2.2.2.2.1 y4.2.1.2.2.2.2.2.2.2.2.2.2 y4.2.2.1.2.2.1 y4.2.2.1.2.2.2 y4.2.2.2.1 m9_ y4.2.1.2.2.2.1 y4.2.1.2.2.2.2.1 y4.2.1.2.2.2.2.2.2.2.1 y4.2.2.1.1 y4.2.2.1.2.1.1 y4.2.2.1.2.1.2 y4.2.2.2.2)
  else some (n_, (c_2, ((b_2, (b_3, (b_4, (m10_, (m11_, (b_5, (b_6, (m12_, (b_7, (b_8, b_9)))))))))), ((m13_, ((m14_, m15_), (b_10, b_11))), (b_12, m16_)))))
def perft_counter_count''.L (N : Nat) (self : Int → TBoard → Int → Option (Int × Int × TBoard)) (c_ : Int) (b_ : TBoard) (depth : Int) : Nat → (Int → Int → Int → Int → ByteArray → Int → Int → Bool → Bool → Int → Int → Int → Int → Int → Int → LMv → (List TPiece) → LInt → (List TEnd) → LInt → LInt → LInt → (List TUndo) → Option (Int × Int × TBoard))
  | 0 => fun _ _ _ _ _ _ _ _ _ _ _ _ _ _ _ _ _ _ _ _ _ _ _ => none
  | n + 1 => fun n_ t28_ t29_ c_2 b_2 b_3 b_4 b_5 b_6 b_7 b_8 b_9 b_10 b_11 b_12 m9_ m10_ m11_ m12_ m13_ m14_ m15_ m16_ => perft_counter_count''.s0 N self c_ b_ depth (perft_counter_count''.L N self c_ b_ depth n) n_ t28_ t29_ c_2 b_2 b_3 b_4 b_5 b_6 b_7 b_8 b_9 b_10 b_11 b_12 m9_ m10_ m11_ m12_ m13_ m14_ m15_ m16_
def perft_counter_count''.l0 (N : Nat) (self : Int → TBoard → Int → Option (Int × Int × TBoard)) (c_ : Int) (b_ : TBoard) (depth : Int) (n : Nat) : Int → Int → Int → Int → ByteArray → Int → Int → Bool → Bool → Int → Int → Int → Int → Int → Int → LMv → (List TPiece) → LInt → (List TEnd) → LInt → LInt → LInt → (List TUndo) → Option (Int × Int × TBoard) := (perft_counter_count''.L N self c_ b_ depth n)
theorem perft_counter_count''.l0_s (N : Nat) (self : Int → TBoard → Int → Option (Int × Int × TBoard)) (c_ : Int) (b_ : TBoard) (depth : Int) (n : Nat) (n_ : Int) (t28_ : Int) (t29_ : Int) (c_2 : Int) (b_2 : ByteArray) (b_3 : Int) (b_4 : Int) (b_5 : Bool) (b_6 : Bool) (b_7 : Int) (b_8 : Int) (b_9 : Int) (b_10 : Int) (b_11 : Int) (b_12 : Int) (m9_ : LMv) (m10_ : (List TPiece)) (m11_ : LInt) (m12_ : (List TEnd)) (m13_ : LInt) (m14_ : LInt) (m15_ : LInt) (m16_ : (List TUndo)) : perft_counter_count''.l0 N self c_ b_ depth (n + 1) n_ t28_ t29_ c_2 b_2 b_3 b_4 b_5 b_6 b_7 b_8 b_9 b_10 b_11 b_12 m9_ m10_ m11_ m12_ m13_ m14_ m15_ m16_ = perft_counter_count''.s0 N self c_ b_ depth (perft_counter_count''.l0 N self c_ b_ depth n) n_ t28_ t29_ c_2 b_2 b_3 b_4 b_5 b_6 b_7 b_8 b_9 b_10 b_11 b_12 m9_ m10_ m11_ m12_ m13_ m14_ m15_ m16_ := rfl
def perft_counter_count'' : Nat → Int → TBoard → Int → Option (Int × Int × TBoard)
  | 0 => fun _ _ _ => none
  | N + 1 => fun c_ b_ depth => perft_counter_count''.e N (perft_counter_count'' N) (perft_counter_count''.l0 N (perft_counter_count'' N) c_ b_ depth N) c_ b_ depth
theorem perft_counter_count''_s (N : Nat) (c_ : Int) (b_ : TBoard) (depth : Int) : perft_counter_count'' (N + 1) c_ b_ depth = perft_counter_count''.e N (perft_counter_count'' N) (perft_counter_count''.l0 N (perft_counter_count'' N) c_ b_ depth N) c_ b_ depth := rfl
/-! ### f51: gamehall/perft.Tree -/
def perft_Tree.e (N : Nat) (r_ : TRules) (p_ : TPos) (depth : Int) : Option (Int × Int) :=
  (perft_check N r_ p_ depth).bind fun y1 =>
  oCase y1.1 (bif (!(eqI y1.2 0)) then (some (0, y1.2))
    else none) fun b2 =>
  bif (!(eqI y1.2 0)) then (some (0, y1.2))
  else (perft_counter_count'' N 50000 b2 depth).bind fun y3 =>
  bif (ltI y3.2.1 0) then (some (0, 17))
  else some ((w64 (50000 - y3.2.1)), 0)
def perft_Tree (N : Nat) (r_ : TRules) (p_ : TPos) (depth : Int) : Option (Int × Int) := perft_Tree.e N r_ p_ depth
/-! ### f65: gamehall/minimax.Check -/
def minimax_Check.e (N : Nat) (r_ : TRules) (p_ : TPos) (depth : Int) : Option Int :=
  (perft_Tree N r_ p_ depth).bind fun y1 =>
  some y1.2
def minimax_Check (N : Nat) (r_ : TRules) (p_ : TPos) (depth : Int) : Option Int := minimax_Check.e N r_ p_ depth
/-! ### f53: (*gamehall/board.Board).Turn -/
def board_Board_Turn.e (N : Nat) (b_ : TBoard) : Option Int :=
  some b_.2.1.2.2.1
def board_Board_Turn (N : Nat) (b_ : TBoard) : Option Int := board_Board_Turn.e N b_
/-! ### f107: gamehall/ends.Score -/
def ends_Score.e (N : Nat) (result : Int) (turn : Int) : Option Int :=
  (ends_wins N turn).bind fun y1 =>
  bif (eqI result y1) then some 1000
  else (ends_wins N (w64 (1 - turn))).bind fun y2 =>
  bif (eqI result y2) then (some (-1000))
  else some 0
def ends_Score (N : Nat) (result : Int) (turn : Int) : Option Int := ends_Score.e N result turn
/-! ### f136: (*gamehall/board.Board).Position -/
def board_Board_Position.e (N : Nat) (b_ : TBoard) : Option TPos :=
  (place_Copy N b_.2.1).bind fun y1 =>
  some y1
def board_Board_Position (N : Nat) (b_ : TBoard) : Option TPos := board_Board_Position.e N b_
/-! ### f108: gamehall/minimax.Nearer -/
def minimax_Nearer.e (N : Nat) (n_ : Int) : Option Int :=
  bif (ltI 0 n_) then (some (w64 (n_ - 1)))
  else bif (ltI n_ 0) then (some (w64 (n_ + 1)))
  else some 0
def minimax_Nearer (N : Nat) (n_ : Int) : Option Int := minimax_Nearer.e N n_
/-! ### f109: (*gamehall/store.Store).value -/
def store_Store_value''.e (N : Nat) (self : (TRules × ((List (TPos × (Int × (Int × Bool)))) × (Int × Int))) → TBoard → Int → Option (Int × (TRules × ((List (TPos × (Int × (Int × Bool)))) × (Int × Int))) × TBoard)) (r0 : Int → Int → Int → ByteArray → Int → Int → (List TPiece) → LInt → Bool → Bool → (List TEnd) → Int → Int → Int → Int → Int → ByteArray → Int → Int → Bool → Bool → Int → Int → Int → Int → Int → Int → LInt → LInt → LInt → Int → Int → (List (TPos × (Int × (Int × Bool)))) → LMv → (List TPiece) → LInt → (List TEnd) → LInt → LInt → LInt → (List TUndo) → Option (Int × (TRules × ((List (TPos × (Int × (Int × Bool)))) × (Int × Int))) × TBoard)) (s_ : (TRules × ((List (TPos × (Int × (Int × Bool)))) × (Int × Int)))) (b_ : TBoard) (depth : Int) : Option (Int × (TRules × ((List (TPos × (Int × (Int × Bool)))) × (Int × Int))) × TBoard) :=
  (board_Board_Result N b_).bind fun y1 =>
  bif (!(eqI y1 0)) then ((board_Board_Turn N b_).bind fun y2 =>
    (ends_Score N y1 y2).bind fun y3 =>
    some (y3, (s_, b_)))
  else bif (eqI depth 0) then (some (0, (s_, b_)))
  else (board_Board_Position N b_).bind fun y4 =>
  (store_Store_find' N s_ y4 depth).bind fun y5 =>
  bif y5.2.1 then (some (y5.1, (y5.2.2, b_)))
  else (board_Board_Moves N b_).bind fun y6 =>
  r0 (-1000) (y6.length : Int) 0 y5.2.2.1.1 y5.2.2.1.2.1 y5.2.2.1.2.2.1 y5.2.2.1.2.2.2.1 y5.2.2.1.2.2.2.2.1 y5.2.2.1.2.2.2.2.2.1 y5.2.2.1.2.2.2.2.2.2.1 y5.2.2.1.2.2.2.2.2.2.2.1 y5.2.2.1.2.2.2.2.2.2.2.2.1 y5.2.2.1.2.2.2.2.2.2.2.2.2.1 y5.2.2.1.2.2.2.2.2.2.2.2.2.2 y5.2.2.2.2.1 y5.2.2.2.2.2 b_.1.1 b_.1.2.1 b_.1.2.2.1 b_.1.2.2.2.2.2.1 b_.1.2.2.2.2.2.2.1 b_.1.2.2.2.2.2.2.2.2.1 b_.1.2.2.2.2.2.2.2.2.2.1 b_.1.2.2.2.2.2.2.2.2.2.2 b_.2.1.2.2.1 b_.2.1.2.2.2 b_.2.2.1 y4.1 y4.2.1.1 y4.2.1.2 y4.2.2.1 y4.2.2.2 y5.2.2.2.1 y6 b_.1.2.2.2.1 b_.1.2.2.2.2.1 b_.1.2.2.2.2.2.2.2.1 b_.2.1.1 b_.2.1.2.1.1 b_.2.1.2.1.2 b_.2.2.2
def store_Store_value''.s0 (N : Nat) (self : (TRules × ((List (TPos × (Int × (Int × Bool)))) × (Int × Int))) → TBoard → Int → Option (Int × (TRules × ((List (TPos × (Int × (Int × Bool)))) × (Int × Int))) × TBoard)) (s_ : (TRules × ((List (TPos × (Int × (Int × Bool)))) × (Int × Int)))) (b_ : TBoard) (depth : Int) (r0 : Int → Int → Int → ByteArray → Int → Int → (List TPiece) → LInt → Bool → Bool → (List TEnd) → Int → Int → Int → Int → Int → ByteArray → Int → Int → Bool → Bool → Int → Int → Int → Int → Int → Int → LInt → LInt → LInt → Int → Int → (List (TPos × (Int × (Int × Bool)))) → LMv → (List TPiece) → LInt → (List TEnd) → LInt → LInt → LInt → (List TUndo) → Option (Int × (TRules × ((List (TPos × (Int × (Int × Bool)))) × (Int × Int))) × TBoard)) (best : Int) (t37_ : Int) (t38_ : Int) (s_2 : ByteArray) (s_3 : Int) (s_4 : Int) (s_5 : (List TPiece)) (s_6 : LInt) (s_7 : Bool) (s_8 : Bool) (s_9 : (List TEnd)) (s_10 : Int) (s_11 : Int) (s_12 : Int) (s_13 : Int) (s_14 : Int) (b_2 : ByteArray) (b_3 : Int) (b_4 : Int) (b_5 : Bool) (b_6 : Bool) (b_7 : Int) (b_8 : Int) (b_9 : Int) (b_10 : Int) (b_11 : Int) (b_12 : Int) (p_ : LInt) (p_2 : LInt) (p_3 : LInt) (p_4 : Int) (p_5 : Int) (m14_ : (List (TPos × (Int × (Int × Bool))))) (m15_ : LMv) (m16_ : (List TPiece)) (m17_ : LInt) (m18_ : (List TEnd)) (m19_ : LInt) (m20_ : LInt) (m21_ : LInt) (m22_ : (List TUndo)) : Option (Int × (TRules × ((List (TPos × (Int × (Int × Bool)))) × (Int × Int))) × TBoard) :=
  bif (ltI t38_ t37_) then (chk ((leI 0 t38_) && (ltI t38_ (m15_.length : Int))) <|
    (board_Board_Make' N ((b_2, (b_3, (b_4, (m16_, (m17_, (b_5, (b_6, (m18_, (b_7, (b_8, b_9)))))))))), ((m19_, ((m20_, m21_), (b_10, b_11))), (b_12, m22_))) (gD ((0 : Int), ((0 : Int), (0 : Int))) m15_ t38_)).bind fun y7 =>
    (self ((s_2, (s_3, (s_4, (s_5, (s_6, (s_7, (s_8, (s_9, (s_10, (s_11, s_12)))))))))), (m14_, (s_13, s_14))) y7 (w64 (depth - 1))).bind fun y8 =>
    (minimax_Nearer N (w64 (0 - y8.1))).bind fun y9 =>
    (board_Board_Undo' N y8.2.2).bind fun y11 =>
    r0 (bif (ltI best y9) then y9 else best) t37_ (w64 (t38_ + 1)) y8.2.1.1.1 y8.2.1.1.2.1 y8.2.1.1.2.2.1 y8.2.1.1.2.2.2.1 y8.2.1.1.2.2.2.2.1 y8.2.1.1.2.2.2.2.2.1 y8.2.1.1.2.2.2.2.2.2.1 y8.2.1.1.2.2.2.2.2.2.2.1 y8.2.1.1.2.2.2.2.2.2.2.2.1 y8.2.1.1.2.2.2.2.2.2.2.2.2.1 y8.2.1.1.2.2.2.2.2.2.2.2.2.2 y8.2.1.2.2.1 y8.2.1.2.2.2 y11.2.1.1 y11.2.1.2.1 y11.2.1.2.2.1 y11.2.1.2.2.2.2.2.1 y11.2.1.2.2.2.2.2.2.1 y11.2.1.2.2.2.2.2.2.2.2.1 y11.2.1.2.2.2.2.2.2.2.2.2.1 y11.2.1.2.2.2.2.2.2.2.2.2.2 y11.2.2.1.2.2.1 y11.2.2.1.2.2.2 y11.2.2.2.1 p_ p_2 p_3 p_4 p_5 y8.2.1.2.1 m15_ y11.2.1.2.2.2.1 y11.2.1.2.2.2.2.1 y11.2.1.2.2.2.2.2.2.2.1 y11.2.2.1.1 y11.2.2.1.2.1.1 y11.2.2.1.2.1.2 y11.2.2.2.2)
  else (store_Store_keep' N ((s_2, (s_3, (s_4, (s_5, (s_6, (s_7, (s_8, (s_9, (s_10, (s_11, s_12)))))))))), (m14_, (s_13, s_14))) (p_, ((p_2, p_3), (p_4, p_5))) depth best).bind fun y12 =>
  some (best, (y12, ((b_2, (b_3, (b_4, (m16_, (m17_, (b_5, (b_6, (m18_, (b_7, (b_8, b_9)))))))))), ((m19_, ((m20_, m21_), (b_10, b_11))), (b_12, m22_)))))
def store_Store_value''.L (N : Nat) (self : (TRules × ((List (TPos × (Int × (Int × Bool)))) × (Int × Int))) → TBoard → Int → Option (Int × (TRules × ((List (TPos × (Int × (Int × Bool)))) × (Int × Int))) × TBoard)) (s_ : (TRules × ((List (TPos × (Int × (Int × Bool)))) × (Int × Int)))) (b_ : TBoard) (depth : Int) : Nat → (Int → Int → Int → ByteArray → Int → Int → (List TPiece) → LInt → Bool → Bool → (List TEnd) → Int → Int → Int → Int → Int → ByteArray → Int → Int → Bool → Bool → Int → Int → Int → Int → Int → Int → LInt → LInt → LInt → Int → Int → (List (TPos × (Int × (Int × Bool)))) → LMv → (List TPiece) → LInt → (List TEnd) → LInt → LInt → LInt → (List TUndo) → Option (Int × (TRules × ((List (TPos × (Int × (Int × Bool)))) × (Int × Int))) × TBoard))
  | 0 => fun _ _ _ _ _ _ _ _ _ _ _ _ _ _ _ _ _ _ _ _ _ _ _ _ _ _ _ _ _ _ _ _ _ _ _ _ _ _ _ _ _ => none
  | n + 1 => fun best t37_ t38_ s_2 s_3 s_4 s_5 s_6 s_7 s_8 s_9 s_10 s_11 s_12 s_13 s_14 b_2 b_3 b_4 b_5 b_6 b_7 b_8 b_9 b_10 b_11 b_12 p_ p_2 p_3 p_4 p_5 m14_ m15_ m16_ m17_ m18_ m19_ m20_ m21_ m22_ => store_Store_value''.s0 N self s_ b_ depth (store_Store_value''.L N self s_ b_ depth n) best t37_ t38_ s_2 s_3 s_4 s_5 s_6 s_7 s_8 s_9 s_10 s_11 s_12 s_13 s_14 b_2 b_3 b_4 b_5 b_6 b_7 b_8 b_9 b_10 b_11 b_12 p_ p_2 p_3 p_4 p_5 m14_ m15_ m16_ m17_ m18_ m19_ m20_ m21_ m22_
def store_Store_value''.l0 (N : Nat) (self : (TRules × ((List (TPos × (Int × (Int × Bool)))) × (Int × Int))) → TBoard → Int → Option (Int × (TRules × ((List (TPos × (Int × (Int × Bool)))) × (Int × Int))) × TBoard)) (s_ : (TRules × ((List (TPos × (Int × (Int × Bool)))) × (Int × Int)))) (b_ : TBoard) (depth : Int) (n : Nat) : Int → Int → Int → ByteArray → Int → Int → (List TPiece) → LInt → Bool → Bool → (List TEnd) → Int → Int → Int → Int → Int → ByteArray → Int → Int → Bool → Bool → Int → Int → Int → Int → Int → Int → LInt → LInt → LInt → Int → Int → (List (TPos × (Int × (Int × Bool)))) → LMv → (List TPiece) → LInt → (List TEnd) → LInt → LInt → LInt → (List TUndo) → Option (Int × (TRules × ((List (TPos × (Int × (Int × Bool)))) × (Int × Int))) × TBoard) := (store_Store_value''.L N self s_ b_ depth n)
theorem store_Store_value''.l0_s (N : Nat) (self : (TRules × ((List (TPos × (Int × (Int × Bool)))) × (Int × Int))) → TBoard → Int → Option (Int × (TRules × ((List (TPos × (Int × (Int × Bool)))) × (Int × Int))) × TBoard)) (s_ : (TRules × ((List (TPos × (Int × (Int × Bool)))) × (Int × Int)))) (b_ : TBoard) (depth : Int) (n : Nat) (best : Int) (t37_ : Int) (t38_ : Int) (s_2 : ByteArray) (s_3 : Int) (s_4 : Int) (s_5 : (List TPiece)) (s_6 : LInt) (s_7 : Bool) (s_8 : Bool) (s_9 : (List TEnd)) (s_10 : Int) (s_11 : Int) (s_12 : Int) (s_13 : Int) (s_14 : Int) (b_2 : ByteArray) (b_3 : Int) (b_4 : Int) (b_5 : Bool) (b_6 : Bool) (b_7 : Int) (b_8 : Int) (b_9 : Int) (b_10 : Int) (b_11 : Int) (b_12 : Int) (p_ : LInt) (p_2 : LInt) (p_3 : LInt) (p_4 : Int) (p_5 : Int) (m14_ : (List (TPos × (Int × (Int × Bool))))) (m15_ : LMv) (m16_ : (List TPiece)) (m17_ : LInt) (m18_ : (List TEnd)) (m19_ : LInt) (m20_ : LInt) (m21_ : LInt) (m22_ : (List TUndo)) : store_Store_value''.l0 N self s_ b_ depth (n + 1) best t37_ t38_ s_2 s_3 s_4 s_5 s_6 s_7 s_8 s_9 s_10 s_11 s_12 s_13 s_14 b_2 b_3 b_4 b_5 b_6 b_7 b_8 b_9 b_10 b_11 b_12 p_ p_2 p_3 p_4 p_5 m14_ m15_ m16_ m17_ m18_ m19_ m20_ m21_ m22_ = store_Store_value''.s0 N self s_ b_ depth (store_Store_value''.l0 N self s_ b_ depth n) best t37_ t38_ s_2 s_3 s_4 s_5 s_6 s_7 s_8 s_9 s_10 s_11 s_12 s_13 s_14 b_2 b_3 b_4 b_5 b_6 b_7 b_8 b_9 b_10 b_11 b_12 p_ p_2 p_3 p_4 p_5 m14_ m15_ m16_ m17_ m18_ m19_ m20_ m21_ m22_ := rfl
def store_Store_value'' : Nat → (TRules × ((List (TPos × (Int × (Int × Bool)))) × (Int × Int))) → TBoard → Int → Option (Int × (TRules × ((List (TPos × (Int × (Int × Bool)))) × (Int × Int))) × TBoard)
  | 0 => fun _ _ _ => none
  | N + 1 => fun s_ b_ depth => store_Store_value''.e N (store_Store_value'' N) (store_Store_value''.l0 N (store_Store_value'' N) s_ b_ depth N) s_ b_ depth
theorem store_Store_value''_s (N : Nat) (s_ : (TRules × ((List (TPos × (Int × (Int × Bool)))) × (Int × Int)))) (b_ : TBoard) (depth : Int) : store_Store_value'' (N + 1) s_ b_ depth = store_Store_value''.e N (store_Store_value'' N) (store_Store_value''.l0 N (store_Store_value'' N) s_ b_ depth N) s_ b_ depth := rfl
/-! ### f67: (*gamehall/store.Store).Score -/
def store_Store_Score'.e (N : Nat) (s_ : (TRules × ((List (TPos × (Int × (Int × Bool)))) × (Int × Int)))) (p_ : TPos) (depth : Int) : Option (Int × Int × (TRules × ((List (TPos × (Int × (Int × Bool)))) × (Int × Int)))) :=
  (minimax_Check N s_.1 p_ depth).bind fun y1 =>
  bif (!(eqI y1 0)) then (some (0, (y1, s_)))
  else (board_New N s_.1 p_).bind fun y2 =>
  oCase y2.1 none fun b3 =>
  (store_Store_value'' N s_ b3 depth).bind fun y4 =>
  some (y4.1, (0, y4.2.1))
def store_Store_Score' (N : Nat) (s_ : (TRules × ((List (TPos × (Int × (Int × Bool)))) × (Int × Int)))) (p_ : TPos) (depth : Int) : Option (Int × Int × (TRules × ((List (TPos × (Int × (Int × Bool)))) × (Int × Int)))) := store_Store_Score'.e N s_ p_ depth
/-! ### f68: (*gamehall/store.Store).Len -/
def store_Store_Len.e (N : Nat) (s_ : (TRules × ((List (TPos × (Int × (Int × Bool)))) × (Int × Int)))) : Option Int :=
  some s_.2.2.1
def store_Store_Len (N : Nat) (s_ : (TRules × ((List (TPos × (Int × (Int × Bool)))) × (Int × Int)))) : Option Int := store_Store_Len.e N s_
/-! ### f69: (*gamehall/store.Store).Found -/
def store_Store_Found.e (N : Nat) (s_ : (TRules × ((List (TPos × (Int × (Int × Bool)))) × (Int × Int)))) : Option Int :=
  some s_.2.2.2
def store_Store_Found (N : Nat) (s_ : (TRules × ((List (TPos × (Int × (Int × Bool)))) × (Int × Int)))) : Option Int := store_Store_Found.e N s_
/-! ### f31: gamehall/gamehallkeep1.stored -/
def gamehallkeep1_stored.e (N : Nat) : Option Bool :=
  (gamehallkeep1_three N).bind fun y1 =>
  (store_New N y1 1).bind fun y2 =>
  oCase y2.1 (bif (!(eqI y2.2 0)) then some false
    else some false) fun b3 =>
  bif (!(eqI y2.2 0)) then some false
  else (gamehallkeep1_near N).bind fun y4 =>
  (store_Store_Put' N b3 y4 2 5).bind fun y5 =>
  bif (!(eqI y5.1 0)) then some false
  else (gamehallkeep1_near N).bind fun y6 =>
  (store_Store_Get' N y5.2 y6 2).bind fun y7 =>
  (gamehallkeep1_near N).bind fun y8 =>
  (store_Store_Get' N y7.2.2 y8 1).bind fun y9 =>
  (gamehallkeep1_three N).bind fun y10 =>
  (store_New N y10 9).bind fun y11 =>
  oCase y11.1 (bif (!(eqI y11.2 0)) then some false
    else some false) fun b12 =>
  bif (!(eqI y11.2 0)) then some false
  else (gamehallkeep1_near N).bind fun y13 =>
  (store_Store_Score' N b12 y13 1).bind fun y14 =>
  bif (eqI y7.2.1 0) then (bif (eqI y7.1 5) then (bif (eqI y9.2.1 8) then ((store_Store_Len N y9.2.2).bind fun y15 =>
        bif (eqI y15 1) then ((store_Store_Found N y9.2.2).bind fun y16 =>
          bif (eqI y16 1) then (bif (eqI y14.2.1 0) then (some (eqI y14.1 999))
            else some false)
          else some false)
        else some false)
      else some false)
    else some false)
  else some false
def gamehallkeep1_stored (N : Nat) : Option Bool := gamehallkeep1_stored.e N
/-! ### f34: gamehall/zob.Key -/
def zob_Key.e (N : Nat) (r_ : TRules) (p_ : TPos) : Option (Int × Int) :=
  (place_Check N r_ p_).bind fun y1 =>
  bif (!(eqI y1 0)) then (some (0, y1))
  else (zob_Of N p_).bind fun y2 =>
  some (y2, 0)
def zob_Key (N : Nat) (r_ : TRules) (p_ : TPos) : Option (Int × Int) := zob_Key.e N r_ p_
/-! ### f48: gamehall/gamehallkeep1.put -/
def gamehallkeep1_put.e (N : Nat) (s_ : Int) : Option TMv :=
  some ((-1), (s_, 0))
def gamehallkeep1_put (N : Nat) (s_ : Int) : Option TMv := gamehallkeep1_put.e N s_
/-! ### f130: slices.Index[[]gamehall/api.Move,gamehall/api.Move] -/
def slices_Index_api_Move_api_Move.e (N : Nat) (r0 : Int → Option Int) (s_ : LMv) (v_ : TMv) : Option Int :=
  r0 0
def slices_Index_api_Move_api_Move.s0 (N : Nat) (s_ : LMv) (v_ : TMv) (r0 : Int → Option Int) (t8_ : Int) : Option Int :=
  bif (ltI t8_ (s_.length : Int)) then (chk ((leI 0 t8_) && (ltI t8_ (s_.length : Int))) <|
    bif ((eqI v_.1 (gD ((0 : Int), ((0 : Int), (0 : Int))) s_ t8_).1) && ((eqI v_.2.1 (gD ((0 : Int), ((0 : Int), (0 : Int))) s_ t8_).2.1) && ((eqI v_.2.2 (gD ((0 : Int), ((0 : Int), (0 : Int))) s_ t8_).2.2) && true))) then some t8_
    else r0 (w64 (t8_ + 1)))
  else some (-1)
def slices_Index_api_Move_api_Move.L (N : Nat) (s_ : LMv) (v_ : TMv) : Nat → (Int → Option Int)
  | 0 => fun _ => none
  | n + 1 => fun t8_ => slices_Index_api_Move_api_Move.s0 N s_ v_ (slices_Index_api_Move_api_Move.L N s_ v_ n) t8_
def slices_Index_api_Move_api_Move.l0 (N : Nat) (s_ : LMv) (v_ : TMv) (n : Nat) : Int → Option Int := (slices_Index_api_Move_api_Move.L N s_ v_ n)
theorem slices_Index_api_Move_api_Move.l0_s (N : Nat) (s_ : LMv) (v_ : TMv) (n : Nat) (t8_ : Int) : slices_Index_api_Move_api_Move.l0 N s_ v_ (n + 1) t8_ = slices_Index_api_Move_api_Move.s0 N s_ v_ (slices_Index_api_Move_api_Move.l0 N s_ v_ n) t8_ := rfl
def slices_Index_api_Move_api_Move (N : Nat) (s_ : LMv) (v_ : TMv) : Option Int := slices_Index_api_Move_api_Move.e N (slices_Index_api_Move_api_Move.l0 N s_ v_ N) s_ v_
/-! ### f110: slices.Contains[[]gamehall/api.Move,gamehall/api.Move] -/
def slices_Contains_api_Move_api_Move.e (N : Nat) (s_ : LMv) (v_ : TMv) : Option Bool :=
  (slices_Index_api_Move_api_Move N s_ v_).bind fun y1 =>
  some (leI 0 y1)
def slices_Contains_api_Move_api_Move (N : Nat) (s_ : LMv) (v_ : TMv) : Option Bool := slices_Contains_api_Move_api_Move.e N s_ v_
/-! ### f70: gamehall/zob.Change -/
def zob_Change.e (N : Nat) (r_ : TRules) (p_ : TPos) (m_ : TMv) : Option (Int × Int) :=
  (place_Check N r_ p_).bind fun y1 =>
  bif (!(eqI y1 0)) then (some (0, y1))
  else (moves_Gen N r_ p_).bind fun y2 =>
  (slices_Contains_api_Move_api_Move N y2 m_).bind fun y3 =>
  bif (!y3) then (some (0, 13))
  else (zob_Of N p_).bind fun y4 =>
  (zob_Next N r_ p_ m_ y4).bind fun y5 =>
  some (y5, 0)
def zob_Change (N : Nat) (r_ : TRules) (p_ : TPos) (m_ : TMv) : Option (Int × Int) := zob_Change.e N r_ p_ m_
/-! ### f74: gamehall/gamehallkeep1.fine$1 -/
def gamehallkeep1_fine_1.e (N : Nat) (e_ : Int) : Option Bool :=
  some (!(eqI e_ 0))
def gamehallkeep1_fine_1 (N : Nat) (e_ : Int) : Option Bool := gamehallkeep1_fine_1.e N e_
/-! ### f115: slices.IndexFunc[[]gamehall/api.Errno,gamehall/api.Errno] -/
def slices_IndexFunc_api_Errno_api_Errno.e (N : Nat) (r0 : Int → Option Int) (s_ : LInt) : Option Int :=
  r0 0
def slices_IndexFunc_api_Errno_api_Errno.s0 (N : Nat) (s_ : LInt) (r0 : Int → Option Int) (t8_ : Int) : Option Int :=
  bif (ltI t8_ (s_.length : Int)) then (chk ((leI 0 t8_) && (ltI t8_ (s_.length : Int))) <|
    (gamehallkeep1_fine_1 N (gD (0 : Int) s_ t8_)).bind fun y2 =>
    bif y2 then some t8_
    else r0 (w64 (t8_ + 1)))
  else some (-1)
def slices_IndexFunc_api_Errno_api_Errno.L (N : Nat) (s_ : LInt) : Nat → (Int → Option Int)
  | 0 => fun _ => none
  | n + 1 => fun t8_ => slices_IndexFunc_api_Errno_api_Errno.s0 N s_ (slices_IndexFunc_api_Errno_api_Errno.L N s_ n) t8_
def slices_IndexFunc_api_Errno_api_Errno.l0 (N : Nat) (s_ : LInt) (n : Nat) : Int → Option Int := (slices_IndexFunc_api_Errno_api_Errno.L N s_ n)
theorem slices_IndexFunc_api_Errno_api_Errno.l0_s (N : Nat) (s_ : LInt) (n : Nat) (t8_ : Int) : slices_IndexFunc_api_Errno_api_Errno.l0 N s_ (n + 1) t8_ = slices_IndexFunc_api_Errno_api_Errno.s0 N s_ (slices_IndexFunc_api_Errno_api_Errno.l0 N s_ n) t8_ := rfl
def slices_IndexFunc_api_Errno_api_Errno (N : Nat) (s_ : LInt) : Option Int := slices_IndexFunc_api_Errno_api_Errno.e N (slices_IndexFunc_api_Errno_api_Errno.l0 N s_ N) s_
/-! ### f73: slices.ContainsFunc[[]gamehall/api.Errno,gamehall/api.Errno] -/
def slices_ContainsFunc_api_Errno_api_Errno.e (N : Nat) (s_ : LInt) : Option Bool :=
  (slices_IndexFunc_api_Errno_api_Errno N s_).bind fun y1 =>
  some (leI 0 y1)
def slices_ContainsFunc_api_Errno_api_Errno (N : Nat) (s_ : LInt) : Option Bool := slices_ContainsFunc_api_Errno_api_Errno.e N s_
/-! ### f35: gamehall/gamehallkeep1.fine -/
def gamehallkeep1_fine.e (N : Nat) (l_ : LInt) : Option Bool :=
  (slices_ContainsFunc_api_Errno_api_Errno N l_).bind fun y1 =>
  some (!y1)
def gamehallkeep1_fine (N : Nat) (l_ : LInt) : Option Bool := gamehallkeep1_fine.e N l_
/-! ### f32: gamehall/gamehallkeep1.keyed -/
def gamehallkeep1_keyed.e (N : Nat) : Option Bool :=
  (gamehallkeep1_three N).bind fun y1 =>
  (gamehallkeep1_near N).bind fun y2 =>
  (zob_Key N y1 y2).bind fun y3 =>
  (gamehallkeep1_three N).bind fun y4 =>
  (gamehallkeep1_near N).bind fun y5 =>
  (gamehallkeep1_put N 2).bind fun y6 =>
  (zob_Change N y4 y5 y6).bind fun y7 =>
  (gamehallkeep1_fine N [y3.2, y7.2]).bind fun y8 =>
  bif y8 then ((zob_Mix N 33).bind fun y10 =>
    (zob_Mix N 2000).bind fun y11 =>
    (zob_Mix N 3000).bind fun y13 =>
    bif (eqI (IntKind.wrap .u64 (y7.1 - y3.1)) (IntKind.wrap .u64 ((IntKind.wrap .u64 (y10 - y11)) + y13))) then ((zob_Mix N 33).bind fun y15 =>
      some (!(eqI y15 0)))
    else some false)
  else some false
def gamehallkeep1_keyed (N : Nat) : Option Bool := gamehallkeep1_keyed.e N
/-! ### f7: gamehall/gamehallkeep1.StoreSlots -/
def gamehallkeep1_StoreSlots.e (N : Nat) (r_ : TRules) (p_ : TPos) (q_ : TPos) (a_ : Int) (b_ : Int) (size : Int) : Option Bool :=
  (gamehallkeep1_stored N).bind fun y1 =>
  bif (!y1) then some false
  else (gamehallkeep1_keyed N).bind fun y2 =>
  bif (!y2) then some false
  else let v4 : Int := (w64 ((Int.tmod (w64 ((Int.tmod size 7) + 7)) 7) + 1))
  (store_New N r_ v4).bind fun y5 =>
  oCase y5.1 (bif (!(eqI y5.2 0)) then (some (!(eqI y5.2 0)))
    else some (!(eqI y5.2 0))) fun b6 =>
  bif (!(eqI y5.2 0)) then (some (!(eqI y5.2 0)))
  else (zob_Key N r_ p_).bind fun y7 =>
  (zob_Key N r_ q_).bind fun y8 =>
  (store_Store_Put' N b6 p_ a_ 3).bind fun y9 =>
  (gamehallkeep1_fine N [y7.2, y8.2, y9.1]).bind fun y10 =>
  bif (!y10) then some true
  else (store_Store_Put' N y9.2 q_ b_ 4).bind fun y11 =>
  bif (!(eqI y11.1 0)) then some true
  else (store_Store_Get' N y11.2 p_ a_).bind fun y12 =>
  bif (eqI (IntKind.wrap .u64 v4) 0) then none
  else bif (eqI (IntKind.wrap .u64 v4) 0) then none
  else bif (!(eqI (Int.tmod y7.1 (IntKind.wrap .u64 v4)) (Int.tmod y8.1 (IntKind.wrap .u64 v4)))) then (bif (eqI y12.2.1 0) then (some (eqI y12.1 3))
    else some false)
  else bif (ltI b_ a_) then (bif (eqI y12.2.1 0) then (some (eqI y12.1 3))
    else some false)
  else (store_Store_Get' N y12.2.2 q_ b_).bind fun y15 =>
  bif (eqI y15.2.1 0) then (some (eqI y15.1 4))
  else some false
def gamehallkeep1_StoreSlots (N : Nat) (r_ : TRules) (p_ : TPos) (q_ : TPos) (a_ : Int) (b_ : Int) (size : Int) : Option Bool := gamehallkeep1_StoreSlots.e N r_ p_ q_ a_ b_ size
end
end Go.Proofs.Ytnckilklmkpooaa.Am
