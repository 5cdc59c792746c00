/- PRINTED by gen.py: what the functions compute, as plain Lean functions with fuel. -/
import Derived.Test.YtnckilklmkpooaaGreatFnz
set_option linter.unusedVariables false
set_option linter.unusedSimpArgs false
namespace Go.Proofs.YtnckilklmkpooaaGreat.Am
open Go
noncomputable section
/-! ### f57: (*gamehall/board.Board).Undo -/
def board_Board_Undo'.e (N : Nat) (b_ : TBoard) : Option (Int × TBoard) :=
  bif (eqI (b_.2.2.2.length : Int) 0) then (some (8, b_))
  else let v2 : Int := (w64 ((b_.2.2.2.length : Int) - 1))
  chk ((leI 0 v2) && (ltI v2 (b_.2.2.2.length : Int))) <|
  let v3 : Int := (w64 ((b_.2.2.2.length : Int) - 1))
  chk ((leI 0 v3) && (leI v3 (b_.2.2.2.length : Int))) <|
  bif (eqI (w64 (1 - b_.2.1.2.2.1)) 0) then (chk ((leI 0 (gD (((0 : Int), ((0 : Int), (0 : Int))), ((0 : Int), ((0 : Int), (false, ((0 : Int), (0 : Int)))))) b_.2.2.2 v2).1.2.1) && (ltI (gD (((0 : Int), ((0 : Int), (0 : Int))), ((0 : Int), ((0 : Int), (false, ((0 : Int), (0 : Int)))))) b_.2.2.2 v2).1.2.1 (b_.2.1.1.length : Int))) <|
    let v4 : List Int := (b_.2.1.1.set (gD (((0 : Int), ((0 : Int), (0 : Int))), ((0 : Int), ((0 : Int), (false, ((0 : Int), (0 : Int)))))) b_.2.2.2 v2).1.2.1.toNat (gD (((0 : Int), ((0 : Int), (0 : Int))), ((0 : Int), ((0 : Int), (false, ((0 : Int), (0 : Int)))))) b_.2.2.2 v2).2.2.1)
    bif (gD (((0 : Int), ((0 : Int), (0 : Int))), ((0 : Int), ((0 : Int), (false, ((0 : Int), (0 : Int)))))) b_.2.2.2 v2).2.2.2.1 then ((moves_Kind N (gD (((0 : Int), ((0 : Int), (0 : Int))), ((0 : Int), ((0 : Int), (false, ((0 : Int), (0 : Int)))))) b_.2.2.2 v2).2.2.1).bind fun y5 =>
      chk ((leI 0 y5) && (ltI y5 (b_.2.1.2.1.1.length : Int))) <|
      chk ((leI 0 y5) && (ltI y5 (b_.2.1.2.1.1.length : Int))) <|
      let v7 : List Int := (b_.2.1.2.1.1.set y5.toNat (w64 ((gD (0 : Int) b_.2.1.2.1.1 y5) - 1)))
      bif (ltI (gD (((0 : Int), ((0 : Int), (0 : Int))), ((0 : Int), ((0 : Int), (false, ((0 : Int), (0 : Int)))))) b_.2.2.2 v2).1.1 0) then (chk ((leI 0 (gD (((0 : Int), ((0 : Int), (0 : Int))), ((0 : Int), ((0 : Int), (false, ((0 : Int), (0 : Int)))))) b_.2.2.2 v2).1.2.2) && (ltI (gD (((0 : Int), ((0 : Int), (0 : Int))), ((0 : Int), ((0 : Int), (false, ((0 : Int), (0 : Int)))))) b_.2.2.2 v2).1.2.2 (v7.length : Int))) <|
        chk ((leI 0 (gD (((0 : Int), ((0 : Int), (0 : Int))), ((0 : Int), ((0 : Int), (false, ((0 : Int), (0 : Int)))))) b_.2.2.2 v2).1.2.2) && (ltI (gD (((0 : Int), ((0 : Int), (0 : Int))), ((0 : Int), ((0 : Int), (false, ((0 : Int), (0 : Int)))))) b_.2.2.2 v2).1.2.2 (v7.length : Int))) <|
        some (0, (b_.1, ((v4, (((v7.set (gD (((0 : Int), ((0 : Int), (0 : Int))), ((0 : Int), ((0 : Int), (false, ((0 : Int), (0 : Int)))))) b_.2.2.2 v2).1.2.2.toNat (w64 ((gD (0 : Int) v7 (gD (((0 : Int), ((0 : Int), (0 : Int))), ((0 : Int), ((0 : Int), (false, ((0 : Int), (0 : Int)))))) b_.2.2.2 v2).1.2.2) + 1))), b_.2.1.2.1.2), ((w64 (1 - b_.2.1.2.2.1)), (gD (((0 : Int), ((0 : Int), (0 : Int))), ((0 : Int), ((0 : Int), (false, ((0 : Int), (0 : Int)))))) b_.2.2.2 v2).2.2.2.2.1))), ((gD (((0 : Int), ((0 : Int), (0 : Int))), ((0 : Int), ((0 : Int), (false, ((0 : Int), (0 : Int)))))) b_.2.2.2 v2).2.2.2.2.2, (b_.2.2.2.take v3.toNat))))))
      else chk ((leI 0 (gD (((0 : Int), ((0 : Int), (0 : Int))), ((0 : Int), ((0 : Int), (false, ((0 : Int), (0 : Int)))))) b_.2.2.2 v2).1.1) && (ltI (gD (((0 : Int), ((0 : Int), (0 : Int))), ((0 : Int), ((0 : Int), (false, ((0 : Int), (0 : Int)))))) b_.2.2.2 v2).1.1 (v4.length : Int))) <|
      some (0, (b_.1, (((v4.set (gD (((0 : Int), ((0 : Int), (0 : Int))), ((0 : Int), ((0 : Int), (false, ((0 : Int), (0 : Int)))))) b_.2.2.2 v2).1.1.toNat (gD (((0 : Int), ((0 : Int), (0 : Int))), ((0 : Int), ((0 : Int), (false, ((0 : Int), (0 : Int)))))) b_.2.2.2 v2).2.1), ((v7, b_.2.1.2.1.2), ((w64 (1 - b_.2.1.2.2.1)), (gD (((0 : Int), ((0 : Int), (0 : Int))), ((0 : Int), ((0 : Int), (false, ((0 : Int), (0 : Int)))))) b_.2.2.2 v2).2.2.2.2.1))), ((gD (((0 : Int), ((0 : Int), (0 : Int))), ((0 : Int), ((0 : Int), (false, ((0 : Int), (0 : Int)))))) b_.2.2.2 v2).2.2.2.2.2, (b_.2.2.2.take v3.toNat))))))
    else bif (ltI (gD (((0 : Int), ((0 : Int), (0 : Int))), ((0 : Int), ((0 : Int), (false, ((0 : Int), (0 : Int)))))) b_.2.2.2 v2).1.1 0) then (chk ((leI 0 (gD (((0 : Int), ((0 : Int), (0 : Int))), ((0 : Int), ((0 : Int), (false, ((0 : Int), (0 : Int)))))) b_.2.2.2 v2).1.2.2) && (ltI (gD (((0 : Int), ((0 : Int), (0 : Int))), ((0 : Int), ((0 : Int), (false, ((0 : Int), (0 : Int)))))) b_.2.2.2 v2).1.2.2 (b_.2.1.2.1.1.length : Int))) <|
      chk ((leI 0 (gD (((0 : Int), ((0 : Int), (0 : Int))), ((0 : Int), ((0 : Int), (false, ((0 : Int), (0 : Int)))))) b_.2.2.2 v2).1.2.2) && (ltI (gD (((0 : Int), ((0 : Int), (0 : Int))), ((0 : Int), ((0 : Int), (false, ((0 : Int), (0 : Int)))))) b_.2.2.2 v2).1.2.2 (b_.2.1.2.1.1.length : Int))) <|
      some (0, (b_.1, ((v4, (((b_.2.1.2.1.1.set (gD (((0 : Int), ((0 : Int), (0 : Int))), ((0 : Int), ((0 : Int), (false, ((0 : Int), (0 : Int)))))) b_.2.2.2 v2).1.2.2.toNat (w64 ((gD (0 : Int) b_.2.1.2.1.1 (gD (((0 : Int), ((0 : Int), (0 : Int))), ((0 : Int), ((0 : Int), (false, ((0 : Int), (0 : Int)))))) b_.2.2.2 v2).1.2.2) + 1))), b_.2.1.2.1.2), ((w64 (1 - b_.2.1.2.2.1)), (gD (((0 : Int), ((0 : Int), (0 : Int))), ((0 : Int), ((0 : Int), (false, ((0 : Int), (0 : Int)))))) b_.2.2.2 v2).2.2.2.2.1))), ((gD (((0 : Int), ((0 : Int), (0 : Int))), ((0 : Int), ((0 : Int), (false, ((0 : Int), (0 : Int)))))) b_.2.2.2 v2).2.2.2.2.2, (b_.2.2.2.take v3.toNat))))))
    else chk ((leI 0 (gD (((0 : Int), ((0 : Int), (0 : Int))), ((0 : Int), ((0 : Int), (false, ((0 : Int), (0 : Int)))))) b_.2.2.2 v2).1.1) && (ltI (gD (((0 : Int), ((0 : Int), (0 : Int))), ((0 : Int), ((0 : Int), (false, ((0 : Int), (0 : Int)))))) b_.2.2.2 v2).1.1 (v4.length : Int))) <|
    some (0, (b_.1, (((v4.set (gD (((0 : Int), ((0 : Int), (0 : Int))), ((0 : Int), ((0 : Int), (false, ((0 : Int), (0 : Int)))))) b_.2.2.2 v2).1.1.toNat (gD (((0 : Int), ((0 : Int), (0 : Int))), ((0 : Int), ((0 : Int), (false, ((0 : Int), (0 : Int)))))) b_.2.2.2 v2).2.1), (b_.2.1.2.1, ((w64 (1 - b_.2.1.2.2.1)), (gD (((0 : Int), ((0 : Int), (0 : Int))), ((0 : Int), ((0 : Int), (false, ((0 : Int), (0 : Int)))))) b_.2.2.2 v2).2.2.2.2.1))), ((gD (((0 : Int), ((0 : Int), (0 : Int))), ((0 : Int), ((0 : Int), (false, ((0 : Int), (0 : Int)))))) b_.2.2.2 v2).2.2.2.2.2, (b_.2.2.2.take v3.toNat))))))
  else bif (eqI (w64 (1 - b_.2.1.2.2.1)) 1) then (chk ((leI 0 (gD (((0 : Int), ((0 : Int), (0 : Int))), ((0 : Int), ((0 : Int), (false, ((0 : Int), (0 : Int)))))) b_.2.2.2 v2).1.2.1) && (ltI (gD (((0 : Int), ((0 : Int), (0 : Int))), ((0 : Int), ((0 : Int), (false, ((0 : Int), (0 : Int)))))) b_.2.2.2 v2).1.2.1 (b_.2.1.1.length : Int))) <|
    let v16 : List Int := (b_.2.1.1.set (gD (((0 : Int), ((0 : Int), (0 : Int))), ((0 : Int), ((0 : Int), (false, ((0 : Int), (0 : Int)))))) b_.2.2.2 v2).1.2.1.toNat (gD (((0 : Int), ((0 : Int), (0 : Int))), ((0 : Int), ((0 : Int), (false, ((0 : Int), (0 : Int)))))) b_.2.2.2 v2).2.2.1)
    bif (gD (((0 : Int), ((0 : Int), (0 : Int))), ((0 : Int), ((0 : Int), (false, ((0 : Int), (0 : Int)))))) b_.2.2.2 v2).2.2.2.1 then ((moves_Kind N (gD (((0 : Int), ((0 : Int), (0 : Int))), ((0 : Int), ((0 : Int), (false, ((0 : Int), (0 : Int)))))) b_.2.2.2 v2).2.2.1).bind fun y17 =>
      chk ((leI 0 y17) && (ltI y17 (b_.2.1.2.1.2.length : Int))) <|
      chk ((leI 0 y17) && (ltI y17 (b_.2.1.2.1.2.length : Int))) <|
      let v19 : List Int := (b_.2.1.2.1.2.set y17.toNat (w64 ((gD (0 : Int) b_.2.1.2.1.2 y17) - 1)))
      bif (ltI (gD (((0 : Int), ((0 : Int), (0 : Int))), ((0 : Int), ((0 : Int), (false, ((0 : Int), (0 : Int)))))) b_.2.2.2 v2).1.1 0) then (chk ((leI 0 (gD (((0 : Int), ((0 : Int), (0 : Int))), ((0 : Int), ((0 : Int), (false, ((0 : Int), (0 : Int)))))) b_.2.2.2 v2).1.2.2) && (ltI (gD (((0 : Int), ((0 : Int), (0 : Int))), ((0 : Int), ((0 : Int), (false, ((0 : Int), (0 : Int)))))) b_.2.2.2 v2).1.2.2 (v19.length : Int))) <|
        chk ((leI 0 (gD (((0 : Int), ((0 : Int), (0 : Int))), ((0 : Int), ((0 : Int), (false, ((0 : Int), (0 : Int)))))) b_.2.2.2 v2).1.2.2) && (ltI (gD (((0 : Int), ((0 : Int), (0 : Int))), ((0 : Int), ((0 : Int), (false, ((0 : Int), (0 : Int)))))) b_.2.2.2 v2).1.2.2 (v19.length : Int))) <|
        some (0, (b_.1, ((v16, ((b_.2.1.2.1.1, (v19.set (gD (((0 : Int), ((0 : Int), (0 : Int))), ((0 : Int), ((0 : Int), (false, ((0 : Int), (0 : Int)))))) b_.2.2.2 v2).1.2.2.toNat (w64 ((gD (0 : Int) v19 (gD (((0 : Int), ((0 : Int), (0 : Int))), ((0 : Int), ((0 : Int), (false, ((0 : Int), (0 : Int)))))) b_.2.2.2 v2).1.2.2) + 1)))), ((w64 (1 - b_.2.1.2.2.1)), (gD (((0 : Int), ((0 : Int), (0 : Int))), ((0 : Int), ((0 : Int), (false, ((0 : Int), (0 : Int)))))) b_.2.2.2 v2).2.2.2.2.1))), ((gD (((0 : Int), ((0 : Int), (0 : Int))), ((0 : Int), ((0 : Int), (false, ((0 : Int), (0 : Int)))))) b_.2.2.2 v2).2.2.2.2.2, (b_.2.2.2.take v3.toNat))))))
      else chk ((leI 0 (gD (((0 : Int), ((0 : Int), (0 : Int))), ((0 : Int), ((0 : Int), (false, ((0 : Int), (0 : Int)))))) b_.2.2.2 v2).1.1) && (ltI (gD (((0 : Int), ((0 : Int), (0 : Int))), ((0 : Int), ((0 : Int), (false, ((0 : Int), (0 : Int)))))) b_.2.2.2 v2).1.1 (v16.length : Int))) <|
      some (0, (b_.1, (((v16.set (gD (((0 : Int), ((0 : Int), (0 : Int))), ((0 : Int), ((0 : Int), (false, ((0 : Int), (0 : Int)))))) b_.2.2.2 v2).1.1.toNat (gD (((0 : Int), ((0 : Int), (0 : Int))), ((0 : Int), ((0 : Int), (false, ((0 : Int), (0 : Int)))))) b_.2.2.2 v2).2.1), ((b_.2.1.2.1.1, v19), ((w64 (1 - b_.2.1.2.2.1)), (gD (((0 : Int), ((0 : Int), (0 : Int))), ((0 : Int), ((0 : Int), (false, ((0 : Int), (0 : Int)))))) b_.2.2.2 v2).2.2.2.2.1))), ((gD (((0 : Int), ((0 : Int), (0 : Int))), ((0 : Int), ((0 : Int), (false, ((0 : Int), (0 : Int)))))) b_.2.2.2 v2).2.2.2.2.2, (b_.2.2.2.take v3.toNat))))))
    else bif (ltI (gD (((0 : Int), ((0 : Int), (0 : Int))), ((0 : Int), ((0 : Int), (false, ((0 : Int), (0 : Int)))))) b_.2.2.2 v2).1.1 0) then (chk ((leI 0 (gD (((0 : Int), ((0 : Int), (0 : Int))), ((0 : Int), ((0 : Int), (false, ((0 : Int), (0 : Int)))))) b_.2.2.2 v2).1.2.2) && (ltI (gD (((0 : Int), ((0 : Int), (0 : Int))), ((0 : Int), ((0 : Int), (false, ((0 : Int), (0 : Int)))))) b_.2.2.2 v2).1.2.2 (b_.2.1.2.1.2.length : Int))) <|
      chk ((leI 0 (gD (((0 : Int), ((0 : Int), (0 : Int))), ((0 : Int), ((0 : Int), (false, ((0 : Int), (0 : Int)))))) b_.2.2.2 v2).1.2.2) && (ltI (gD (((0 : Int), ((0 : Int), (0 : Int))), ((0 : Int), ((0 : Int), (false, ((0 : Int), (0 : Int)))))) b_.2.2.2 v2).1.2.2 (b_.2.1.2.1.2.length : Int))) <|
      some (0, (b_.1, ((v16, ((b_.2.1.2.1.1, (b_.2.1.2.1.2.set (gD (((0 : Int), ((0 : Int), (0 : Int))), ((0 : Int), ((0 : Int), (false, ((0 : Int), (0 : Int)))))) b_.2.2.2 v2).1.2.2.toNat (w64 ((gD (0 : Int) b_.2.1.2.1.2 (gD (((0 : Int), ((0 : Int), (0 : Int))), ((0 : Int), ((0 : Int), (false, ((0 : Int), (0 : Int)))))) b_.2.2.2 v2).1.2.2) + 1)))), ((w64 (1 - b_.2.1.2.2.1)), (gD (((0 : Int), ((0 : Int), (0 : Int))), ((0 : Int), ((0 : Int), (false, ((0 : Int), (0 : Int)))))) b_.2.2.2 v2).2.2.2.2.1))), ((gD (((0 : Int), ((0 : Int), (0 : Int))), ((0 : Int), ((0 : Int), (false, ((0 : Int), (0 : Int)))))) b_.2.2.2 v2).2.2.2.2.2, (b_.2.2.2.take v3.toNat))))))
    else chk ((leI 0 (gD (((0 : Int), ((0 : Int), (0 : Int))), ((0 : Int), ((0 : Int), (false, ((0 : Int), (0 : Int)))))) b_.2.2.2 v2).1.1) && (ltI (gD (((0 : Int), ((0 : Int), (0 : Int))), ((0 : Int), ((0 : Int), (false, ((0 : Int), (0 : Int)))))) b_.2.2.2 v2).1.1 (v16.length : Int))) <|
    some (0, (b_.1, (((v16.set (gD (((0 : Int), ((0 : Int), (0 : Int))), ((0 : Int), ((0 : Int), (false, ((0 : Int), (0 : Int)))))) b_.2.2.2 v2).1.1.toNat (gD (((0 : Int), ((0 : Int), (0 : Int))), ((0 : Int), ((0 : Int), (false, ((0 : Int), (0 : Int)))))) b_.2.2.2 v2).2.1), (b_.2.1.2.1, ((w64 (1 - b_.2.1.2.2.1)), (gD (((0 : Int), ((0 : Int), (0 : Int))), ((0 : Int), ((0 : Int), (false, ((0 : Int), (0 : Int)))))) b_.2.2.2 v2).2.2.2.2.1))), ((gD (((0 : Int), ((0 : Int), (0 : Int))), ((0 : Int), ((0 : Int), (false, ((0 : Int), (0 : Int)))))) b_.2.2.2 v2).2.2.2.2.2, (b_.2.2.2.take v3.toNat))))))
  else none
def board_Board_Undo' (N : Nat) (b_ : TBoard) : Option (Int × TBoard) := board_Board_Undo'.e N b_
/-! ### f48: (*gamehall/perft.counter).count -/
def perft_counter_count''.e (N : Nat) (self : Int → TBoard → Int → Option (Int × Int × TBoard)) (r0 : Int → Int → Int → Int → ByteArray → Int → Int → Bool → Bool → Int → Int → Int → Int → Int → Int → LMv → (List TPiece) → LInt → (List TEnd) → LInt → LInt → LInt → (List TUndo) → Option (Int × Int × TBoard)) (c_ : Int) (b_ : TBoard) (depth : Int) : Option (Int × Int × TBoard) :=
  bif (ltI (w64 (c_ - 1)) 0) then (some (1, ((w64 (c_ - 1)), b_)))
  else bif (eqI depth 0) then (some (1, ((w64 (c_ - 1)), b_)))
  else (board_Board_Moves N b_).bind fun y1 =>
  r0 0 (y1.length : Int) 0 (w64 (c_ - 1)) b_.1.1 b_.1.2.1 b_.1.2.2.1 b_.1.2.2.2.2.2.1 b_.1.2.2.2.2.2.2.1 b_.1.2.2.2.2.2.2.2.2.1 b_.1.2.2.2.2.2.2.2.2.2.1 b_.1.2.2.2.2.2.2.2.2.2.2 b_.2.1.2.2.1 b_.2.1.2.2.2 b_.2.2.1 y1 b_.1.2.2.2.1 b_.1.2.2.2.2.1 b_.1.2.2.2.2.2.2.2.1 b_.2.1.1 b_.2.1.2.1.1 b_.2.1.2.1.2 b_.2.2.2
def perft_counter_count''.s0 (N : Nat) (self : Int → TBoard → Int → Option (Int × Int × TBoard)) (c_ : Int) (b_ : TBoard) (depth : Int) (r0 : Int → Int → Int → Int → ByteArray → Int → Int → Bool → Bool → Int → Int → Int → Int → Int → Int → LMv → (List TPiece) → LInt → (List TEnd) → LInt → LInt → LInt → (List TUndo) → Option (Int × Int × TBoard)) (n_ : Int) (t28_ : Int) (t29_ : Int) (c_2 : Int) (b_2 : ByteArray) (b_3 : Int) (b_4 : Int) (b_5 : Bool) (b_6 : Bool) (b_7 : Int) (b_8 : Int) (b_9 : Int) (b_10 : Int) (b_11 : Int) (b_12 : Int) (m9_ : LMv) (m10_ : (List TPiece)) (m11_ : LInt) (m12_ : (List TEnd)) (m13_ : LInt) (m14_ : LInt) (m15_ : LInt) (m16_ : (List TUndo)) : Option (Int × Int × TBoard) :=
  bif (ltI t29_ t28_) then (chk ((leI 0 t29_) && (ltI t29_ (m9_.length : Int))) <|
    (board_Board_Make' N ((b_2, (b_3, (b_4, (m10_, (m11_, (b_5, (b_6, (m12_, (b_7, (b_8, b_9)))))))))), ((m13_, ((m14_, m15_), (b_10, b_11))), (b_12, m16_))) (gD ((0 : Int), ((0 : Int), (0 : Int))) m9_ t29_)).bind fun y2 =>
    (self c_2 y2 (w64 (depth - 1))).bind fun y3 =>
    (board_Board_Undo' N y3.2.2).bind fun y4 =>
    bif (ltI y3.2.1 0) then (some (0, (y3.2.1, y4.2)))
    else r0 (w64 (n_ + y3.1)) t28_ (w64 (t29_ + 1)) y3.2.1 y4.2.1.1 y4.2.1.2.1 y4.2.1.2.2.1 y4.2.1.2.2.2.2.2.1 y4.2.1.2.2.2.2.2.2.1 y4.2.1.2.2.2.2.2.2.2.2.1 y4.2.1.2.2.2.2.2.2.2.2.2.1 y4.2.1.2.2.2.2.2.2.2.2.2.2 y4.2.2.1.2.2.1 y4.2.2.1.2.2.2 y4.2.2.2.1 m9_ y4.2.1.2.2.2.1 y4.2.1.2.2.2.2.1 y4.2.1.2.2.2.2.2.2.2.1 y4.2.2.1.1 y4.2.2.1.2.1.1 y4.2.2.1.2.1.2 y4.2.2.2.2)
  else some (n_, (c_2, ((b_2, (b_3, (b_4, (m10_, (m11_, (b_5, (b_6, (m12_, (b_7, (b_8, b_9)))))))))), ((m13_, ((m14_, m15_), (b_10, b_11))), (b_12, m16_)))))
def perft_counter_count''.L (N : Nat) (self : Int → TBoard → Int → Option (Int × Int × TBoard)) (c_ : Int) (b_ : TBoard) (depth : Int) : Nat → (Int → Int → Int → Int → ByteArray → Int → Int → Bool → Bool → Int → Int → Int → Int → Int → Int → LMv → (List TPiece) → LInt → (List TEnd) → LInt → LInt → LInt → (List TUndo) → Option (Int × Int × TBoard))
  | 0 => fun _ _ _ _ _ _ _ _ _ _ _ _ _ _ _ _ _ _ _ _ _ _ _ => none
  | n + 1 => fun n_ t28_ t29_ c_2 b_2 b_3 b_4 b_5 b_6 b_7 b_8 b_9 b_10 b_11 b_12 m9_ m10_ m11_ m12_ m13_ m14_ m15_ m16_ => perft_counter_count''.s0 N self c_ b_ depth (perft_counter_count''.L N self c_ b_ depth n) n_ t28_ t29_ c_2 b_2 b_3 b_4 b_5 b_6 b_7 b_8 b_9 b_10 b_11 b_12 m9_ m10_ m11_ m12_ m13_ m14_ m15_ m16_
def perft_counter_count''.l0 (N : Nat) (self : Int → TBoard → Int → Option (Int × Int × TBoard)) (c_ : Int) (b_ : TBoard) (depth : Int) (n : Nat) : Int → Int → Int → Int → ByteArray → Int → Int → Bool → Bool → Int → Int → Int → Int → Int → Int → LMv → (List TPiece) → LInt → (List TEnd) → LInt → LInt → LInt → (List TUndo) → Option (Int × Int × TBoard) := (perft_counter_count''.L N self c_ b_ depth n)
theorem perft_counter_count''.l0_s (N : Nat) (self : Int → TBoard → Int → Option (Int × Int × TBoard)) (c_ : Int) (b_ : TBoard) (depth : Int) (n : Nat) (n_ : Int) (t28_ : Int) (t29_ : Int) (c_2 : Int) (b_2 : ByteArray) (b_3 : Int) (b_4 : Int) (b_5 : Bool) (b_6 : Bool) (b_7 : Int) (b_8 : Int) (b_9 : Int) (b_10 : Int) (b_11 : Int) (b_12 : Int) (m9_ : LMv) (m10_ : (List TPiece)) (m11_ : LInt) (m12_ : (List TEnd)) (m13_ : LInt) (m14_ : LInt) (m15_ : LInt) (m16_ : (List TUndo)) : perft_counter_count''.l0 N self c_ b_ depth (n + 1) n_ t28_ t29_ c_2 b_2 b_3 b_4 b_5 b_6 b_7 b_8 b_9 b_10 b_11 b_12 m9_ m10_ m11_ m12_ m13_ m14_ m15_ m16_ = perft_counter_count''.s0 N self c_ b_ depth (perft_counter_count''.l0 N self c_ b_ depth n) n_ t28_ t29_ c_2 b_2 b_3 b_4 b_5 b_6 b_7 b_8 b_9 b_10 b_11 b_12 m9_ m10_ m11_ m12_ m13_ m14_ m15_ m16_ := rfl
def perft_counter_count'' : Nat → Int → TBoard → Int → Option (Int × Int × TBoard)
  | 0 => fun _ _ _ => none
  | N + 1 => fun c_ b_ depth => perft_counter_count''.e N (perft_counter_count'' N) (perft_counter_count''.l0 N (perft_counter_count'' N) c_ b_ depth N) c_ b_ depth
theorem perft_counter_count''_s (N : Nat) (c_ : Int) (b_ : TBoard) (depth : Int) : perft_counter_count'' (N + 1) c_ b_ depth = perft_counter_count''.e N (perft_counter_count'' N) (perft_counter_count''.l0 N (perft_counter_count'' N) c_ b_ depth N) c_ b_ depth := rfl
/-! ### f27: gamehall/perft.Tree -/
def perft_Tree.e (N : Nat) (r_ : TRules) (p_ : TPos) (depth : Int) : Option (Int × Int) :=
  (perft_check N r_ p_ depth).bind fun y1 =>
  oCase y1.1 (bif (!(eqI y1.2 0)) then (some (0, y1.2))
    else none) fun b2 =>
  bif (!(eqI y1.2 0)) then (some (0, y1.2))
  else (perft_counter_count'' N 50000 b2 depth).bind fun y3 =>
  bif (ltI y3.2.1 0) then (some (0, 17))
  else some ((w64 (50000 - y3.2.1)), 0)
def perft_Tree (N : Nat) (r_ : TRules) (p_ : TPos) (depth : Int) : Option (Int × Int) := perft_Tree.e N r_ p_ depth
/-! ### f28: gamehall/minimax.Check -/
def minimax_Check.e (N : Nat) (r_ : TRules) (p_ : TPos) (depth : Int) : Option Int :=
  (perft_Tree N r_ p_ depth).bind fun y1 =>
  some y1.2
def minimax_Check (N : Nat) (r_ : TRules) (p_ : TPos) (depth : Int) : Option Int := minimax_Check.e N r_ p_ depth
/-! ### f52: (*gamehall/board.Board).Turn -/
def board_Board_Turn.e (N : Nat) (b_ : TBoard) : Option Int :=
  some b_.2.1.2.2.1
def board_Board_Turn (N : Nat) (b_ : TBoard) : Option Int := board_Board_Turn.e N b_
/-! ### f51: gamehall/ends.Score -/
def ends_Score.e (N : Nat) (result : Int) (turn : Int) : Option Int :=
  (ends_wins N turn).bind fun y1 =>
  bif (eqI result y1) then some 1000
  else (ends_wins N (w64 (1 - turn))).bind fun y2 =>
  bif (eqI result y2) then (some (-1000))
  else some 0
def ends_Score (N : Nat) (result : Int) (turn : Int) : Option Int := ends_Score.e N result turn
/-! ### f53: (*gamehall/board.Board).Position -/
def board_Board_Position.e (N : Nat) (b_ : TBoard) : Option TPos :=
  (place_Copy N b_.2.1).bind fun y1 =>
  some y1
def board_Board_Position (N : Nat) (b_ : TBoard) : Option TPos := board_Board_Position.e N b_
/-! ### f56: gamehall/minimax.Nearer -/
def minimax_Nearer.e (N : Nat) (n_ : Int) : Option Int :=
  bif (ltI 0 n_) then (some (w64 (n_ - 1)))
  else bif (ltI n_ 0) then (some (w64 (n_ + 1)))
  else some 0
def minimax_Nearer (N : Nat) (n_ : Int) : Option Int := minimax_Nearer.e N n_
/-! ### f30: (*gamehall/store.Store).value -/
def store_Store_value''.e (N : Nat) (self : (TRules × ((List (TPos × (Int × (Int × Bool)))) × (Int × Int))) → TBoard → Int → Option (Int × (TRules × ((List (TPos × (Int × (Int × Bool)))) × (Int × Int))) × TBoard)) (r0 : Int → Int → Int → ByteArray → Int → Int → (List TPiece) → LInt → Bool → Bool → (List TEnd) → Int → Int → Int → Int → Int → ByteArray → Int → Int → Bool → Bool → Int → Int → Int → Int → Int → Int → LInt → LInt → LInt → Int → Int → (List (TPos × (Int × (Int × Bool)))) → LMv → (List TPiece) → LInt → (List TEnd) → LInt → LInt → LInt → (List TUndo) → Option (Int × (TRules × ((List (TPos × (Int × (Int × Bool)))) × (Int × Int))) × TBoard)) (s_ : (TRules × ((List (TPos × (Int × (Int × Bool)))) × (Int × Int)))) (b_ : TBoard) (depth : Int) : Option (Int × (TRules × ((List (TPos × (Int × (Int × Bool)))) × (Int × Int))) × TBoard) :=
  (board_Board_Result N b_).bind fun y1 =>
  bif (!(eqI y1 0)) then ((board_Board_Turn N b_).bind fun y2 =>
    (ends_Score N y1 y2).bind fun y3 =>
    some (y3, (s_, b_)))
  else bif (eqI depth 0) then (some (0, (s_, b_)))
  else (board_Board_Position N b_).bind fun y4 =>
  (store_Store_find' N s_ y4 depth).bind fun y5 =>
  bif y5.2.1 then (some (y5.1, (y5.2.2, b_)))
  else (board_Board_Moves N b_).bind fun y6 =>
  r0 (-1000) (y6.length : Int) 0 y5.2.2.1.1 y5.2.2.1.2.1 y5.2.2.1.2.2.1 y5.2.2.1.2.2.2.1 y5.2.2.1.2.2.2.2.1 y5.2.2.1.2.2.2.2.2.1 y5.2.2.1.2.2.2.2.2.2.1 y5.2.2.1.2.2.2.2.2.2.2.1 y5.2.2.1.2.2.2.2.2.2.2.2.1 y5.2.2.1.2.2.2.2.2.2.2.2.2.1 y5.2.2.1.2.2.2.2.2.2.2.2.2.2 y5.2.2.2.2.1 y5.2.2.2.2.2 b_.1.1 b_.1.2.1 b_.1.2.2.1 b_.1.2.2.2.2.2.1 b_.1.2.2.2.2.2.2.1 b_.1.2.2.2.2.2.2.2.2.1 b_.1.2.2.2.2.2.2.2.2.2.1 b_.1.2.2.2.2.2.2.2.2.2.2 b_.2.1.2.2.1 b_.2.1.2.2.2 b_.2.2.1 y4.1 y4.2.1.1 y4.2.1.2 y4.2.2.1 y4.2.2.2 y5.2.2.2.1 y6 b_.1.2.2.2.1 b_.1.2.2.2.2.1 b_.1.2.2.2.2.2.2.2.1 b_.2.1.1 b_.2.1.2.1.1 b_.2.1.2.1.2 b_.2.2.2
def store_Store_value''.s0 (N : Nat) (self : (TRules × ((List (TPos × (Int × (Int × Bool)))) × (Int × Int))) → TBoard → Int → Option (Int × (TRules × ((List (TPos × (Int × (Int × Bool)))) × (Int × Int))) × TBoard)) (s_ : (TRules × ((List (TPos × (Int × (Int × Bool)))) × (Int × Int)))) (b_ : TBoard) (depth : Int) (r0 : Int → Int → Int → ByteArray → Int → Int → (List TPiece) → LInt → Bool → Bool → (List TEnd) → Int → Int → Int → Int → Int → ByteArray → Int → Int → Bool → Bool → Int → Int → Int → Int → Int → Int → LInt → LInt → LInt → Int → Int → (List (TPos × (Int × (Int × Bool)))) → LMv → (List TPiece) → LInt → (List TEnd) → LInt → LInt → LInt → (List TUndo) → Option (Int × (TRules × ((List (TPos × (Int × (Int × Bool)))) × (Int × Int))) × TBoard)) (best : Int) (t37_ : Int) (t38_ : Int) (s_2 : ByteArray) (s_3 : Int) (s_4 : Int) (s_5 : (List TPiece)) (s_6 : LInt) (s_7 : Bool) (s_8 : Bool) (s_9 : (List TEnd)) (s_10 : Int) (s_11 : Int) (s_12 : Int) (s_13 : Int) (s_14 : Int) (b_2 : ByteArray) (b_3 : Int) (b_4 : Int) (b_5 : Bool) (b_6 : Bool) (b_7 : Int) (b_8 : Int) (b_9 : Int) (b_10 : Int) (b_11 : Int) (b_12 : Int) (p_ : LInt) (p_2 : LInt) (p_3 : LInt) (p_4 : Int) (p_5 : Int) (m14_ : (List (TPos × (Int × (Int × Bool))))) (m15_ : LMv) (m16_ : (List TPiece)) (m17_ : LInt) (m18_ : (List TEnd)) (m19_ : LInt) (m20_ : LInt) (m21_ : LInt) (m22_ : (List TUndo)) : Option (Int × (TRules × ((List (TPos × (Int × (Int × Bool)))) × (Int × Int))) × TBoard) :=
  bif (ltI t38_ t37_) then (chk ((leI 0 t38_) && (ltI t38_ (m15_.length : Int))) <|
    (board_Board_Make' N ((b_2, (b_3, (b_4, (m16_, (m17_, (b_5, (b_6, (m18_, (b_7, (b_8, b_9)))))))))), ((m19_, ((m20_, m21_), (b_10, b_11))), (b_12, m22_))) (gD ((0 : Int), ((0 : Int), (0 : Int))) m15_ t38_)).bind fun y7 =>
    (self ((s_2, (s_3, (s_4, (s_5, (s_6, (s_7, (s_8, (s_9, (s_10, (s_11, s_12)))))))))), (m14_, (s_13, s_14))) y7 (w64 (depth - 1))).bind fun y8 =>
    (minimax_Nearer N (w64 (0 - y8.1))).bind fun y9 =>
    (board_Board_Undo' N y8.2.2).bind fun y11 =>
    r0 (bif (ltI best y9) then y9 else best) t37_ (w64 (t38_ + 1)) y8.2.1.1.1 y8.2.1.1.2.1 y8.2.1.1.2.2.1 y8.2.1.1.2.2.2.1 y8.2.1.1.2.2.2.2.1 y8.2.1.1.2.2.2.2.2.1 y8.2.1.1.2.2.2.2.2.2.1 y8.2.1.1.2.2.2.2.2.2.2.1 y8.2.1.1.2.2.2.2.2.2.2.2.1 y8.2.1.1.2.2.2.2.2.2.2.2.2.1 y8.2.1.1.2.2.2.2.2.2.2.2.2.2 y8.2.1.2.2.1 y8.2.1.2.2.2 y11.2.1.1 y11.2.1.2.1 y11.2.1.2.2.1 y11.2.1.2.2.2.2.2.1 y11.2.1.2.2.2.2.2.2.1 y11.2.1.2.2.2.2.2.2.2.2.1 y11.2.1.2.2.2.2.2.2.2.2.2.1 y11.2.1.2.2.2.2.2.2.2.2.2.2 y11.2.2.1.2.2.1 y11.2.2.1.2.2.2 y11.2.2.2.1 p_ p_2 p_3 p_4 p_5 y8.2.1.2.1 m15_ y11.2.1.2.2.2.1 y11.2.1.2.2.2.2.1 y11.2.1.2.2.2.2.2.2.2.1 y11.2.2.1.1 y11.2.2.1.2.1.1 y11.2.2.1.2.1.2 y11.2.2.2.2)
  else (store_Store_keep' N ((s_2, (s_3, (s_4, (s_5, (s_6, (s_7, (s_8, (s_9, (s_10, (s_11, s_12)))))))))), (m14_, (s_13, s_14))) (p_, ((p_2, p_3), (p_4, p_5))) depth best).bind fun y12 =>
  some (best, (y12, ((b_2, (b_3, (b_4, (m16_, (m17_, (b_5, (b_6, (m18_, (b_7, (b_8, b_9)))))))))), ((m19_, ((m20_, m21_), (b_10, b_11))), (b_12, m22_)))))
def store_Store_value''.L (N : Nat) (self : (TRules × ((List (TPos × (Int × (Int × Bool)))) × (Int × Int))) → TBoard → Int → Option (Int × (TRules × ((List (TPos × (Int × (Int × Bool)))) × (Int × Int))) × TBoard)) (s_ : (TRules × ((List (TPos × (Int × (Int × Bool)))) × (Int × Int)))) (b_ : TBoard) (depth : Int) : Nat → (Int → Int → Int → ByteArray → Int → Int → (List TPiece) → LInt → Bool → Bool → (List TEnd) → Int → Int → Int → Int → Int → ByteArray → Int → Int → Bool → Bool → Int → Int → Int → Int → Int → Int → LInt → LInt → LInt → Int → Int → (List (TPos × (Int × (Int × Bool)))) → LMv → (List TPiece) → LInt → (List TEnd) → LInt → LInt → LInt → (List TUndo) → Option (Int × (TRules × ((List (TPos × (Int × (Int × Bool)))) × (Int × Int))) × TBoard))
  | 0 => fun _ _ _ _ _ _ _ _ _ _ _ _ _ _ _ _ _ _ _ _ _ _ _ _ _ _ _ _ _ _ _ _ _ _ _ _ _ _ _ _ _ => none
  | n + 1 => fun best t37_ t38_ s_2 s_3 s_4 s_5 s_6 s_7 s_8 s_9 s_10 s_11 s_12 s_13 s_14 b_2 b_3 b_4 b_5 b_6 b_7 b_8 b_9 b_10 b_11 b_12 p_ p_2 p_3 p_4 p_5 m14_ m15_ m16_ m17_ m18_ m19_ m20_ m21_ m22_ => store_Store_value''.s0 N self s_ b_ depth (store_Store_value''.L N self s_ b_ depth n) best t37_ t38_ s_2 s_3 s_4 s_5 s_6 s_7 s_8 s_9 s_10 s_11 s_12 s_13 s_14 b_2 b_3 b_4 b_5 b_6 b_7 b_8 b_9 b_10 b_11 b_12 p_ p_2 p_3 p_4 p_5 m14_ m15_ m16_ m17_ m18_ m19_ m20_ m21_ m22_
def store_Store_value''.l0 (N : Nat) (self : (TRules × ((List (TPos × (Int × (Int × Bool)))) × (Int × Int))) → TBoard → Int → Option (Int × (TRules × ((List (TPos × (Int × (Int × Bool)))) × (Int × Int))) × TBoard)) (s_ : (TRules × ((List (TPos × (Int × (Int × Bool)))) × (Int × Int)))) (b_ : TBoard) (depth : Int) (n : Nat) : Int → Int → Int → ByteArray → Int → Int → (List TPiece) → LInt → Bool → Bool → (List TEnd) → Int → Int → Int → Int → Int → ByteArray → Int → Int → Bool → Bool → Int → Int → Int → Int → Int → Int → LInt → LInt → LInt → Int → Int → (List (TPos × (Int × (Int × Bool)))) → LMv → (List TPiece) → LInt → (List TEnd) → LInt → LInt → LInt → (List TUndo) → Option (Int × (TRules × ((List (TPos × (Int × (Int × Bool)))) × (Int × Int))) × TBoard) := (store_Store_value''.L N self s_ b_ depth n)
theorem store_Store_value''.l0_s (N : Nat) (self : (TRules × ((List (TPos × (Int × (Int × Bool)))) × (Int × Int))) → TBoard → Int → Option (Int × (TRules × ((List (TPos × (Int × (Int × Bool)))) × (Int × Int))) × TBoard)) (s_ : (TRules × ((List (TPos × (Int × (Int × Bool)))) × (Int × Int)))) (b_ : TBoard) (depth : Int) (n : Nat) (best : Int) (t37_ : Int) (t38_ : Int) (s_2 : ByteArray) (s_3 : Int) (s_4 : Int) (s_5 : (List TPiece)) (s_6 : LInt) (s_7 : Bool) (s_8 : Bool) (s_9 : (List TEnd)) (s_10 : Int) (s_11 : Int) (s_12 : Int) (s_13 : Int) (s_14 : Int) (b_2 : ByteArray) (b_3 : Int) (b_4 : Int) (b_5 : Bool) (b_6 : Bool) (b_7 : Int) (b_8 : Int) (b_9 : Int) (b_10 : Int) (b_11 : Int) (b_12 : Int) (p_ : LInt) (p_2 : LInt) (p_3 : LInt) (p_4 : Int) (p_5 : Int) (m14_ : (List (TPos × (Int × (Int × Bool))))) (m15_ : LMv) (m16_ : (List TPiece)) (m17_ : LInt) (m18_ : (List TEnd)) (m19_ : LInt) (m20_ : LInt) (m21_ : LInt) (m22_ : (List TUndo)) : store_Store_value''.l0 N self s_ b_ depth (n + 1) best t37_ t38_ s_2 s_3 s_4 s_5 s_6 s_7 s_8 s_9 s_10 s_11 s_12 s_13 s_14 b_2 b_3 b_4 b_5 b_6 b_7 b_8 b_9 b_10 b_11 b_12 p_ p_2 p_3 p_4 p_5 m14_ m15_ m16_ m17_ m18_ m19_ m20_ m21_ m22_ = store_Store_value''.s0 N self s_ b_ depth (store_Store_value''.l0 N self s_ b_ depth n) best t37_ t38_ s_2 s_3 s_4 s_5 s_6 s_7 s_8 s_9 s_10 s_11 s_12 s_13 s_14 b_2 b_3 b_4 b_5 b_6 b_7 b_8 b_9 b_10 b_11 b_12 p_ p_2 p_3 p_4 p_5 m14_ m15_ m16_ m17_ m18_ m19_ m20_ m21_ m22_ := rfl
def store_Store_value'' : Nat → (TRules × ((List (TPos × (Int × (Int × Bool)))) × (Int × Int))) → TBoard → Int → Option (Int × (TRules × ((List (TPos × (Int × (Int × Bool)))) × (Int × Int))) × TBoard)
  | 0 => fun _ _ _ => none
  | N + 1 => fun s_ b_ depth => store_Store_value''.e N (store_Store_value'' N) (store_Store_value''.l0 N (store_Store_value'' N) s_ b_ depth N) s_ b_ depth
theorem store_Store_value''_s (N : Nat) (s_ : (TRules × ((List (TPos × (Int × (Int × Bool)))) × (Int × Int)))) (b_ : TBoard) (depth : Int) : store_Store_value'' (N + 1) s_ b_ depth = store_Store_value''.e N (store_Store_value'' N) (store_Store_value''.l0 N (store_Store_value'' N) s_ b_ depth N) s_ b_ depth := rfl
/-! ### f9: (*gamehall/store.Store).Score -/
def store_Store_Score'.e (N : Nat) (s_ : (TRules × ((List (TPos × (Int × (Int × Bool)))) × (Int × Int)))) (p_ : TPos) (depth : Int) : Option (Int × Int × (TRules × ((List (TPos × (Int × (Int × Bool)))) × (Int × Int)))) :=
  (minimax_Check N s_.1 p_ depth).bind fun y1 =>
  bif (!(eqI y1 0)) then (some (0, (y1, s_)))
  else (board_New N s_.1 p_).bind fun y2 =>
  oCase y2.1 none fun b3 =>
  (store_Store_value'' N s_ b3 depth).bind fun y4 =>
  some (y4.1, (0, y4.2.1))
def store_Store_Score' (N : Nat) (s_ : (TRules × ((List (TPos × (Int × (Int × Bool)))) × (Int × Int)))) (p_ : TPos) (depth : Int) : Option (Int × Int × (TRules × ((List (TPos × (Int × (Int × Bool)))) × (Int × Int)))) := store_Store_Score'.e N s_ p_ depth
/-! ### f11: (*gamehall/store.Store).Len -/
def store_Store_Len.e (N : Nat) (s_ : (TRules × ((List (TPos × (Int × (Int × Bool)))) × (Int × Int)))) : Option Int :=
  some s_.2.2.1
def store_Store_Len (N : Nat) (s_ : (TRules × ((List (TPos × (Int × (Int × Bool)))) × (Int × Int)))) : Option Int := store_Store_Len.e N s_
/-! ### f19: (*gamehall/store.Store).Found -/
def store_Store_Found.e (N : Nat) (s_ : (TRules × ((List (TPos × (Int × (Int × Bool)))) × (Int × Int)))) : Option Int :=
  some s_.2.2.2
def store_Store_Found (N : Nat) (s_ : (TRules × ((List (TPos × (Int × (Int × Bool)))) × (Int × Int)))) : Option Int := store_Store_Found.e N s_
/-! ### f4: gamehall/gamehallkeep1.stored -/
def gamehallkeep1_stored.e (N : Nat) : Option Bool :=
  (gamehallkeep1_three N).bind fun y1 =>
  (store_New N y1 1).bind fun y2 =>
  oCase y2.1 (bif (!(eqI y2.2 0)) then some false
    else some false) fun b3 =>
  bif (!(eqI y2.2 0)) then some false
  else (gamehallkeep1_near N).bind fun y4 =>
  (store_Store_Put' N b3 y4 2 5).bind fun y5 =>
  bif (!(eqI y5.1 0)) then some false
  else (gamehallkeep1_near N).bind fun y6 =>
  (store_Store_Get' N y5.2 y6 2).bind fun y7 =>
  (gamehallkeep1_near N).bind fun y8 =>
  (store_Store_Get' N y7.2.2 y8 1).bind fun y9 =>
  (gamehallkeep1_three N).bind fun y10 =>
  (store_New N y10 9).bind fun y11 =>
  oCase y11.1 (bif (!(eqI y11.2 0)) then some false
    else some false) fun b12 =>
  bif (!(eqI y11.2 0)) then some false
  else (gamehallkeep1_near N).bind fun y13 =>
  (store_Store_Score' N b12 y13 1).bind fun y14 =>
  bif (eqI y7.2.1 0) then (bif (eqI y7.1 5) then (bif (eqI y9.2.1 8) then ((store_Store_Len N y9.2.2).bind fun y15 =>
        bif (eqI y15 1) then ((store_Store_Found N y9.2.2).bind fun y16 =>
          bif (eqI y16 1) then (bif (eqI y14.2.1 0) then (some (eqI y14.1 999))
            else some false)
          else some false)
        else some false)
      else some false)
    else some false)
  else some false
def gamehallkeep1_stored (N : Nat) : Option Bool := gamehallkeep1_stored.e N
/-! ### f31: gamehall/minimax.Value -/
def minimax_Value'.e (N : Nat) (self : TBoard → Int → Option (Int × TBoard)) (r0 : Int → Int → Int → ByteArray → Int → Int → Bool → Bool → Int → Int → Int → Int → Int → Int → LMv → (List TPiece) → LInt → (List TEnd) → LInt → LInt → LInt → (List TUndo) → Option (Int × TBoard)) (b_ : TBoard) (depth : Int) : Option (Int × TBoard) :=
  (board_Board_Result N b_).bind fun y1 =>
  bif (!(eqI y1 0)) then ((board_Board_Turn N b_).bind fun y2 =>
    (ends_Score N y1 y2).bind fun y3 =>
    some (y3, b_))
  else bif (eqI depth 0) then (some (0, b_))
  else (board_Board_Moves N b_).bind fun y4 =>
  r0 (-1000) (y4.length : Int) 0 b_.1.1 b_.1.2.1 b_.1.2.2.1 b_.1.2.2.2.2.2.1 b_.1.2.2.2.2.2.2.1 b_.1.2.2.2.2.2.2.2.2.1 b_.1.2.2.2.2.2.2.2.2.2.1 b_.1.2.2.2.2.2.2.2.2.2.2 b_.2.1.2.2.1 b_.2.1.2.2.2 b_.2.2.1 y4 b_.1.2.2.2.1 b_.1.2.2.2.2.1 b_.1.2.2.2.2.2.2.2.1 b_.2.1.1 b_.2.1.2.1.1 b_.2.1.2.1.2 b_.2.2.2
def minimax_Value'.s0 (N : Nat) (self : TBoard → Int → Option (Int × TBoard)) (b_ : TBoard) (depth : Int) (r0 : Int → Int → Int → ByteArray → Int → Int → Bool → Bool → Int → Int → Int → Int → Int → Int → LMv → (List TPiece) → LInt → (List TEnd) → LInt → LInt → LInt → (List TUndo) → Option (Int × TBoard)) (best : Int) (t21_ : Int) (t22_ : Int) (b_2 : ByteArray) (b_3 : Int) (b_4 : Int) (b_5 : Bool) (b_6 : Bool) (b_7 : Int) (b_8 : Int) (b_9 : Int) (b_10 : Int) (b_11 : Int) (b_12 : Int) (m8_ : LMv) (m9_ : (List TPiece)) (m10_ : LInt) (m11_ : (List TEnd)) (m12_ : LInt) (m13_ : LInt) (m14_ : LInt) (m15_ : (List TUndo)) : Option (Int × TBoard) :=
  bif (ltI t22_ t21_) then (chk ((leI 0 t22_) && (ltI t22_ (m8_.length : Int))) <|
    (board_Board_Make' N ((b_2, (b_3, (b_4, (m9_, (m10_, (b_5, (b_6, (m11_, (b_7, (b_8, b_9)))))))))), ((m12_, ((m13_, m14_), (b_10, b_11))), (b_12, m15_))) (gD ((0 : Int), ((0 : Int), (0 : Int))) m8_ t22_)).bind fun y5 =>
    (self y5 (w64 (depth - 1))).bind fun y6 =>
    (minimax_Nearer N (w64 (0 - y6.1))).bind fun y7 =>
    (board_Board_Undo' N y6.2).bind fun y9 =>
    r0 (bif (ltI best y7) then y7 else best) t21_ (w64 (t22_ + 1)) y9.2.1.1 y9.2.1.2.1 y9.2.1.2.2.1 y9.2.1.2.2.2.2.2.1 y9.2.1.2.2.2.2.2.2.1 y9.2.1.2.2.2.2.2.2.2.2.1 y9.2.1.2.2.2.2.2.2.2.2.2.1 y9.2.1.2.2.2.2.2.2.2.2.2.2 y9.2.2.1.2.2.1 y9.2.2.1.2.2.2 y9.2.2.2.1 m8_ y9.2.1.2.2.2.1 y9.2.1.2.2.2.2.1 y9.2.1.2.2.2.2.2.2.2.1 y9.2.2.1.1 y9.2.2.1.2.1.1 y9.2.2.1.2.1.2 y9.2.2.2.2)
  else some (best, ((b_2, (b_3, (b_4, (m9_, (m10_, (b_5, (b_6, (m11_, (b_7, (b_8, b_9)))))))))), ((m12_, ((m13_, m14_), (b_10, b_11))), (b_12, m15_))))
def minimax_Value'.L (N : Nat) (self : TBoard → Int → Option (Int × TBoard)) (b_ : TBoard) (depth : Int) : Nat → (Int → Int → Int → ByteArray → Int → Int → Bool → Bool → Int → Int → Int → Int → Int → Int → LMv → (List TPiece) → LInt → (List TEnd) → LInt → LInt → LInt → (List TUndo) → Option (Int × TBoard))
  | 0 => fun _ _ _ _ _ _ _ _ _ _ _ _ _ _ _ _ _ _ _ _ _ _ => none
  | n + 1 => fun best t21_ t22_ b_2 b_3 b_4 b_5 b_6 b_7 b_8 b_9 b_10 b_11 b_12 m8_ m9_ m10_ m11_ m12_ m13_ m14_ m15_ => minimax_Value'.s0 N self b_ depth (minimax_Value'.L N self b_ depth n) best t21_ t22_ b_2 b_3 b_4 b_5 b_6 b_7 b_8 b_9 b_10 b_11 b_12 m8_ m9_ m10_ m11_ m12_ m13_ m14_ m15_
def minimax_Value'.l0 (N : Nat) (self : TBoard → Int → Option (Int × TBoard)) (b_ : TBoard) (depth : Int) (n : Nat) : Int → Int → Int → ByteArray → Int → Int → Bool → Bool → Int → Int → Int → Int → Int → Int → LMv → (List TPiece) → LInt → (List TEnd) → LInt → LInt → LInt → (List TUndo) → Option (Int × TBoard) := (minimax_Value'.L N self b_ depth n)
theorem minimax_Value'.l0_s (N : Nat) (self : TBoard → Int → Option (Int × TBoard)) (b_ : TBoard) (depth : Int) (n : Nat) (best : Int) (t21_ : Int) (t22_ : Int) (b_2 : ByteArray) (b_3 : Int) (b_4 : Int) (b_5 : Bool) (b_6 : Bool) (b_7 : Int) (b_8 : Int) (b_9 : Int) (b_10 : Int) (b_11 : Int) (b_12 : Int) (m8_ : LMv) (m9_ : (List TPiece)) (m10_ : LInt) (m11_ : (List TEnd)) (m12_ : LInt) (m13_ : LInt) (m14_ : LInt) (m15_ : (List TUndo)) : minimax_Value'.l0 N self b_ depth (n + 1) best t21_ t22_ b_2 b_3 b_4 b_5 b_6 b_7 b_8 b_9 b_10 b_11 b_12 m8_ m9_ m10_ m11_ m12_ m13_ m14_ m15_ = minimax_Value'.s0 N self b_ depth (minimax_Value'.l0 N self b_ depth n) best t21_ t22_ b_2 b_3 b_4 b_5 b_6 b_7 b_8 b_9 b_10 b_11 b_12 m8_ m9_ m10_ m11_ m12_ m13_ m14_ m15_ := rfl
def minimax_Value' : Nat → TBoard → Int → Option (Int × TBoard)
  | 0 => fun _ _ => none
  | N + 1 => fun b_ depth => minimax_Value'.e N (minimax_Value' N) (minimax_Value'.l0 N (minimax_Value' N) b_ depth N) b_ depth
theorem minimax_Value'_s (N : Nat) (b_ : TBoard) (depth : Int) : minimax_Value' (N + 1) b_ depth = minimax_Value'.e N (minimax_Value' N) (minimax_Value'.l0 N (minimax_Value' N) b_ depth N) b_ depth := rfl
/-! ### f10: gamehall/minimax.Score -/
def minimax_Score.e (N : Nat) (r_ : TRules) (p_ : TPos) (depth : Int) : Option (Int × Int) :=
  (minimax_Check N r_ p_ depth).bind fun y1 =>
  bif (!(eqI y1 0)) then (some (0, y1))
  else (board_New N r_ p_).bind fun y2 =>
  oCase y2.1 none fun b3 =>
  (minimax_Value' N b3 depth).bind fun y4 =>
  some (y4.1, 0)
def minimax_Score (N : Nat) (r_ : TRules) (p_ : TPos) (depth : Int) : Option (Int × Int) := minimax_Score.e N r_ p_ depth
/-! ### f39: gamehall/minimax.best -/
def minimax_best'.e (N : Nat) (r0 : Int → Int → Int → ByteArray → Int → Int → Bool → Bool → Int → Int → Int → Int → Int → Int → Int → Int → Int → LMv → (List TPiece) → LInt → (List TEnd) → LInt → LInt → LInt → (List TUndo) → Option (TMv × Int × TBoard)) (b_ : TBoard) (depth : Int) : Option (TMv × Int × TBoard) :=
  (board_Board_Moves N b_).bind fun y1 =>
  r0 (-1001) (y1.length : Int) 0 b_.1.1 b_.1.2.1 b_.1.2.2.1 b_.1.2.2.2.2.2.1 b_.1.2.2.2.2.2.2.1 b_.1.2.2.2.2.2.2.2.2.1 b_.1.2.2.2.2.2.2.2.2.2.1 b_.1.2.2.2.2.2.2.2.2.2.2 b_.2.1.2.2.1 b_.2.1.2.2.2 b_.2.2.1 0 0 0 y1 b_.1.2.2.2.1 b_.1.2.2.2.2.1 b_.1.2.2.2.2.2.2.2.1 b_.2.1.1 b_.2.1.2.1.1 b_.2.1.2.1.2 b_.2.2.2
def minimax_best'.s0 (N : Nat) (b_ : TBoard) (depth : Int) (r0 : Int → Int → Int → ByteArray → Int → Int → Bool → Bool → Int → Int → Int → Int → Int → Int → Int → Int → Int → LMv → (List TPiece) → LInt → (List TEnd) → LInt → LInt → LInt → (List TUndo) → Option (TMv × Int × TBoard)) (most : Int) (t13_ : Int) (t14_ : Int) (b_2 : ByteArray) (b_3 : Int) (b_4 : Int) (b_5 : Bool) (b_6 : Bool) (b_7 : Int) (b_8 : Int) (b_9 : Int) (b_10 : Int) (b_11 : Int) (b_12 : Int) (out : Int) (out2 : Int) (out3 : Int) (m10_ : LMv) (m11_ : (List TPiece)) (m12_ : LInt) (m13_ : (List TEnd)) (m14_ : LInt) (m15_ : LInt) (m16_ : LInt) (m17_ : (List TUndo)) : Option (TMv × Int × TBoard) :=
  bif (ltI t14_ t13_) then (chk ((leI 0 t14_) && (ltI t14_ (m10_.length : Int))) <|
    (board_Board_Make' N ((b_2, (b_3, (b_4, (m11_, (m12_, (b_5, (b_6, (m13_, (b_7, (b_8, b_9)))))))))), ((m14_, ((m15_, m16_), (b_10, b_11))), (b_12, m17_))) (gD ((0 : Int), ((0 : Int), (0 : Int))) m10_ t14_)).bind fun y2 =>
    (minimax_Value' N y2 (w64 (depth - 1))).bind fun y3 =>
    (minimax_Nearer N (w64 (0 - y3.1))).bind fun y4 =>
    (board_Board_Undo' N y3.2).bind fun y5 =>
    bif (ltI most y4) then (r0 y4 t13_ (w64 (t14_ + 1)) y5.2.1.1 y5.2.1.2.1 y5.2.1.2.2.1 y5.2.1.2.2.2.2.2.1 y5.2.1.2.2.2.2.2.2.1 y5.2.1.2.2.2.2.2.2.2.2.1 y5.2.1.2.2.2.2.2.2.2.2.2.1 y5.2.1.2.2.2.2.2.2.2.2.2.2 y5.2.2.1.2.2.1 y5.2.2.1.2.2.2 y5.2.2.2.1 (gD ((0 : Int), ((0 : Int), (0 : Int))) m10_ t14_).1 (gD ((0 : Int), ((0 : Int), (0 : Int))) m10_ t14_).2.1 (gD ((0 : Int), ((0 : Int), (0 : Int))) m10_ t14_).2.2 m10_ y5.2.1.2.2.2.1 y5.2.1.2.2.2.2.1 y5.2.1.2.2.2.2.2.2.2.1 y5.2.2.1.1 y5.2.2.1.2.1.1 y5.2.2.1.2.1.2 y5.2.2.2.2)
    else r0 most t13_ (w64 (t14_ + 1)) y5.2.1.1 y5.2.1.2.1 y5.2.1.2.2.1 y5.2.1.2.2.2.2.2.1 y5.2.1.2.2.2.2.2.2.1 y5.2.1.2.2.2.2.2.2.2.2.1 y5.2.1.2.2.2.2.2.2.2.2.2.1 y5.2.1.2.2.2.2.2.2.2.2.2.2 y5.2.2.1.2.2.1 y5.2.2.1.2.2.2 y5.2.2.2.1 out out2 out3 m10_ y5.2.1.2.2.2.1 y5.2.1.2.2.2.2.1 y5.2.1.2.2.2.2.2.2.2.1 y5.2.2.1.1 y5.2.2.1.2.1.1 y5.2.2.1.2.1.2 y5.2.2.2.2)
  else some ((out, (out2, out3)), (most, ((b_2, (b_3, (b_4, (m11_, (m12_, (b_5, (b_6, (m13_, (b_7, (b_8, b_9)))))))))), ((m14_, ((m15_, m16_), (b_10, b_11))), (b_12, m17_)))))
def minimax_best'.L (N : Nat) (b_ : TBoard) (depth : Int) : Nat → (Int → Int → Int → ByteArray → Int → Int → Bool → Bool → Int → Int → Int → Int → Int → Int → Int → Int → Int → LMv → (List TPiece) → LInt → (List TEnd) → LInt → LInt → LInt → (List TUndo) → Option (TMv × Int × TBoard))
  | 0 => fun _ _ _ _ _ _ _ _ _ _ _ _ _ _ _ _ _ _ _ _ _ _ _ _ _ => none
  | n + 1 => fun most t13_ t14_ b_2 b_3 b_4 b_5 b_6 b_7 b_8 b_9 b_10 b_11 b_12 out out2 out3 m10_ m11_ m12_ m13_ m14_ m15_ m16_ m17_ => minimax_best'.s0 N b_ depth (minimax_best'.L N b_ depth n) most t13_ t14_ b_2 b_3 b_4 b_5 b_6 b_7 b_8 b_9 b_10 b_11 b_12 out out2 out3 m10_ m11_ m12_ m13_ m14_ m15_ m16_ m17_
def minimax_best'.l0 (N : Nat) (b_ : TBoard) (depth : Int) (n : Nat) : Int → Int → Int → ByteArray → Int → Int → Bool → Bool → Int → Int → Int → Int → Int → Int → Int → Int → Int → LMv → (List TPiece) → LInt → (List TEnd) → LInt → LInt → LInt → (List TUndo) → Option (TMv × Int × TBoard) := (minimax_best'.L N b_ depth n)
theorem minimax_best'.l0_s (N : Nat) (b_ : TBoard) (depth : Int) (n : Nat) (most : Int) (t13_ : Int) (t14_ : Int) (b_2 : ByteArray) (b_3 : Int) (b_4 : Int) (b_5 : Bool) (b_6 : Bool) (b_7 : Int) (b_8 : Int) (b_9 : Int) (b_10 : Int) (b_11 : Int) (b_12 : Int) (out : Int) (out2 : Int) (out3 : Int) (m10_ : LMv) (m11_ : (List TPiece)) (m12_ : LInt) (m13_ : (List TEnd)) (m14_ : LInt) (m15_ : LInt) (m16_ : LInt) (m17_ : (List TUndo)) : minimax_best'.l0 N b_ depth (n + 1) most t13_ t14_ b_2 b_3 b_4 b_5 b_6 b_7 b_8 b_9 b_10 b_11 b_12 out out2 out3 m10_ m11_ m12_ m13_ m14_ m15_ m16_ m17_ = minimax_best'.s0 N b_ depth (minimax_best'.l0 N b_ depth n) most t13_ t14_ b_2 b_3 b_4 b_5 b_6 b_7 b_8 b_9 b_10 b_11 b_12 out out2 out3 m10_ m11_ m12_ m13_ m14_ m15_ m16_ m17_ := rfl
def minimax_best' (N : Nat) (b_ : TBoard) (depth : Int) : Option (TMv × Int × TBoard) := minimax_best'.e N (minimax_best'.l0 N b_ depth N) b_ depth
/-! ### f20: gamehall/minimax.Best -/
def minimax_Best.e (N : Nat) (r_ : TRules) (p_ : TPos) (depth : Int) : Option (TMv × Int × Int) :=
  (minimax_Check N r_ p_ depth).bind fun y1 =>
  bif (!(eqI y1 0)) then (some ((0, (0, 0)), (0, y1)))
  else (board_New N r_ p_).bind fun y2 =>
  oCase y2.1 (bif (eqI depth 0) then (some ((0, (0, 0)), (0, 1)))
    else none) fun b3 =>
  bif (eqI depth 0) then (some ((0, (0, 0)), (0, 1)))
  else (board_Board_Result N b3).bind fun y4 =>
  bif (!(eqI y4 0)) then (some ((0, (0, 0)), (0, 14)))
  else (minimax_best' N b3 depth).bind fun y5 =>
  some (y5.1, (y5.2.1, 0))
def minimax_Best (N : Nat) (r_ : TRules) (p_ : TPos) (depth : Int) : Option (TMv × Int × Int) := minimax_Best.e N r_ p_ depth
/-! ### f41: gamehall/gamehallkeep1.fine$1 -/
def gamehallkeep1_fine_1.e (N : Nat) (e_ : Int) : Option Bool :=
  some (!(eqI e_ 0))
def gamehallkeep1_fine_1 (N : Nat) (e_ : Int) : Option Bool := gamehallkeep1_fine_1.e N e_
/-! ### f69: slices.IndexFunc[[]gamehall/api.Errno,gamehall/api.Errno] -/
def slices_IndexFunc_api_Errno_api_Errno.e (N : Nat) (r0 : Int → Option Int) (s_ : LInt) : Option Int :=
  r0 0
def slices_IndexFunc_api_Errno_api_Errno.s0 (N : Nat) (s_ : LInt) (r0 : Int → Option Int) (t8_ : Int) : Option Int :=
  bif (ltI t8_ (s_.length : Int)) then (chk ((leI 0 t8_) && (ltI t8_ (s_.length : Int))) <|
    (gamehallkeep1_fine_1 N (gD (0 : Int) s_ t8_)).bind fun y2 =>
    bif y2 then some t8_
    else r0 (w64 (t8_ + 1)))
  else some (-1)
def slices_IndexFunc_api_Errno_api_Errno.L (N : Nat) (s_ : LInt) : Nat → (Int → Option Int)
  | 0 => fun _ => none
  | n + 1 => fun t8_ => slices_IndexFunc_api_Errno_api_Errno.s0 N s_ (slices_IndexFunc_api_Errno_api_Errno.L N s_ n) t8_
def slices_IndexFunc_api_Errno_api_Errno.l0 (N : Nat) (s_ : LInt) (n : Nat) : Int → Option Int := (slices_IndexFunc_api_Errno_api_Errno.L N s_ n)
theorem slices_IndexFunc_api_Errno_api_Errno.l0_s (N : Nat) (s_ : LInt) (n : Nat) (t8_ : Int) : slices_IndexFunc_api_Errno_api_Errno.l0 N s_ (n + 1) t8_ = slices_IndexFunc_api_Errno_api_Errno.s0 N s_ (slices_IndexFunc_api_Errno_api_Errno.l0 N s_ n) t8_ := rfl
def slices_IndexFunc_api_Errno_api_Errno (N : Nat) (s_ : LInt) : Option Int := slices_IndexFunc_api_Errno_api_Errno.e N (slices_IndexFunc_api_Errno_api_Errno.l0 N s_ N) s_
/-! ### f40: slices.ContainsFunc[[]gamehall/api.Errno,gamehall/api.Errno] -/
def slices_ContainsFunc_api_Errno_api_Errno.e (N : Nat) (s_ : LInt) : Option Bool :=
  (slices_IndexFunc_api_Errno_api_Errno N s_).bind fun y1 =>
  some (leI 0 y1)
def slices_ContainsFunc_api_Errno_api_Errno (N : Nat) (s_ : LInt) : Option Bool := slices_ContainsFunc_api_Errno_api_Errno.e N s_
/-! ### f21: gamehall/gamehallkeep1.fine -/
def gamehallkeep1_fine.e (N : Nat) (l_ : LInt) : Option Bool :=
  (slices_ContainsFunc_api_Errno_api_Errno N l_).bind fun y1 =>
  some (!y1)
def gamehallkeep1_fine (N : Nat) (l_ : LInt) : Option Bool := gamehallkeep1_fine.e N l_
/-! ### f22: gamehall/gamehallkeep1.put -/
def gamehallkeep1_put.e (N : Nat) (s_ : Int) : Option TMv :=
  some ((-1), (s_, 0))
def gamehallkeep1_put (N : Nat) (s_ : Int) : Option TMv := gamehallkeep1_put.e N s_
/-! ### f5: gamehall/gamehallkeep1.scored -/
def gamehallkeep1_scored.e (N : Nat) : Option Bool :=
  (gamehallkeep1_three N).bind fun y1 =>
  (gamehallkeep1_near N).bind fun y2 =>
  (minimax_Score N y1 y2 1).bind fun y3 =>
  (gamehallkeep1_three N).bind fun y4 =>
  (gamehallkeep1_near N).bind fun y5 =>
  (minimax_Best N y4 y5 2).bind fun y6 =>
  (gamehallkeep1_fine N [y3.2, y6.2.2]).bind fun y7 =>
  bif y7 then (bif (eqI y3.1 999) then ((gamehallkeep1_put N 2).bind fun y8 =>
      bif ((eqI y6.1.1 y8.1) && ((eqI y6.1.2.1 y8.2.1) && ((eqI y6.1.2.2 y8.2.2) && true))) then (some (eqI y6.2.1 999))
      else some false)
    else some false)
  else some false
def gamehallkeep1_scored (N : Nat) : Option Bool := gamehallkeep1_scored.e N
/-! ### f42: gamehall/place.Fresh -/
def place_Fresh.e (N : Nat) (r0 : Int → LInt → LInt → LInt → Option TPos) (r1 : Int → Int → Int → Int → LInt → LInt → LInt → Option TPos) (r_ : TRules) : Option TPos :=
  (slices_Clone_int_int N r_.2.2.2.2.1).bind fun y1 =>
  r0 0 y1 [] []
def place_Fresh.s0 (N : Nat) (r_ : TRules) (r0 : Int → LInt → LInt → LInt → Option TPos) (r1 : Int → Int → Int → Int → LInt → LInt → LInt → Option TPos) (t11_ : Int) (m2_ : LInt) (m4_ : LInt) (m5_ : LInt) : Option TPos :=
  bif (ltI t11_ 2) then (r1 t11_ t11_ (r_.2.2.2.1.length : Int) 0 m2_ m4_ m5_)
  else some (m2_, ((m4_, m5_), (0, 0)))
def place_Fresh.s1 (N : Nat) (r_ : TRules) (r0 : Int → LInt → LInt → LInt → Option TPos) (r1 : Int → Int → Int → Int → LInt → LInt → LInt → Option TPos) (o_ : Int) (t11_ : Int) (t16_ : Int) (t17_ : Int) (m2_ : LInt) (m4_ : LInt) (m5_ : LInt) : Option TPos :=
  bif (ltI t17_ t16_) then (chk ((leI 0 t17_) && (ltI t17_ (r_.2.2.2.1.length : Int))) <|
    bif (eqI o_ 0) then (let v3 : List Int := [(gD ((0 : Int), ((0 : Int), ((0 : Int), ([] : (List TWay))))) r_.2.2.2.1 t17_).2.1]
      chk (capOk 8 (m4_.length + v3.length)) <|
      r1 0 t11_ t16_ (w64 (t17_ + 1)) m2_ (m4_ ++ v3) m5_)
    else bif (eqI o_ 1) then (let v4 : List Int := [(gD ((0 : Int), ((0 : Int), ((0 : Int), ([] : (List TWay))))) r_.2.2.2.1 t17_).2.1]
      chk (capOk 8 (m5_.length + v4.length)) <|
      r1 1 t11_ t16_ (w64 (t17_ + 1)) m2_ m4_ (m5_ ++ v4))
    else none)
  else r0 (w64 (t11_ + 1)) m2_ m4_ m5_
def place_Fresh.L (N : Nat) (r_ : TRules) : Nat → (Int → LInt → LInt → LInt → Option TPos) × (Int → Int → Int → Int → LInt → LInt → LInt → Option TPos)
  | 0 => (fun _ _ _ _ => none, fun _ _ _ _ _ _ _ => none)
  | n + 1 => (fun t11_ m2_ m4_ m5_ => place_Fresh.s0 N r_ (place_Fresh.L N r_ n).1 (place_Fresh.L N r_ n).2 t11_ m2_ m4_ m5_, fun o_ t11_ t16_ t17_ m2_ m4_ m5_ => place_Fresh.s1 N r_ (place_Fresh.L N r_ n).1 (place_Fresh.L N r_ n).2 o_ t11_ t16_ t17_ m2_ m4_ m5_)
def place_Fresh.l0 (N : Nat) (r_ : TRules) (n : Nat) : Int → LInt → LInt → LInt → Option TPos := (place_Fresh.L N r_ n).1
def place_Fresh.l1 (N : Nat) (r_ : TRules) (n : Nat) : Int → Int → Int → Int → LInt → LInt → LInt → Option TPos := (place_Fresh.L N r_ n).2
theorem place_Fresh.l0_s (N : Nat) (r_ : TRules) (n : Nat) (t11_ : Int) (m2_ : LInt) (m4_ : LInt) (m5_ : LInt) : place_Fresh.l0 N r_ (n + 1) t11_ m2_ m4_ m5_ = place_Fresh.s0 N r_ (place_Fresh.l0 N r_ n) (place_Fresh.l1 N r_ n) t11_ m2_ m4_ m5_ := rfl
theorem place_Fresh.l1_s (N : Nat) (r_ : TRules) (n : Nat) (o_ : Int) (t11_ : Int) (t16_ : Int) (t17_ : Int) (m2_ : LInt) (m4_ : LInt) (m5_ : LInt) : place_Fresh.l1 N r_ (n + 1) o_ t11_ t16_ t17_ m2_ m4_ m5_ = place_Fresh.s1 N r_ (place_Fresh.l0 N r_ n) (place_Fresh.l1 N r_ n) o_ t11_ t16_ t17_ m2_ m4_ m5_ := rfl
def place_Fresh (N : Nat) (r_ : TRules) : Option TPos := place_Fresh.e N (place_Fresh.l0 N r_ N) (place_Fresh.l1 N r_ N) r_
/-! ### f23: gamehall/place.Begin -/
def place_Begin.e (N : Nat) (r_ : TRules) : Option (TPos × Int) :=
  (rules_Check N r_).bind fun y1 =>
  bif (!(eqI y1 0)) then (some (([], (([], []), (0, 0))), y1))
  else (place_Fresh N r_).bind fun y2 =>
  some (y2, 0)
def place_Begin (N : Nat) (r_ : TRules) : Option (TPos × Int) := place_Begin.e N r_
/-! ### f12: gamehall/moves.All -/
def moves_All.e (N : Nat) (r_ : TRules) (p_ : TPos) : Option (LMv × Int) :=
  (place_Check N r_ p_).bind fun y1 =>
  bif (!(eqI y1 0)) then (some ([], y1))
  else (moves_Gen N r_ p_).bind fun y2 =>
  some (y2, 0)
def moves_All (N : Nat) (r_ : TRules) (p_ : TPos) : Option (LMv × Int) := moves_All.e N r_ p_
/-! ### f71: slices.Index[[]gamehall/api.Move,gamehall/api.Move] -/
def slices_Index_api_Move_api_Move.e (N : Nat) (r0 : Int → Option Int) (s_ : LMv) (v_ : TMv) : Option Int :=
  r0 0
def slices_Index_api_Move_api_Move.s0 (N : Nat) (s_ : LMv) (v_ : TMv) (r0 : Int → Option Int) (t8_ : Int) : Option Int :=
  bif (ltI t8_ (s_.length : Int)) then (chk ((leI 0 t8_) && (ltI t8_ (s_.length : Int))) <|
    bif ((eqI v_.1 (gD ((0 : Int), ((0 : Int), (0 : Int))) s_ t8_).1) && ((eqI v_.2.1 (gD ((0 : Int), ((0 : Int), (0 : Int))) s_ t8_).2.1) && ((eqI v_.2.2 (gD ((0 : Int), ((0 : Int), (0 : Int))) s_ t8_).2.2) && true))) then some t8_
    else r0 (w64 (t8_ + 1)))
  else some (-1)
def slices_Index_api_Move_api_Move.L (N : Nat) (s_ : LMv) (v_ : TMv) : Nat → (Int → Option Int)
  | 0 => fun _ => none
  | n + 1 => fun t8_ => slices_Index_api_Move_api_Move.s0 N s_ v_ (slices_Index_api_Move_api_Move.L N s_ v_ n) t8_
def slices_Index_api_Move_api_Move.l0 (N : Nat) (s_ : LMv) (v_ : TMv) (n : Nat) : Int → Option Int := (slices_Index_api_Move_api_Move.L N s_ v_ n)
theorem slices_Index_api_Move_api_Move.l0_s (N : Nat) (s_ : LMv) (v_ : TMv) (n : Nat) (t8_ : Int) : slices_Index_api_Move_api_Move.l0 N s_ v_ (n + 1) t8_ = slices_Index_api_Move_api_Move.s0 N s_ v_ (slices_Index_api_Move_api_Move.l0 N s_ v_ n) t8_ := rfl
def slices_Index_api_Move_api_Move (N : Nat) (s_ : LMv) (v_ : TMv) : Option Int := slices_Index_api_Move_api_Move.e N (slices_Index_api_Move_api_Move.l0 N s_ v_ N) s_ v_
/-! ### f43: slices.Contains[[]gamehall/api.Move,gamehall/api.Move] -/
def slices_Contains_api_Move_api_Move.e (N : Nat) (s_ : LMv) (v_ : TMv) : Option Bool :=
  (slices_Index_api_Move_api_Move N s_ v_).bind fun y1 =>
  some (leI 0 y1)
def slices_Contains_api_Move_api_Move (N : Nat) (s_ : LMv) (v_ : TMv) : Option Bool := slices_Contains_api_Move_api_Move.e N s_ v_
/-! ### f24: gamehall/moves.Legal -/
def moves_Legal.e (N : Nat) (r_ : TRules) (p_ : TPos) (m_ : TMv) : Option (Bool × Int) :=
  (place_Check N r_ p_).bind fun y1 =>
  bif (!(eqI y1 0)) then (some (false, y1))
  else (moves_Gen N r_ p_).bind fun y2 =>
  (slices_Contains_api_Move_api_Move N y2 m_).bind fun y3 =>
  some (y3, 0)
def moves_Legal (N : Nat) (r_ : TRules) (p_ : TPos) (m_ : TMv) : Option (Bool × Int) := moves_Legal.e N r_ p_ m_
/-! ### f34: gamehall/moves.Do -/
def moves_Do.e (N : Nat) (r_ : TRules) (p_ : TPos) (m_ : TMv) : Option TPos :=
  (place_Copy N p_).bind fun y1 =>
  bif (ltI m_.1 0) then (bif (eqI p_.2.2.1 0) then (chk ((leI 0 m_.2.2) && (ltI m_.2.2 (y1.2.1.1.length : Int))) <|
      chk ((leI 0 m_.2.2) && (ltI m_.2.2 (y1.2.1.1.length : Int))) <|
      let v4 : List Int := (y1.2.1.1.set m_.2.2.toNat (w64 ((gD (0 : Int) y1.2.1.1 m_.2.2) - 1)))
      chk ((leI 0 m_.2.1) && (ltI m_.2.1 (p_.1.length : Int))) <|
      bif (!(eqI (gD (0 : Int) p_.1 m_.2.1) 0)) then (bif (eqI p_.2.2.1 0) then (bif r_.2.2.2.2.2.2.1 then ((moves_Kind N (gD (0 : Int) p_.1 m_.2.1)).bind fun y6 =>
            (moves_Kind N (gD (0 : Int) p_.1 m_.2.1)).bind fun y7 =>
            chk ((leI 0 y7) && (ltI y7 (v4.length : Int))) <|
            let v8 : Int := (w64 ((gD (0 : Int) v4 y7) + 1))
            chk ((leI 0 y6) && (ltI y6 (v4.length : Int))) <|
            (moves_Cell N m_.2.2 p_.2.2.1).bind fun y10 =>
            chk ((leI 0 m_.2.1) && (ltI m_.2.1 (y1.1.length : Int))) <|
            some ((y1.1.set m_.2.1.toNat y10), (((v4.set y6.toNat (bif (ltI 1000 v8) then 1000 else v8)), y1.2.1.2), ((w64 (1 - p_.2.2.1)), 0))))
          else (moves_Cell N m_.2.2 p_.2.2.1).bind fun y12 =>
          chk ((leI 0 m_.2.1) && (ltI m_.2.1 (y1.1.length : Int))) <|
          some ((y1.1.set m_.2.1.toNat y12), ((v4, y1.2.1.2), ((w64 (1 - p_.2.2.1)), 0))))
        else bif (eqI p_.2.2.1 1) then (bif r_.2.2.2.2.2.2.1 then ((moves_Kind N (gD (0 : Int) p_.1 m_.2.1)).bind fun y14 =>
            (moves_Kind N (gD (0 : Int) p_.1 m_.2.1)).bind fun y15 =>
            chk ((leI 0 y15) && (ltI y15 (y1.2.1.2.length : Int))) <|
            let v16 : Int := (w64 ((gD (0 : Int) y1.2.1.2 y15) + 1))
            chk ((leI 0 y14) && (ltI y14 (y1.2.1.2.length : Int))) <|
            (moves_Cell N m_.2.2 p_.2.2.1).bind fun y19 =>
            chk ((leI 0 m_.2.1) && (ltI m_.2.1 (y1.1.length : Int))) <|
            some ((y1.1.set m_.2.1.toNat y19), ((v4, (y1.2.1.2.set y14.toNat (bif (ltI 1000 v16) then 1000 else v16))), ((w64 (1 - p_.2.2.1)), 0))))
          else (moves_Cell N m_.2.2 p_.2.2.1).bind fun y21 =>
          chk ((leI 0 m_.2.1) && (ltI m_.2.1 (y1.1.length : Int))) <|
          some ((y1.1.set m_.2.1.toNat y21), ((v4, y1.2.1.2), ((w64 (1 - p_.2.2.1)), 0))))
        else none)
      else (moves_Cell N m_.2.2 p_.2.2.1).bind fun y23 =>
      chk ((leI 0 m_.2.1) && (ltI m_.2.1 (y1.1.length : Int))) <|
      some ((y1.1.set m_.2.1.toNat y23), ((v4, y1.2.1.2), ((w64 (1 - p_.2.2.1)), 0))))
    else bif (eqI p_.2.2.1 1) then (chk ((leI 0 m_.2.2) && (ltI m_.2.2 (y1.2.1.2.length : Int))) <|
      chk ((leI 0 m_.2.2) && (ltI m_.2.2 (y1.2.1.2.length : Int))) <|
      let v26 : List Int := (y1.2.1.2.set m_.2.2.toNat (w64 ((gD (0 : Int) y1.2.1.2 m_.2.2) - 1)))
      chk ((leI 0 m_.2.1) && (ltI m_.2.1 (p_.1.length : Int))) <|
      bif (!(eqI (gD (0 : Int) p_.1 m_.2.1) 0)) then (bif (eqI p_.2.2.1 0) then (bif r_.2.2.2.2.2.2.1 then ((moves_Kind N (gD (0 : Int) p_.1 m_.2.1)).bind fun y28 =>
            (moves_Kind N (gD (0 : Int) p_.1 m_.2.1)).bind fun y29 =>
            chk ((leI 0 y29) && (ltI y29 (y1.2.1.1.length : Int))) <|
            let v30 : Int := (w64 ((gD (0 : Int) y1.2.1.1 y29) + 1))
            chk ((leI 0 y28) && (ltI y28 (y1.2.1.1.length : Int))) <|
            (moves_Cell N m_.2.2 p_.2.2.1).bind fun y33 =>
            chk ((leI 0 m_.2.1) && (ltI m_.2.1 (y1.1.length : Int))) <|
            some ((y1.1.set m_.2.1.toNat y33), (((y1.2.1.1.set y28.toNat (bif (ltI 1000 v30) then 1000 else v30)), v26), ((w64 (1 - p_.2.2.1)), 0))))
          else (moves_Cell N m_.2.2 p_.2.2.1).bind fun y35 =>
          chk ((leI 0 m_.2.1) && (ltI m_.2.1 (y1.1.length : Int))) <|
          some ((y1.1.set m_.2.1.toNat y35), ((y1.2.1.1, v26), ((w64 (1 - p_.2.2.1)), 0))))
        else bif (eqI p_.2.2.1 1) then (bif r_.2.2.2.2.2.2.1 then ((moves_Kind N (gD (0 : Int) p_.1 m_.2.1)).bind fun y37 =>
            (moves_Kind N (gD (0 : Int) p_.1 m_.2.1)).bind fun y38 =>
            chk ((leI 0 y38) && (ltI y38 (v26.length : Int))) <|
            let v39 : Int := (w64 ((gD (0 : Int) v26 y38) + 1))
            chk ((leI 0 y37) && (ltI y37 (v26.length : Int))) <|
            (moves_Cell N m_.2.2 p_.2.2.1).bind fun y41 =>
            chk ((leI 0 m_.2.1) && (ltI m_.2.1 (y1.1.length : Int))) <|
            some ((y1.1.set m_.2.1.toNat y41), ((y1.2.1.1, (v26.set y37.toNat (bif (ltI 1000 v39) then 1000 else v39))), ((w64 (1 - p_.2.2.1)), 0))))
          else (moves_Cell N m_.2.2 p_.2.2.1).bind fun y43 =>
          chk ((leI 0 m_.2.1) && (ltI m_.2.1 (y1.1.length : Int))) <|
          some ((y1.1.set m_.2.1.toNat y43), ((y1.2.1.1, v26), ((w64 (1 - p_.2.2.1)), 0))))
        else none)
      else (moves_Cell N m_.2.2 p_.2.2.1).bind fun y45 =>
      chk ((leI 0 m_.2.1) && (ltI m_.2.1 (y1.1.length : Int))) <|
      some ((y1.1.set m_.2.1.toNat y45), ((y1.2.1.1, v26), ((w64 (1 - p_.2.2.1)), 0))))
    else none)
  else chk ((leI 0 m_.1) && (ltI m_.1 (y1.1.length : Int))) <|
  chk ((leI 0 m_.2.1) && (ltI m_.2.1 (p_.1.length : Int))) <|
  bif (!(eqI (gD (0 : Int) p_.1 m_.2.1) 0)) then (bif (eqI p_.2.2.1 0) then (bif r_.2.2.2.2.2.2.1 then ((moves_Kind N (gD (0 : Int) p_.1 m_.2.1)).bind fun y48 =>
        (moves_Kind N (gD (0 : Int) p_.1 m_.2.1)).bind fun y49 =>
        chk ((leI 0 y49) && (ltI y49 (y1.2.1.1.length : Int))) <|
        let v50 : Int := (w64 ((gD (0 : Int) y1.2.1.1 y49) + 1))
        chk ((leI 0 y48) && (ltI y48 (y1.2.1.1.length : Int))) <|
        (moves_Cell N m_.2.2 p_.2.2.1).bind fun y53 =>
        chk ((leI 0 m_.2.1) && (ltI m_.2.1 ((y1.1.set m_.1.toNat 0).length : Int))) <|
        some (((y1.1.set m_.1.toNat 0).set m_.2.1.toNat y53), (((y1.2.1.1.set y48.toNat (bif (ltI 1000 v50) then 1000 else v50)), y1.2.1.2), ((w64 (1 - p_.2.2.1)), 0))))
      else (moves_Cell N m_.2.2 p_.2.2.1).bind fun y55 =>
      chk ((leI 0 m_.2.1) && (ltI m_.2.1 ((y1.1.set m_.1.toNat 0).length : Int))) <|
      some (((y1.1.set m_.1.toNat 0).set m_.2.1.toNat y55), (y1.2.1, ((w64 (1 - p_.2.2.1)), 0))))
    else bif (eqI p_.2.2.1 1) then (bif r_.2.2.2.2.2.2.1 then ((moves_Kind N (gD (0 : Int) p_.1 m_.2.1)).bind fun y57 =>
        (moves_Kind N (gD (0 : Int) p_.1 m_.2.1)).bind fun y58 =>
        chk ((leI 0 y58) && (ltI y58 (y1.2.1.2.length : Int))) <|
        let v59 : Int := (w64 ((gD (0 : Int) y1.2.1.2 y58) + 1))
        chk ((leI 0 y57) && (ltI y57 (y1.2.1.2.length : Int))) <|
        (moves_Cell N m_.2.2 p_.2.2.1).bind fun y62 =>
        chk ((leI 0 m_.2.1) && (ltI m_.2.1 ((y1.1.set m_.1.toNat 0).length : Int))) <|
        some (((y1.1.set m_.1.toNat 0).set m_.2.1.toNat y62), ((y1.2.1.1, (y1.2.1.2.set y57.toNat (bif (ltI 1000 v59) then 1000 else v59))), ((w64 (1 - p_.2.2.1)), 0))))
      else (moves_Cell N m_.2.2 p_.2.2.1).bind fun y64 =>
      chk ((leI 0 m_.2.1) && (ltI m_.2.1 ((y1.1.set m_.1.toNat 0).length : Int))) <|
      some (((y1.1.set m_.1.toNat 0).set m_.2.1.toNat y64), (y1.2.1, ((w64 (1 - p_.2.2.1)), 0))))
    else none)
  else (moves_Cell N m_.2.2 p_.2.2.1).bind fun y66 =>
  chk ((leI 0 m_.2.1) && (ltI m_.2.1 ((y1.1.set m_.1.toNat 0).length : Int))) <|
  some (((y1.1.set m_.1.toNat 0).set m_.2.1.toNat y66), (y1.2.1, ((w64 (1 - p_.2.2.1)), (bif (ltI 200 (w64 (p_.2.2.2 + 1))) then 200 else (w64 (p_.2.2.2 + 1))))))
def moves_Do (N : Nat) (r_ : TRules) (p_ : TPos) (m_ : TMv) : Option TPos := moves_Do.e N r_ p_ m_
/-! ### f13: gamehall/moves.After -/
def moves_After.e (N : Nat) (r_ : TRules) (p_ : TPos) (m_ : TMv) : Option (TPos × Int) :=
  (moves_Legal N r_ p_ m_).bind fun y1 =>
  bif (!(eqI y1.2 0)) then (some (([], (([], []), (0, 0))), y1.2))
  else bif (!y1.1) then (some (([], (([], []), (0, 0))), 13))
  else (moves_Do N r_ p_ m_).bind fun y2 =>
  some (y2, 0)
def moves_After (N : Nat) (r_ : TRules) (p_ : TPos) (m_ : TMv) : Option (TPos × Int) := moves_After.e N r_ p_ m_
/-! ### f6: gamehall/gamehallkeep1.plays -/
def gamehallkeep1_plays.e (N : Nat) : Option Bool :=
  (gamehallkeep1_three N).bind fun y1 =>
  (place_Begin N y1).bind fun y2 =>
  (gamehallkeep1_three N).bind fun y3 =>
  (moves_All N y3 y2.1).bind fun y4 =>
  (gamehallkeep1_three N).bind fun y5 =>
  (gamehallkeep1_put N 4).bind fun y6 =>
  (moves_After N y5 y2.1 y6).bind fun y7 =>
  (gamehallkeep1_three N).bind fun y8 =>
  (gamehallkeep1_put N 9).bind fun y9 =>
  (moves_Legal N y8 y2.1 y9).bind fun y10 =>
  (gamehallkeep1_fine N [y2.2, y4.2, y7.2, y10.2]).bind fun y12 =>
  bif y12 then (bif (eqI (y4.1.length : Int) 9) then (chk (true && (ltI 8 (y4.1.length : Int))) <|
      (gamehallkeep1_put N 8).bind fun y14 =>
      bif ((eqI (gD ((0 : Int), ((0 : Int), (0 : Int))) y4.1 8).1 y14.1) && ((eqI (gD ((0 : Int), ((0 : Int), (0 : Int))) y4.1 8).2.1 y14.2.1) && ((eqI (gD ((0 : Int), ((0 : Int), (0 : Int))) y4.1 8).2.2 y14.2.2) && true))) then (bif (eqI (y7.1.1.length : Int) 9) then (chk (true && (ltI 4 (y7.1.1.length : Int))) <|
          bif (eqI (gD (0 : Int) y7.1.1 4) 1) then (some (!y10.1))
          else some false)
        else some false)
      else some false)
    else some false)
  else some false
def gamehallkeep1_plays (N : Nat) : Option Bool := gamehallkeep1_plays.e N
/-! ### f8: gamehall/gamehallkeep1.heavy -/
def gamehallkeep1_heavy.e (N : Nat) (r_ : TRules) (p_ : TPos) (depth : Int) : Option Bool :=
  (perft_Tree N r_ p_ depth).bind fun y1 =>
  bif (eqI y1.2 17) then some true
  else bif (ltI 3000 y1.1) then some true
  else some (ltI 20 (p_.1.length : Int))
def gamehallkeep1_heavy (N : Nat) (r_ : TRules) (p_ : TPos) (depth : Int) : Option Bool := gamehallkeep1_heavy.e N r_ p_ depth
/-! ### f14: gamehall/gamehallkeep1.some[gamehall/api.Move] -/
def gamehallkeep1_some_api_Move.e (N : Nat) (l_ : LMv) (n_ : Int) : Option TMv :=
  bif (eqI (l_.length : Int) 0) then none
  else bif (eqI (l_.length : Int) 0) then none
  else let v3 : Int := (Int.tmod (w64 ((Int.tmod n_ (l_.length : Int)) + (l_.length : Int))) (l_.length : Int))
  chk ((leI 0 v3) && (ltI v3 (l_.length : Int))) <|
  some (gD ((0 : Int), ((0 : Int), (0 : Int))) l_ v3)
def gamehallkeep1_some_api_Move (N : Nat) (l_ : LMv) (n_ : Int) : Option TMv := gamehallkeep1_some_api_Move.e N l_ n_
/-! ### f3: gamehall/gamehallkeep1.StoreScores -/
def gamehallkeep1_StoreScores.e (N : Nat) (r0 : Int → Int → Int → LInt → LInt → LInt → Int → Int → ByteArray → Int → Int → (List TPiece) → LInt → Bool → Bool → (List TEnd) → Int → Int → Int → Int → Int → (List (TPos × (Int × (Int × Bool)))) → Option Bool) (r_ : TRules) (p_ : TPos) (depth : Int) (size : Int) (picks : LInt) : Option Bool :=
  (gamehallkeep1_stored N).bind fun y1 =>
  bif (!y1) then some false
  else (gamehallkeep1_scored N).bind fun y2 =>
  bif (!y2) then some false
  else (gamehallkeep1_plays N).bind fun y3 =>
  bif (!y3) then some false
  else let v5 : Int := (w64 ((Int.tmod (w64 ((Int.tmod size 64) + 64)) 64) + 1))
  (store_New N r_ v5).bind fun y6 =>
  oCase y6.1 (bif (!(eqI y6.2 0)) then (some (!(eqI y6.2 0)))
    else some (!(eqI y6.2 0))) fun b7 =>
  bif (!(eqI y6.2 0)) then (some (!(eqI y6.2 0)))
  else (gamehallkeep1_heavy N r_ p_ depth).bind fun y8 =>
  bif y8 then some true
  else r0 v5 (w64 ((bif (ltI 3 (picks.length : Int)) then 3 else (picks.length : Int)) + 1)) 0 p_.1 p_.2.1.1 p_.2.1.2 p_.2.2.1 p_.2.2.2 b7.1.1 b7.1.2.1 b7.1.2.2.1 b7.1.2.2.2.1 b7.1.2.2.2.2.1 b7.1.2.2.2.2.2.1 b7.1.2.2.2.2.2.2.1 b7.1.2.2.2.2.2.2.2.1 b7.1.2.2.2.2.2.2.2.2.1 b7.1.2.2.2.2.2.2.2.2.2.1 b7.1.2.2.2.2.2.2.2.2.2.2 b7.2.2.1 b7.2.2.2 b7.2.1
def gamehallkeep1_StoreScores.s0 (N : Nat) (r_ : TRules) (p_ : TPos) (depth : Int) (size : Int) (picks : LInt) (r0 : Int → Int → Int → LInt → LInt → LInt → Int → Int → ByteArray → Int → Int → (List TPiece) → LInt → Bool → Bool → (List TEnd) → Int → Int → Int → Int → Int → (List (TPos × (Int × (Int × Bool)))) → Option Bool) (size2 : Int) (t56_ : Int) (t57_ : Int) (p_2 : LInt) (p_3 : LInt) (p_4 : LInt) (p_5 : Int) (p_6 : Int) (s_ : ByteArray) (s_2 : Int) (s_3 : Int) (s_4 : (List TPiece)) (s_5 : LInt) (s_6 : Bool) (s_7 : Bool) (s_8 : (List TEnd)) (s_9 : Int) (s_10 : Int) (s_11 : Int) (s_12 : Int) (s_13 : Int) (m3_ : (List (TPos × (Int × (Int × Bool))))) : Option Bool :=
  bif (ltI t57_ t56_) then ((store_Store_Score' N ((s_, (s_2, (s_3, (s_4, (s_5, (s_6, (s_7, (s_8, (s_9, (s_10, s_11)))))))))), (m3_, (s_12, s_13))) (p_2, ((p_3, p_4), (p_5, p_6))) depth).bind fun y10 =>
    (minimax_Score N r_ (p_2, ((p_3, p_4), (p_5, p_6))) depth).bind fun y11 =>
    bif (!(eqI y10.2.1 y11.2)) then some false
    else bif (!(eqI y10.1 y11.1)) then some false
    else (store_Store_Len N y10.2.2).bind fun y12 =>
    bif (ltI size2 y12) then some false
    else (moves_All N r_ (p_2, ((p_3, p_4), (p_5, p_6)))).bind fun y13 =>
    bif (!(eqI y10.2.1 0)) then some true
    else bif (!(eqI y13.2 0)) then some true
    else bif (eqI (y13.1.length : Int) 0) then some true
    else bif (eqI t57_ (picks.length : Int)) then some true
    else chk ((leI 0 t57_) && (ltI t57_ (picks.length : Int))) <|
    (gamehallkeep1_some_api_Move N y13.1 (gD (0 : Int) picks t57_)).bind fun y16 =>
    (moves_After N r_ (p_2, ((p_3, p_4), (p_5, p_6))) y16).bind fun y17 =>
    bif (!(eqI y17.2 0)) then (some (eqI y17.2 0))
    else (gamehallkeep1_heavy N r_ y17.1 depth).bind fun y18 =>
    bif y18 then (some (eqI y17.2 0))
    else r0 size2 t56_ (w64 (t57_ + 1)) y17.1.1 y17.1.2.1.1 y17.1.2.1.2 y17.1.2.2.1 y17.1.2.2.2 y10.2.2.1.1 y10.2.2.1.2.1 y10.2.2.1.2.2.1 y10.2.2.1.2.2.2.1 y10.2.2.1.2.2.2.2.1 y10.2.2.1.2.2.2.2.2.1 y10.2.2.1.2.2.2.2.2.2.1 y10.2.2.1.2.2.2.2.2.2.2.1 y10.2.2.1.2.2.2.2.2.2.2.2.1 y10.2.2.1.2.2.2.2.2.2.2.2.2.1 y10.2.2.1.2.2.2.2.2.2.2.2.2.2 y10.2.2.2.2.1 y10.2.2.2.2.2 y10.2.2.2.1)
  else some true
def gamehallkeep1_StoreScores.L (N : Nat) (r_ : TRules) (p_ : TPos) (depth : Int) (size : Int) (picks : LInt) : Nat → (Int → Int → Int → LInt → LInt → LInt → Int → Int → ByteArray → Int → Int → (List TPiece) → LInt → Bool → Bool → (List TEnd) → Int → Int → Int → Int → Int → (List (TPos × (Int × (Int × Bool)))) → Option Bool)
  | 0 => fun _ _ _ _ _ _ _ _ _ _ _ _ _ _ _ _ _ _ _ _ _ _ => none
  | n + 1 => fun size2 t56_ t57_ p_2 p_3 p_4 p_5 p_6 s_ s_2 s_3 s_4 s_5 s_6 s_7 s_8 s_9 s_10 s_11 s_12 s_13 m3_ => gamehallkeep1_StoreScores.s0 N r_ p_ depth size picks (gamehallkeep1_StoreScores.L N r_ p_ depth size picks n) size2 t56_ t57_ p_2 p_3 p_4 p_5 p_6 s_ s_2 s_3 s_4 s_5 s_6 s_7 s_8 s_9 s_10 s_11 s_12 s_13 m3_
def gamehallkeep1_StoreScores.l0 (N : Nat) (r_ : TRules) (p_ : TPos) (depth : Int) (size : Int) (picks : LInt) (n : Nat) : Int → Int → Int → LInt → LInt → LInt → Int → Int → ByteArray → Int → Int → (List TPiece) → LInt → Bool → Bool → (List TEnd) → Int → Int → Int → Int → Int → (List (TPos × (Int × (Int × Bool)))) → Option Bool := (gamehallkeep1_StoreScores.L N r_ p_ depth size picks n)
theorem gamehallkeep1_StoreScores.l0_s (N : Nat) (r_ : TRules) (p_ : TPos) (depth : Int) (size : Int) (picks : LInt) (n : Nat) (size2 : Int) (t56_ : Int) (t57_ : Int) (p_2 : LInt) (p_3 : LInt) (p_4 : LInt) (p_5 : Int) (p_6 : Int) (s_ : ByteArray) (s_2 : Int) (s_3 : Int) (s_4 : (List TPiece)) (s_5 : LInt) (s_6 : Bool) (s_7 : Bool) (s_8 : (List TEnd)) (s_9 : Int) (s_10 : Int) (s_11 : Int) (s_12 : Int) (s_13 : Int) (m3_ : (List (TPos × (Int × (Int × Bool))))) : gamehallkeep1_StoreScores.l0 N r_ p_ depth size picks (n + 1) size2 t56_ t57_ p_2 p_3 p_4 p_5 p_6 s_ s_2 s_3 s_4 s_5 s_6 s_7 s_8 s_9 s_10 s_11 s_12 s_13 m3_ = gamehallkeep1_StoreScores.s0 N r_ p_ depth size picks (gamehallkeep1_StoreScores.l0 N r_ p_ depth size picks n) size2 t56_ t57_ p_2 p_3 p_4 p_5 p_6 s_ s_2 s_3 s_4 s_5 s_6 s_7 s_8 s_9 s_10 s_11 s_12 s_13 m3_ := rfl
def gamehallkeep1_StoreScores (N : Nat) (r_ : TRules) (p_ : TPos) (depth : Int) (size : Int) (picks : LInt) : Option Bool := gamehallkeep1_StoreScores.e N (gamehallkeep1_StoreScores.l0 N r_ p_ depth size picks N) r_ p_ depth size picks
end
end Go.Proofs.YtnckilklmkpooaaGreat.Am
