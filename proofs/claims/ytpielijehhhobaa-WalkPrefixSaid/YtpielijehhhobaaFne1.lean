/- PRINTED by gen.py: what the functions compute, as plain Lean functions with fuel. -/
import Derived.Test.YtpielijehhhobaaFne
set_option linter.unusedVariables false
set_option linter.unusedSimpArgs false
namespace Go.Proofs.Ytpielijehhhobaa.Am
open Go
noncomputable section
def Q55.e (N : Nat) (r0 : Int → ByteArray → Int → Int → Bool → Bool → Int → Int → Int → Int → Int → Int → Int → (List TPiece) → LInt → (List TEnd) → LInt → LInt → LInt → (List TUndo) → Option (Int × (TBoard × Int))) (r1 : Int → Int → ByteArray → Int → Int → Bool → Bool → Int → Int → Int → Int → Int → Int → Int → (List TPiece) → LInt → (List TEnd) → LInt → LInt → LInt → (List TUndo) → Option (Int × (TBoard × Int))) (x_ : (TBoard × Int)) : Option (Int × (TBoard × Int)) :=
 r0 0 x_.1.1.1 x_.1.1.2.1 x_.1.1.2.2.1 x_.1.1.2.2.2.2.2.1 x_.1.1.2.2.2.2.2.2.1 x_.1.1.2.2.2.2.2.2.2.2.1 x_.1.1.2.2.2.2.2.2.2.2.2.1 x_.1.1.2.2.2.2.2.2.2.2.2.2 x_.1.2.1.2.2.1 x_.1.2.1.2.2.2 x_.1.2.2.1 x_.2 x_.1.1.2.2.2.1 x_.1.1.2.2.2.2.1 x_.1.1.2.2.2.2.2.2.2.1 x_.1.2.1.1 x_.1.2.1.2.1.1 x_.1.2.1.2.1.2 x_.1.2.2.2
def Q55.s0 (N : Nat) (x_ : (TBoard × Int)) (r0 : Int → ByteArray → Int → Int → Bool → Bool → Int → Int → Int → Int → Int → Int → Int → (List TPiece) → LInt → (List TEnd) → LInt → LInt → LInt → (List TUndo) → Option (Int × (TBoard × Int))) (r1 : Int → Int → ByteArray → Int → Int → Bool → Bool → Int → Int → Int → Int → Int → Int → Int → (List TPiece) → LInt → (List TEnd) → LInt → LInt → LInt → (List TUndo) → Option (Int × (TBoard × Int))) (n_ : Int) (m1_ : ByteArray) (m1_2 m1_3 : Int) (m1_4 m1_5 : Bool) (m1_6 m1_7 m1_8 m1_9 m1_10 m1_11 m9_ : Int) (m10_ : (List TPiece)) (m11_ : LInt) (m12_ : (List TEnd)) (m13_ m14_ m15_ : LInt) (m16_ : (List TUndo)) : Option (Int × (TBoard × Int)) :=
 bif (ltI n_ 200) then ((Q34 N ((m1_, (m1_2, (m1_3, (m10_, (m11_, (m1_4, (m1_5, (m12_, (m1_6, (m1_7, m1_8)))))))))), ((m13_, ((m14_, m15_), (m1_9, m1_10))), (m1_11, m16_)))).bind fun y1 =>
  bif (eqI (y1.length : Int) 0) then ((Q32 N ((m1_, (m1_2, (m1_3, (m10_, (m11_, (m1_4, (m1_5, (m12_, (m1_6, (m1_7, m1_8)))))))))), ((m13_, ((m14_, m15_), (m1_9, m1_10))), (m1_11, m16_)))).bind fun y3 =>
   r1 n_ y3 m1_ m1_2 m1_3 m1_4 m1_5 m1_6 m1_7 m1_8 m1_9 m1_10 m1_11 m9_ m10_ m11_ m12_ m13_ m14_ m15_ m16_)
  else (Q14 N m9_ (y1.length : Int)).bind fun y4 =>
  chk ((leI 0 y4.1) && (ltI y4.1 (y1.length : Int))) <|
  (Q50 N ((m1_, (m1_2, (m1_3, (m10_, (m11_, (m1_4, (m1_5, (m12_, (m1_6, (m1_7, m1_8)))))))))), ((m13_, ((m14_, m15_), (m1_9, m1_10))), (m1_11, m16_))) (gD ((0 : Int), ((0 : Int), (0 : Int))) y1 y4.1)).bind fun y5 =>
  r0 (w64 (n_ + 1)) y5.1.1 y5.1.2.1 y5.1.2.2.1 y5.1.2.2.2.2.2.1 y5.1.2.2.2.2.2.2.1 y5.1.2.2.2.2.2.2.2.2.1 y5.1.2.2.2.2.2.2.2.2.2.1 y5.1.2.2.2.2.2.2.2.2.2.2 y5.2.1.2.2.1 y5.2.1.2.2.2 y5.2.2.1 y4.2.2 y5.1.2.2.2.1 y5.1.2.2.2.2.1 y5.1.2.2.2.2.2.2.2.1 y5.2.1.1 y5.2.1.2.1.1 y5.2.1.2.1.2 y5.2.2.2)
 else (Q32 N ((m1_, (m1_2, (m1_3, (m10_, (m11_, (m1_4, (m1_5, (m12_, (m1_6, (m1_7, m1_8)))))))))), ((m13_, ((m14_, m15_), (m1_9, m1_10))), (m1_11, m16_)))).bind fun y6 =>
 r1 n_ y6 m1_ m1_2 m1_3 m1_4 m1_5 m1_6 m1_7 m1_8 m1_9 m1_10 m1_11 m9_ m10_ m11_ m12_ m13_ m14_ m15_ m16_
def Q55.s1 (N : Nat) (x_ : (TBoard × Int)) (r0 : Int → ByteArray → Int → Int → Bool → Bool → Int → Int → Int → Int → Int → Int → Int → (List TPiece) → LInt → (List TEnd) → LInt → LInt → LInt → (List TUndo) → Option (Int × (TBoard × Int))) (r1 : Int → Int → ByteArray → Int → Int → Bool → Bool → Int → Int → Int → Int → Int → Int → Int → (List TPiece) → LInt → (List TEnd) → LInt → LInt → LInt → (List TUndo) → Option (Int × (TBoard × Int))) (n_ out : Int) (m1_ : ByteArray) (m1_2 m1_3 : Int) (m1_4 m1_5 : Bool) (m1_6 m1_7 m1_8 m1_9 m1_10 m1_11 m9_ : Int) (m10_ : (List TPiece)) (m11_ : LInt) (m12_ : (List TEnd)) (m13_ m14_ m15_ : LInt) (m16_ : (List TUndo)) : Option (Int × (TBoard × Int)) :=
 bif (ltI 0 n_) then ((Q51 N ((m1_, (m1_2, (m1_3, (m10_, (m11_, (m1_4, (m1_5, (m12_, (m1_6, (m1_7, m1_8)))))))))), ((m13_, ((m14_, m15_), (m1_9, m1_10))), (m1_11, m16_)))).bind fun y7 =>
  r1 (w64 (n_ - 1)) out y7.2.1.1 y7.2.1.2.1 y7.2.1.2.2.1 y7.2.1.2.2.2.2.2.1 y7.2.1.2.2.2.2.2.2.1 y7.2.1.2.2.2.2.2.2.2.2.1 y7.2.1.2.2.2.2.2.2.2.2.2.1 y7.2.1.2.2.2.2.2.2.2.2.2.2 y7.2.2.1.2.2.1 y7.2.2.1.2.2.2 y7.2.2.2.1 m9_ y7.2.1.2.2.2.1 y7.2.1.2.2.2.2.1 y7.2.1.2.2.2.2.2.2.2.1 y7.2.2.1.1 y7.2.2.1.2.1.1 y7.2.2.1.2.1.2 y7.2.2.2.2)
 else some (out, (((m1_, (m1_2, (m1_3, (m10_, (m11_, (m1_4, (m1_5, (m12_, (m1_6, (m1_7, m1_8)))))))))), ((m13_, ((m14_, m15_), (m1_9, m1_10))), (m1_11, m16_))), m9_))
def Q55.L (N : Nat) (x_ : (TBoard × Int)) : Nat → (Int → ByteArray → Int → Int → Bool → Bool → Int → Int → Int → Int → Int → Int → Int → (List TPiece) → LInt → (List TEnd) → LInt → LInt → LInt → (List TUndo) → Option (Int × (TBoard × Int))) × (Int → Int → ByteArray → Int → Int → Bool → Bool → Int → Int → Int → Int → Int → Int → Int → (List TPiece) → LInt → (List TEnd) → LInt → LInt → LInt → (List TUndo) → Option (Int × (TBoard × Int)))
 | 0 => (fun _ _ _ _ _ _ _ _ _ _ _ _ _ _ _ _ _ _ _ _ => none, fun _ _ _ _ _ _ _ _ _ _ _ _ _ _ _ _ _ _ _ _ _ => none)
 | n + 1 => (fun n_ m1_ m1_2 m1_3 m1_4 m1_5 m1_6 m1_7 m1_8 m1_9 m1_10 m1_11 m9_ m10_ m11_ m12_ m13_ m14_ m15_ m16_ => Q55.s0 N x_ (Q55.L N x_ n).1 (Q55.L N x_ n).2 n_ m1_ m1_2 m1_3 m1_4 m1_5 m1_6 m1_7 m1_8 m1_9 m1_10 m1_11 m9_ m10_ m11_ m12_ m13_ m14_ m15_ m16_, fun n_ out m1_ m1_2 m1_3 m1_4 m1_5 m1_6 m1_7 m1_8 m1_9 m1_10 m1_11 m9_ m10_ m11_ m12_ m13_ m14_ m15_ m16_ => Q55.s1 N x_ (Q55.L N x_ n).1 (Q55.L N x_ n).2 n_ out m1_ m1_2 m1_3 m1_4 m1_5 m1_6 m1_7 m1_8 m1_9 m1_10 m1_11 m9_ m10_ m11_ m12_ m13_ m14_ m15_ m16_)
def Q55.l0 (N : Nat) (x_ : (TBoard × Int)) (n : Nat) : Int → ByteArray → Int → Int → Bool → Bool → Int → Int → Int → Int → Int → Int → Int → (List TPiece) → LInt → (List TEnd) → LInt → LInt → LInt → (List TUndo) → Option (Int × (TBoard × Int)) := (Q55.L N x_ n).1
def Q55.l1 (N : Nat) (x_ : (TBoard × Int)) (n : Nat) : Int → Int → ByteArray → Int → Int → Bool → Bool → Int → Int → Int → Int → Int → Int → Int → (List TPiece) → LInt → (List TEnd) → LInt → LInt → LInt → (List TUndo) → Option (Int × (TBoard × Int)) := (Q55.L N x_ n).2
theorem Q55.l0_s (N : Nat) (x_ : (TBoard × Int)) (n : Nat) (n_ : Int) (m1_ : ByteArray) (m1_2 m1_3 : Int) (m1_4 m1_5 : Bool) (m1_6 m1_7 m1_8 m1_9 m1_10 m1_11 m9_ : Int) (m10_ : (List TPiece)) (m11_ : LInt) (m12_ : (List TEnd)) (m13_ m14_ m15_ : LInt) (m16_ : (List TUndo)) : Q55.l0 N x_ (n + 1) n_ m1_ m1_2 m1_3 m1_4 m1_5 m1_6 m1_7 m1_8 m1_9 m1_10 m1_11 m9_ m10_ m11_ m12_ m13_ m14_ m15_ m16_ = Q55.s0 N x_ (Q55.l0 N x_ n) (Q55.l1 N x_ n) n_ m1_ m1_2 m1_3 m1_4 m1_5 m1_6 m1_7 m1_8 m1_9 m1_10 m1_11 m9_ m10_ m11_ m12_ m13_ m14_ m15_ m16_ := rfl
theorem Q55.l1_s (N : Nat) (x_ : (TBoard × Int)) (n : Nat) (n_ out : Int) (m1_ : ByteArray) (m1_2 m1_3 : Int) (m1_4 m1_5 : Bool) (m1_6 m1_7 m1_8 m1_9 m1_10 m1_11 m9_ : Int) (m10_ : (List TPiece)) (m11_ : LInt) (m12_ : (List TEnd)) (m13_ m14_ m15_ : LInt) (m16_ : (List TUndo)) : Q55.l1 N x_ (n + 1) n_ out m1_ m1_2 m1_3 m1_4 m1_5 m1_6 m1_7 m1_8 m1_9 m1_10 m1_11 m9_ m10_ m11_ m12_ m13_ m14_ m15_ m16_ = Q55.s1 N x_ (Q55.l0 N x_ n) (Q55.l1 N x_ n) n_ out m1_ m1_2 m1_3 m1_4 m1_5 m1_6 m1_7 m1_8 m1_9 m1_10 m1_11 m9_ m10_ m11_ m12_ m13_ m14_ m15_ m16_ := rfl
def Q55 (N : Nat) (x_ : (TBoard × Int)) : Option (Int × (TBoard × Int)) := Q55.e N (Q55.l0 N x_ N) (Q55.l1 N x_ N) x_
def Q28.e (N : Nat) (b_ : TBoard) : Option Int :=
 some b_.2.1.2.2.1
def Q28 (N : Nat) (b_ : TBoard) : Option Int := Q28.e N b_
def Q57.e (N : Nat) (result player : Int) : Option Int :=
 bif (eqI result (w64 (1 + player))) then some 2
 else bif (eqI result (w64 (2 - player))) then some 0
 else some 1
def Q57 (N : Nat) (result player : Int) : Option Int := Q57.e N result player
def Q82.e (N : Nat) (r0 : Int → Int → Option Int) (n_ : Int) : Option Int :=
 r0 0 1048576
def Q82.s0 (N : Nat) (n_ : Int) (r0 : Int → Int → Option Int) (low high : Int) : Option Int :=
 bif (ltI low high) then (let v1 : Int := (w64 ((w64 (low + high)) + 1))
  bif (leI (w64 ((w64 (Int.tdiv v1 2)) * (w64 (Int.tdiv v1 2)))) n_) then (r0 (w64 (Int.tdiv v1 2)) high)
  else r0 low (w64 ((w64 (Int.tdiv v1 2)) - 1)))
 else some low
def Q82.L (N : Nat) (n_ : Int) : Nat → (Int → Int → Option Int)
 | 0 => fun _ _ => none
 | n + 1 => fun low high => Q82.s0 N n_ (Q82.L N n_ n) low high
def Q82.l0 (N : Nat) (n_ : Int) (n : Nat) : Int → Int → Option Int := (Q82.L N n_ n)
theorem Q82.l0_s (N : Nat) (n_ : Int) (n : Nat) (low high : Int) : Q82.l0 N n_ (n + 1) low high = Q82.s0 N n_ (Q82.l0 N n_ n) low high := rfl
def Q82 (N : Nat) (n_ : Int) : Option Int := Q82.e N (Q82.l0 N n_ N) n_
def Q56.e (N : Nat) (r0 : Int → Int → Int → Int → Option (Int × ((List (LMv × List Int × (Int × Int))) × Int))) (n_ : ((List (LMv × List Int × (Int × Int))) × Int)) : Option (Int × ((List (LMv × List Int × (Int × Int))) × Int)) :=
 chk (leI 0 n_.2) <|
 (Q82 N (w64 (100 * (gD (([] : LMv), ([] : List Int), ((0 : Int), (0 : Int))) n_.1 n_.2).2.2.1))).bind fun y2 =>
 chk (leI 0 n_.2) <|
 r0 (-1) y2 ((gD (([] : LMv), ([] : List Int), ((0 : Int), (0 : Int))) n_.1 n_.2).2.1.length : Int) 0
def Q56.s0 (N : Nat) (n_ : ((List (LMv × List Int × (Int × Int))) × Int)) (r0 : Int → Int → Int → Int → Option (Int × ((List (LMv × List Int × (Int × Int))) × Int))) (best bonus t17_ t18_ : Int) : Option (Int × ((List (LMv × List Int × (Int × Int))) × Int)) :=
 bif (ltI t18_ t17_) then (chk ((leI 0 t18_) && (ltI t18_ ((gD (([] : LMv), ([] : List Int), ((0 : Int), (0 : Int))) n_.1 n_.2).2.1.length : Int))) <|
  chk (eqI ((gD (([] : LMv), ([] : List Int), ((0 : Int), (0 : Int))) n_.1 n_.2).2.1.length : Int) ((gD (([] : LMv), ([] : List Int), ((0 : Int), (0 : Int))) n_.1 n_.2).2.1.length : Int)) <|
  let v4 : Int := (gD (-1 : Int) (gD (([] : LMv), ([] : List Int), ((0 : Int), (0 : Int))) n_.1 n_.2).2.1 t18_)
  chk (leI 0 v4) <|
  bif (eqI (gD (([] : LMv), ([] : List Int), ((0 : Int), (0 : Int))) n_.1 v4).2.2.1 0) then (some (t18_, n_))
  else bif (ltI best 0) then (r0 t18_ bonus t17_ (w64 (t18_ + 1)))
  else chk (leI 0 v4) <|
  chk (leI 0 n_.2) <|
  chk ((leI 0 best) && (ltI best ((gD (([] : LMv), ([] : List Int), ((0 : Int), (0 : Int))) n_.1 n_.2).2.1.length : Int))) <|
  chk (eqI ((gD (([] : LMv), ([] : List Int), ((0 : Int), (0 : Int))) n_.1 n_.2).2.1.length : Int) ((gD (([] : LMv), ([] : List Int), ((0 : Int), (0 : Int))) n_.1 n_.2).2.1.length : Int)) <|
  let v7 : Int := (gD (-1 : Int) (gD (([] : LMv), ([] : List Int), ((0 : Int), (0 : Int))) n_.1 n_.2).2.1 best)
  chk (leI 0 v7) <|
  chk (leI 0 n_.2) <|
  chk ((leI 0 best) && (ltI best ((gD (([] : LMv), ([] : List Int), ((0 : Int), (0 : Int))) n_.1 n_.2).2.1.length : Int))) <|
  chk (eqI ((gD (([] : LMv), ([] : List Int), ((0 : Int), (0 : Int))) n_.1 n_.2).2.1.length : Int) ((gD (([] : LMv), ([] : List Int), ((0 : Int), (0 : Int))) n_.1 n_.2).2.1.length : Int)) <|
  let v9 : Int := (gD (-1 : Int) (gD (([] : LMv), ([] : List Int), ((0 : Int), (0 : Int))) n_.1 n_.2).2.1 best)
  chk (leI 0 v9) <|
  chk (leI 0 v4) <|
  bif (ltI (w64 ((w64 ((w64 (10 * (gD (([] : LMv), ([] : List Int), ((0 : Int), (0 : Int))) n_.1 v9).2.2.2)) + bonus)) * (gD (([] : LMv), ([] : List Int), ((0 : Int), (0 : Int))) n_.1 v4).2.2.1)) (w64 ((w64 ((w64 (10 * (gD (([] : LMv), ([] : List Int), ((0 : Int), (0 : Int))) n_.1 v4).2.2.2)) + bonus)) * (gD (([] : LMv), ([] : List Int), ((0 : Int), (0 : Int))) n_.1 v7).2.2.1))) then (r0 t18_ bonus t17_ (w64 (t18_ + 1)))
  else r0 best bonus t17_ (w64 (t18_ + 1)))
 else some (best, n_)
def Q56.L (N : Nat) (n_ : ((List (LMv × List Int × (Int × Int))) × Int)) : Nat → (Int → Int → Int → Int → Option (Int × ((List (LMv × List Int × (Int × Int))) × Int)))
 | 0 => fun _ _ _ _ => none
 | n + 1 => fun best bonus t17_ t18_ => Q56.s0 N n_ (Q56.L N n_ n) best bonus t17_ t18_
def Q56.l0 (N : Nat) (n_ : ((List (LMv × List Int × (Int × Int))) × Int)) (n : Nat) : Int → Int → Int → Int → Option (Int × ((List (LMv × List Int × (Int × Int))) × Int)) := (Q56.L N n_ n)
theorem Q56.l0_s (N : Nat) (n_ : ((List (LMv × List Int × (Int × Int))) × Int)) (n : Nat) (best bonus t17_ t18_ : Int) : Q56.l0 N n_ (n + 1) best bonus t17_ t18_ = Q56.s0 N n_ (Q56.l0 N n_ n) best bonus t17_ t18_ := rfl
def Q56 (N : Nat) (n_ : ((List (LMv × List Int × (Int × Int))) × Int)) : Option (Int × ((List (LMv × List Int × (Int × Int))) × Int)) := Q56.e N (Q56.l0 N n_ N) n_
def Q33.e (N : Nat) (self : (TBoard × Int) → ((List (LMv × List Int × (Int × Int))) × Int) → Option (Int × (TBoard × Int) × ((List (LMv × List Int × (Int × Int))) × Int))) (r0 : Int → Int → (List (LMv × List Int × (Int × Int))) → Option (Int × (TBoard × Int) × ((List (LMv × List Int × (Int × Int))) × Int))) (x_ : (TBoard × Int)) (n_ : ((List (LMv × List Int × (Int × Int))) × Int)) : Option (Int × (TBoard × Int) × ((List (LMv × List Int × (Int × Int))) × Int)) :=
 chk (leI 0 n_.2) <|
 bif (eqI (gD (([] : LMv), ([] : List Int), ((0 : Int), (0 : Int))) n_.1 n_.2).2.2.1 0) then ((Q55 N x_).bind fun y2 =>
  chk (leI 0 n_.2) <|
  chk (leI 0 n_.2) <|
  let v4 : (List (LMv × List Int × (Int × Int))) := (n_.1.set n_.2.toNat ((gD (([] : LMv), ([] : List Int), ((0 : Int), (0 : Int))) n_.1 n_.2).1, ((gD (([] : LMv), ([] : List Int), ((0 : Int), (0 : Int))) n_.1 n_.2).2.1, ((w64 ((gD (([] : LMv), ([] : List Int), ((0 : Int), (0 : Int))) n_.1 n_.2).2.2.1 + 1)), (gD (([] : LMv), ([] : List Int), ((0 : Int), (0 : Int))) n_.1 n_.2).2.2.2))))
  chk (leI 0 n_.2) <|
  (Q28 N y2.2.1).bind fun y5 =>
  (Q57 N y2.1 (w64 (1 - y5))).bind fun y6 =>
  chk (leI 0 n_.2) <|
  some (y2.1, (y2.2, ((v4.set n_.2.toNat ((gD (([] : LMv), ([] : List Int), ((0 : Int), (0 : Int))) v4 n_.2).1, ((gD (([] : LMv), ([] : List Int), ((0 : Int), (0 : Int))) v4 n_.2).2.1, ((gD (([] : LMv), ([] : List Int), ((0 : Int), (0 : Int))) v4 n_.2).2.2.1, (w64 ((gD (([] : LMv), ([] : List Int), ((0 : Int), (0 : Int))) v4 n_.2).2.2.2 + y6)))))), n_.2))))
 else (Q32 N x_.1).bind fun y9 =>
 bif (!(eqI y9 0)) then ((Q55 N x_).bind fun y10 =>
  chk (leI 0 n_.2) <|
  chk (leI 0 n_.2) <|
  let v12 : (List (LMv × List Int × (Int × Int))) := (n_.1.set n_.2.toNat ((gD (([] : LMv), ([] : List Int), ((0 : Int), (0 : Int))) n_.1 n_.2).1, ((gD (([] : LMv), ([] : List Int), ((0 : Int), (0 : Int))) n_.1 n_.2).2.1, ((w64 ((gD (([] : LMv), ([] : List Int), ((0 : Int), (0 : Int))) n_.1 n_.2).2.2.1 + 1)), (gD (([] : LMv), ([] : List Int), ((0 : Int), (0 : Int))) n_.1 n_.2).2.2.2))))
  chk (leI 0 n_.2) <|
  (Q28 N y10.2.1).bind fun y13 =>
  (Q57 N y10.1 (w64 (1 - y13))).bind fun y14 =>
  chk (leI 0 n_.2) <|
  some (y10.1, (y10.2, ((v12.set n_.2.toNat ((gD (([] : LMv), ([] : List Int), ((0 : Int), (0 : Int))) v12 n_.2).1, ((gD (([] : LMv), ([] : List Int), ((0 : Int), (0 : Int))) v12 n_.2).2.1, ((gD (([] : LMv), ([] : List Int), ((0 : Int), (0 : Int))) v12 n_.2).2.2.1, (w64 ((gD (([] : LMv), ([] : List Int), ((0 : Int), (0 : Int))) v12 n_.2).2.2.2 + y14)))))), n_.2))))
 else chk (leI 0 n_.2) <|
 bif (eqI ((gD (([] : LMv), ([] : List Int), ((0 : Int), (0 : Int))) n_.1 n_.2).2.1.length : Int) 0) then ((Q34 N x_.1).bind fun y18 =>
  chk (leI 0 n_.2) <|
  let v19 : (List (LMv × List Int × (Int × Int))) := (n_.1.set n_.2.toNat (y18, (gD (([] : LMv), ([] : List Int), ((0 : Int), (0 : Int))) n_.1 n_.2).2))
  chk (leI 0 n_.2) <|
  r0 ((gD (([] : LMv), ([] : List Int), ((0 : Int), (0 : Int))) v19 n_.2).1.length : Int) 0 v19)
 else (Q56 N n_).bind fun y21 =>
 chk (leI 0 n_.2) <|
 chk ((leI 0 y21.1) && (ltI y21.1 ((gD (([] : LMv), ([] : List Int), ((0 : Int), (0 : Int))) y21.2.1 n_.2).1.length : Int))) <|
 (Q50 N x_.1 (gD ((0 : Int), ((0 : Int), (0 : Int))) (gD (([] : LMv), ([] : List Int), ((0 : Int), (0 : Int))) y21.2.1 n_.2).1 y21.1)).bind fun y22 =>
 chk (leI 0 n_.2) <|
 chk ((leI 0 y21.1) && (ltI y21.1 ((gD (([] : LMv), ([] : List Int), ((0 : Int), (0 : Int))) y21.2.1 n_.2).2.1.length : Int))) <|
 chk (eqI ((gD (([] : LMv), ([] : List Int), ((0 : Int), (0 : Int))) y21.2.1 n_.2).2.1.length : Int) ((gD (([] : LMv), ([] : List Int), ((0 : Int), (0 : Int))) y21.2.1 n_.2).2.1.length : Int)) <|
 (self (y22, x_.2) (y21.2.1, (gD (-1 : Int) (gD (([] : LMv), ([] : List Int), ((0 : Int), (0 : Int))) y21.2.1 n_.2).2.1 y21.1))).bind fun y24 =>
 (Q51 N y24.2.1.1).bind fun y25 =>
 chk (leI 0 n_.2) <|
 chk (leI 0 n_.2) <|
 let v27 : (List (LMv × List Int × (Int × Int))) := (y24.2.2.1.set n_.2.toNat ((gD (([] : LMv), ([] : List Int), ((0 : Int), (0 : Int))) y24.2.2.1 n_.2).1, ((gD (([] : LMv), ([] : List Int), ((0 : Int), (0 : Int))) y24.2.2.1 n_.2).2.1, ((w64 ((gD (([] : LMv), ([] : List Int), ((0 : Int), (0 : Int))) y24.2.2.1 n_.2).2.2.1 + 1)), (gD (([] : LMv), ([] : List Int), ((0 : Int), (0 : Int))) y24.2.2.1 n_.2).2.2.2))))
 chk (leI 0 n_.2) <|
 (Q28 N y25.2).bind fun y28 =>
 (Q57 N y24.1 (w64 (1 - y28))).bind fun y29 =>
 chk (leI 0 n_.2) <|
 some (y24.1, ((y25.2, y24.2.1.2), ((v27.set n_.2.toNat ((gD (([] : LMv), ([] : List Int), ((0 : Int), (0 : Int))) v27 n_.2).1, ((gD (([] : LMv), ([] : List Int), ((0 : Int), (0 : Int))) v27 n_.2).2.1, ((gD (([] : LMv), ([] : List Int), ((0 : Int), (0 : Int))) v27 n_.2).2.2.1, (w64 ((gD (([] : LMv), ([] : List Int), ((0 : Int), (0 : Int))) v27 n_.2).2.2.2 + y29)))))), n_.2)))
def Q33.s0 (N : Nat) (self : (TBoard × Int) → ((List (LMv × List Int × (Int × Int))) × Int) → Option (Int × (TBoard × Int) × ((List (LMv × List Int × (Int × Int))) × Int))) (x_ : (TBoard × Int)) (n_ : ((List (LMv × List Int × (Int × Int))) × Int)) (r0 : Int → Int → (List (LMv × List Int × (Int × Int))) → Option (Int × (TBoard × Int) × ((List (LMv × List Int × (Int × Int))) × Int))) (t24_ t25_ : Int) (nodes : (List (LMv × List Int × (Int × Int)))) : Option (Int × (TBoard × Int) × ((List (LMv × List Int × (Int × Int))) × Int)) :=
 bif (ltI t25_ t24_) then (chk (leI 0 n_.2) <|
  let v32 : (List (LMv × List Int × (Int × Int))) := (nodes ++ [([], ([], (0, 0)))])
  chk ((eqI ((gD (([] : LMv), ([] : List Int), ((0 : Int), (0 : Int))) nodes n_.2).2.1.length : Int) ((gD (([] : LMv), ([] : List Int), ((0 : Int), (0 : Int))) v32 n_.2).2.1.length : Int)) && (true && capOk 8 ((gD (([] : LMv), ([] : List Int), ((0 : Int), (0 : Int))) v32 n_.2).2.1.length + 1))) <|
  chk (leI 0 n_.2) <|
  chk ((eqI n_.2 n_.2) && ((eqI n_.2 n_.2) && (eqI (((gD (([] : LMv), ([] : List Int), ((0 : Int), (0 : Int))) nodes n_.2).2.1.length : Int) + 1) (((gD (([] : LMv), ([] : List Int), ((0 : Int), (0 : Int))) v32 n_.2).2.1.length : Int) + 1)))) <|
  r0 t24_ (w64 (t25_ + 1)) (v32.set n_.2.toNat ((gD (([] : LMv), ([] : List Int), ((0 : Int), (0 : Int))) v32 n_.2).1, (((gD (([] : LMv), ([] : List Int), ((0 : Int), (0 : Int))) v32 n_.2).2.1 ++ [(nodes.length : Int)]), (gD (([] : LMv), ([] : List Int), ((0 : Int), (0 : Int))) v32 n_.2).2.2))))
 else (Q56 N (nodes, n_.2)).bind fun y35 =>
 chk (leI 0 n_.2) <|
 chk ((leI 0 y35.1) && (ltI y35.1 ((gD (([] : LMv), ([] : List Int), ((0 : Int), (0 : Int))) y35.2.1 n_.2).1.length : Int))) <|
 (Q50 N x_.1 (gD ((0 : Int), ((0 : Int), (0 : Int))) (gD (([] : LMv), ([] : List Int), ((0 : Int), (0 : Int))) y35.2.1 n_.2).1 y35.1)).bind fun y36 =>
 chk (leI 0 n_.2) <|
 chk ((leI 0 y35.1) && (ltI y35.1 ((gD (([] : LMv), ([] : List Int), ((0 : Int), (0 : Int))) y35.2.1 n_.2).2.1.length : Int))) <|
 chk (eqI ((gD (([] : LMv), ([] : List Int), ((0 : Int), (0 : Int))) y35.2.1 n_.2).2.1.length : Int) ((gD (([] : LMv), ([] : List Int), ((0 : Int), (0 : Int))) y35.2.1 n_.2).2.1.length : Int)) <|
 (self (y36, x_.2) (y35.2.1, (gD (-1 : Int) (gD (([] : LMv), ([] : List Int), ((0 : Int), (0 : Int))) y35.2.1 n_.2).2.1 y35.1))).bind fun y38 =>
 (Q51 N y38.2.1.1).bind fun y39 =>
 chk (leI 0 n_.2) <|
 chk (leI 0 n_.2) <|
 let v41 : (List (LMv × List Int × (Int × Int))) := (y38.2.2.1.set n_.2.toNat ((gD (([] : LMv), ([] : List Int), ((0 : Int), (0 : Int))) y38.2.2.1 n_.2).1, ((gD (([] : LMv), ([] : List Int), ((0 : Int), (0 : Int))) y38.2.2.1 n_.2).2.1, ((w64 ((gD (([] : LMv), ([] : List Int), ((0 : Int), (0 : Int))) y38.2.2.1 n_.2).2.2.1 + 1)), (gD (([] : LMv), ([] : List Int), ((0 : Int), (0 : Int))) y38.2.2.1 n_.2).2.2.2))))
 chk (leI 0 n_.2) <|
 (Q28 N y39.2).bind fun y42 =>
 (Q57 N y38.1 (w64 (1 - y42))).bind fun y43 =>
 chk (leI 0 n_.2) <|
 some (y38.1, ((y39.2, y38.2.1.2), ((v41.set n_.2.toNat ((gD (([] : LMv), ([] : List Int), ((0 : Int), (0 : Int))) v41 n_.2).1, ((gD (([] : LMv), ([] : List Int), ((0 : Int), (0 : Int))) v41 n_.2).2.1, ((gD (([] : LMv), ([] : List Int), ((0 : Int), (0 : Int))) v41 n_.2).2.2.1, (w64 ((gD (([] : LMv), ([] : List Int), ((0 : Int), (0 : Int))) v41 n_.2).2.2.2 + y43)))))), n_.2)))
def Q33.L (N : Nat) (self : (TBoard × Int) → ((List (LMv × List Int × (Int × Int))) × Int) → Option (Int × (TBoard × Int) × ((List (LMv × List Int × (Int × Int))) × Int))) (x_ : (TBoard × Int)) (n_ : ((List (LMv × List Int × (Int × Int))) × Int)) : Nat → (Int → Int → (List (LMv × List Int × (Int × Int))) → Option (Int × (TBoard × Int) × ((List (LMv × List Int × (Int × Int))) × Int)))
 | 0 => fun _ _ _ => none
 | n + 1 => fun t24_ t25_ nodes => Q33.s0 N self x_ n_ (Q33.L N self x_ n_ n) t24_ t25_ nodes
def Q33.l0 (N : Nat) (self : (TBoard × Int) → ((List (LMv × List Int × (Int × Int))) × Int) → Option (Int × (TBoard × Int) × ((List (LMv × List Int × (Int × Int))) × Int))) (x_ : (TBoard × Int)) (n_ : ((List (LMv × List Int × (Int × Int))) × Int)) (n : Nat) : Int → Int → (List (LMv × List Int × (Int × Int))) → Option (Int × (TBoard × Int) × ((List (LMv × List Int × (Int × Int))) × Int)) := (Q33.L N self x_ n_ n)
theorem Q33.l0_s (N : Nat) (self : (TBoard × Int) → ((List (LMv × List Int × (Int × Int))) × Int) → Option (Int × (TBoard × Int) × ((List (LMv × List Int × (Int × Int))) × Int))) (x_ : (TBoard × Int)) (n_ : ((List (LMv × List Int × (Int × Int))) × Int)) (n : Nat) (t24_ t25_ : Int) (nodes : (List (LMv × List Int × (Int × Int)))) : Q33.l0 N self x_ n_ (n + 1) t24_ t25_ nodes = Q33.s0 N self x_ n_ (Q33.l0 N self x_ n_ n) t24_ t25_ nodes := rfl
def Q33 : Nat → (TBoard × Int) → ((List (LMv × List Int × (Int × Int))) × Int) → Option (Int × (TBoard × Int) × ((List (LMv × List Int × (Int × Int))) × Int))
 | 0 => fun _ _ => none
 | N + 1 => fun x_ n_ => Q33.e N (Q33 N) (Q33.l0 N (Q33 N) x_ n_ N) x_ n_
theorem Q33_s (N : Nat) (x_ : (TBoard × Int)) (n_ : ((List (LMv × List Int × (Int × Int))) × Int)) : Q33 (N + 1) x_ n_ = Q33.e N (Q33 N) (Q33.l0 N (Q33 N) x_ n_ N) x_ n_ := rfl
def Q12.e (N : Nat) (r0 : Int → ByteArray → Int → Int → Bool → Bool → Int → Int → Int → Int → Int → Int → (List TPiece) → LInt → (List TEnd) → LInt → LInt → LInt → (List TUndo) → Int → (List (LMv × List Int × (Int × Int))) → Option ((List (TMv × (Int × Int))) × Int)) (r1 : Int → Int → (List (LMv × List Int × (Int × Int))) → LMv → (List (TMv × (Int × Int))) → Option ((List (TMv × (Int × Int))) × Int)) (r_ : TRules) (p_ : TPos) (seed steps : Int) : Option ((List (TMv × (Int × Int))) × Int) :=
 (Q27 N r_ p_).bind fun y1 =>
 oCase y1.1 (bif (!(eqI y1.2 0)) then (some ([], y1.2))
  else (Q13 N seed).bind fun y3 =>
  oCase y3.1 (bif (!(eqI y3.2 0)) then (some ([], y3.2))
   else bif (ltI steps 0) then (some ([], 1))
   else bif (ltI 2000 steps) then (some ([], 1))
   else none) fun b4 =>
  bif (!(eqI y3.2 0)) then (some ([], y3.2))
  else bif (ltI steps 0) then (some ([], 1))
  else bif (ltI 2000 steps) then (some ([], 1))
  else none) fun b2 =>
 bif (!(eqI y1.2 0)) then (some ([], y1.2))
 else (Q13 N seed).bind fun y5 =>
 oCase y5.1 (bif (!(eqI y5.2 0)) then (some ([], y5.2))
  else bif (ltI steps 0) then (some ([], 1))
  else bif (ltI 2000 steps) then (some ([], 1))
  else (Q32 N b2).bind fun y7 =>
  bif (!(eqI y7 0)) then (some ([], 14))
  else none) fun b6 =>
 bif (!(eqI y5.2 0)) then (some ([], y5.2))
 else bif (ltI steps 0) then (some ([], 1))
 else bif (ltI 2000 steps) then (some ([], 1))
 else (Q32 N b2).bind fun y9 =>
 bif (!(eqI y9 0)) then (some ([], 14))
 else r0 0 b2.1.1 b2.1.2.1 b2.1.2.2.1 b2.1.2.2.2.2.2.1 b2.1.2.2.2.2.2.2.1 b2.1.2.2.2.2.2.2.2.2.1 b2.1.2.2.2.2.2.2.2.2.2.1 b2.1.2.2.2.2.2.2.2.2.2.2 b2.2.1.2.2.1 b2.2.1.2.2.2 b2.2.2.1 b2.1.2.2.2.1 b2.1.2.2.2.2.1 b2.1.2.2.2.2.2.2.2.1 b2.2.1.1 b2.2.1.2.1.1 b2.2.1.2.1.2 b2.2.2.2 b6 [([], ([], (1, 0)))]
def Q12.s0 (N : Nat) (r_ : TRules) (p_ : TPos) (seed steps : Int) (r0 : Int → ByteArray → Int → Int → Bool → Bool → Int → Int → Int → Int → Int → Int → (List TPiece) → LInt → (List TEnd) → LInt → LInt → LInt → (List TUndo) → Int → (List (LMv × List Int × (Int × Int))) → Option ((List (TMv × (Int × Int))) × Int)) (r1 : Int → Int → (List (LMv × List Int × (Int × Int))) → LMv → (List (TMv × (Int × Int))) → Option ((List (TMv × (Int × Int))) × Int)) (t55_ : Int) (b_ : ByteArray) (b_2 b_3 : Int) (b_4 b_5 : Bool) (b_6 b_7 b_8 b_9 b_10 b_11 : Int) (m4_ : (List TPiece)) (m5_ : LInt) (m6_ : (List TEnd)) (m7_ m8_ m9_ : LInt) (m10_ : (List TUndo)) (m11_ : Int) (nodes : (List (LMv × List Int × (Int × Int)))) : Option ((List (TMv × (Int × Int))) × Int) :=
 bif (ltI t55_ steps) then ((Q33 N (((b_, (b_2, (b_3, (m4_, (m5_, (b_4, (b_5, (m6_, (b_6, (b_7, b_8)))))))))), ((m7_, ((m8_, m9_), (b_9, b_10))), (b_11, m10_))), m11_) (nodes, 0)).bind fun y11 =>
  r0 (w64 (t55_ + 1)) y11.2.1.1.1.1 y11.2.1.1.1.2.1 y11.2.1.1.1.2.2.1 y11.2.1.1.1.2.2.2.2.2.1 y11.2.1.1.1.2.2.2.2.2.2.1 y11.2.1.1.1.2.2.2.2.2.2.2.2.1 y11.2.1.1.1.2.2.2.2.2.2.2.2.2.1 y11.2.1.1.1.2.2.2.2.2.2.2.2.2.2 y11.2.1.1.2.1.2.2.1 y11.2.1.1.2.1.2.2.2 y11.2.1.1.2.2.1 y11.2.1.1.1.2.2.2.1 y11.2.1.1.1.2.2.2.2.1 y11.2.1.1.1.2.2.2.2.2.2.2.1 y11.2.1.1.2.1.1 y11.2.1.1.2.1.2.1.1 y11.2.1.1.2.1.2.1.2 y11.2.1.1.2.2.2 y11.2.1.2 y11.2.2.1)
 else (Q34 N ((b_, (b_2, (b_3, (m4_, (m5_, (b_4, (b_5, (m6_, (b_6, (b_7, b_8)))))))))), ((m7_, ((m8_, m9_), (b_9, b_10))), (b_11, m10_)))).bind fun y12 =>
 r1 (y12.length : Int) 0 nodes y12 []
def Q12.s1 (N : Nat) (r_ : TRules) (p_ : TPos) (seed steps : Int) (r0 : Int → ByteArray → Int → Int → Bool → Bool → Int → Int → Int → Int → Int → Int → (List TPiece) → LInt → (List TEnd) → LInt → LInt → LInt → (List TUndo) → Int → (List (LMv × List Int × (Int × Int))) → Option ((List (TMv × (Int × Int))) × Int)) (r1 : Int → Int → (List (LMv × List Int × (Int × Int))) → LMv → (List (TMv × (Int × Int))) → Option ((List (TMv × (Int × Int))) × Int)) (t63_ t64_ : Int) (nodes : (List (LMv × List Int × (Int × Int)))) (m15_ : LMv) (out : (List (TMv × (Int × Int)))) : Option ((List (TMv × (Int × Int))) × Int) :=
 bif (ltI t64_ t63_) then (chk ((leI 0 t64_) && (ltI t64_ (m15_.length : Int))) <|
  bif (!(eqI ((gD (([] : LMv), ([] : List Int), ((0 : Int), (0 : Int))) nodes 0).2.1.length : Int) 0)) then (chk ((leI 0 t64_) && (ltI t64_ ((gD (([] : LMv), ([] : List Int), ((0 : Int), (0 : Int))) nodes 0).2.1.length : Int))) <|
   chk (eqI ((gD (([] : LMv), ([] : List Int), ((0 : Int), (0 : Int))) nodes 0).2.1.length : Int) ((gD (([] : LMv), ([] : List Int), ((0 : Int), (0 : Int))) nodes 0).2.1.length : Int)) <|
   let v14 : Int := (gD (-1 : Int) (gD (([] : LMv), ([] : List Int), ((0 : Int), (0 : Int))) nodes 0).2.1 t64_)
   chk (leI 0 v14) <|
   bothK (chk ((leI 0 t64_) && (ltI t64_ ((gD (([] : LMv), ([] : List Int), ((0 : Int), (0 : Int))) nodes 0).2.1.length : Int))) <|
    bothK (chk (eqI ((gD (([] : LMv), ([] : List Int), ((0 : Int), (0 : Int))) nodes 0).2.1.length : Int) ((gD (([] : LMv), ([] : List Int), ((0 : Int), (0 : Int))) nodes 0).2.1.length : Int)) <|
     let v15 : Int := (gD (-1 : Int) (gD (([] : LMv), ([] : List Int), ((0 : Int), (0 : Int))) nodes 0).2.1 t64_)
     chk (leI 0 v15) <|
     bothK (let v16 : List (TMv × (Int × Int)) := [((gD ((0 : Int), ((0 : Int), (0 : Int))) m15_ t64_), ((gD (([] : LMv), ([] : List Int), ((0 : Int), (0 : Int))) nodes v14).2.2.1, (gD (([] : LMv), ([] : List Int), ((0 : Int), (0 : Int))) nodes v15).2.2.2))]
      chk (capOk 40 (out.length + v16.length)) <|
      r1 t63_ (w64 (t64_ + 1)) nodes m15_ (out ++ v16)) (let v17 : List (TMv × (Int × Int)) := [((gD ((0 : Int), ((0 : Int), (0 : Int))) m15_ t64_), ((gD (([] : LMv), ([] : List Int), ((0 : Int), (0 : Int))) nodes v14).2.2.1, (gD (([] : LMv), ([] : List Int), ((0 : Int), (0 : Int))) nodes v15).2.2.2))]
      chk (capOk 40 (out.length + v17.length)) <|
      r1 t63_ (w64 (t64_ + 1)) nodes m15_ (out ++ v17))) (chk (eqI ((gD (([] : LMv), ([] : List Int), ((0 : Int), (0 : Int))) nodes 0).2.1.length : Int) ((gD (([] : LMv), ([] : List Int), ((0 : Int), (0 : Int))) nodes 0).2.1.length : Int)) <|
     let v18 : Int := (gD (-1 : Int) (gD (([] : LMv), ([] : List Int), ((0 : Int), (0 : Int))) nodes 0).2.1 t64_)
     chk (leI 0 v18) <|
     let v19 : List (TMv × (Int × Int)) := [((gD ((0 : Int), ((0 : Int), (0 : Int))) m15_ t64_), ((gD (([] : LMv), ([] : List Int), ((0 : Int), (0 : Int))) nodes v14).2.2.1, (gD (([] : LMv), ([] : List Int), ((0 : Int), (0 : Int))) nodes v18).2.2.2))]
     chk (capOk 40 (out.length + v19.length)) <|
     r1 t63_ (w64 (t64_ + 1)) nodes m15_ (out ++ v19))) (chk ((leI 0 t64_) && (ltI t64_ ((gD (([] : LMv), ([] : List Int), ((0 : Int), (0 : Int))) nodes 0).2.1.length : Int))) <|
    chk (eqI ((gD (([] : LMv), ([] : List Int), ((0 : Int), (0 : Int))) nodes 0).2.1.length : Int) ((gD (([] : LMv), ([] : List Int), ((0 : Int), (0 : Int))) nodes 0).2.1.length : Int)) <|
    let v20 : Int := (gD (-1 : Int) (gD (([] : LMv), ([] : List Int), ((0 : Int), (0 : Int))) nodes 0).2.1 t64_)
    chk (leI 0 v20) <|
    let v21 : List (TMv × (Int × Int)) := [((gD ((0 : Int), ((0 : Int), (0 : Int))) m15_ t64_), ((gD (([] : LMv), ([] : List Int), ((0 : Int), (0 : Int))) nodes v14).2.2.1, (gD (([] : LMv), ([] : List Int), ((0 : Int), (0 : Int))) nodes v20).2.2.2))]
    chk (capOk 40 (out.length + v21.length)) <|
    r1 t63_ (w64 (t64_ + 1)) nodes m15_ (out ++ v21)))
  else let v22 : List (TMv × (Int × Int)) := [((gD ((0 : Int), ((0 : Int), (0 : Int))) m15_ t64_), (0, 0))]
  chk (capOk 40 (out.length + v22.length)) <|
  r1 t63_ (w64 (t64_ + 1)) nodes m15_ (out ++ v22))
 else some (out, 0)
def Q12.L (N : Nat) (r_ : TRules) (p_ : TPos) (seed steps : Int) : Nat → (Int → ByteArray → Int → Int → Bool → Bool → Int → Int → Int → Int → Int → Int → (List TPiece) → LInt → (List TEnd) → LInt → LInt → LInt → (List TUndo) → Int → (List (LMv × List Int × (Int × Int))) → Option ((List (TMv × (Int × Int))) × Int)) × (Int → Int → (List (LMv × List Int × (Int × Int))) → LMv → (List (TMv × (Int × Int))) → Option ((List (TMv × (Int × Int))) × Int))
 | 0 => (fun _ _ _ _ _ _ _ _ _ _ _ _ _ _ _ _ _ _ _ _ _ => none, fun _ _ _ _ _ => none)
 | n + 1 => (fun t55_ b_ b_2 b_3 b_4 b_5 b_6 b_7 b_8 b_9 b_10 b_11 m4_ m5_ m6_ m7_ m8_ m9_ m10_ m11_ nodes => Q12.s0 N r_ p_ seed steps (Q12.L N r_ p_ seed steps n).1 (Q12.L N r_ p_ seed steps n).2 t55_ b_ b_2 b_3 b_4 b_5 b_6 b_7 b_8 b_9 b_10 b_11 m4_ m5_ m6_ m7_ m8_ m9_ m10_ m11_ nodes, fun t63_ t64_ nodes m15_ out => Q12.s1 N r_ p_ seed steps (Q12.L N r_ p_ seed steps n).1 (Q12.L N r_ p_ seed steps n).2 t63_ t64_ nodes m15_ out)
def Q12.l0 (N : Nat) (r_ : TRules) (p_ : TPos) (seed steps : Int) (n : Nat) : Int → ByteArray → Int → Int → Bool → Bool → Int → Int → Int → Int → Int → Int → (List TPiece) → LInt → (List TEnd) → LInt → LInt → LInt → (List TUndo) → Int → (List (LMv × List Int × (Int × Int))) → Option ((List (TMv × (Int × Int))) × Int) := (Q12.L N r_ p_ seed steps n).1
def Q12.l1 (N : Nat) (r_ : TRules) (p_ : TPos) (seed steps : Int) (n : Nat) : Int → Int → (List (LMv × List Int × (Int × Int))) → LMv → (List (TMv × (Int × Int))) → Option ((List (TMv × (Int × Int))) × Int) := (Q12.L N r_ p_ seed steps n).2
theorem Q12.l0_s (N : Nat) (r_ : TRules) (p_ : TPos) (seed steps : Int) (n : Nat) (t55_ : Int) (b_ : ByteArray) (b_2 b_3 : Int) (b_4 b_5 : Bool) (b_6 b_7 b_8 b_9 b_10 b_11 : Int) (m4_ : (List TPiece)) (m5_ : LInt) (m6_ : (List TEnd)) (m7_ m8_ m9_ : LInt) (m10_ : (List TUndo)) (m11_ : Int) (nodes : (List (LMv × List Int × (Int × Int)))) : Q12.l0 N r_ p_ seed steps (n + 1) t55_ b_ b_2 b_3 b_4 b_5 b_6 b_7 b_8 b_9 b_10 b_11 m4_ m5_ m6_ m7_ m8_ m9_ m10_ m11_ nodes = Q12.s0 N r_ p_ seed steps (Q12.l0 N r_ p_ seed steps n) (Q12.l1 N r_ p_ seed steps n) t55_ b_ b_2 b_3 b_4 b_5 b_6 b_7 b_8 b_9 b_10 b_11 m4_ m5_ m6_ m7_ m8_ m9_ m10_ m11_ nodes := rfl
theorem Q12.l1_s (N : Nat) (r_ : TRules) (p_ : TPos) (seed steps : Int) (n : Nat) (t63_ t64_ : Int) (nodes : (List (LMv × List Int × (Int × Int)))) (m15_ : LMv) (out : (List (TMv × (Int × Int)))) : Q12.l1 N r_ p_ seed steps (n + 1) t63_ t64_ nodes m15_ out = Q12.s1 N r_ p_ seed steps (Q12.l0 N r_ p_ seed steps n) (Q12.l1 N r_ p_ seed steps n) t63_ t64_ nodes m15_ out := rfl
def Q12 (N : Nat) (r_ : TRules) (p_ : TPos) (seed steps : Int) : Option ((List (TMv × (Int × Int))) × Int) := Q12.e N (Q12.l0 N r_ p_ seed steps N) (Q12.l1 N r_ p_ seed steps N) r_ p_ seed steps
def Q31.e (N : Nat) (r0 : Int → Int → Int → (List (TMv × (Int × Int))) → Option (TMv × Int)) (r_ : TRules) (p_ : TPos) (seed steps : Int) : Option (TMv × Int) :=
 (Q12 N r_ p_ seed steps).bind fun y1 =>
 bif (!(eqI y1.2 0)) then (some ((0, (0, 0)), y1.2))
 else bif (eqI steps 0) then (some ((0, (0, 0)), 1))
 else r0 0 (y1.1.length : Int) 0 y1.1
def Q31.s0 (N : Nat) (r_ : TRules) (p_ : TPos) (seed steps : Int) (r0 : Int → Int → Int → (List (TMv × (Int × Int))) → Option (TMv × Int)) (best t33_ t34_ : Int) (l_ : (List (TMv × (Int × Int)))) : Option (TMv × Int) :=
 bif (ltI t34_ t33_) then (chk ((leI 0 t34_) && (ltI t34_ (l_.length : Int))) <|
  chk ((leI 0 best) && (ltI best (l_.length : Int))) <|
  bif (ltI (gD (((0 : Int), ((0 : Int), (0 : Int))), ((0 : Int), (0 : Int))) l_ best).2.1 (gD (((0 : Int), ((0 : Int), (0 : Int))), ((0 : Int), (0 : Int))) l_ t34_).2.1) then (r0 t34_ t33_ (w64 (t34_ + 1)) l_)
  else r0 best t33_ (w64 (t34_ + 1)) l_)
 else chk ((leI 0 best) && (ltI best (l_.length : Int))) <|
 some ((gD (((0 : Int), ((0 : Int), (0 : Int))), ((0 : Int), (0 : Int))) l_ best).1, 0)
def Q31.L (N : Nat) (r_ : TRules) (p_ : TPos) (seed steps : Int) : Nat → (Int → Int → Int → (List (TMv × (Int × Int))) → Option (TMv × Int))
 | 0 => fun _ _ _ _ => none
 | n + 1 => fun best t33_ t34_ l_ => Q31.s0 N r_ p_ seed steps (Q31.L N r_ p_ seed steps n) best t33_ t34_ l_
def Q31.l0 (N : Nat) (r_ : TRules) (p_ : TPos) (seed steps : Int) (n : Nat) : Int → Int → Int → (List (TMv × (Int × Int))) → Option (TMv × Int) := (Q31.L N r_ p_ seed steps n)
theorem Q31.l0_s (N : Nat) (r_ : TRules) (p_ : TPos) (seed steps : Int) (n : Nat) (best t33_ t34_ : Int) (l_ : (List (TMv × (Int × Int)))) : Q31.l0 N r_ p_ seed steps (n + 1) best t33_ t34_ l_ = Q31.s0 N r_ p_ seed steps (Q31.l0 N r_ p_ seed steps n) best t33_ t34_ l_ := rfl
def Q31 (N : Nat) (r_ : TRules) (p_ : TPos) (seed steps : Int) : Option (TMv × Int) := Q31.e N (Q31.l0 N r_ p_ seed steps N) r_ p_ seed steps
def Q44.e (N : Nat) (e_ : Int) : Option Bool :=
 some (!(eqI e_ 0))
def Q44 (N : Nat) (e_ : Int) : Option Bool := Q44.e N e_
def Q73.e (N : Nat) (r0 : Int → Option Int) (s_ : LInt) : Option Int :=
 r0 0
def Q73.s0 (N : Nat) (s_ : LInt) (r0 : Int → Option Int) (t8_ : Int) : Option Int :=
 bif (ltI t8_ (s_.length : Int)) then (chk ((leI 0 t8_) && (ltI t8_ (s_.length : Int))) <|
  (Q44 N (gD (0 : Int) s_ t8_)).bind fun y2 =>
  bif y2 then some t8_
  else r0 (w64 (t8_ + 1)))
 else some (-1)
def Q73.L (N : Nat) (s_ : LInt) : Nat → (Int → Option Int)
 | 0 => fun _ => none
 | n + 1 => fun t8_ => Q73.s0 N s_ (Q73.L N s_ n) t8_
def Q73.l0 (N : Nat) (s_ : LInt) (n : Nat) : Int → Option Int := (Q73.L N s_ n)
theorem Q73.l0_s (N : Nat) (s_ : LInt) (n : Nat) (t8_ : Int) : Q73.l0 N s_ (n + 1) t8_ = Q73.s0 N s_ (Q73.l0 N s_ n) t8_ := rfl
def Q73 (N : Nat) (s_ : LInt) : Option Int := Q73.e N (Q73.l0 N s_ N) s_
def Q43.e (N : Nat) (s_ : LInt) : Option Bool :=
 (Q73 N s_).bind fun y1 =>
 some (leI 0 y1)
def Q43 (N : Nat) (s_ : LInt) : Option Bool := Q43.e N s_
def Q21.e (N : Nat) (l_ : LInt) : Option Bool :=
 (Q43 N l_).bind fun y1 =>
 some (!y1)
def Q21 (N : Nat) (l_ : LInt) : Option Bool := Q21.e N l_
def Q26.e (N : Nat) (s_ : Int) : Option TMv :=
 some ((-1), (s_, 0))
def Q26 (N : Nat) (s_ : Int) : Option TMv := Q26.e N s_
def Q11.e (N : Nat) : Option Bool :=
 (Q24 N).bind fun y1 =>
 (Q25 N).bind fun y2 =>
 (Q12 N y1 y2 5 1).bind fun y3 =>
 (Q24 N).bind fun y4 =>
 (Q25 N).bind fun y5 =>
 (Q31 N y4 y5 5 1).bind fun y6 =>
 (Q13 N 5).bind fun y7 =>
 oCase y7.1 (bif (!(eqI y7.2 0)) then some false
  else some false) fun b8 =>
 bif (!(eqI y7.2 0)) then some false
 else (Q14 N b8 1000000).bind fun y9 =>
 (Q21 N [y3.2, y6.2, y9.2.1]).bind fun y10 =>
 bif y10 then (bif (eqI (y3.1.length : Int) 5) then (chk (true && (ltI 0 (y3.1.length : Int))) <|
   (Q26 N 2).bind fun y12 =>
   bif (((eqI (gD (((0 : Int), ((0 : Int), (0 : Int))), ((0 : Int), (0 : Int))) y3.1 0).1.1 y12.1) && ((eqI (gD (((0 : Int), ((0 : Int), (0 : Int))), ((0 : Int), (0 : Int))) y3.1 0).1.2.1 y12.2.1) && ((eqI (gD (((0 : Int), ((0 : Int), (0 : Int))), ((0 : Int), (0 : Int))) y3.1 0).1.2.2 y12.2.2) && true))) && ((eqI (gD (((0 : Int), ((0 : Int), (0 : Int))), ((0 : Int), (0 : Int))) y3.1 0).2.1 1) && ((eqI (gD (((0 : Int), ((0 : Int), (0 : Int))), ((0 : Int), (0 : Int))) y3.1 0).2.2 2) && true))) then ((Q26 N 2).bind fun y14 =>
    bif ((eqI y6.1.1 y14.1) && ((eqI y6.1.2.1 y14.2.1) && ((eqI y6.1.2.2 y14.2.2) && true))) then ((Q15 N 20481).bind fun y16 =>
     some (eqI y9.1 (w64 (Int.tmod (IntKind.wrap .u64 (Int.tdiv y16 2)) 1000000))))
    else some false)
   else some false)
  else some false)
 else some false
def Q11 (N : Nat) : Option Bool := Q11.e N
def Q4.e (N : Nat) (r0 : Int → Int → (List (TMv × (Int × Int))) → (List (TMv × (Int × Int))) → Option Bool) (r_ : TRules) (p_ : TPos) (seed steps more : Int) : Option Bool :=
 (Q11 N).bind fun y1 =>
 bif (!y1) then some false
 else bif (ltI 12 (p_.1.length : Int)) then some true
 else let v3 : Int := (w64 ((Int.tmod steps 30) + 30))
 (Q12 N r_ p_ seed (Int.tmod v3 30)).bind fun y5 =>
 (Q12 N r_ p_ seed (w64 ((Int.tmod v3 30) + (Int.tmod (w64 ((Int.tmod more 30) + 30)) 30)))).bind fun y7 =>
 bif (!(eqI y5.2 0)) then (bif (eqI y5.2 y7.2) then (some (eqI (w64 ((y5.1.length : Int) + (y7.1.length : Int))) 0))
  else some false)
 else bif (!(eqI y7.2 0)) then some false
 else bif (!(eqI (y5.1.length : Int) (y7.1.length : Int))) then some false
 else r0 (y5.1.length : Int) 0 y5.1 y7.1
def Q4.s0 (N : Nat) (r_ : TRules) (p_ : TPos) (seed steps more : Int) (r0 : Int → Int → (List (TMv × (Int × Int))) → (List (TMv × (Int × Int))) → Option Bool) (t71_ t72_ : Int) (a_ : (List (TMv × (Int × Int)))) (b_ : (List (TMv × (Int × Int)))) : Option Bool :=
 bif (ltI t72_ t71_) then (chk ((leI 0 t72_) && (ltI t72_ (b_.length : Int))) <|
  chk ((leI 0 t72_) && (ltI t72_ (a_.length : Int))) <|
  bif (ltI (gD (((0 : Int), ((0 : Int), (0 : Int))), ((0 : Int), (0 : Int))) b_ t72_).2.1 (gD (((0 : Int), ((0 : Int), (0 : Int))), ((0 : Int), (0 : Int))) a_ t72_).2.1) then some false
  else chk ((leI 0 t72_) && (ltI t72_ (b_.length : Int))) <|
  chk ((leI 0 t72_) && (ltI t72_ (a_.length : Int))) <|
  bif (ltI (gD (((0 : Int), ((0 : Int), (0 : Int))), ((0 : Int), (0 : Int))) b_ t72_).2.2 (gD (((0 : Int), ((0 : Int), (0 : Int))), ((0 : Int), (0 : Int))) a_ t72_).2.2) then some false
  else chk ((leI 0 t72_) && (ltI t72_ (b_.length : Int))) <|
  chk ((leI 0 t72_) && (ltI t72_ (a_.length : Int))) <|
  bif (!((eqI (gD (((0 : Int), ((0 : Int), (0 : Int))), ((0 : Int), (0 : Int))) b_ t72_).1.1 (gD (((0 : Int), ((0 : Int), (0 : Int))), ((0 : Int), (0 : Int))) a_ t72_).1.1) && ((eqI (gD (((0 : Int), ((0 : Int), (0 : Int))), ((0 : Int), (0 : Int))) b_ t72_).1.2.1 (gD (((0 : Int), ((0 : Int), (0 : Int))), ((0 : Int), (0 : Int))) a_ t72_).1.2.1) && ((eqI (gD (((0 : Int), ((0 : Int), (0 : Int))), ((0 : Int), (0 : Int))) b_ t72_).1.2.2 (gD (((0 : Int), ((0 : Int), (0 : Int))), ((0 : Int), (0 : Int))) a_ t72_).1.2.2) && true)))) then some false
  else r0 t71_ (w64 (t72_ + 1)) a_ b_)
 else some true
def Q4.L (N : Nat) (r_ : TRules) (p_ : TPos) (seed steps more : Int) : Nat → (Int → Int → (List (TMv × (Int × Int))) → (List (TMv × (Int × Int))) → Option Bool)
 | 0 => fun _ _ _ _ => none
 | n + 1 => fun t71_ t72_ a_ b_ => Q4.s0 N r_ p_ seed steps more (Q4.L N r_ p_ seed steps more n) t71_ t72_ a_ b_
def Q4.l0 (N : Nat) (r_ : TRules) (p_ : TPos) (seed steps more : Int) (n : Nat) : Int → Int → (List (TMv × (Int × Int))) → (List (TMv × (Int × Int))) → Option Bool := (Q4.L N r_ p_ seed steps more n)
theorem Q4.l0_s (N : Nat) (r_ : TRules) (p_ : TPos) (seed steps more : Int) (n : Nat) (t71_ t72_ : Int) (a_ : (List (TMv × (Int × Int)))) (b_ : (List (TMv × (Int × Int)))) : Q4.l0 N r_ p_ seed steps more (n + 1) t71_ t72_ a_ b_ = Q4.s0 N r_ p_ seed steps more (Q4.l0 N r_ p_ seed steps more n) t71_ t72_ a_ b_ := rfl
def Q4 (N : Nat) (r_ : TRules) (p_ : TPos) (seed steps more : Int) : Option Bool := Q4.e N (Q4.l0 N r_ p_ seed steps more N) r_ p_ seed steps more
end
end Go.Proofs.Ytpielijehhhobaa.Am
