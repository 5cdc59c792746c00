/- PRINTED by gen.py: what the functions compute, as plain Lean functions with fuel. -/
import Derived.Test.YtnddjmhpofhfjaaFnw
set_option linter.unusedVariables false
set_option linter.unusedSimpArgs false
namespace Go.Proofs.Ytnddjmhpofhfjaa.Am
open Go
noncomputable section
def Q45.e (N : Nat) (r0 : Int → ByteArray → Int → Int → Bool → Bool → Int → Int → Int → Int → Int → Int → Int → (List TPiece) → LInt → (List TEnd) → LInt → LInt → LInt → (List TUndo) → Option (Int × (TBoard × Int))) (r1 : Int → Int → ByteArray → Int → Int → Bool → Bool → Int → Int → Int → Int → Int → Int → Int → (List TPiece) → LInt → (List TEnd) → LInt → LInt → LInt → (List TUndo) → Option (Int × (TBoard × Int))) (x_ : (TBoard × Int)) : Option (Int × (TBoard × Int)) :=
 r0 0 x_.1.1.1 x_.1.1.2.1 x_.1.1.2.2.1 x_.1.1.2.2.2.2.2.1 x_.1.1.2.2.2.2.2.2.1 x_.1.1.2.2.2.2.2.2.2.2.1 x_.1.1.2.2.2.2.2.2.2.2.2.1 x_.1.1.2.2.2.2.2.2.2.2.2.2 x_.1.2.1.2.2.1 x_.1.2.1.2.2.2 x_.1.2.2.1 x_.2 x_.1.1.2.2.2.1 x_.1.1.2.2.2.2.1 x_.1.1.2.2.2.2.2.2.2.1 x_.1.2.1.1 x_.1.2.1.2.1.1 x_.1.2.1.2.1.2 x_.1.2.2.2
def Q45.s0 (N : Nat) (x_ : (TBoard × Int)) (r0 : Int → ByteArray → Int → Int → Bool → Bool → Int → Int → Int → Int → Int → Int → Int → (List TPiece) → LInt → (List TEnd) → LInt → LInt → LInt → (List TUndo) → Option (Int × (TBoard × Int))) (r1 : Int → Int → ByteArray → Int → Int → Bool → Bool → Int → Int → Int → Int → Int → Int → Int → (List TPiece) → LInt → (List TEnd) → LInt → LInt → LInt → (List TUndo) → Option (Int × (TBoard × Int))) (n_ : Int) (m1_ : ByteArray) (m1_2 m1_3 : Int) (m1_4 m1_5 : Bool) (m1_6 m1_7 m1_8 m1_9 m1_10 m1_11 m9_ : Int) (m10_ : (List TPiece)) (m11_ : LInt) (m12_ : (List TEnd)) (m13_ m14_ m15_ : LInt) (m16_ : (List TUndo)) : Option (Int × (TBoard × Int)) :=
 bif (ltI n_ 200) then ((Q24 N ((m1_, (m1_2, (m1_3, (m10_, (m11_, (m1_4, (m1_5, (m12_, (m1_6, (m1_7, m1_8)))))))))), ((m13_, ((m14_, m15_), (m1_9, m1_10))), (m1_11, m16_)))).bind fun y1 =>
  bif (eqI (y1.length : Int) 0) then ((Q22 N ((m1_, (m1_2, (m1_3, (m10_, (m11_, (m1_4, (m1_5, (m12_, (m1_6, (m1_7, m1_8)))))))))), ((m13_, ((m14_, m15_), (m1_9, m1_10))), (m1_11, m16_)))).bind fun y3 =>
   r1 n_ y3 m1_ m1_2 m1_3 m1_4 m1_5 m1_6 m1_7 m1_8 m1_9 m1_10 m1_11 m9_ m10_ m11_ m12_ m13_ m14_ m15_ m16_)
  else (Q71 N m9_ (y1.length : Int)).bind fun y4 =>
  chk ((leI 0 y4.1) && (ltI y4.1 (y1.length : Int))) <|
  (Q47 N ((m1_, (m1_2, (m1_3, (m10_, (m11_, (m1_4, (m1_5, (m12_, (m1_6, (m1_7, m1_8)))))))))), ((m13_, ((m14_, m15_), (m1_9, m1_10))), (m1_11, m16_))) (gD dM y1 y4.1)).bind fun y5 =>
  r0 (w64 (n_ + 1)) y5.1.1 y5.1.2.1 y5.1.2.2.1 y5.1.2.2.2.2.2.1 y5.1.2.2.2.2.2.2.1 y5.1.2.2.2.2.2.2.2.2.1 y5.1.2.2.2.2.2.2.2.2.2.1 y5.1.2.2.2.2.2.2.2.2.2.2 y5.2.1.2.2.1 y5.2.1.2.2.2 y5.2.2.1 y4.2.2 y5.1.2.2.2.1 y5.1.2.2.2.2.1 y5.1.2.2.2.2.2.2.2.1 y5.2.1.1 y5.2.1.2.1.1 y5.2.1.2.1.2 y5.2.2.2)
 else (Q22 N ((m1_, (m1_2, (m1_3, (m10_, (m11_, (m1_4, (m1_5, (m12_, (m1_6, (m1_7, m1_8)))))))))), ((m13_, ((m14_, m15_), (m1_9, m1_10))), (m1_11, m16_)))).bind fun y6 =>
 r1 n_ y6 m1_ m1_2 m1_3 m1_4 m1_5 m1_6 m1_7 m1_8 m1_9 m1_10 m1_11 m9_ m10_ m11_ m12_ m13_ m14_ m15_ m16_
def Q45.s1 (N : Nat) (x_ : (TBoard × Int)) (r0 : Int → ByteArray → Int → Int → Bool → Bool → Int → Int → Int → Int → Int → Int → Int → (List TPiece) → LInt → (List TEnd) → LInt → LInt → LInt → (List TUndo) → Option (Int × (TBoard × Int))) (r1 : Int → Int → ByteArray → Int → Int → Bool → Bool → Int → Int → Int → Int → Int → Int → Int → (List TPiece) → LInt → (List TEnd) → LInt → LInt → LInt → (List TUndo) → Option (Int × (TBoard × Int))) (n_ out : Int) (m1_ : ByteArray) (m1_2 m1_3 : Int) (m1_4 m1_5 : Bool) (m1_6 m1_7 m1_8 m1_9 m1_10 m1_11 m9_ : Int) (m10_ : (List TPiece)) (m11_ : LInt) (m12_ : (List TEnd)) (m13_ m14_ m15_ : LInt) (m16_ : (List TUndo)) : Option (Int × (TBoard × Int)) :=
 bif (ltI 0 n_) then ((Q48 N ((m1_, (m1_2, (m1_3, (m10_, (m11_, (m1_4, (m1_5, (m12_, (m1_6, (m1_7, m1_8)))))))))), ((m13_, ((m14_, m15_), (m1_9, m1_10))), (m1_11, m16_)))).bind fun y7 =>
  r1 (w64 (n_ - 1)) out y7.2.1.1 y7.2.1.2.1 y7.2.1.2.2.1 y7.2.1.2.2.2.2.2.1 y7.2.1.2.2.2.2.2.2.1 y7.2.1.2.2.2.2.2.2.2.2.1 y7.2.1.2.2.2.2.2.2.2.2.2.1 y7.2.1.2.2.2.2.2.2.2.2.2.2 y7.2.2.1.2.2.1 y7.2.2.1.2.2.2 y7.2.2.2.1 m9_ y7.2.1.2.2.2.1 y7.2.1.2.2.2.2.1 y7.2.1.2.2.2.2.2.2.2.1 y7.2.2.1.1 y7.2.2.1.2.1.1 y7.2.2.1.2.1.2 y7.2.2.2.2)
 else some (out, (((m1_, (m1_2, (m1_3, (m10_, (m11_, (m1_4, (m1_5, (m12_, (m1_6, (m1_7, m1_8)))))))))), ((m13_, ((m14_, m15_), (m1_9, m1_10))), (m1_11, m16_))), m9_))
def Q45.L (N : Nat) (x_ : (TBoard × Int)) : Nat → (Int → ByteArray → Int → Int → Bool → Bool → Int → Int → Int → Int → Int → Int → Int → (List TPiece) → LInt → (List TEnd) → LInt → LInt → LInt → (List TUndo) → Option (Int × (TBoard × Int))) × (Int → Int → ByteArray → Int → Int → Bool → Bool → Int → Int → Int → Int → Int → Int → Int → (List TPiece) → LInt → (List TEnd) → LInt → LInt → LInt → (List TUndo) → Option (Int × (TBoard × Int)))
 | 0 => (fun _ _ _ _ _ _ _ _ _ _ _ _ _ _ _ _ _ _ _ _ => none, fun _ _ _ _ _ _ _ _ _ _ _ _ _ _ _ _ _ _ _ _ _ => none)
 | n + 1 => (fun n_ m1_ m1_2 m1_3 m1_4 m1_5 m1_6 m1_7 m1_8 m1_9 m1_10 m1_11 m9_ m10_ m11_ m12_ m13_ m14_ m15_ m16_ => Q45.s0 N x_ (Q45.L N x_ n).1 (Q45.L N x_ n).2 n_ m1_ m1_2 m1_3 m1_4 m1_5 m1_6 m1_7 m1_8 m1_9 m1_10 m1_11 m9_ m10_ m11_ m12_ m13_ m14_ m15_ m16_, fun n_ out m1_ m1_2 m1_3 m1_4 m1_5 m1_6 m1_7 m1_8 m1_9 m1_10 m1_11 m9_ m10_ m11_ m12_ m13_ m14_ m15_ m16_ => Q45.s1 N x_ (Q45.L N x_ n).1 (Q45.L N x_ n).2 n_ out m1_ m1_2 m1_3 m1_4 m1_5 m1_6 m1_7 m1_8 m1_9 m1_10 m1_11 m9_ m10_ m11_ m12_ m13_ m14_ m15_ m16_)
def Q45.l0 (N : Nat) (x_ : (TBoard × Int)) (n : Nat) : Int → ByteArray → Int → Int → Bool → Bool → Int → Int → Int → Int → Int → Int → Int → (List TPiece) → LInt → (List TEnd) → LInt → LInt → LInt → (List TUndo) → Option (Int × (TBoard × Int)) := (Q45.L N x_ n).1
def Q45.l1 (N : Nat) (x_ : (TBoard × Int)) (n : Nat) : Int → Int → ByteArray → Int → Int → Bool → Bool → Int → Int → Int → Int → Int → Int → Int → (List TPiece) → LInt → (List TEnd) → LInt → LInt → LInt → (List TUndo) → Option (Int × (TBoard × Int)) := (Q45.L N x_ n).2
theorem Q45.l0_s (N : Nat) (x_ : (TBoard × Int)) (n : Nat) (n_ : Int) (m1_ : ByteArray) (m1_2 m1_3 : Int) (m1_4 m1_5 : Bool) (m1_6 m1_7 m1_8 m1_9 m1_10 m1_11 m9_ : Int) (m10_ : (List TPiece)) (m11_ : LInt) (m12_ : (List TEnd)) (m13_ m14_ m15_ : LInt) (m16_ : (List TUndo)) : Q45.l0 N x_ (n + 1) n_ m1_ m1_2 m1_3 m1_4 m1_5 m1_6 m1_7 m1_8 m1_9 m1_10 m1_11 m9_ m10_ m11_ m12_ m13_ m14_ m15_ m16_ = Q45.s0 N x_ (Q45.l0 N x_ n) (Q45.l1 N x_ n) n_ m1_ m1_2 m1_3 m1_4 m1_5 m1_6 m1_7 m1_8 m1_9 m1_10 m1_11 m9_ m10_ m11_ m12_ m13_ m14_ m15_ m16_ := rfl
theorem Q45.l1_s (N : Nat) (x_ : (TBoard × Int)) (n : Nat) (n_ out : Int) (m1_ : ByteArray) (m1_2 m1_3 : Int) (m1_4 m1_5 : Bool) (m1_6 m1_7 m1_8 m1_9 m1_10 m1_11 m9_ : Int) (m10_ : (List TPiece)) (m11_ : LInt) (m12_ : (List TEnd)) (m13_ m14_ m15_ : LInt) (m16_ : (List TUndo)) : Q45.l1 N x_ (n + 1) n_ out m1_ m1_2 m1_3 m1_4 m1_5 m1_6 m1_7 m1_8 m1_9 m1_10 m1_11 m9_ m10_ m11_ m12_ m13_ m14_ m15_ m16_ = Q45.s1 N x_ (Q45.l0 N x_ n) (Q45.l1 N x_ n) n_ out m1_ m1_2 m1_3 m1_4 m1_5 m1_6 m1_7 m1_8 m1_9 m1_10 m1_11 m9_ m10_ m11_ m12_ m13_ m14_ m15_ m16_ := rfl
def Q45 (N : Nat) (x_ : (TBoard × Int)) : Option (Int × (TBoard × Int)) := Q45.e N (Q45.l0 N x_ N) (Q45.l1 N x_ N) x_
def Q39.e (N : Nat) (b_ : TBoard) : Option Int :=
 some b_.2.1.2.2.1
def Q39 (N : Nat) (b_ : TBoard) : Option Int := Q39.e N b_
def Q49.e (N : Nat) (result player : Int) : Option Int :=
 bif (eqI result (w64 (1 + player))) then some 2
 else bif (eqI result (w64 (2 - player))) then some 0
 else some 1
def Q49 (N : Nat) (result player : Int) : Option Int := Q49.e N result player
def Q72.e (N : Nat) (r0 : Int → Int → Option Int) (n_ : Int) : Option Int :=
 r0 0 1048576
def Q72.s0 (N : Nat) (n_ : Int) (r0 : Int → Int → Option Int) (low high : Int) : Option Int :=
 bif (ltI low high) then (let v1 : Int := (w64 ((w64 (low + high)) + 1))
  bif (leI (w64 ((w64 (Int.tdiv v1 2)) * (w64 (Int.tdiv v1 2)))) n_) then (r0 (w64 (Int.tdiv v1 2)) high)
  else r0 low (w64 ((w64 (Int.tdiv v1 2)) - 1)))
 else some low
def Q72.L (N : Nat) (n_ : Int) : Nat → (Int → Int → Option Int)
 | 0 => fun _ _ => none
 | n + 1 => fun low high => Q72.s0 N n_ (Q72.L N n_ n) low high
def Q72.l0 (N : Nat) (n_ : Int) (n : Nat) : Int → Int → Option Int := (Q72.L N n_ n)
theorem Q72.l0_s (N : Nat) (n_ : Int) (n : Nat) (low high : Int) : Q72.l0 N n_ (n + 1) low high = Q72.s0 N n_ (Q72.l0 N n_ n) low high := rfl
def Q72 (N : Nat) (n_ : Int) : Option Int := Q72.e N (Q72.l0 N n_ N) n_
def Q46.e (N : Nat) (r0 : Int → Int → Int → Int → Option (Int × ((List TWN) × Int))) (n_ : ((List TWN) × Int)) : Option (Int × ((List TWN) × Int)) :=
 chk (leI 0 n_.2) <|
 (Q72 N (w64 (100 * (gD dW n_.1 n_.2).2.2.1))).bind fun y2 =>
 chk (leI 0 n_.2) <|
 r0 (-1) y2 ((gD dW n_.1 n_.2).2.1.length : Int) 0
def Q46.s0 (N : Nat) (n_ : ((List TWN) × Int)) (r0 : Int → Int → Int → Int → Option (Int × ((List TWN) × Int))) (best bonus t17_ t18_ : Int) : Option (Int × ((List TWN) × Int)) :=
 bif (ltI t18_ t17_) then (chk ((leI 0 t18_) && (ltI t18_ ((gD dW n_.1 n_.2).2.1.length : Int))) <|
  chk (eqI ((gD dW n_.1 n_.2).2.1.length : Int) ((gD dW n_.1 n_.2).2.1.length : Int)) <|
  let v4 : Int := (gD (-1 : Int) (gD dW n_.1 n_.2).2.1 t18_)
  chk (leI 0 v4) <|
  bif (eqI (gD dW n_.1 v4).2.2.1 0) then (some (t18_, n_))
  else bif (ltI best 0) then (r0 t18_ bonus t17_ (w64 (t18_ + 1)))
  else chk (leI 0 v4) <|
  chk (leI 0 n_.2) <|
  chk ((leI 0 best) && (ltI best ((gD dW n_.1 n_.2).2.1.length : Int))) <|
  chk (eqI ((gD dW n_.1 n_.2).2.1.length : Int) ((gD dW n_.1 n_.2).2.1.length : Int)) <|
  let v7 : Int := (gD (-1 : Int) (gD dW n_.1 n_.2).2.1 best)
  chk (leI 0 v7) <|
  chk (leI 0 n_.2) <|
  chk ((leI 0 best) && (ltI best ((gD dW n_.1 n_.2).2.1.length : Int))) <|
  chk (eqI ((gD dW n_.1 n_.2).2.1.length : Int) ((gD dW n_.1 n_.2).2.1.length : Int)) <|
  let v9 : Int := (gD (-1 : Int) (gD dW n_.1 n_.2).2.1 best)
  chk (leI 0 v9) <|
  chk (leI 0 v4) <|
  bif (ltI (w64 ((w64 ((w64 (10 * (gD dW n_.1 v9).2.2.2)) + bonus)) * (gD dW n_.1 v4).2.2.1)) (w64 ((w64 ((w64 (10 * (gD dW n_.1 v4).2.2.2)) + bonus)) * (gD dW n_.1 v7).2.2.1))) then (r0 t18_ bonus t17_ (w64 (t18_ + 1)))
  else r0 best bonus t17_ (w64 (t18_ + 1)))
 else some (best, n_)
def Q46.L (N : Nat) (n_ : ((List TWN) × Int)) : Nat → (Int → Int → Int → Int → Option (Int × ((List TWN) × Int)))
 | 0 => fun _ _ _ _ => none
 | n + 1 => fun best bonus t17_ t18_ => Q46.s0 N n_ (Q46.L N n_ n) best bonus t17_ t18_
def Q46.l0 (N : Nat) (n_ : ((List TWN) × Int)) (n : Nat) : Int → Int → Int → Int → Option (Int × ((List TWN) × Int)) := (Q46.L N n_ n)
theorem Q46.l0_s (N : Nat) (n_ : ((List TWN) × Int)) (n : Nat) (best bonus t17_ t18_ : Int) : Q46.l0 N n_ (n + 1) best bonus t17_ t18_ = Q46.s0 N n_ (Q46.l0 N n_ n) best bonus t17_ t18_ := rfl
def Q46 (N : Nat) (n_ : ((List TWN) × Int)) : Option (Int × ((List TWN) × Int)) := Q46.e N (Q46.l0 N n_ N) n_
def Q23.e (N : Nat) (self : (TBoard × Int) → ((List TWN) × Int) → Option (Int × (TBoard × Int) × ((List TWN) × Int))) (r0 : Int → Int → (List TWN) → Option (Int × (TBoard × Int) × ((List TWN) × Int))) (x_ : (TBoard × Int)) (n_ : ((List TWN) × Int)) : Option (Int × (TBoard × Int) × ((List TWN) × Int)) :=
 chk (leI 0 n_.2) <|
 bif (eqI (gD dW n_.1 n_.2).2.2.1 0) then ((Q45 N x_).bind fun y2 =>
  chk (leI 0 n_.2) <|
  chk (leI 0 n_.2) <|
  let v4 : (List TWN) := (n_.1.set n_.2.toNat ((gD dW n_.1 n_.2).1, ((gD dW n_.1 n_.2).2.1, ((w64 ((gD dW n_.1 n_.2).2.2.1 + 1)), (gD dW n_.1 n_.2).2.2.2))))
  chk (leI 0 n_.2) <|
  (Q39 N y2.2.1).bind fun y5 =>
  (Q49 N y2.1 (w64 (1 - y5))).bind fun y6 =>
  chk (leI 0 n_.2) <|
  some (y2.1, (y2.2, ((v4.set n_.2.toNat ((gD dW v4 n_.2).1, ((gD dW v4 n_.2).2.1, ((gD dW v4 n_.2).2.2.1, (w64 ((gD dW v4 n_.2).2.2.2 + y6)))))), n_.2))))
 else (Q22 N x_.1).bind fun y9 =>
 bif (!(eqI y9 0)) then ((Q45 N x_).bind fun y10 =>
  chk (leI 0 n_.2) <|
  chk (leI 0 n_.2) <|
  let v12 : (List TWN) := (n_.1.set n_.2.toNat ((gD dW n_.1 n_.2).1, ((gD dW n_.1 n_.2).2.1, ((w64 ((gD dW n_.1 n_.2).2.2.1 + 1)), (gD dW n_.1 n_.2).2.2.2))))
  chk (leI 0 n_.2) <|
  (Q39 N y10.2.1).bind fun y13 =>
  (Q49 N y10.1 (w64 (1 - y13))).bind fun y14 =>
  chk (leI 0 n_.2) <|
  some (y10.1, (y10.2, ((v12.set n_.2.toNat ((gD dW v12 n_.2).1, ((gD dW v12 n_.2).2.1, ((gD dW v12 n_.2).2.2.1, (w64 ((gD dW v12 n_.2).2.2.2 + y14)))))), n_.2))))
 else chk (leI 0 n_.2) <|
 bif (eqI ((gD dW n_.1 n_.2).2.1.length : Int) 0) then ((Q24 N x_.1).bind fun y18 =>
  chk (leI 0 n_.2) <|
  let v19 : (List TWN) := (n_.1.set n_.2.toNat (y18, (gD dW n_.1 n_.2).2))
  chk (leI 0 n_.2) <|
  r0 ((gD dW v19 n_.2).1.length : Int) 0 v19)
 else (Q46 N n_).bind fun y21 =>
 chk (leI 0 n_.2) <|
 chk ((leI 0 y21.1) && (ltI y21.1 ((gD dW y21.2.1 n_.2).1.length : Int))) <|
 (Q47 N x_.1 (gD dM (gD dW y21.2.1 n_.2).1 y21.1)).bind fun y22 =>
 chk (leI 0 n_.2) <|
 chk ((leI 0 y21.1) && (ltI y21.1 ((gD dW y21.2.1 n_.2).2.1.length : Int))) <|
 chk (eqI ((gD dW y21.2.1 n_.2).2.1.length : Int) ((gD dW y21.2.1 n_.2).2.1.length : Int)) <|
 (self (y22, x_.2) (y21.2.1, (gD (-1 : Int) (gD dW y21.2.1 n_.2).2.1 y21.1))).bind fun y24 =>
 (Q48 N y24.2.1.1).bind fun y25 =>
 chk (leI 0 n_.2) <|
 chk (leI 0 n_.2) <|
 let v27 : (List TWN) := (y24.2.2.1.set n_.2.toNat ((gD dW y24.2.2.1 n_.2).1, ((gD dW y24.2.2.1 n_.2).2.1, ((w64 ((gD dW y24.2.2.1 n_.2).2.2.1 + 1)), (gD dW y24.2.2.1 n_.2).2.2.2))))
 chk (leI 0 n_.2) <|
 (Q39 N y25.2).bind fun y28 =>
 (Q49 N y24.1 (w64 (1 - y28))).bind fun y29 =>
 chk (leI 0 n_.2) <|
 some (y24.1, ((y25.2, y24.2.1.2), ((v27.set n_.2.toNat ((gD dW v27 n_.2).1, ((gD dW v27 n_.2).2.1, ((gD dW v27 n_.2).2.2.1, (w64 ((gD dW v27 n_.2).2.2.2 + y29)))))), n_.2)))
def Q23.s0 (N : Nat) (self : (TBoard × Int) → ((List TWN) × Int) → Option (Int × (TBoard × Int) × ((List TWN) × Int))) (x_ : (TBoard × Int)) (n_ : ((List TWN) × Int)) (r0 : Int → Int → (List TWN) → Option (Int × (TBoard × Int) × ((List TWN) × Int))) (t24_ t25_ : Int) (nodes : (List TWN)) : Option (Int × (TBoard × Int) × ((List TWN) × Int)) :=
 bif (ltI t25_ t24_) then (chk (leI 0 n_.2) <|
  let v32 : (List TWN) := (nodes ++ [([], ([], (0, 0)))])
  chk ((eqI ((gD dW nodes n_.2).2.1.length : Int) ((gD dW v32 n_.2).2.1.length : Int)) && (true && capOk 8 ((gD dW v32 n_.2).2.1.length + 1))) <|
  chk (leI 0 n_.2) <|
  chk ((eqI n_.2 n_.2) && ((eqI n_.2 n_.2) && (eqI (((gD dW nodes n_.2).2.1.length : Int) + 1) (((gD dW v32 n_.2).2.1.length : Int) + 1)))) <|
  r0 t24_ (w64 (t25_ + 1)) (v32.set n_.2.toNat ((gD dW v32 n_.2).1, (((gD dW v32 n_.2).2.1 ++ [(nodes.length : Int)]), (gD dW v32 n_.2).2.2))))
 else (Q46 N (nodes, n_.2)).bind fun y35 =>
 chk (leI 0 n_.2) <|
 chk ((leI 0 y35.1) && (ltI y35.1 ((gD dW y35.2.1 n_.2).1.length : Int))) <|
 (Q47 N x_.1 (gD dM (gD dW y35.2.1 n_.2).1 y35.1)).bind fun y36 =>
 chk (leI 0 n_.2) <|
 chk ((leI 0 y35.1) && (ltI y35.1 ((gD dW y35.2.1 n_.2).2.1.length : Int))) <|
 chk (eqI ((gD dW y35.2.1 n_.2).2.1.length : Int) ((gD dW y35.2.1 n_.2).2.1.length : Int)) <|
 (self (y36, x_.2) (y35.2.1, (gD (-1 : Int) (gD dW y35.2.1 n_.2).2.1 y35.1))).bind fun y38 =>
 (Q48 N y38.2.1.1).bind fun y39 =>
 chk (leI 0 n_.2) <|
 chk (leI 0 n_.2) <|
 let v41 : (List TWN) := (y38.2.2.1.set n_.2.toNat ((gD dW y38.2.2.1 n_.2).1, ((gD dW y38.2.2.1 n_.2).2.1, ((w64 ((gD dW y38.2.2.1 n_.2).2.2.1 + 1)), (gD dW y38.2.2.1 n_.2).2.2.2))))
 chk (leI 0 n_.2) <|
 (Q39 N y39.2).bind fun y42 =>
 (Q49 N y38.1 (w64 (1 - y42))).bind fun y43 =>
 chk (leI 0 n_.2) <|
 some (y38.1, ((y39.2, y38.2.1.2), ((v41.set n_.2.toNat ((gD dW v41 n_.2).1, ((gD dW v41 n_.2).2.1, ((gD dW v41 n_.2).2.2.1, (w64 ((gD dW v41 n_.2).2.2.2 + y43)))))), n_.2)))
def Q23.L (N : Nat) (self : (TBoard × Int) → ((List TWN) × Int) → Option (Int × (TBoard × Int) × ((List TWN) × Int))) (x_ : (TBoard × Int)) (n_ : ((List TWN) × Int)) : Nat → (Int → Int → (List TWN) → Option (Int × (TBoard × Int) × ((List TWN) × Int)))
 | 0 => fun _ _ _ => none
 | n + 1 => fun t24_ t25_ nodes => Q23.s0 N self x_ n_ (Q23.L N self x_ n_ n) t24_ t25_ nodes
def Q23.l0 (N : Nat) (self : (TBoard × Int) → ((List TWN) × Int) → Option (Int × (TBoard × Int) × ((List TWN) × Int))) (x_ : (TBoard × Int)) (n_ : ((List TWN) × Int)) (n : Nat) : Int → Int → (List TWN) → Option (Int × (TBoard × Int) × ((List TWN) × Int)) := (Q23.L N self x_ n_ n)
theorem Q23.l0_s (N : Nat) (self : (TBoard × Int) → ((List TWN) × Int) → Option (Int × (TBoard × Int) × ((List TWN) × Int))) (x_ : (TBoard × Int)) (n_ : ((List TWN) × Int)) (n : Nat) (t24_ t25_ : Int) (nodes : (List TWN)) : Q23.l0 N self x_ n_ (n + 1) t24_ t25_ nodes = Q23.s0 N self x_ n_ (Q23.l0 N self x_ n_ n) t24_ t25_ nodes := rfl
def Q23 : Nat → (TBoard × Int) → ((List TWN) × Int) → Option (Int × (TBoard × Int) × ((List TWN) × Int))
 | 0 => fun _ _ => none
 | N + 1 => fun x_ n_ => Q23.e N (Q23 N) (Q23.l0 N (Q23 N) x_ n_ N) x_ n_
def Q5.e (N : Nat) (r0 : Int → ByteArray → Int → Int → Bool → Bool → Int → Int → Int → Int → Int → Int → (List TPiece) → LInt → (List TEnd) → LInt → LInt → LInt → (List TUndo) → Int → (List TWN) → Option ((List (TMv × (Int × Int))) × Int)) (r1 : Int → Int → (List TWN) → LMv → (List (TMv × (Int × Int))) → Option ((List (TMv × (Int × Int))) × Int)) (r_ : TRules) (p_ : TPos) (seed steps : Int) : Option ((List (TMv × (Int × Int))) × Int) :=
 (Q20 N r_ p_).bind fun y1 =>
 oCase y1.1 (bif (!(eqI y1.2 0)) then (some ([], y1.2))
  else (Q21 N seed).bind fun y3 =>
  oCase y3.1 (bif (!(eqI y3.2 0)) then (some ([], y3.2))
   else bif (ltI steps 0) then (some ([], 1))
   else bif (ltI 2000 steps) then (some ([], 1))
   else none) fun b4 =>
  bif (!(eqI y3.2 0)) then (some ([], y3.2))
  else bif (ltI steps 0) then (some ([], 1))
  else bif (ltI 2000 steps) then (some ([], 1))
  else none) fun b2 =>
 bif (!(eqI y1.2 0)) then (some ([], y1.2))
 else (Q21 N seed).bind fun y5 =>
 oCase y5.1 (bif (!(eqI y5.2 0)) then (some ([], y5.2))
  else bif (ltI steps 0) then (some ([], 1))
  else bif (ltI 2000 steps) then (some ([], 1))
  else (Q22 N b2).bind fun y7 =>
  bif (!(eqI y7 0)) then (some ([], 14))
  else none) fun b6 =>
 bif (!(eqI y5.2 0)) then (some ([], y5.2))
 else bif (ltI steps 0) then (some ([], 1))
 else bif (ltI 2000 steps) then (some ([], 1))
 else (Q22 N b2).bind fun y9 =>
 bif (!(eqI y9 0)) then (some ([], 14))
 else r0 0 b2.1.1 b2.1.2.1 b2.1.2.2.1 b2.1.2.2.2.2.2.1 b2.1.2.2.2.2.2.2.1 b2.1.2.2.2.2.2.2.2.2.1 b2.1.2.2.2.2.2.2.2.2.2.1 b2.1.2.2.2.2.2.2.2.2.2.2 b2.2.1.2.2.1 b2.2.1.2.2.2 b2.2.2.1 b2.1.2.2.2.1 b2.1.2.2.2.2.1 b2.1.2.2.2.2.2.2.2.1 b2.2.1.1 b2.2.1.2.1.1 b2.2.1.2.1.2 b2.2.2.2 b6 [([], ([], (1, 0)))]
def Q5.s0 (N : Nat) (r_ : TRules) (p_ : TPos) (seed steps : Int) (r0 : Int → ByteArray → Int → Int → Bool → Bool → Int → Int → Int → Int → Int → Int → (List TPiece) → LInt → (List TEnd) → LInt → LInt → LInt → (List TUndo) → Int → (List TWN) → Option ((List (TMv × (Int × Int))) × Int)) (r1 : Int → Int → (List TWN) → LMv → (List (TMv × (Int × Int))) → Option ((List (TMv × (Int × Int))) × Int)) (t55_ : Int) (b_ : ByteArray) (b_2 b_3 : Int) (b_4 b_5 : Bool) (b_6 b_7 b_8 b_9 b_10 b_11 : Int) (m4_ : (List TPiece)) (m5_ : LInt) (m6_ : (List TEnd)) (m7_ m8_ m9_ : LInt) (m10_ : (List TUndo)) (m11_ : Int) (nodes : (List TWN)) : Option ((List (TMv × (Int × Int))) × Int) :=
 bif (ltI t55_ steps) then ((Q23 N (((b_, (b_2, (b_3, (m4_, (m5_, (b_4, (b_5, (m6_, (b_6, (b_7, b_8)))))))))), ((m7_, ((m8_, m9_), (b_9, b_10))), (b_11, m10_))), m11_) (nodes, 0)).bind fun y11 =>
  r0 (w64 (t55_ + 1)) y11.2.1.1.1.1 y11.2.1.1.1.2.1 y11.2.1.1.1.2.2.1 y11.2.1.1.1.2.2.2.2.2.1 y11.2.1.1.1.2.2.2.2.2.2.1 y11.2.1.1.1.2.2.2.2.2.2.2.2.1 y11.2.1.1.1.2.2.2.2.2.2.2.2.2.1 y11.2.1.1.1.2.2.2.2.2.2.2.2.2.2 y11.2.1.1.2.1.2.2.1 y11.2.1.1.2.1.2.2.2 y11.2.1.1.2.2.1 y11.2.1.1.1.2.2.2.1 y11.2.1.1.1.2.2.2.2.1 y11.2.1.1.1.2.2.2.2.2.2.2.1 y11.2.1.1.2.1.1 y11.2.1.1.2.1.2.1.1 y11.2.1.1.2.1.2.1.2 y11.2.1.1.2.2.2 y11.2.1.2 y11.2.2.1)
 else (Q24 N ((b_, (b_2, (b_3, (m4_, (m5_, (b_4, (b_5, (m6_, (b_6, (b_7, b_8)))))))))), ((m7_, ((m8_, m9_), (b_9, b_10))), (b_11, m10_)))).bind fun y12 =>
 r1 (y12.length : Int) 0 nodes y12 []
def Q5.s1 (N : Nat) (r_ : TRules) (p_ : TPos) (seed steps : Int) (r0 : Int → ByteArray → Int → Int → Bool → Bool → Int → Int → Int → Int → Int → Int → (List TPiece) → LInt → (List TEnd) → LInt → LInt → LInt → (List TUndo) → Int → (List TWN) → Option ((List (TMv × (Int × Int))) × Int)) (r1 : Int → Int → (List TWN) → LMv → (List (TMv × (Int × Int))) → Option ((List (TMv × (Int × Int))) × Int)) (t63_ t64_ : Int) (nodes : (List TWN)) (m15_ : LMv) (out : (List (TMv × (Int × Int)))) : Option ((List (TMv × (Int × Int))) × Int) :=
 bif (ltI t64_ t63_) then (chk ((leI 0 t64_) && (ltI t64_ (m15_.length : Int))) <|
  bif (!(eqI ((gD dW nodes 0).2.1.length : Int) 0)) then (chk ((leI 0 t64_) && (ltI t64_ ((gD dW nodes 0).2.1.length : Int))) <|
   chk (eqI ((gD dW nodes 0).2.1.length : Int) ((gD dW nodes 0).2.1.length : Int)) <|
   let v14 : Int := (gD (-1 : Int) (gD dW nodes 0).2.1 t64_)
   chk (leI 0 v14) <|
   bothK (chk ((leI 0 t64_) && (ltI t64_ ((gD dW nodes 0).2.1.length : Int))) <|
    bothK (chk (eqI ((gD dW nodes 0).2.1.length : Int) ((gD dW nodes 0).2.1.length : Int)) <|
     let v15 : Int := (gD (-1 : Int) (gD dW nodes 0).2.1 t64_)
     chk (leI 0 v15) <|
     bothK (let v16 : List (TMv × (Int × Int)) := [((gD dM m15_ t64_), ((gD dW nodes v14).2.2.1, (gD dW nodes v15).2.2.2))]
      chk (capOk 40 (out.length + v16.length)) <|
      r1 t63_ (w64 (t64_ + 1)) nodes m15_ (out ++ v16)) (let v17 : List (TMv × (Int × Int)) := [((gD dM m15_ t64_), ((gD dW nodes v14).2.2.1, (gD dW nodes v15).2.2.2))]
      chk (capOk 40 (out.length + v17.length)) <|
      r1 t63_ (w64 (t64_ + 1)) nodes m15_ (out ++ v17))) (chk (eqI ((gD dW nodes 0).2.1.length : Int) ((gD dW nodes 0).2.1.length : Int)) <|
     let v18 : Int := (gD (-1 : Int) (gD dW nodes 0).2.1 t64_)
     chk (leI 0 v18) <|
     let v19 : List (TMv × (Int × Int)) := [((gD dM m15_ t64_), ((gD dW nodes v14).2.2.1, (gD dW nodes v18).2.2.2))]
     chk (capOk 40 (out.length + v19.length)) <|
     r1 t63_ (w64 (t64_ + 1)) nodes m15_ (out ++ v19))) (chk ((leI 0 t64_) && (ltI t64_ ((gD dW nodes 0).2.1.length : Int))) <|
    chk (eqI ((gD dW nodes 0).2.1.length : Int) ((gD dW nodes 0).2.1.length : Int)) <|
    let v20 : Int := (gD (-1 : Int) (gD dW nodes 0).2.1 t64_)
    chk (leI 0 v20) <|
    let v21 : List (TMv × (Int × Int)) := [((gD dM m15_ t64_), ((gD dW nodes v14).2.2.1, (gD dW nodes v20).2.2.2))]
    chk (capOk 40 (out.length + v21.length)) <|
    r1 t63_ (w64 (t64_ + 1)) nodes m15_ (out ++ v21)))
  else let v22 : List (TMv × (Int × Int)) := [((gD dM m15_ t64_), (0, 0))]
  chk (capOk 40 (out.length + v22.length)) <|
  r1 t63_ (w64 (t64_ + 1)) nodes m15_ (out ++ v22))
 else some (out, 0)
def Q5.L (N : Nat) (r_ : TRules) (p_ : TPos) (seed steps : Int) : Nat → (Int → ByteArray → Int → Int → Bool → Bool → Int → Int → Int → Int → Int → Int → (List TPiece) → LInt → (List TEnd) → LInt → LInt → LInt → (List TUndo) → Int → (List TWN) → Option ((List (TMv × (Int × Int))) × Int)) × (Int → Int → (List TWN) → LMv → (List (TMv × (Int × Int))) → Option ((List (TMv × (Int × Int))) × Int))
 | 0 => (fun _ _ _ _ _ _ _ _ _ _ _ _ _ _ _ _ _ _ _ _ _ => none, fun _ _ _ _ _ => none)
 | n + 1 => (fun t55_ b_ b_2 b_3 b_4 b_5 b_6 b_7 b_8 b_9 b_10 b_11 m4_ m5_ m6_ m7_ m8_ m9_ m10_ m11_ nodes => Q5.s0 N r_ p_ seed steps (Q5.L N r_ p_ seed steps n).1 (Q5.L N r_ p_ seed steps n).2 t55_ b_ b_2 b_3 b_4 b_5 b_6 b_7 b_8 b_9 b_10 b_11 m4_ m5_ m6_ m7_ m8_ m9_ m10_ m11_ nodes, fun t63_ t64_ nodes m15_ out => Q5.s1 N r_ p_ seed steps (Q5.L N r_ p_ seed steps n).1 (Q5.L N r_ p_ seed steps n).2 t63_ t64_ nodes m15_ out)
def Q5.l0 (N : Nat) (r_ : TRules) (p_ : TPos) (seed steps : Int) (n : Nat) : Int → ByteArray → Int → Int → Bool → Bool → Int → Int → Int → Int → Int → Int → (List TPiece) → LInt → (List TEnd) → LInt → LInt → LInt → (List TUndo) → Int → (List TWN) → Option ((List (TMv × (Int × Int))) × Int) := (Q5.L N r_ p_ seed steps n).1
def Q5.l1 (N : Nat) (r_ : TRules) (p_ : TPos) (seed steps : Int) (n : Nat) : Int → Int → (List TWN) → LMv → (List (TMv × (Int × Int))) → Option ((List (TMv × (Int × Int))) × Int) := (Q5.L N r_ p_ seed steps n).2
theorem Q5.l0_s (N : Nat) (r_ : TRules) (p_ : TPos) (seed steps : Int) (n : Nat) (t55_ : Int) (b_ : ByteArray) (b_2 b_3 : Int) (b_4 b_5 : Bool) (b_6 b_7 b_8 b_9 b_10 b_11 : Int) (m4_ : (List TPiece)) (m5_ : LInt) (m6_ : (List TEnd)) (m7_ m8_ m9_ : LInt) (m10_ : (List TUndo)) (m11_ : Int) (nodes : (List TWN)) : Q5.l0 N r_ p_ seed steps (n + 1) t55_ b_ b_2 b_3 b_4 b_5 b_6 b_7 b_8 b_9 b_10 b_11 m4_ m5_ m6_ m7_ m8_ m9_ m10_ m11_ nodes = Q5.s0 N r_ p_ seed steps (Q5.l0 N r_ p_ seed steps n) (Q5.l1 N r_ p_ seed steps n) t55_ b_ b_2 b_3 b_4 b_5 b_6 b_7 b_8 b_9 b_10 b_11 m4_ m5_ m6_ m7_ m8_ m9_ m10_ m11_ nodes := rfl
theorem Q5.l1_s (N : Nat) (r_ : TRules) (p_ : TPos) (seed steps : Int) (n : Nat) (t63_ t64_ : Int) (nodes : (List TWN)) (m15_ : LMv) (out : (List (TMv × (Int × Int)))) : Q5.l1 N r_ p_ seed steps (n + 1) t63_ t64_ nodes m15_ out = Q5.s1 N r_ p_ seed steps (Q5.l0 N r_ p_ seed steps n) (Q5.l1 N r_ p_ seed steps n) t63_ t64_ nodes m15_ out := rfl
def Q5 (N : Nat) (r_ : TRules) (p_ : TPos) (seed steps : Int) : Option ((List (TMv × (Int × Int))) × Int) := Q5.e N (Q5.l0 N r_ p_ seed steps N) (Q5.l1 N r_ p_ seed steps N) r_ p_ seed steps
def Q8.e (N : Nat) (s_ : Int) : Option TMv :=
 some ((-1), (s_, 0))
def Q8 (N : Nat) (s_ : Int) : Option TMv := Q8.e N s_
def Q51.e (N : Nat) (r_ : TRules) (p_ : TPos) (depth : Int) : Option ((Option TBoard) × Int) :=
 (Q20 N r_ p_).bind fun y1 =>
 oCase y1.1 (bif (!(eqI y1.2 0)) then (some (none, y1.2))
  else bif (ltI depth 0) then (some (none, 1))
  else bif (ltI 12 depth) then (some (none, 1))
  else some (none, 0)) fun b2 =>
 bif (!(eqI y1.2 0)) then (some (none, y1.2))
 else bif (ltI depth 0) then (some (none, 1))
 else bif (ltI 12 depth) then (some (none, 1))
 else some ((some b2), 0)
def Q51 (N : Nat) (r_ : TRules) (p_ : TPos) (depth : Int) : Option ((Option TBoard) × Int) := Q51.e N r_ p_ depth
def Q52.e (N : Nat) (self : Int → TBoard → Int → Option (Int × Int × TBoard)) (r0 : Int → Int → Int → Int → ByteArray → Int → Int → Bool → Bool → Int → Int → Int → Int → Int → Int → LMv → (List TPiece) → LInt → (List TEnd) → LInt → LInt → LInt → (List TUndo) → Option (Int × Int × TBoard)) (c_ : Int) (b_ : TBoard) (depth : Int) : Option (Int × Int × TBoard) :=
 bif (ltI (w64 (c_ - 1)) 0) then (some (1, ((w64 (c_ - 1)), b_)))
 else bif (eqI depth 0) then (some (1, ((w64 (c_ - 1)), b_)))
 else (Q24 N b_).bind fun y1 =>
 r0 0 (y1.length : Int) 0 (w64 (c_ - 1)) b_.1.1 b_.1.2.1 b_.1.2.2.1 b_.1.2.2.2.2.2.1 b_.1.2.2.2.2.2.2.1 b_.1.2.2.2.2.2.2.2.2.1 b_.1.2.2.2.2.2.2.2.2.2.1 b_.1.2.2.2.2.2.2.2.2.2.2 b_.2.1.2.2.1 b_.2.1.2.2.2 b_.2.2.1 y1 b_.1.2.2.2.1 b_.1.2.2.2.2.1 b_.1.2.2.2.2.2.2.2.1 b_.2.1.1 b_.2.1.2.1.1 b_.2.1.2.1.2 b_.2.2.2
def Q52.s0 (N : Nat) (self : Int → TBoard → Int → Option (Int × Int × TBoard)) (c_ : Int) (b_ : TBoard) (depth : Int) (r0 : Int → Int → Int → Int → ByteArray → Int → Int → Bool → Bool → Int → Int → Int → Int → Int → Int → LMv → (List TPiece) → LInt → (List TEnd) → LInt → LInt → LInt → (List TUndo) → Option (Int × Int × TBoard)) (n_ t28_ t29_ c_2 : Int) (b_2 : ByteArray) (b_3 b_4 : Int) (b_5 b_6 : Bool) (b_7 b_8 b_9 b_10 b_11 b_12 : Int) (m9_ : LMv) (m10_ : (List TPiece)) (m11_ : LInt) (m12_ : (List TEnd)) (m13_ m14_ m15_ : LInt) (m16_ : (List TUndo)) : Option (Int × Int × TBoard) :=
 bif (ltI t29_ t28_) then (chk ((leI 0 t29_) && (ltI t29_ (m9_.length : Int))) <|
  (Q47 N ((b_2, (b_3, (b_4, (m10_, (m11_, (b_5, (b_6, (m12_, (b_7, (b_8, b_9)))))))))), ((m13_, ((m14_, m15_), (b_10, b_11))), (b_12, m16_))) (gD dM m9_ t29_)).bind fun y2 =>
  (self c_2 y2 (w64 (depth - 1))).bind fun y3 =>
  (Q48 N y3.2.2).bind fun y4 =>
  bif (ltI y3.2.1 0) then (some (0, (y3.2.1, y4.2)))
  else r0 (w64 (n_ + y3.1)) t28_ (w64 (t29_ + 1)) y3.2.1 y4.2.1.1 y4.2.1.2.1 y4.2.1.2.2.1 y4.2.1.2.2.2.2.2.1 y4.2.1.2.2.2.2.2.2.1 y4.2.1.2.2.2.2.2.2.2.2.1 y4.2.1.2.2.2.2.2.2.2.2.2.1 y4.2.1.2.2.2.2.2.2.2.2.2.2 y4.2.2.1.2.2.1 y4.2.2.1.2.2.2 y4.2.2.2.1 m9_ y4.2.1.2.2.2.1 y4.2.1.2.2.2.2.1 y4.2.1.2.2.2.2.2.2.2.1 y4.2.2.1.1 y4.2.2.1.2.1.1 y4.2.2.1.2.1.2 y4.2.2.2.2)
 else some (n_, (c_2, ((b_2, (b_3, (b_4, (m10_, (m11_, (b_5, (b_6, (m12_, (b_7, (b_8, b_9)))))))))), ((m13_, ((m14_, m15_), (b_10, b_11))), (b_12, m16_)))))
def Q52.L (N : Nat) (self : Int → TBoard → Int → Option (Int × Int × TBoard)) (c_ : Int) (b_ : TBoard) (depth : Int) : Nat → (Int → Int → Int → Int → ByteArray → Int → Int → Bool → Bool → Int → Int → Int → Int → Int → Int → LMv → (List TPiece) → LInt → (List TEnd) → LInt → LInt → LInt → (List TUndo) → Option (Int × Int × TBoard))
 | 0 => fun _ _ _ _ _ _ _ _ _ _ _ _ _ _ _ _ _ _ _ _ _ _ _ => none
 | n + 1 => fun n_ t28_ t29_ c_2 b_2 b_3 b_4 b_5 b_6 b_7 b_8 b_9 b_10 b_11 b_12 m9_ m10_ m11_ m12_ m13_ m14_ m15_ m16_ => Q52.s0 N self c_ b_ depth (Q52.L N self c_ b_ depth n) n_ t28_ t29_ c_2 b_2 b_3 b_4 b_5 b_6 b_7 b_8 b_9 b_10 b_11 b_12 m9_ m10_ m11_ m12_ m13_ m14_ m15_ m16_
def Q52.l0 (N : Nat) (self : Int → TBoard → Int → Option (Int × Int × TBoard)) (c_ : Int) (b_ : TBoard) (depth : Int) (n : Nat) : Int → Int → Int → Int → ByteArray → Int → Int → Bool → Bool → Int → Int → Int → Int → Int → Int → LMv → (List TPiece) → LInt → (List TEnd) → LInt → LInt → LInt → (List TUndo) → Option (Int × Int × TBoard) := (Q52.L N self c_ b_ depth n)
theorem Q52.l0_s (N : Nat) (self : Int → TBoard → Int → Option (Int × Int × TBoard)) (c_ : Int) (b_ : TBoard) (depth : Int) (n : Nat) (n_ t28_ t29_ c_2 : Int) (b_2 : ByteArray) (b_3 b_4 : Int) (b_5 b_6 : Bool) (b_7 b_8 b_9 b_10 b_11 b_12 : Int) (m9_ : LMv) (m10_ : (List TPiece)) (m11_ : LInt) (m12_ : (List TEnd)) (m13_ m14_ m15_ : LInt) (m16_ : (List TUndo)) : Q52.l0 N self c_ b_ depth (n + 1) n_ t28_ t29_ c_2 b_2 b_3 b_4 b_5 b_6 b_7 b_8 b_9 b_10 b_11 b_12 m9_ m10_ m11_ m12_ m13_ m14_ m15_ m16_ = Q52.s0 N self c_ b_ depth (Q52.l0 N self c_ b_ depth n) n_ t28_ t29_ c_2 b_2 b_3 b_4 b_5 b_6 b_7 b_8 b_9 b_10 b_11 b_12 m9_ m10_ m11_ m12_ m13_ m14_ m15_ m16_ := rfl
def Q52 : Nat → Int → TBoard → Int → Option (Int × Int × TBoard)
 | 0 => fun _ _ _ => none
 | N + 1 => fun c_ b_ depth => Q52.e N (Q52 N) (Q52.l0 N (Q52 N) c_ b_ depth N) c_ b_ depth
def Q25.e (N : Nat) (r_ : TRules) (p_ : TPos) (depth : Int) : Option (Int × Int) :=
 (Q51 N r_ p_ depth).bind fun y1 =>
 oCase y1.1 (bif (!(eqI y1.2 0)) then (some (0, y1.2))
  else none) fun b2 =>
 bif (!(eqI y1.2 0)) then (some (0, y1.2))
 else (Q52 N 50000 b2 depth).bind fun y3 =>
 bif (ltI y3.2.1 0) then (some (0, 17))
 else some ((w64 (50000 - y3.2.1)), 0)
def Q25 (N : Nat) (r_ : TRules) (p_ : TPos) (depth : Int) : Option (Int × Int) := Q25.e N r_ p_ depth
def Q29.e (N : Nat) (r_ : TRules) (p_ : TPos) (depth : Int) : Option Int :=
 (Q25 N r_ p_ depth).bind fun y1 =>
 some y1.2
def Q29 (N : Nat) (r_ : TRules) (p_ : TPos) (depth : Int) : Option Int := Q29.e N r_ p_ depth
def Q57.e (N : Nat) (result turn : Int) : Option Int :=
 (Q61 N turn).bind fun y1 =>
 bif (eqI result y1) then some 1000
 else (Q61 N (w64 (1 - turn))).bind fun y2 =>
 bif (eqI result y2) then (some (-1000))
 else some 0
def Q57 (N : Nat) (result turn : Int) : Option Int := Q57.e N result turn
def Q58.e (N : Nat) (n_ : Int) : Option Int :=
 bif (ltI 0 n_) then (some (w64 (n_ - 1)))
 else bif (ltI n_ 0) then (some (w64 (n_ + 1)))
 else some 0
def Q58 (N : Nat) (n_ : Int) : Option Int := Q58.e N n_
def Q30.e (N : Nat) (self : TBoard → Int → Option (Int × TBoard)) (r0 : Int → Int → Int → ByteArray → Int → Int → Bool → Bool → Int → Int → Int → Int → Int → Int → LMv → (List TPiece) → LInt → (List TEnd) → LInt → LInt → LInt → (List TUndo) → Option (Int × TBoard)) (b_ : TBoard) (depth : Int) : Option (Int × TBoard) :=
 (Q22 N b_).bind fun y1 =>
 bif (!(eqI y1 0)) then ((Q39 N b_).bind fun y2 =>
  (Q57 N y1 y2).bind fun y3 =>
  some (y3, b_))
 else bif (eqI depth 0) then (some (0, b_))
 else (Q24 N b_).bind fun y4 =>
 r0 (-1000) (y4.length : Int) 0 b_.1.1 b_.1.2.1 b_.1.2.2.1 b_.1.2.2.2.2.2.1 b_.1.2.2.2.2.2.2.1 b_.1.2.2.2.2.2.2.2.2.1 b_.1.2.2.2.2.2.2.2.2.2.1 b_.1.2.2.2.2.2.2.2.2.2.2 b_.2.1.2.2.1 b_.2.1.2.2.2 b_.2.2.1 y4 b_.1.2.2.2.1 b_.1.2.2.2.2.1 b_.1.2.2.2.2.2.2.2.1 b_.2.1.1 b_.2.1.2.1.1 b_.2.1.2.1.2 b_.2.2.2
def Q30.s0 (N : Nat) (self : TBoard → Int → Option (Int × TBoard)) (b_ : TBoard) (depth : Int) (r0 : Int → Int → Int → ByteArray → Int → Int → Bool → Bool → Int → Int → Int → Int → Int → Int → LMv → (List TPiece) → LInt → (List TEnd) → LInt → LInt → LInt → (List TUndo) → Option (Int × TBoard)) (best t21_ t22_ : Int) (b_2 : ByteArray) (b_3 b_4 : Int) (b_5 b_6 : Bool) (b_7 b_8 b_9 b_10 b_11 b_12 : Int) (m8_ : LMv) (m9_ : (List TPiece)) (m10_ : LInt) (m11_ : (List TEnd)) (m12_ m13_ m14_ : LInt) (m15_ : (List TUndo)) : Option (Int × TBoard) :=
 bif (ltI t22_ t21_) then (chk ((leI 0 t22_) && (ltI t22_ (m8_.length : Int))) <|
  (Q47 N ((b_2, (b_3, (b_4, (m9_, (m10_, (b_5, (b_6, (m11_, (b_7, (b_8, b_9)))))))))), ((m12_, ((m13_, m14_), (b_10, b_11))), (b_12, m15_))) (gD dM m8_ t22_)).bind fun y5 =>
  (self y5 (w64 (depth - 1))).bind fun y6 =>
  (Q58 N (w64 (0 - y6.1))).bind fun y7 =>
  (Q48 N y6.2).bind fun y9 =>
  r0 (bif (ltI best y7) then y7 else best) t21_ (w64 (t22_ + 1)) y9.2.1.1 y9.2.1.2.1 y9.2.1.2.2.1 y9.2.1.2.2.2.2.2.1 y9.2.1.2.2.2.2.2.2.1 y9.2.1.2.2.2.2.2.2.2.2.1 y9.2.1.2.2.2.2.2.2.2.2.2.1 y9.2.1.2.2.2.2.2.2.2.2.2.2 y9.2.2.1.2.2.1 y9.2.2.1.2.2.2 y9.2.2.2.1 m8_ y9.2.1.2.2.2.1 y9.2.1.2.2.2.2.1 y9.2.1.2.2.2.2.2.2.2.1 y9.2.2.1.1 y9.2.2.1.2.1.1 y9.2.2.1.2.1.2 y9.2.2.2.2)
 else some (best, ((b_2, (b_3, (b_4, (m9_, (m10_, (b_5, (b_6, (m11_, (b_7, (b_8, b_9)))))))))), ((m12_, ((m13_, m14_), (b_10, b_11))), (b_12, m15_))))
def Q30.L (N : Nat) (self : TBoard → Int → Option (Int × TBoard)) (b_ : TBoard) (depth : Int) : Nat → (Int → Int → Int → ByteArray → Int → Int → Bool → Bool → Int → Int → Int → Int → Int → Int → LMv → (List TPiece) → LInt → (List TEnd) → LInt → LInt → LInt → (List TUndo) → Option (Int × TBoard))
 | 0 => fun _ _ _ _ _ _ _ _ _ _ _ _ _ _ _ _ _ _ _ _ _ _ => none
 | n + 1 => fun best t21_ t22_ b_2 b_3 b_4 b_5 b_6 b_7 b_8 b_9 b_10 b_11 b_12 m8_ m9_ m10_ m11_ m12_ m13_ m14_ m15_ => Q30.s0 N self b_ depth (Q30.L N self b_ depth n) best t21_ t22_ b_2 b_3 b_4 b_5 b_6 b_7 b_8 b_9 b_10 b_11 b_12 m8_ m9_ m10_ m11_ m12_ m13_ m14_ m15_
def Q30.l0 (N : Nat) (self : TBoard → Int → Option (Int × TBoard)) (b_ : TBoard) (depth : Int) (n : Nat) : Int → Int → Int → ByteArray → Int → Int → Bool → Bool → Int → Int → Int → Int → Int → Int → LMv → (List TPiece) → LInt → (List TEnd) → LInt → LInt → LInt → (List TUndo) → Option (Int × TBoard) := (Q30.L N self b_ depth n)
theorem Q30.l0_s (N : Nat) (self : TBoard → Int → Option (Int × TBoard)) (b_ : TBoard) (depth : Int) (n : Nat) (best t21_ t22_ : Int) (b_2 : ByteArray) (b_3 b_4 : Int) (b_5 b_6 : Bool) (b_7 b_8 b_9 b_10 b_11 b_12 : Int) (m8_ : LMv) (m9_ : (List TPiece)) (m10_ : LInt) (m11_ : (List TEnd)) (m12_ m13_ m14_ : LInt) (m15_ : (List TUndo)) : Q30.l0 N self b_ depth (n + 1) best t21_ t22_ b_2 b_3 b_4 b_5 b_6 b_7 b_8 b_9 b_10 b_11 b_12 m8_ m9_ m10_ m11_ m12_ m13_ m14_ m15_ = Q30.s0 N self b_ depth (Q30.l0 N self b_ depth n) best t21_ t22_ b_2 b_3 b_4 b_5 b_6 b_7 b_8 b_9 b_10 b_11 b_12 m8_ m9_ m10_ m11_ m12_ m13_ m14_ m15_ := rfl
def Q30 : Nat → TBoard → Int → Option (Int × TBoard)
 | 0 => fun _ _ => none
 | N + 1 => fun b_ depth => Q30.e N (Q30 N) (Q30.l0 N (Q30 N) b_ depth N) b_ depth
def Q13.e (N : Nat) (r_ : TRules) (p_ : TPos) (depth : Int) : Option (Int × Int) :=
 (Q29 N r_ p_ depth).bind fun y1 =>
 bif (!(eqI y1 0)) then (some (0, y1))
 else (Q20 N r_ p_).bind fun y2 =>
 oCase y2.1 none fun b3 =>
 (Q30 N b3 depth).bind fun y4 =>
 some (y4.1, 0)
def Q13 (N : Nat) (r_ : TRules) (p_ : TPos) (depth : Int) : Option (Int × Int) := Q13.e N r_ p_ depth
def Q32.e (N : Nat) (e_ : Int) : Option Bool :=
 some (!(eqI e_ 0))
def Q32 (N : Nat) (e_ : Int) : Option Bool := Q32.e N e_
def Q59.e (N : Nat) (r0 : Int → Option Int) (s_ : LInt) : Option Int :=
 r0 0
def Q59.s0 (N : Nat) (s_ : LInt) (r0 : Int → Option Int) (t8_ : Int) : Option Int :=
 bif (ltI t8_ (s_.length : Int)) then (chk ((leI 0 t8_) && (ltI t8_ (s_.length : Int))) <|
  (Q32 N (gD (0 : Int) s_ t8_)).bind fun y2 =>
  bif y2 then some t8_
  else r0 (w64 (t8_ + 1)))
 else some (-1)
def Q59.L (N : Nat) (s_ : LInt) : Nat → (Int → Option Int)
 | 0 => fun _ => none
 | n + 1 => fun t8_ => Q59.s0 N s_ (Q59.L N s_ n) t8_
def Q59.l0 (N : Nat) (s_ : LInt) (n : Nat) : Int → Option Int := (Q59.L N s_ n)
theorem Q59.l0_s (N : Nat) (s_ : LInt) (n : Nat) (t8_ : Int) : Q59.l0 N s_ (n + 1) t8_ = Q59.s0 N s_ (Q59.l0 N s_ n) t8_ := rfl
def Q59 (N : Nat) (s_ : LInt) : Option Int := Q59.e N (Q59.l0 N s_ N) s_
def Q31.e (N : Nat) (s_ : LInt) : Option Bool :=
 (Q59 N s_).bind fun y1 =>
 some (leI 0 y1)
def Q31 (N : Nat) (s_ : LInt) : Option Bool := Q31.e N s_
def Q14.e (N : Nat) (l_ : LInt) : Option Bool :=
 (Q31 N l_).bind fun y1 =>
 some (!y1)
def Q14 (N : Nat) (l_ : LInt) : Option Bool := Q14.e N l_
def Q53.e (N : Nat) (r0 : Int → Option Bool) (s1_ s2_ : LInt) : Option Bool :=
 bif (!(eqI (s1_.length : Int) (s2_.length : Int))) then some false
 else r0 0
def Q53.s0 (N : Nat) (s1_ s2_ : LInt) (r0 : Int → Option Bool) (t13_ : Int) : Option Bool :=
 bif (ltI t13_ (s1_.length : Int)) then (chk ((leI 0 t13_) && (ltI t13_ (s1_.length : Int))) <|
  chk ((leI 0 t13_) && (ltI t13_ (s2_.length : Int))) <|
  bif (!(eqI (gD (0 : Int) s1_ t13_) (gD (0 : Int) s2_ t13_))) then some false
  else r0 (w64 (t13_ + 1)))
 else some true
def Q53.L (N : Nat) (s1_ s2_ : LInt) : Nat → (Int → Option Bool)
 | 0 => fun _ => none
 | n + 1 => fun t13_ => Q53.s0 N s1_ s2_ (Q53.L N s1_ s2_ n) t13_
def Q53.l0 (N : Nat) (s1_ s2_ : LInt) (n : Nat) : Int → Option Bool := (Q53.L N s1_ s2_ n)
theorem Q53.l0_s (N : Nat) (s1_ s2_ : LInt) (n : Nat) (t13_ : Int) : Q53.l0 N s1_ s2_ (n + 1) t13_ = Q53.s0 N s1_ s2_ (Q53.l0 N s1_ s2_ n) t13_ := rfl
def Q53 (N : Nat) (s1_ s2_ : LInt) : Option Bool := Q53.e N (Q53.l0 N s1_ s2_ N) s1_ s2_
def Q26.e (N : Nat) (p_ q_ : TPos) : Option Bool :=
 bif (eqI p_.2.2.1 q_.2.2.1) then ((Q53 N p_.1 q_.1).bind fun y1 =>
  bif y1 then ((Q53 N p_.2.1.1 q_.2.1.1).bind fun y2 =>
   bif y2 then ((Q53 N p_.2.1.2 q_.2.1.2).bind fun y3 =>
    some y3)
   else some false)
  else some false)
 else some false
def Q26 (N : Nat) (p_ q_ : TPos) : Option Bool := Q26.e N p_ q_
def Q9.e (N : Nat) : Option Bool :=
 (Q6 N).bind fun y1 =>
 (Q7 N).bind fun y2 =>
 (Q13 N y1 y2 1).bind fun y3 =>
 (Q6 N).bind fun y4 =>
 (Q7 N).bind fun y5 =>
 (Q25 N y4 y5 1).bind fun y6 =>
 (Q14 N [y3.2, y6.2]).bind fun y7 =>
 bif y7 then (bif (eqI y3.1 999) then (bif (eqI y6.1 6) then ((Q7 N).bind fun y8 =>
    (Q7 N).bind fun y9 =>
    (Q26 N y8 y9).bind fun y10 =>
    some y10)
   else some false)
  else some false)
 else some false
def Q9 (N : Nat) : Option Bool := Q9.e N
def Q10.e (N : Nat) (r0 : Int → Int → Int → (List (TMv × (Int × Int))) → Option (TMv × Int)) (r_ : TRules) (p_ : TPos) (seed steps : Int) : Option (TMv × Int) :=
 (Q5 N r_ p_ seed steps).bind fun y1 =>
 bif (!(eqI y1.2 0)) then (some ((0, (0, 0)), y1.2))
 else bif (eqI steps 0) then (some ((0, (0, 0)), 1))
 else r0 0 (y1.1.length : Int) 0 y1.1
def Q10.s0 (N : Nat) (r_ : TRules) (p_ : TPos) (seed steps : Int) (r0 : Int → Int → Int → (List (TMv × (Int × Int))) → Option (TMv × Int)) (best t33_ t34_ : Int) (l_ : (List (TMv × (Int × Int)))) : Option (TMv × Int) :=
 bif (ltI t34_ t33_) then (chk ((leI 0 t34_) && (ltI t34_ (l_.length : Int))) <|
  chk ((leI 0 best) && (ltI best (l_.length : Int))) <|
  bif (ltI (gD dV l_ best).2.1 (gD dV l_ t34_).2.1) then (r0 t34_ t33_ (w64 (t34_ + 1)) l_)
  else r0 best t33_ (w64 (t34_ + 1)) l_)
 else chk ((leI 0 best) && (ltI best (l_.length : Int))) <|
 some ((gD dV l_ best).1, 0)
def Q10.L (N : Nat) (r_ : TRules) (p_ : TPos) (seed steps : Int) : Nat → (Int → Int → Int → (List (TMv × (Int × Int))) → Option (TMv × Int))
 | 0 => fun _ _ _ _ => none
 | n + 1 => fun best t33_ t34_ l_ => Q10.s0 N r_ p_ seed steps (Q10.L N r_ p_ seed steps n) best t33_ t34_ l_
def Q10.l0 (N : Nat) (r_ : TRules) (p_ : TPos) (seed steps : Int) (n : Nat) : Int → Int → Int → (List (TMv × (Int × Int))) → Option (TMv × Int) := (Q10.L N r_ p_ seed steps n)
theorem Q10.l0_s (N : Nat) (r_ : TRules) (p_ : TPos) (seed steps : Int) (n : Nat) (best t33_ t34_ : Int) (l_ : (List (TMv × (Int × Int)))) : Q10.l0 N r_ p_ seed steps (n + 1) best t33_ t34_ l_ = Q10.s0 N r_ p_ seed steps (Q10.l0 N r_ p_ seed steps n) best t33_ t34_ l_ := rfl
def Q10 (N : Nat) (r_ : TRules) (p_ : TPos) (seed steps : Int) : Option (TMv × Int) := Q10.e N (Q10.l0 N r_ p_ seed steps N) r_ p_ seed steps
def Q11.e (N : Nat) (r_ : TRules) (p_ : TPos) (depth : Int) : Option Bool :=
 (Q25 N r_ p_ depth).bind fun y1 =>
 bif (eqI y1.2 17) then some true
 else bif (ltI 2000 y1.1) then some true
 else some (ltI 16 (p_.1.length : Int))
def Q11 (N : Nat) (r_ : TRules) (p_ : TPos) (depth : Int) : Option Bool := Q11.e N r_ p_ depth
def Q80.e (N : Nat) (r0 : Int → Option Int) (s_ : LMv) (v_ : TMv) : Option Int :=
 r0 0
def Q80.s0 (N : Nat) (s_ : LMv) (v_ : TMv) (r0 : Int → Option Int) (t8_ : Int) : Option Int :=
 bif (ltI t8_ (s_.length : Int)) then (chk ((leI 0 t8_) && (ltI t8_ (s_.length : Int))) <|
  bif ((eqI v_.1 (gD dM s_ t8_).1) && ((eqI v_.2.1 (gD dM s_ t8_).2.1) && ((eqI v_.2.2 (gD dM s_ t8_).2.2) && true))) then some t8_
  else r0 (w64 (t8_ + 1)))
 else some (-1)
def Q80.L (N : Nat) (s_ : LMv) (v_ : TMv) : Nat → (Int → Option Int)
 | 0 => fun _ => none
 | n + 1 => fun t8_ => Q80.s0 N s_ v_ (Q80.L N s_ v_ n) t8_
def Q80.l0 (N : Nat) (s_ : LMv) (v_ : TMv) (n : Nat) : Int → Option Int := (Q80.L N s_ v_ n)
theorem Q80.l0_s (N : Nat) (s_ : LMv) (v_ : TMv) (n : Nat) (t8_ : Int) : Q80.l0 N s_ v_ (n + 1) t8_ = Q80.s0 N s_ v_ (Q80.l0 N s_ v_ n) t8_ := rfl
def Q80 (N : Nat) (s_ : LMv) (v_ : TMv) : Option Int := Q80.e N (Q80.l0 N s_ v_ N) s_ v_
def Q54.e (N : Nat) (s_ : LMv) (v_ : TMv) : Option Bool :=
 (Q80 N s_ v_).bind fun y1 =>
 some (leI 0 y1)
def Q54 (N : Nat) (s_ : LMv) (v_ : TMv) : Option Bool := Q54.e N s_ v_
def Q27.e (N : Nat) (r_ : TRules) (p_ : TPos) (m_ : TMv) : Option (Bool × Int) :=
 (Q36 N r_ p_).bind fun y1 =>
 bif (!(eqI y1 0)) then (some (false, y1))
 else (Q50 N r_ p_).bind fun y2 =>
 (Q54 N y2 m_).bind fun y3 =>
 some (y3, 0)
def Q27 (N : Nat) (r_ : TRules) (p_ : TPos) (m_ : TMv) : Option (Bool × Int) := Q27.e N r_ p_ m_
def Q28.e (N : Nat) (r_ : TRules) (p_ : TPos) (m_ : TMv) : Option TPos :=
 (Q43 N p_).bind fun y1 =>
 bif (ltI m_.1 0) then (bif (eqI p_.2.2.1 0) then (chk ((leI 0 m_.2.2) && (ltI m_.2.2 (y1.2.1.1.length : Int))) <|
   chk ((leI 0 m_.2.2) && (ltI m_.2.2 (y1.2.1.1.length : Int))) <|
   let v4 : List Int := (y1.2.1.1.set m_.2.2.toNat (w64 ((gD (0 : Int) y1.2.1.1 m_.2.2) - 1)))
   chk ((leI 0 m_.2.1) && (ltI m_.2.1 (p_.1.length : Int))) <|
   bif (!(eqI (gD (0 : Int) p_.1 m_.2.1) 0)) then (bif (eqI p_.2.2.1 0) then (bif r_.2.2.2.2.2.2.1 then ((Q55 N (gD (0 : Int) p_.1 m_.2.1)).bind fun y6 =>
      (Q55 N (gD (0 : Int) p_.1 m_.2.1)).bind fun y7 =>
      chk ((leI 0 y7) && (ltI y7 (v4.length : Int))) <|
      let v8 : Int := (w64 ((gD (0 : Int) v4 y7) + 1))
      chk ((leI 0 y6) && (ltI y6 (v4.length : Int))) <|
      (Q56 N m_.2.2 p_.2.2.1).bind fun y10 =>
      chk ((leI 0 m_.2.1) && (ltI m_.2.1 (y1.1.length : Int))) <|
      some ((y1.1.set m_.2.1.toNat y10), (((v4.set y6.toNat (bif (ltI 1000 v8) then 1000 else v8)), y1.2.1.2), ((w64 (1 - p_.2.2.1)), 0))))
     else (Q56 N m_.2.2 p_.2.2.1).bind fun y12 =>
     chk ((leI 0 m_.2.1) && (ltI m_.2.1 (y1.1.length : Int))) <|
     some ((y1.1.set m_.2.1.toNat y12), ((v4, y1.2.1.2), ((w64 (1 - p_.2.2.1)), 0))))
    else bif (eqI p_.2.2.1 1) then (bif r_.2.2.2.2.2.2.1 then ((Q55 N (gD (0 : Int) p_.1 m_.2.1)).bind fun y14 =>
      (Q55 N (gD (0 : Int) p_.1 m_.2.1)).bind fun y15 =>
      chk ((leI 0 y15) && (ltI y15 (y1.2.1.2.length : Int))) <|
      let v16 : Int := (w64 ((gD (0 : Int) y1.2.1.2 y15) + 1))
      chk ((leI 0 y14) && (ltI y14 (y1.2.1.2.length : Int))) <|
      (Q56 N m_.2.2 p_.2.2.1).bind fun y19 =>
      chk ((leI 0 m_.2.1) && (ltI m_.2.1 (y1.1.length : Int))) <|
      some ((y1.1.set m_.2.1.toNat y19), ((v4, (y1.2.1.2.set y14.toNat (bif (ltI 1000 v16) then 1000 else v16))), ((w64 (1 - p_.2.2.1)), 0))))
     else (Q56 N m_.2.2 p_.2.2.1).bind fun y21 =>
     chk ((leI 0 m_.2.1) && (ltI m_.2.1 (y1.1.length : Int))) <|
     some ((y1.1.set m_.2.1.toNat y21), ((v4, y1.2.1.2), ((w64 (1 - p_.2.2.1)), 0))))
    else none)
   else (Q56 N m_.2.2 p_.2.2.1).bind fun y23 =>
   chk ((leI 0 m_.2.1) && (ltI m_.2.1 (y1.1.length : Int))) <|
   some ((y1.1.set m_.2.1.toNat y23), ((v4, y1.2.1.2), ((w64 (1 - p_.2.2.1)), 0))))
  else bif (eqI p_.2.2.1 1) then (chk ((leI 0 m_.2.2) && (ltI m_.2.2 (y1.2.1.2.length : Int))) <|
   chk ((leI 0 m_.2.2) && (ltI m_.2.2 (y1.2.1.2.length : Int))) <|
   let v26 : List Int := (y1.2.1.2.set m_.2.2.toNat (w64 ((gD (0 : Int) y1.2.1.2 m_.2.2) - 1)))
   chk ((leI 0 m_.2.1) && (ltI m_.2.1 (p_.1.length : Int))) <|
   bif (!(eqI (gD (0 : Int) p_.1 m_.2.1) 0)) then (bif (eqI p_.2.2.1 0) then (bif r_.2.2.2.2.2.2.1 then ((Q55 N (gD (0 : Int) p_.1 m_.2.1)).bind fun y28 =>
      (Q55 N (gD (0 : Int) p_.1 m_.2.1)).bind fun y29 =>
      chk ((leI 0 y29) && (ltI y29 (y1.2.1.1.length : Int))) <|
      let v30 : Int := (w64 ((gD (0 : Int) y1.2.1.1 y29) + 1))
      chk ((leI 0 y28) && (ltI y28 (y1.2.1.1.length : Int))) <|
      (Q56 N m_.2.2 p_.2.2.1).bind fun y33 =>
      chk ((leI 0 m_.2.1) && (ltI m_.2.1 (y1.1.length : Int))) <|
      some ((y1.1.set m_.2.1.toNat y33), (((y1.2.1.1.set y28.toNat (bif (ltI 1000 v30) then 1000 else v30)), v26), ((w64 (1 - p_.2.2.1)), 0))))
     else (Q56 N m_.2.2 p_.2.2.1).bind fun y35 =>
     chk ((leI 0 m_.2.1) && (ltI m_.2.1 (y1.1.length : Int))) <|
     some ((y1.1.set m_.2.1.toNat y35), ((y1.2.1.1, v26), ((w64 (1 - p_.2.2.1)), 0))))
    else bif (eqI p_.2.2.1 1) then (bif r_.2.2.2.2.2.2.1 then ((Q55 N (gD (0 : Int) p_.1 m_.2.1)).bind fun y37 =>
      (Q55 N (gD (0 : Int) p_.1 m_.2.1)).bind fun y38 =>
      chk ((leI 0 y38) && (ltI y38 (v26.length : Int))) <|
      let v39 : Int := (w64 ((gD (0 : Int) v26 y38) + 1))
      chk ((leI 0 y37) && (ltI y37 (v26.length : Int))) <|
      (Q56 N m_.2.2 p_.2.2.1).bind fun y41 =>
      chk ((leI 0 m_.2.1) && (ltI m_.2.1 (y1.1.length : Int))) <|
      some ((y1.1.set m_.2.1.toNat y41), ((y1.2.1.1, (v26.set y37.toNat (bif (ltI 1000 v39) then 1000 else v39))), ((w64 (1 - p_.2.2.1)), 0))))
     else (Q56 N m_.2.2 p_.2.2.1).bind fun y43 =>
     chk ((leI 0 m_.2.1) && (ltI m_.2.1 (y1.1.length : Int))) <|
     some ((y1.1.set m_.2.1.toNat y43), ((y1.2.1.1, v26), ((w64 (1 - p_.2.2.1)), 0))))
    else none)
   else (Q56 N m_.2.2 p_.2.2.1).bind fun y45 =>
   chk ((leI 0 m_.2.1) && (ltI m_.2.1 (y1.1.length : Int))) <|
   some ((y1.1.set m_.2.1.toNat y45), ((y1.2.1.1, v26), ((w64 (1 - p_.2.2.1)), 0))))
  else none)
 else chk ((leI 0 m_.1) && (ltI m_.1 (y1.1.length : Int))) <|
 chk ((leI 0 m_.2.1) && (ltI m_.2.1 (p_.1.length : Int))) <|
 bif (!(eqI (gD (0 : Int) p_.1 m_.2.1) 0)) then (bif (eqI p_.2.2.1 0) then (bif r_.2.2.2.2.2.2.1 then ((Q55 N (gD (0 : Int) p_.1 m_.2.1)).bind fun y48 =>
    (Q55 N (gD (0 : Int) p_.1 m_.2.1)).bind fun y49 =>
    chk ((leI 0 y49) && (ltI y49 (y1.2.1.1.length : Int))) <|
    let v50 : Int := (w64 ((gD (0 : Int) y1.2.1.1 y49) + 1))
    chk ((leI 0 y48) && (ltI y48 (y1.2.1.1.length : Int))) <|
    (Q56 N m_.2.2 p_.2.2.1).bind fun y53 =>
    chk ((leI 0 m_.2.1) && (ltI m_.2.1 ((y1.1.set m_.1.toNat 0).length : Int))) <|
    some (((y1.1.set m_.1.toNat 0).set m_.2.1.toNat y53), (((y1.2.1.1.set y48.toNat (bif (ltI 1000 v50) then 1000 else v50)), y1.2.1.2), ((w64 (1 - p_.2.2.1)), 0))))
   else (Q56 N m_.2.2 p_.2.2.1).bind fun y55 =>
   chk ((leI 0 m_.2.1) && (ltI m_.2.1 ((y1.1.set m_.1.toNat 0).length : Int))) <|
   some (((y1.1.set m_.1.toNat 0).set m_.2.1.toNat y55), (y1.2.1, ((w64 (1 - p_.2.2.1)), 0))))
  else bif (eqI p_.2.2.1 1) then (bif r_.2.2.2.2.2.2.1 then ((Q55 N (gD (0 : Int) p_.1 m_.2.1)).bind fun y57 =>
    (Q55 N (gD (0 : Int) p_.1 m_.2.1)).bind fun y58 =>
    chk ((leI 0 y58) && (ltI y58 (y1.2.1.2.length : Int))) <|
    let v59 : Int := (w64 ((gD (0 : Int) y1.2.1.2 y58) + 1))
    chk ((leI 0 y57) && (ltI y57 (y1.2.1.2.length : Int))) <|
    (Q56 N m_.2.2 p_.2.2.1).bind fun y62 =>
    chk ((leI 0 m_.2.1) && (ltI m_.2.1 ((y1.1.set m_.1.toNat 0).length : Int))) <|
    some (((y1.1.set m_.1.toNat 0).set m_.2.1.toNat y62), ((y1.2.1.1, (y1.2.1.2.set y57.toNat (bif (ltI 1000 v59) then 1000 else v59))), ((w64 (1 - p_.2.2.1)), 0))))
   else (Q56 N m_.2.2 p_.2.2.1).bind fun y64 =>
   chk ((leI 0 m_.2.1) && (ltI m_.2.1 ((y1.1.set m_.1.toNat 0).length : Int))) <|
   some (((y1.1.set m_.1.toNat 0).set m_.2.1.toNat y64), (y1.2.1, ((w64 (1 - p_.2.2.1)), 0))))
  else none)
 else (Q56 N m_.2.2 p_.2.2.1).bind fun y66 =>
 chk ((leI 0 m_.2.1) && (ltI m_.2.1 ((y1.1.set m_.1.toNat 0).length : Int))) <|
 some (((y1.1.set m_.1.toNat 0).set m_.2.1.toNat y66), (y1.2.1, ((w64 (1 - p_.2.2.1)), (bif (ltI 200 (w64 (p_.2.2.2 + 1))) then 200 else (w64 (p_.2.2.2 + 1))))))
def Q28 (N : Nat) (r_ : TRules) (p_ : TPos) (m_ : TMv) : Option TPos := Q28.e N r_ p_ m_
def Q12.e (N : Nat) (r_ : TRules) (p_ : TPos) (m_ : TMv) : Option (TPos × Int) :=
 (Q27 N r_ p_ m_).bind fun y1 =>
 bif (!(eqI y1.2 0)) then (some (([], (([], []), (0, 0))), y1.2))
 else bif (!y1.1) then (some (([], (([], []), (0, 0))), 13))
 else (Q28 N r_ p_ m_).bind fun y2 =>
 some (y2, 0)
def Q12 (N : Nat) (r_ : TRules) (p_ : TPos) (m_ : TMv) : Option (TPos × Int) := Q12.e N r_ p_ m_
def Q33.e (N : Nat) (r0 : Int → Option Int) (s_ : (List (TMv × (Int × Int)))) (f_ : (TMv × (Int × Int))) : Option Int :=
 r0 0
def Q33.s0 (N : Nat) (s_ : (List (TMv × (Int × Int)))) (f_ : (TMv × (Int × Int))) (r0 : Int → Option Int) (t8_ : Int) : Option Int :=
 bif (ltI t8_ (s_.length : Int)) then (chk ((leI 0 t8_) && (ltI t8_ (s_.length : Int))) <|
  bif (ltI f_.2.1 (gD dV s_ t8_).2.1) then some t8_
  else r0 (w64 (t8_ + 1)))
 else some (-1)
def Q33.L (N : Nat) (s_ : (List (TMv × (Int × Int)))) (f_ : (TMv × (Int × Int))) : Nat → (Int → Option Int)
 | 0 => fun _ => none
 | n + 1 => fun t8_ => Q33.s0 N s_ f_ (Q33.L N s_ f_ n) t8_
def Q33.l0 (N : Nat) (s_ : (List (TMv × (Int × Int)))) (f_ : (TMv × (Int × Int))) (n : Nat) : Int → Option Int := (Q33.L N s_ f_ n)
theorem Q33.l0_s (N : Nat) (s_ : (List (TMv × (Int × Int)))) (f_ : (TMv × (Int × Int))) (n : Nat) (t8_ : Int) : Q33.l0 N s_ f_ (n + 1) t8_ = Q33.s0 N s_ f_ (Q33.l0 N s_ f_ n) t8_ := rfl
def Q33 (N : Nat) (s_ : (List (TMv × (Int × Int)))) (f_ : (TMv × (Int × Int))) : Option Int := Q33.e N (Q33.l0 N s_ f_ N) s_ f_
def Q15.e (N : Nat) (s_ : (List (TMv × (Int × Int)))) (f_ : (TMv × (Int × Int))) : Option Bool :=
 (Q33 N s_ f_).bind fun y1 =>
 some (leI 0 y1)
def Q15 (N : Nat) (s_ : (List (TMv × (Int × Int)))) (f_ : (TMv × (Int × Int))) : Option Bool := Q15.e N s_ f_
def Q3.e (N : Nat) (r0 : Int → Int → Int → Int → (List (TMv × (Int × Int))) → Int → Int → Int → Option Bool) (r_ : TRules) (p_ : TPos) (seed : Int) : Option Bool :=
 (Q6 N).bind fun y1 =>
 (Q7 N).bind fun y2 =>
 (Q5 N y1 y2 5 1).bind fun y3 =>
 bif (!(eqI y3.2 0)) then some false
 else bif (!(eqI (y3.1.length : Int) 5)) then some false
 else chk (true && (ltI 0 (y3.1.length : Int))) <|
 (Q8 N 2).bind fun y5 =>
 bif (!(((eqI (gD dV y3.1 0).1.1 y5.1) && ((eqI (gD dV y3.1 0).1.2.1 y5.2.1) && ((eqI (gD dV y3.1 0).1.2.2 y5.2.2) && true))) && ((eqI (gD dV y3.1 0).2.1 1) && ((eqI (gD dV y3.1 0).2.2 2) && true)))) then some false
 else (Q9 N).bind fun y7 =>
 bif (!y7) then some false
 else (Q6 N).bind fun y8 =>
 (Q7 N).bind fun y9 =>
 (Q10 N y8 y9 5 60).bind fun y10 =>
 bif (!(eqI y10.2 0)) then some false
 else (Q8 N 2).bind fun y11 =>
 bif (!((eqI y10.1.1 y11.1) && ((eqI y10.1.2.1 y11.2.1) && ((eqI y10.1.2.2 y11.2.2) && true)))) then some false
 else (Q11 N r_ p_ 1).bind fun y13 =>
 bif y13 then some true
 else bif (ltI 9 (p_.1.length : Int)) then some true
 else (Q5 N r_ p_ seed 40).bind fun y15 =>
 (Q10 N r_ p_ seed 40).bind fun y16 =>
 bif (!(eqI y15.2 0)) then (bif (eqI y15.2 y16.2) then (some (eqI (y15.1.length : Int) 0))
  else some false)
 else r0 y16.2 0 (y15.1.length : Int) 0 y15.1 y16.1.1 y16.1.2.1 y16.1.2.2
def Q3.s0 (N : Nat) (r_ : TRules) (p_ : TPos) (seed : Int) (r0 : Int → Int → Int → Int → (List (TMv × (Int × Int))) → Int → Int → Int → Option Bool) (f_ sum t94_ t95_ : Int) (l_ : (List (TMv × (Int × Int)))) (m_ m_2 m_3 : Int) : Option Bool :=
 bif (ltI t95_ t94_) then (chk ((leI 0 t95_) && (ltI t95_ (l_.length : Int))) <|
  (Q12 N r_ p_ (gD dV l_ t95_).1).bind fun y18 =>
  (Q13 N r_ y18.1 0).bind fun y19 =>
  (Q14 N [y18.2, y19.2]).bind fun y20 =>
  bif (!y20) then some false
  else bif (eqI y19.1 (-1000)) then (bif (!(eqI (gD dV l_ t95_).2.2 (w64 (2 * (gD dV l_ t95_).2.1)))) then some false
   else bif (eqI y19.1 1000) then (bif (!(eqI (gD dV l_ t95_).2.2 0)) then some false
    else let v24 : Int := (w64 (sum + (gD dV l_ t95_).2.1))
    bif ((eqI (gD dV l_ t95_).1.1 m_) && ((eqI (gD dV l_ t95_).1.2.1 m_2) && ((eqI (gD dV l_ t95_).1.2.2 m_3) && true))) then ((Q15 N l_ (gD dV l_ t95_)).bind fun y26 =>
     bif y26 then some false
     else r0 f_ v24 t94_ (w64 (t95_ + 1)) l_ m_ m_2 m_3)
    else r0 f_ v24 t94_ (w64 (t95_ + 1)) l_ m_ m_2 m_3)
   else let v27 : Int := (w64 (sum + (gD dV l_ t95_).2.1))
   bif ((eqI (gD dV l_ t95_).1.1 m_) && ((eqI (gD dV l_ t95_).1.2.1 m_2) && ((eqI (gD dV l_ t95_).1.2.2 m_3) && true))) then ((Q15 N l_ (gD dV l_ t95_)).bind fun y29 =>
    bif y29 then some false
    else r0 f_ v27 t94_ (w64 (t95_ + 1)) l_ m_ m_2 m_3)
   else r0 f_ v27 t94_ (w64 (t95_ + 1)) l_ m_ m_2 m_3)
  else bif (eqI y19.1 1000) then (bif (!(eqI (gD dV l_ t95_).2.2 0)) then some false
   else let v31 : Int := (w64 (sum + (gD dV l_ t95_).2.1))
   bif ((eqI (gD dV l_ t95_).1.1 m_) && ((eqI (gD dV l_ t95_).1.2.1 m_2) && ((eqI (gD dV l_ t95_).1.2.2 m_3) && true))) then ((Q15 N l_ (gD dV l_ t95_)).bind fun y33 =>
    bif y33 then some false
    else r0 f_ v31 t94_ (w64 (t95_ + 1)) l_ m_ m_2 m_3)
   else r0 f_ v31 t94_ (w64 (t95_ + 1)) l_ m_ m_2 m_3)
  else let v34 : Int := (w64 (sum + (gD dV l_ t95_).2.1))
  bif ((eqI (gD dV l_ t95_).1.1 m_) && ((eqI (gD dV l_ t95_).1.2.1 m_2) && ((eqI (gD dV l_ t95_).1.2.2 m_3) && true))) then ((Q15 N l_ (gD dV l_ t95_)).bind fun y36 =>
   bif y36 then some false
   else r0 f_ v34 t94_ (w64 (t95_ + 1)) l_ m_ m_2 m_3)
  else r0 f_ v34 t94_ (w64 (t95_ + 1)) l_ m_ m_2 m_3)
 else bif (eqI f_ 0) then (some (eqI sum 40))
 else some false
def Q3.L (N : Nat) (r_ : TRules) (p_ : TPos) (seed : Int) : Nat → (Int → Int → Int → Int → (List (TMv × (Int × Int))) → Int → Int → Int → Option Bool)
 | 0 => fun _ _ _ _ _ _ _ _ => none
 | n + 1 => fun f_ sum t94_ t95_ l_ m_ m_2 m_3 => Q3.s0 N r_ p_ seed (Q3.L N r_ p_ seed n) f_ sum t94_ t95_ l_ m_ m_2 m_3
def Q3.l0 (N : Nat) (r_ : TRules) (p_ : TPos) (seed : Int) (n : Nat) : Int → Int → Int → Int → (List (TMv × (Int × Int))) → Int → Int → Int → Option Bool := (Q3.L N r_ p_ seed n)
theorem Q3.l0_s (N : Nat) (r_ : TRules) (p_ : TPos) (seed : Int) (n : Nat) (f_ sum t94_ t95_ : Int) (l_ : (List (TMv × (Int × Int)))) (m_ m_2 m_3 : Int) : Q3.l0 N r_ p_ seed (n + 1) f_ sum t94_ t95_ l_ m_ m_2 m_3 = Q3.s0 N r_ p_ seed (Q3.l0 N r_ p_ seed n) f_ sum t94_ t95_ l_ m_ m_2 m_3 := rfl
def Q3 (N : Nat) (r_ : TRules) (p_ : TPos) (seed : Int) : Option Bool := Q3.e N (Q3.l0 N r_ p_ seed N) r_ p_ seed
end
end Go.Proofs.Ytnddjmhpofhfjaa.Am
