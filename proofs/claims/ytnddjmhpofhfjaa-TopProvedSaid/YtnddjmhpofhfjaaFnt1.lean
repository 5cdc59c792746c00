/- PRINTED by gen.py: what the functions compute, as plain Lean functions with fuel. -/
import Derived.Test.YtnddjmhpofhfjaaFnt
set_option linter.unusedVariables false
set_option linter.unusedSimpArgs false
namespace Go.Proofs.Ytnddjmhpofhfjaa.Am
open Go
noncomputable section
def Q52.e (N : Nat) (self : Int → TBoard → Int → Option (Int × Int × TBoard)) (r0 : Int → Int → Int → Int → ByteArray → Int → Int → Bool → Bool → Int → Int → Int → Int → Int → Int → LMv → (List TPiece) → LInt → (List TEnd) → LInt → LInt → LInt → (List TUndo) → Option (Int × Int × TBoard)) (c_ : Int) (b_ : TBoard) (depth : Int) : Option (Int × Int × TBoard) :=
 bif (ltI (w64 (c_ - 1)) 0) then (some (1, ((w64 (c_ - 1)), b_)))
 else bif (eqI depth 0) then (some (1, ((w64 (c_ - 1)), b_)))
 else (Q24 N b_).bind fun y1 =>
 r0 0 (y1.length : Int) 0 (w64 (c_ - 1)) b_.1.1 b_.1.2.1 b_.1.2.2.1 b_.1.2.2.2.2.2.1 b_.1.2.2.2.2.2.2.1 b_.1.2.2.2.2.2.2.2.2.1 b_.1.2.2.2.2.2.2.2.2.2.1 b_.1.2.2.2.2.2.2.2.2.2.2 b_.2.1.2.2.1 b_.2.1.2.2.2 b_.2.2.1 y1 b_.1.2.2.2.1 b_.1.2.2.2.2.1 b_.1.2.2.2.2.2.2.2.1 b_.2.1.1 b_.2.1.2.1.1 b_.2.1.2.1.2 b_.2.2.2
def Q52.s0 (N : Nat) (self : Int → TBoard → Int → Option (Int × Int × TBoard)) (c_ : Int) (b_ : TBoard) (depth : Int) (r0 : Int → Int → Int → Int → ByteArray → Int → Int → Bool → Bool → Int → Int → Int → Int → Int → Int → LMv → (List TPiece) → LInt → (List TEnd) → LInt → LInt → LInt → (List TUndo) → Option (Int × Int × TBoard)) (n_ t28_ t29_ c_2 : Int) (b_2 : ByteArray) (b_3 b_4 : Int) (b_5 b_6 : Bool) (b_7 b_8 b_9 b_10 b_11 b_12 : Int) (m9_ : LMv) (m10_ : (List TPiece)) (m11_ : LInt) (m12_ : (List TEnd)) (m13_ m14_ m15_ : LInt) (m16_ : (List TUndo)) : Option (Int × Int × TBoard) :=
 bif (ltI t29_ t28_) then (chk ((leI 0 t29_) && (ltI t29_ (m9_.length : Int))) <|
  (Q47 N ((b_2, (b_3, (b_4, (m10_, (m11_, (b_5, (b_6, (m12_, (b_7, (b_8, b_9)))))))))), ((m13_, ((m14_, m15_), (b_10, b_11))), (b_12, m16_))) (gD dM m9_ t29_)).bind fun y2 =>
  (self c_2 y2 (w64 (depth - 1))).bind fun y3 =>
  (Q48 N y3.2.2).bind fun y4 =>
  bif (ltI y3.2.1 0) then (some (0, (y3.2.1, y4.2)))
  else r0 (w64 (n_ + y3.1)) t28_ (w64 (t29_ + 1)) y3.2.1 y4.2.1.1 y4.2.1.2.1 y4.2.1.2.2.1 y4.2.1.2.2.2.2.2.1 y4.2.1.2.2.2.2.2.2.1 y4.2.1.2.2.2.2.2.2.2.2.1 y4.2.1.2.2.2.2.2.2.2.2.2.1 y4.2.1.2.2.2.2.2.2.2.2.2.2 y4.2.2.1.2.2.1 y4.2.2.1.2.2.2 y4.2.2.2.1 m9_ y4.2.1.2.2.2.1 y4.2.1.2.2.2.2.1 y4.2.1.2.2.2.2.2.2.2.1 y4.2.2.1.1 y4.2.2.1.2.1.1 y4.2.2.1.2.1.2 y4.2.2.2.2)
 else some (n_, (c_2, ((b_2, (b_3, (b_4, (m10_, (m11_, (b_5, (b_6, (m12_, (b_7, (b_8, b_9)))))))))), ((m13_, ((m14_, m15_), (b_10, b_11))), (b_12, m16_)))))
def Q52.L (N : Nat) (self : Int → TBoard → Int → Option (Int × Int × TBoard)) (c_ : Int) (b_ : TBoard) (depth : Int) : Nat → (Int → Int → Int → Int → ByteArray → Int → Int → Bool → Bool → Int → Int → Int → Int → Int → Int → LMv → (List TPiece) → LInt → (List TEnd) → LInt → LInt → LInt → (List TUndo) → Option (Int × Int × TBoard))
 | 0 => fun _ _ _ _ _ _ _ _ _ _ _ _ _ _ _ _ _ _ _ _ _ _ _ => none
 | n + 1 => fun n_ t28_ t29_ c_2 b_2 b_3 b_4 b_5 b_6 b_7 b_8 b_9 b_10 b_11 b_12 m9_ m10_ m11_ m12_ m13_ m14_ m15_ m16_ => Q52.s0 N self c_ b_ depth (Q52.L N self c_ b_ depth n) n_ t28_ t29_ c_2 b_2 b_3 b_4 b_5 b_6 b_7 b_8 b_9 b_10 b_11 b_12 m9_ m10_ m11_ m12_ m13_ m14_ m15_ m16_
def Q52.l0 (N : Nat) (self : Int → TBoard → Int → Option (Int × Int × TBoard)) (c_ : Int) (b_ : TBoard) (depth : Int) (n : Nat) : Int → Int → Int → Int → ByteArray → Int → Int → Bool → Bool → Int → Int → Int → Int → Int → Int → LMv → (List TPiece) → LInt → (List TEnd) → LInt → LInt → LInt → (List TUndo) → Option (Int × Int × TBoard) := (Q52.L N self c_ b_ depth n)
theorem Q52.l0_s (N : Nat) (self : Int → TBoard → Int → Option (Int × Int × TBoard)) (c_ : Int) (b_ : TBoard) (depth : Int) (n : Nat) (n_ t28_ t29_ c_2 : Int) (b_2 : ByteArray) (b_3 b_4 : Int) (b_5 b_6 : Bool) (b_7 b_8 b_9 b_10 b_11 b_12 : Int) (m9_ : LMv) (m10_ : (List TPiece)) (m11_ : LInt) (m12_ : (List TEnd)) (m13_ m14_ m15_ : LInt) (m16_ : (List TUndo)) : Q52.l0 N self c_ b_ depth (n + 1) n_ t28_ t29_ c_2 b_2 b_3 b_4 b_5 b_6 b_7 b_8 b_9 b_10 b_11 b_12 m9_ m10_ m11_ m12_ m13_ m14_ m15_ m16_ = Q52.s0 N self c_ b_ depth (Q52.l0 N self c_ b_ depth n) n_ t28_ t29_ c_2 b_2 b_3 b_4 b_5 b_6 b_7 b_8 b_9 b_10 b_11 b_12 m9_ m10_ m11_ m12_ m13_ m14_ m15_ m16_ := rfl
def Q52 : Nat → Int → TBoard → Int → Option (Int × Int × TBoard)
 | 0 => fun _ _ _ => none
 | N + 1 => fun c_ b_ depth => Q52.e N (Q52 N) (Q52.l0 N (Q52 N) c_ b_ depth N) c_ b_ depth
def Q25.e (N : Nat) (r_ : TRules) (p_ : TPos) (depth : Int) : Option (Int × Int) :=
 (Q51 N r_ p_ depth).bind fun y1 =>
 oCase y1.1 (bif (!(eqI y1.2 0)) then (some (0, y1.2))
  else none) fun b2 =>
 bif (!(eqI y1.2 0)) then (some (0, y1.2))
 else (Q52 N 50000 b2 depth).bind fun y3 =>
 bif (ltI y3.2.1 0) then (some (0, 17))
 else some ((w64 (50000 - y3.2.1)), 0)
def Q25 (N : Nat) (r_ : TRules) (p_ : TPos) (depth : Int) : Option (Int × Int) := Q25.e N r_ p_ depth
def Q29.e (N : Nat) (r_ : TRules) (p_ : TPos) (depth : Int) : Option Int :=
 (Q25 N r_ p_ depth).bind fun y1 =>
 some y1.2
def Q29 (N : Nat) (r_ : TRules) (p_ : TPos) (depth : Int) : Option Int := Q29.e N r_ p_ depth
def Q39.e (N : Nat) (b_ : TBoard) : Option Int :=
 some b_.2.1.2.2.1
def Q39 (N : Nat) (b_ : TBoard) : Option Int := Q39.e N b_
def Q57.e (N : Nat) (result turn : Int) : Option Int :=
 (Q61 N turn).bind fun y1 =>
 bif (eqI result y1) then some 1000
 else (Q61 N (w64 (1 - turn))).bind fun y2 =>
 bif (eqI result y2) then (some (-1000))
 else some 0
def Q57 (N : Nat) (result turn : Int) : Option Int := Q57.e N result turn
def Q58.e (N : Nat) (n_ : Int) : Option Int :=
 bif (ltI 0 n_) then (some (w64 (n_ - 1)))
 else bif (ltI n_ 0) then (some (w64 (n_ + 1)))
 else some 0
def Q58 (N : Nat) (n_ : Int) : Option Int := Q58.e N n_
def Q30.e (N : Nat) (self : TBoard → Int → Option (Int × TBoard)) (r0 : Int → Int → Int → ByteArray → Int → Int → Bool → Bool → Int → Int → Int → Int → Int → Int → LMv → (List TPiece) → LInt → (List TEnd) → LInt → LInt → LInt → (List TUndo) → Option (Int × TBoard)) (b_ : TBoard) (depth : Int) : Option (Int × TBoard) :=
 (Q22 N b_).bind fun y1 =>
 bif (!(eqI y1 0)) then ((Q39 N b_).bind fun y2 =>
  (Q57 N y1 y2).bind fun y3 =>
  some (y3, b_))
 else bif (eqI depth 0) then (some (0, b_))
 else (Q24 N b_).bind fun y4 =>
 r0 (-1000) (y4.length : Int) 0 b_.1.1 b_.1.2.1 b_.1.2.2.1 b_.1.2.2.2.2.2.1 b_.1.2.2.2.2.2.2.1 b_.1.2.2.2.2.2.2.2.2.1 b_.1.2.2.2.2.2.2.2.2.2.1 b_.1.2.2.2.2.2.2.2.2.2.2 b_.2.1.2.2.1 b_.2.1.2.2.2 b_.2.2.1 y4 b_.1.2.2.2.1 b_.1.2.2.2.2.1 b_.1.2.2.2.2.2.2.2.1 b_.2.1.1 b_.2.1.2.1.1 b_.2.1.2.1.2 b_.2.2.2
def Q30.s0 (N : Nat) (self : TBoard → Int → Option (Int × TBoard)) (b_ : TBoard) (depth : Int) (r0 : Int → Int → Int → ByteArray → Int → Int → Bool → Bool → Int → Int → Int → Int → Int → Int → LMv → (List TPiece) → LInt → (List TEnd) → LInt → LInt → LInt → (List TUndo) → Option (Int × TBoard)) (best t21_ t22_ : Int) (b_2 : ByteArray) (b_3 b_4 : Int) (b_5 b_6 : Bool) (b_7 b_8 b_9 b_10 b_11 b_12 : Int) (m8_ : LMv) (m9_ : (List TPiece)) (m10_ : LInt) (m11_ : (List TEnd)) (m12_ m13_ m14_ : LInt) (m15_ : (List TUndo)) : Option (Int × TBoard) :=
 bif (ltI t22_ t21_) then (chk ((leI 0 t22_) && (ltI t22_ (m8_.length : Int))) <|
  (Q47 N ((b_2, (b_3, (b_4, (m9_, (m10_, (b_5, (b_6, (m11_, (b_7, (b_8, b_9)))))))))), ((m12_, ((m13_, m14_), (b_10, b_11))), (b_12, m15_))) (gD dM m8_ t22_)).bind fun y5 =>
  (self y5 (w64 (depth - 1))).bind fun y6 =>
  (Q58 N (w64 (0 - y6.1))).bind fun y7 =>
  (Q48 N y6.2).bind fun y9 =>
  r0 (bif (ltI best y7) then y7 else best) t21_ (w64 (t22_ + 1)) y9.2.1.1 y9.2.1.2.1 y9.2.1.2.2.1 y9.2.1.2.2.2.2.2.1 y9.2.1.2.2.2.2.2.2.1 y9.2.1.2.2.2.2.2.2.2.2.1 y9.2.1.2.2.2.2.2.2.2.2.2.1 y9.2.1.2.2.2.2.2.2.2.2.2.2 y9.2.2.1.2.2.1 y9.2.2.1.2.2.2 y9.2.2.2.1 m8_ y9.2.1.2.2.2.1 y9.2.1.2.2.2.2.1 y9.2.1.2.2.2.2.2.2.2.1 y9.2.2.1.1 y9.2.2.1.2.1.1 y9.2.2.1.2.1.2 y9.2.2.2.2)
 else some (best, ((b_2, (b_3, (b_4, (m9_, (m10_, (b_5, (b_6, (m11_, (b_7, (b_8, b_9)))))))))), ((m12_, ((m13_, m14_), (b_10, b_11))), (b_12, m15_))))
def Q30.L (N : Nat) (self : TBoard → Int → Option (Int × TBoard)) (b_ : TBoard) (depth : Int) : Nat → (Int → Int → Int → ByteArray → Int → Int → Bool → Bool → Int → Int → Int → Int → Int → Int → LMv → (List TPiece) → LInt → (List TEnd) → LInt → LInt → LInt → (List TUndo) → Option (Int × TBoard))
 | 0 => fun _ _ _ _ _ _ _ _ _ _ _ _ _ _ _ _ _ _ _ _ _ _ => none
 | n + 1 => fun best t21_ t22_ b_2 b_3 b_4 b_5 b_6 b_7 b_8 b_9 b_10 b_11 b_12 m8_ m9_ m10_ m11_ m12_ m13_ m14_ m15_ => Q30.s0 N self b_ depth (Q30.L N self b_ depth n) best t21_ t22_ b_2 b_3 b_4 b_5 b_6 b_7 b_8 b_9 b_10 b_11 b_12 m8_ m9_ m10_ m11_ m12_ m13_ m14_ m15_
def Q30.l0 (N : Nat) (self : TBoard → Int → Option (Int × TBoard)) (b_ : TBoard) (depth : Int) (n : Nat) : Int → Int → Int → ByteArray → Int → Int → Bool → Bool → Int → Int → Int → Int → Int → Int → LMv → (List TPiece) → LInt → (List TEnd) → LInt → LInt → LInt → (List TUndo) → Option (Int × TBoard) := (Q30.L N self b_ depth n)
theorem Q30.l0_s (N : Nat) (self : TBoard → Int → Option (Int × TBoard)) (b_ : TBoard) (depth : Int) (n : Nat) (best t21_ t22_ : Int) (b_2 : ByteArray) (b_3 b_4 : Int) (b_5 b_6 : Bool) (b_7 b_8 b_9 b_10 b_11 b_12 : Int) (m8_ : LMv) (m9_ : (List TPiece)) (m10_ : LInt) (m11_ : (List TEnd)) (m12_ m13_ m14_ : LInt) (m15_ : (List TUndo)) : Q30.l0 N self b_ depth (n + 1) best t21_ t22_ b_2 b_3 b_4 b_5 b_6 b_7 b_8 b_9 b_10 b_11 b_12 m8_ m9_ m10_ m11_ m12_ m13_ m14_ m15_ = Q30.s0 N self b_ depth (Q30.l0 N self b_ depth n) best t21_ t22_ b_2 b_3 b_4 b_5 b_6 b_7 b_8 b_9 b_10 b_11 b_12 m8_ m9_ m10_ m11_ m12_ m13_ m14_ m15_ := rfl
def Q30 : Nat → TBoard → Int → Option (Int × TBoard)
 | 0 => fun _ _ => none
 | N + 1 => fun b_ depth => Q30.e N (Q30 N) (Q30.l0 N (Q30 N) b_ depth N) b_ depth
def Q13.e (N : Nat) (r_ : TRules) (p_ : TPos) (depth : Int) : Option (Int × Int) :=
 (Q29 N r_ p_ depth).bind fun y1 =>
 bif (!(eqI y1 0)) then (some (0, y1))
 else (Q20 N r_ p_).bind fun y2 =>
 oCase y2.1 none fun b3 =>
 (Q30 N b3 depth).bind fun y4 =>
 some (y4.1, 0)
def Q13 (N : Nat) (r_ : TRules) (p_ : TPos) (depth : Int) : Option (Int × Int) := Q13.e N r_ p_ depth
def Q83.e (N : Nat) (r0 : Int → Int → Int → ByteArray → Int → Int → Bool → Bool → Int → Int → Int → Int → Int → Int → Int → Int → Int → LMv → (List TPiece) → LInt → (List TEnd) → LInt → LInt → LInt → (List TUndo) → Option (TMv × Int × TBoard)) (b_ : TBoard) (depth : Int) : Option (TMv × Int × TBoard) :=
 (Q24 N b_).bind fun y1 =>
 r0 (-1001) (y1.length : Int) 0 b_.1.1 b_.1.2.1 b_.1.2.2.1 b_.1.2.2.2.2.2.1 b_.1.2.2.2.2.2.2.1 b_.1.2.2.2.2.2.2.2.2.1 b_.1.2.2.2.2.2.2.2.2.2.1 b_.1.2.2.2.2.2.2.2.2.2.2 b_.2.1.2.2.1 b_.2.1.2.2.2 b_.2.2.1 0 0 0 y1 b_.1.2.2.2.1 b_.1.2.2.2.2.1 b_.1.2.2.2.2.2.2.2.1 b_.2.1.1 b_.2.1.2.1.1 b_.2.1.2.1.2 b_.2.2.2
def Q83.s0 (N : Nat) (b_ : TBoard) (depth : Int) (r0 : Int → Int → Int → ByteArray → Int → Int → Bool → Bool → Int → Int → Int → Int → Int → Int → Int → Int → Int → LMv → (List TPiece) → LInt → (List TEnd) → LInt → LInt → LInt → (List TUndo) → Option (TMv × Int × TBoard)) (most t13_ t14_ : Int) (b_2 : ByteArray) (b_3 b_4 : Int) (b_5 b_6 : Bool) (b_7 b_8 b_9 b_10 b_11 b_12 out out2 out3 : Int) (m10_ : LMv) (m11_ : (List TPiece)) (m12_ : LInt) (m13_ : (List TEnd)) (m14_ m15_ m16_ : LInt) (m17_ : (List TUndo)) : Option (TMv × Int × TBoard) :=
 bif (ltI t14_ t13_) then (chk ((leI 0 t14_) && (ltI t14_ (m10_.length : Int))) <|
  (Q47 N ((b_2, (b_3, (b_4, (m11_, (m12_, (b_5, (b_6, (m13_, (b_7, (b_8, b_9)))))))))), ((m14_, ((m15_, m16_), (b_10, b_11))), (b_12, m17_))) (gD dM m10_ t14_)).bind fun y2 =>
  (Q30 N y2 (w64 (depth - 1))).bind fun y3 =>
  (Q58 N (w64 (0 - y3.1))).bind fun y4 =>
  (Q48 N y3.2).bind fun y5 =>
  bif (ltI most y4) then (r0 y4 t13_ (w64 (t14_ + 1)) y5.2.1.1 y5.2.1.2.1 y5.2.1.2.2.1 y5.2.1.2.2.2.2.2.1 y5.2.1.2.2.2.2.2.2.1 y5.2.1.2.2.2.2.2.2.2.2.1 y5.2.1.2.2.2.2.2.2.2.2.2.1 y5.2.1.2.2.2.2.2.2.2.2.2.2 y5.2.2.1.2.2.1 y5.2.2.1.2.2.2 y5.2.2.2.1 (gD dM m10_ t14_).1 (gD dM m10_ t14_).2.1 (gD dM m10_ t14_).2.2 m10_ y5.2.1.2.2.2.1 y5.2.1.2.2.2.2.1 y5.2.1.2.2.2.2.2.2.2.1 y5.2.2.1.1 y5.2.2.1.2.1.1 y5.2.2.1.2.1.2 y5.2.2.2.2)
  else r0 most t13_ (w64 (t14_ + 1)) y5.2.1.1 y5.2.1.2.1 y5.2.1.2.2.1 y5.2.1.2.2.2.2.2.1 y5.2.1.2.2.2.2.2.2.1 y5.2.1.2.2.2.2.2.2.2.2.1 y5.2.1.2.2.2.2.2.2.2.2.2.1 y5.2.1.2.2.2.2.2.2.2.2.2.2 y5.2.2.1.2.2.1 y5.2.2.1.2.2.2 y5.2.2.2.1 out out2 out3 m10_ y5.2.1.2.2.2.1 y5.2.1.2.2.2.2.1 y5.2.1.2.2.2.2.2.2.2.1 y5.2.2.1.1 y5.2.2.1.2.1.1 y5.2.2.1.2.1.2 y5.2.2.2.2)
 else some ((out, (out2, out3)), (most, ((b_2, (b_3, (b_4, (m11_, (m12_, (b_5, (b_6, (m13_, (b_7, (b_8, b_9)))))))))), ((m14_, ((m15_, m16_), (b_10, b_11))), (b_12, m17_)))))
def Q83.L (N : Nat) (b_ : TBoard) (depth : Int) : Nat → (Int → Int → Int → ByteArray → Int → Int → Bool → Bool → Int → Int → Int → Int → Int → Int → Int → Int → Int → LMv → (List TPiece) → LInt → (List TEnd) → LInt → LInt → LInt → (List TUndo) → Option (TMv × Int × TBoard))
 | 0 => fun _ _ _ _ _ _ _ _ _ _ _ _ _ _ _ _ _ _ _ _ _ _ _ _ _ => none
 | n + 1 => fun most t13_ t14_ b_2 b_3 b_4 b_5 b_6 b_7 b_8 b_9 b_10 b_11 b_12 out out2 out3 m10_ m11_ m12_ m13_ m14_ m15_ m16_ m17_ => Q83.s0 N b_ depth (Q83.L N b_ depth n) most t13_ t14_ b_2 b_3 b_4 b_5 b_6 b_7 b_8 b_9 b_10 b_11 b_12 out out2 out3 m10_ m11_ m12_ m13_ m14_ m15_ m16_ m17_
def Q83.l0 (N : Nat) (b_ : TBoard) (depth : Int) (n : Nat) : Int → Int → Int → ByteArray → Int → Int → Bool → Bool → Int → Int → Int → Int → Int → Int → Int → Int → Int → LMv → (List TPiece) → LInt → (List TEnd) → LInt → LInt → LInt → (List TUndo) → Option (TMv × Int × TBoard) := (Q83.L N b_ depth n)
theorem Q83.l0_s (N : Nat) (b_ : TBoard) (depth : Int) (n : Nat) (most t13_ t14_ : Int) (b_2 : ByteArray) (b_3 b_4 : Int) (b_5 b_6 : Bool) (b_7 b_8 b_9 b_10 b_11 b_12 out out2 out3 : Int) (m10_ : LMv) (m11_ : (List TPiece)) (m12_ : LInt) (m13_ : (List TEnd)) (m14_ m15_ m16_ : LInt) (m17_ : (List TUndo)) : Q83.l0 N b_ depth (n + 1) most t13_ t14_ b_2 b_3 b_4 b_5 b_6 b_7 b_8 b_9 b_10 b_11 b_12 out out2 out3 m10_ m11_ m12_ m13_ m14_ m15_ m16_ m17_ = Q83.s0 N b_ depth (Q83.l0 N b_ depth n) most t13_ t14_ b_2 b_3 b_4 b_5 b_6 b_7 b_8 b_9 b_10 b_11 b_12 out out2 out3 m10_ m11_ m12_ m13_ m14_ m15_ m16_ m17_ := rfl
def Q83 (N : Nat) (b_ : TBoard) (depth : Int) : Option (TMv × Int × TBoard) := Q83.e N (Q83.l0 N b_ depth N) b_ depth
def Q62.e (N : Nat) (r_ : TRules) (p_ : TPos) (depth : Int) : Option (TMv × Int × Int) :=
 (Q29 N r_ p_ depth).bind fun y1 =>
 bif (!(eqI y1 0)) then (some ((0, (0, 0)), (0, y1)))
 else (Q20 N r_ p_).bind fun y2 =>
 oCase y2.1 (bif (eqI depth 0) then (some ((0, (0, 0)), (0, 1)))
  else none) fun b3 =>
 bif (eqI depth 0) then (some ((0, (0, 0)), (0, 1)))
 else (Q22 N b3).bind fun y4 =>
 bif (!(eqI y4 0)) then (some ((0, (0, 0)), (0, 14)))
 else (Q83 N b3 depth).bind fun y5 =>
 some (y5.1, (y5.2.1, 0))
def Q62 (N : Nat) (r_ : TRules) (p_ : TPos) (depth : Int) : Option (TMv × Int × Int) := Q62.e N r_ p_ depth
def Q28.e (N : Nat) (r_ : TRules) (p_ : TPos) (m_ : TMv) : Option TPos :=
 (Q43 N p_).bind fun y1 =>
 bif (ltI m_.1 0) then (bif (eqI p_.2.2.1 0) then (chk ((leI 0 m_.2.2) && (ltI m_.2.2 (y1.2.1.1.length : Int))) <|
   chk ((leI 0 m_.2.2) && (ltI m_.2.2 (y1.2.1.1.length : Int))) <|
   let v4 : List Int := (y1.2.1.1.set m_.2.2.toNat (w64 ((gD (0 : Int) y1.2.1.1 m_.2.2) - 1)))
   chk ((leI 0 m_.2.1) && (ltI m_.2.1 (p_.1.length : Int))) <|
   bif (!(eqI (gD (0 : Int) p_.1 m_.2.1) 0)) then (bif (eqI p_.2.2.1 0) then (bif r_.2.2.2.2.2.2.1 then ((Q55 N (gD (0 : Int) p_.1 m_.2.1)).bind fun y6 =>
      (Q55 N (gD (0 : Int) p_.1 m_.2.1)).bind fun y7 =>
      chk ((leI 0 y7) && (ltI y7 (v4.length : Int))) <|
      let v8 : Int := (w64 ((gD (0 : Int) v4 y7) + 1))
      chk ((leI 0 y6) && (ltI y6 (v4.length : Int))) <|
      (Q56 N m_.2.2 p_.2.2.1).bind fun y10 =>
      chk ((leI 0 m_.2.1) && (ltI m_.2.1 (y1.1.length : Int))) <|
      some ((y1.1.set m_.2.1.toNat y10), (((v4.set y6.toNat (bif (ltI 1000 v8) then 1000 else v8)), y1.2.1.2), ((w64 (1 - p_.2.2.1)), 0))))
     else (Q56 N m_.2.2 p_.2.2.1).bind fun y12 =>
     chk ((leI 0 m_.2.1) && (ltI m_.2.1 (y1.1.length : Int))) <|
     some ((y1.1.set m_.2.1.toNat y12), ((v4, y1.2.1.2), ((w64 (1 - p_.2.2.1)), 0))))
    else bif (eqI p_.2.2.1 1) then (bif r_.2.2.2.2.2.2.1 then ((Q55 N (gD (0 : Int) p_.1 m_.2.1)).bind fun y14 =>
      (Q55 N (gD (0 : Int) p_.1 m_.2.1)).bind fun y15 =>
      chk ((leI 0 y15) && (ltI y15 (y1.2.1.2.length : Int))) <|
      let v16 : Int := (w64 ((gD (0 : Int) y1.2.1.2 y15) + 1))
      chk ((leI 0 y14) && (ltI y14 (y1.2.1.2.length : Int))) <|
      (Q56 N m_.2.2 p_.2.2.1).bind fun y19 =>
      chk ((leI 0 m_.2.1) && (ltI m_.2.1 (y1.1.length : Int))) <|
      some ((y1.1.set m_.2.1.toNat y19), ((v4, (y1.2.1.2.set y14.toNat (bif (ltI 1000 v16) then 1000 else v16))), ((w64 (1 - p_.2.2.1)), 0))))
     else (Q56 N m_.2.2 p_.2.2.1).bind fun y21 =>
     chk ((leI 0 m_.2.1) && (ltI m_.2.1 (y1.1.length : Int))) <|
     some ((y1.1.set m_.2.1.toNat y21), ((v4, y1.2.1.2), ((w64 (1 - p_.2.2.1)), 0))))
    else none)
   else (Q56 N m_.2.2 p_.2.2.1).bind fun y23 =>
   chk ((leI 0 m_.2.1) && (ltI m_.2.1 (y1.1.length : Int))) <|
   some ((y1.1.set m_.2.1.toNat y23), ((v4, y1.2.1.2), ((w64 (1 - p_.2.2.1)), 0))))
  else bif (eqI p_.2.2.1 1) then (chk ((leI 0 m_.2.2) && (ltI m_.2.2 (y1.2.1.2.length : Int))) <|
   chk ((leI 0 m_.2.2) && (ltI m_.2.2 (y1.2.1.2.length : Int))) <|
   let v26 : List Int := (y1.2.1.2.set m_.2.2.toNat (w64 ((gD (0 : Int) y1.2.1.2 m_.2.2) - 1)))
   chk ((leI 0 m_.2.1) && (ltI m_.2.1 (p_.1.length : Int))) <|
   bif (!(eqI (gD (0 : Int) p_.1 m_.2.1) 0)) then (bif (eqI p_.2.2.1 0) then (bif r_.2.2.2.2.2.2.1 then ((Q55 N (gD (0 : Int) p_.1 m_.2.1)).bind fun y28 =>
      (Q55 N (gD (0 : Int) p_.1 m_.2.1)).bind fun y29 =>
      chk ((leI 0 y29) && (ltI y29 (y1.2.1.1.length : Int))) <|
      let v30 : Int := (w64 ((gD (0 : Int) y1.2.1.1 y29) + 1))
      chk ((leI 0 y28) && (ltI y28 (y1.2.1.1.length : Int))) <|
      (Q56 N m_.2.2 p_.2.2.1).bind fun y33 =>
      chk ((leI 0 m_.2.1) && (ltI m_.2.1 (y1.1.length : Int))) <|
      some ((y1.1.set m_.2.1.toNat y33), (((y1.2.1.1.set y28.toNat (bif (ltI 1000 v30) then 1000 else v30)), v26), ((w64 (1 - p_.2.2.1)), 0))))
     else (Q56 N m_.2.2 p_.2.2.1).bind fun y35 =>
     chk ((leI 0 m_.2.1) && (ltI m_.2.1 (y1.1.length : Int))) <|
     some ((y1.1.set m_.2.1.toNat y35), ((y1.2.1.1, v26), ((w64 (1 - p_.2.2.1)), 0))))
    else bif (eqI p_.2.2.1 1) then (bif r_.2.2.2.2.2.2.1 then ((Q55 N (gD (0 : Int) p_.1 m_.2.1)).bind fun y37 =>
      (Q55 N (gD (0 : Int) p_.1 m_.2.1)).bind fun y38 =>
      chk ((leI 0 y38) && (ltI y38 (v26.length : Int))) <|
      let v39 : Int := (w64 ((gD (0 : Int) v26 y38) + 1))
      chk ((leI 0 y37) && (ltI y37 (v26.length : Int))) <|
      (Q56 N m_.2.2 p_.2.2.1).bind fun y41 =>
      chk ((leI 0 m_.2.1) && (ltI m_.2.1 (y1.1.length : Int))) <|
      some ((y1.1.set m_.2.1.toNat y41), ((y1.2.1.1, (v26.set y37.toNat (bif (ltI 1000 v39) then 1000 else v39))), ((w64 (1 - p_.2.2.1)), 0))))
     else (Q56 N m_.2.2 p_.2.2.1).bind fun y43 =>
     chk ((leI 0 m_.2.1) && (ltI m_.2.1 (y1.1.length : Int))) <|
     some ((y1.1.set m_.2.1.toNat y43), ((y1.2.1.1, v26), ((w64 (1 - p_.2.2.1)), 0))))
    else none)
   else (Q56 N m_.2.2 p_.2.2.1).bind fun y45 =>
   chk ((leI 0 m_.2.1) && (ltI m_.2.1 (y1.1.length : Int))) <|
   some ((y1.1.set m_.2.1.toNat y45), ((y1.2.1.1, v26), ((w64 (1 - p_.2.2.1)), 0))))
  else none)
 else chk ((leI 0 m_.1) && (ltI m_.1 (y1.1.length : Int))) <|
 chk ((leI 0 m_.2.1) && (ltI m_.2.1 (p_.1.length : Int))) <|
 bif (!(eqI (gD (0 : Int) p_.1 m_.2.1) 0)) then (bif (eqI p_.2.2.1 0) then (bif r_.2.2.2.2.2.2.1 then ((Q55 N (gD (0 : Int) p_.1 m_.2.1)).bind fun y48 =>
    (Q55 N (gD (0 : Int) p_.1 m_.2.1)).bind fun y49 =>
    chk ((leI 0 y49) && (ltI y49 (y1.2.1.1.length : Int))) <|
    let v50 : Int := (w64 ((gD (0 : Int) y1.2.1.1 y49) + 1))
    chk ((leI 0 y48) && (ltI y48 (y1.2.1.1.length : Int))) <|
    (Q56 N m_.2.2 p_.2.2.1).bind fun y53 =>
    chk ((leI 0 m_.2.1) && (ltI m_.2.1 ((y1.1.set m_.1.toNat 0).length : Int))) <|
    some (((y1.1.set m_.1.toNat 0).set m_.2.1.toNat y53), (((y1.2.1.1.set y48.toNat (bif (ltI 1000 v50) then 1000 else v50)), y1.2.1.2), ((w64 (1 - p_.2.2.1)), 0))))
   else (Q56 N m_.2.2 p_.2.2.1).bind fun y55 =>
   chk ((leI 0 m_.2.1) && (ltI m_.2.1 ((y1.1.set m_.1.toNat 0).length : Int))) <|
   some (((y1.1.set m_.1.toNat 0).set m_.2.1.toNat y55), (y1.2.1, ((w64 (1 - p_.2.2.1)), 0))))
  else bif (eqI p_.2.2.1 1) then (bif r_.2.2.2.2.2.2.1 then ((Q55 N (gD (0 : Int) p_.1 m_.2.1)).bind fun y57 =>
    (Q55 N (gD (0 : Int) p_.1 m_.2.1)).bind fun y58 =>
    chk ((leI 0 y58) && (ltI y58 (y1.2.1.2.length : Int))) <|
    let v59 : Int := (w64 ((gD (0 : Int) y1.2.1.2 y58) + 1))
    chk ((leI 0 y57) && (ltI y57 (y1.2.1.2.length : Int))) <|
    (Q56 N m_.2.2 p_.2.2.1).bind fun y62 =>
    chk ((leI 0 m_.2.1) && (ltI m_.2.1 ((y1.1.set m_.1.toNat 0).length : Int))) <|
    some (((y1.1.set m_.1.toNat 0).set m_.2.1.toNat y62), ((y1.2.1.1, (y1.2.1.2.set y57.toNat (bif (ltI 1000 v59) then 1000 else v59))), ((w64 (1 - p_.2.2.1)), 0))))
   else (Q56 N m_.2.2 p_.2.2.1).bind fun y64 =>
   chk ((leI 0 m_.2.1) && (ltI m_.2.1 ((y1.1.set m_.1.toNat 0).length : Int))) <|
   some (((y1.1.set m_.1.toNat 0).set m_.2.1.toNat y64), (y1.2.1, ((w64 (1 - p_.2.2.1)), 0))))
  else none)
 else (Q56 N m_.2.2 p_.2.2.1).bind fun y66 =>
 chk ((leI 0 m_.2.1) && (ltI m_.2.1 ((y1.1.set m_.1.toNat 0).length : Int))) <|
 some (((y1.1.set m_.1.toNat 0).set m_.2.1.toNat y66), (y1.2.1, ((w64 (1 - p_.2.2.1)), (bif (ltI 200 (w64 (p_.2.2.2 + 1))) then 200 else (w64 (p_.2.2.2 + 1))))))
def Q28 (N : Nat) (r_ : TRules) (p_ : TPos) (m_ : TMv) : Option TPos := Q28.e N r_ p_ m_
def Q35.e (N : Nat) (self : (TRules × ((List (TMv × LInt)) × Bool)) → TPos → Int → Option (Int × (TRules × ((List (TMv × LInt)) × Bool)))) (r0 : Int → Int → ByteArray → Int → Int → (List TPiece) → LInt → Bool → Bool → (List TEnd) → Int → Int → Int → Bool → (List (TMv × LInt)) → LInt → LInt → LInt → Int → Int → LMv → LInt → Option (Int × (TRules × ((List (TMv × LInt)) × Bool)))) (x_ : (TRules × ((List (TMv × LInt)) × Bool))) (p_ : TPos) (depth : Int) : Option (Int × (TRules × ((List (TMv × LInt)) × Bool))) :=
 bif (eqI (x_.2.1.length : Int) 5000) then (some (0, (x_.1, (x_.2.1, true))))
 else bif x_.2.2 then (some (0, x_))
 else (Q62 N x_.1 p_ depth).bind fun y2 =>
 chk (capOk 48 (x_.2.1.length + ([(y2.1, [])] : List (TMv × LInt)).length)) <|
 (Q28 N x_.1 p_ y2.1).bind fun y3 =>
 (Q34 N x_.1 y3).bind fun y4 =>
 bif (!(eqI y4 0)) then (some ((x_.2.1.length : Int), (x_.1, ((x_.2.1 ++ [(y2.1, [])]), x_.2.2))))
 else (Q50 N x_.1 y3).bind fun y5 =>
 r0 (y5.length : Int) 0 x_.1.1 x_.1.2.1 x_.1.2.2.1 x_.1.2.2.2.1 x_.1.2.2.2.2.1 x_.1.2.2.2.2.2.1 x_.1.2.2.2.2.2.2.1 x_.1.2.2.2.2.2.2.2.1 x_.1.2.2.2.2.2.2.2.2.1 x_.1.2.2.2.2.2.2.2.2.2.1 x_.1.2.2.2.2.2.2.2.2.2.2 x_.2.2 (x_.2.1 ++ [(y2.1, [])]) y3.1 y3.2.1.1 y3.2.1.2 y3.2.2.1 y3.2.2.2 y5 []
def Q35.s0 (N : Nat) (self : (TRules × ((List (TMv × LInt)) × Bool)) → TPos → Int → Option (Int × (TRules × ((List (TMv × LInt)) × Bool)))) (x_ : (TRules × ((List (TMv × LInt)) × Bool))) (p_ : TPos) (depth : Int) (r0 : Int → Int → ByteArray → Int → Int → (List TPiece) → LInt → Bool → Bool → (List TEnd) → Int → Int → Int → Bool → (List (TMv × LInt)) → LInt → LInt → LInt → Int → Int → LMv → LInt → Option (Int × (TRules × ((List (TMv × LInt)) × Bool)))) (t73_ t74_ : Int) (x_2 : ByteArray) (x_3 x_4 : Int) (x_5 : (List TPiece)) (x_6 : LInt) (x_7 x_8 : Bool) (x_9 : (List TEnd)) (x_10 x_11 x_12 : Int) (x_13 : Bool) (m5_ : (List (TMv × LInt))) (m6_ m7_ m8_ : LInt) (q_ q_2 : Int) (m10_ : LMv) (replies : LInt) : Option (Int × (TRules × ((List (TMv × LInt)) × Bool))) :=
 bif (ltI t74_ t73_) then (chk ((leI 0 t74_) && (ltI t74_ (m10_.length : Int))) <|
  (Q28 N (x_2, (x_3, (x_4, (x_5, (x_6, (x_7, (x_8, (x_9, (x_10, (x_11, x_12)))))))))) (m6_, ((m7_, m8_), (q_, q_2))) (gD dM m10_ t74_)).bind fun y6 =>
  (Q34 N (x_2, (x_3, (x_4, (x_5, (x_6, (x_7, (x_8, (x_9, (x_10, (x_11, x_12)))))))))) y6).bind fun y7 =>
  bif (!(eqI y7 0)) then (chk (capOk 8 (replies.length + ([(-1)] : List Int).length)) <|
   r0 t73_ (w64 (t74_ + 1)) x_2 x_3 x_4 x_5 x_6 x_7 x_8 x_9 x_10 x_11 x_12 x_13 m5_ m6_ m7_ m8_ q_ q_2 m10_ (replies ++ [(-1)]))
  else (self ((x_2, (x_3, (x_4, (x_5, (x_6, (x_7, (x_8, (x_9, (x_10, (x_11, x_12)))))))))), (m5_, x_13)) y6 (w64 (depth - 2))).bind fun y8 =>
  chk (capOk 8 (replies.length + ([y8.1] : List Int).length)) <|
  r0 t73_ (w64 (t74_ + 1)) y8.2.1.1 y8.2.1.2.1 y8.2.1.2.2.1 y8.2.1.2.2.2.1 y8.2.1.2.2.2.2.1 y8.2.1.2.2.2.2.2.1 y8.2.1.2.2.2.2.2.2.1 y8.2.1.2.2.2.2.2.2.2.1 y8.2.1.2.2.2.2.2.2.2.2.1 y8.2.1.2.2.2.2.2.2.2.2.2.1 y8.2.1.2.2.2.2.2.2.2.2.2.2 y8.2.2.2 y8.2.2.1 m6_ m7_ m8_ q_ q_2 m10_ (replies ++ [y8.1]))
 else chk ((leI 0 (x_.2.1.length : Int)) && (ltI (x_.2.1.length : Int) (m5_.length : Int))) <|
 some ((x_.2.1.length : Int), ((x_2, (x_3, (x_4, (x_5, (x_6, (x_7, (x_8, (x_9, (x_10, (x_11, x_12)))))))))), ((m5_.set (x_.2.1.length : Int).toNat ((gD (dM, ([] : LInt)) m5_ (x_.2.1.length : Int)).1, replies)), x_13)))
def Q35.L (N : Nat) (self : (TRules × ((List (TMv × LInt)) × Bool)) → TPos → Int → Option (Int × (TRules × ((List (TMv × LInt)) × Bool)))) (x_ : (TRules × ((List (TMv × LInt)) × Bool))) (p_ : TPos) (depth : Int) : Nat → (Int → Int → ByteArray → Int → Int → (List TPiece) → LInt → Bool → Bool → (List TEnd) → Int → Int → Int → Bool → (List (TMv × LInt)) → LInt → LInt → LInt → Int → Int → LMv → LInt → Option (Int × (TRules × ((List (TMv × LInt)) × Bool))))
 | 0 => fun _ _ _ _ _ _ _ _ _ _ _ _ _ _ _ _ _ _ _ _ _ _ => none
 | n + 1 => fun t73_ t74_ x_2 x_3 x_4 x_5 x_6 x_7 x_8 x_9 x_10 x_11 x_12 x_13 m5_ m6_ m7_ m8_ q_ q_2 m10_ replies => Q35.s0 N self x_ p_ depth (Q35.L N self x_ p_ depth n) t73_ t74_ x_2 x_3 x_4 x_5 x_6 x_7 x_8 x_9 x_10 x_11 x_12 x_13 m5_ m6_ m7_ m8_ q_ q_2 m10_ replies
def Q35.l0 (N : Nat) (self : (TRules × ((List (TMv × LInt)) × Bool)) → TPos → Int → Option (Int × (TRules × ((List (TMv × LInt)) × Bool)))) (x_ : (TRules × ((List (TMv × LInt)) × Bool))) (p_ : TPos) (depth : Int) (n : Nat) : Int → Int → ByteArray → Int → Int → (List TPiece) → LInt → Bool → Bool → (List TEnd) → Int → Int → Int → Bool → (List (TMv × LInt)) → LInt → LInt → LInt → Int → Int → LMv → LInt → Option (Int × (TRules × ((List (TMv × LInt)) × Bool))) := (Q35.L N self x_ p_ depth n)
theorem Q35.l0_s (N : Nat) (self : (TRules × ((List (TMv × LInt)) × Bool)) → TPos → Int → Option (Int × (TRules × ((List (TMv × LInt)) × Bool)))) (x_ : (TRules × ((List (TMv × LInt)) × Bool))) (p_ : TPos) (depth : Int) (n : Nat) (t73_ t74_ : Int) (x_2 : ByteArray) (x_3 x_4 : Int) (x_5 : (List TPiece)) (x_6 : LInt) (x_7 x_8 : Bool) (x_9 : (List TEnd)) (x_10 x_11 x_12 : Int) (x_13 : Bool) (m5_ : (List (TMv × LInt))) (m6_ m7_ m8_ : LInt) (q_ q_2 : Int) (m10_ : LMv) (replies : LInt) : Q35.l0 N self x_ p_ depth (n + 1) t73_ t74_ x_2 x_3 x_4 x_5 x_6 x_7 x_8 x_9 x_10 x_11 x_12 x_13 m5_ m6_ m7_ m8_ q_ q_2 m10_ replies = Q35.s0 N self x_ p_ depth (Q35.l0 N self x_ p_ depth n) t73_ t74_ x_2 x_3 x_4 x_5 x_6 x_7 x_8 x_9 x_10 x_11 x_12 x_13 m5_ m6_ m7_ m8_ q_ q_2 m10_ replies := rfl
def Q35 : Nat → (TRules × ((List (TMv × LInt)) × Bool)) → TPos → Int → Option (Int × (TRules × ((List (TMv × LInt)) × Bool)))
 | 0 => fun _ _ _ => none
 | N + 1 => fun x_ p_ depth => Q35.e N (Q35 N) (Q35.l0 N (Q35 N) x_ p_ depth N) x_ p_ depth
def Q17.e (N : Nat) (r_ : TRules) (p_ : TPos) (depth : Int) : Option ((List (TMv × LInt)) × Int) :=
 (Q13 N r_ p_ depth).bind fun y1 =>
 bif (!(eqI y1.2 0)) then (some ([], y1.2))
 else (Q34 N r_ p_).bind fun y2 =>
 bif (!(eqI y2 0)) then (some ([], 14))
 else bif (leI y1.1 0) then (some ([], 8))
 else (Q35 N (r_, ([], false)) p_ depth).bind fun y3 =>
 bif y3.2.2.2 then (some ([], 2))
 else some (y3.2.2.1, 0)
def Q17 (N : Nat) (r_ : TRules) (p_ : TPos) (depth : Int) : Option ((List (TMv × LInt)) × Int) := Q17.e N r_ p_ depth
def Q37.e (N : Nat) (r0 : Int → LInt → Option Bool) (r1 : Int → Int → LInt → Int → Int → LInt → Option Bool) (r2 : Int → Int → LInt → Option Bool) (l_ : (List (TMv × LInt))) : Option Bool :=
 chk (leI 0 (l_.length : Int) && (decide ((l_.length : Int).toNat ≤ 140737488355328) && capOk 8 (l_.length : Int).toNat)) <|
 r0 0 (List.replicate (l_.length : Int).toNat (0 : Int))
def Q37.s0 (N : Nat) (l_ : (List (TMv × LInt))) (r0 : Int → LInt → Option Bool) (r1 : Int → Int → LInt → Int → Int → LInt → Option Bool) (r2 : Int → Int → LInt → Option Bool) (t15_ : Int) (named : LInt) : Option Bool :=
 bif (ltI t15_ (l_.length : Int)) then (chk ((leI 0 t15_) && (ltI t15_ (l_.length : Int))) <|
  r1 t15_ t15_ (gD (dM, ([] : LInt)) l_ t15_).2 ((gD (dM, ([] : LInt)) l_ t15_).2.length : Int) 0 named)
 else r2 (named.length : Int) 0 named
def Q37.s1 (N : Nat) (l_ : (List (TMv × LInt))) (r0 : Int → LInt → Option Bool) (r1 : Int → Int → LInt → Int → Int → LInt → Option Bool) (r2 : Int → Int → LInt → Option Bool) (i_ t15_ : Int) (t21_ : LInt) (t22_ t23_ : Int) (named : LInt) : Option Bool :=
 bif (ltI t23_ t22_) then (chk ((leI 0 t23_) && (ltI t23_ (t21_.length : Int))) <|
  bif (eqI (gD (0 : Int) t21_ t23_) (-1)) then (r1 i_ t15_ t21_ t22_ (w64 (t23_ + 1)) named)
  else bif (leI (gD (0 : Int) t21_ t23_) i_) then some false
  else bif (leI (l_.length : Int) (gD (0 : Int) t21_ t23_)) then some false
  else chk ((leI 0 (gD (0 : Int) t21_ t23_)) && (ltI (gD (0 : Int) t21_ t23_) (named.length : Int))) <|
  chk ((leI 0 (gD (0 : Int) t21_ t23_)) && (ltI (gD (0 : Int) t21_ t23_) (named.length : Int))) <|
  r1 i_ t15_ t21_ t22_ (w64 (t23_ + 1)) (named.set (gD (0 : Int) t21_ t23_).toNat (w64 ((gD (0 : Int) named (gD (0 : Int) t21_ t23_)) + 1))))
 else r0 (w64 (t15_ + 1)) named
def Q37.s2 (N : Nat) (l_ : (List (TMv × LInt))) (r0 : Int → LInt → Option Bool) (r1 : Int → Int → LInt → Int → Int → LInt → Option Bool) (r2 : Int → Int → LInt → Option Bool) (t47_ t48_ : Int) (m0_ : LInt) : Option Bool :=
 bif (ltI t48_ t47_) then (chk ((leI 0 t48_) && (ltI t48_ (m0_.length : Int))) <|
  bif (ltI 0 t48_) then (bif (!(eqI (gD (0 : Int) m0_ t48_) 1)) then some false
   else r2 t47_ (w64 (t48_ + 1)) m0_)
  else r2 t47_ (w64 (t48_ + 1)) m0_)
 else some true
def Q37.L (N : Nat) (l_ : (List (TMv × LInt))) : Nat → (Int → LInt → Option Bool) × (Int → Int → LInt → Int → Int → LInt → Option Bool) × (Int → Int → LInt → Option Bool)
 | 0 => (fun _ _ => none, fun _ _ _ _ _ _ => none, fun _ _ _ => none)
 | n + 1 => (fun t15_ named => Q37.s0 N l_ (Q37.L N l_ n).1 (Q37.L N l_ n).2.1 (Q37.L N l_ n).2.2 t15_ named, fun i_ t15_ t21_ t22_ t23_ named => Q37.s1 N l_ (Q37.L N l_ n).1 (Q37.L N l_ n).2.1 (Q37.L N l_ n).2.2 i_ t15_ t21_ t22_ t23_ named, fun t47_ t48_ m0_ => Q37.s2 N l_ (Q37.L N l_ n).1 (Q37.L N l_ n).2.1 (Q37.L N l_ n).2.2 t47_ t48_ m0_)
def Q37.l0 (N : Nat) (l_ : (List (TMv × LInt))) (n : Nat) : Int → LInt → Option Bool := (Q37.L N l_ n).1
def Q37.l1 (N : Nat) (l_ : (List (TMv × LInt))) (n : Nat) : Int → Int → LInt → Int → Int → LInt → Option Bool := (Q37.L N l_ n).2.1
def Q37.l2 (N : Nat) (l_ : (List (TMv × LInt))) (n : Nat) : Int → Int → LInt → Option Bool := (Q37.L N l_ n).2.2
theorem Q37.l0_s (N : Nat) (l_ : (List (TMv × LInt))) (n : Nat) (t15_ : Int) (named : LInt) : Q37.l0 N l_ (n + 1) t15_ named = Q37.s0 N l_ (Q37.l0 N l_ n) (Q37.l1 N l_ n) (Q37.l2 N l_ n) t15_ named := rfl
theorem Q37.l1_s (N : Nat) (l_ : (List (TMv × LInt))) (n : Nat) (i_ t15_ : Int) (t21_ : LInt) (t22_ t23_ : Int) (named : LInt) : Q37.l1 N l_ (n + 1) i_ t15_ t21_ t22_ t23_ named = Q37.s1 N l_ (Q37.l0 N l_ n) (Q37.l1 N l_ n) (Q37.l2 N l_ n) i_ t15_ t21_ t22_ t23_ named := rfl
theorem Q37.l2_s (N : Nat) (l_ : (List (TMv × LInt))) (n : Nat) (t47_ t48_ : Int) (m0_ : LInt) : Q37.l2 N l_ (n + 1) t47_ t48_ m0_ = Q37.s2 N l_ (Q37.l0 N l_ n) (Q37.l1 N l_ n) (Q37.l2 N l_ n) t47_ t48_ m0_ := rfl
def Q37 (N : Nat) (l_ : (List (TMv × LInt))) : Option Bool := Q37.e N (Q37.l0 N l_ N) (Q37.l1 N l_ N) (Q37.l2 N l_ N) l_
def Q38.e (N : Nat) (self : (TRules × ((List (TMv × LInt)) × Int)) → Int → TPos → Option Int) (r0 : Bool → Int → Int → LMv → Option Int) (r1 : Int → Int → Int → LInt → LInt → LInt → Int → Int → LMv → Option Int) (x_ : (TRules × ((List (TMv × LInt)) × Int))) (k_ : Int) (p_ : TPos) : Option Int :=
 chk ((leI 0 k_) && (ltI k_ (x_.2.1.length : Int))) <|
 (Q50 N x_.1 p_).bind fun y1 =>
 r0 false (y1.length : Int) 0 y1
def Q38.s0 (N : Nat) (self : (TRules × ((List (TMv × LInt)) × Int)) → Int → TPos → Option Int) (x_ : (TRules × ((List (TMv × LInt)) × Int))) (k_ : Int) (p_ : TPos) (r0 : Bool → Int → Int → LMv → Option Int) (r1 : Int → Int → Int → LInt → LInt → LInt → Int → Int → LMv → Option Int) (legal : Bool) (t33_ t34_ : Int) (m2_ : LMv) : Option Int :=
 bif (ltI t34_ t33_) then (chk ((leI 0 t34_) && (ltI t34_ (m2_.length : Int))) <|
  bif legal then (r0 true t33_ (w64 (t34_ + 1)) m2_)
  else r0 ((eqI (gD dM m2_ t34_).1 (gD (dM, ([] : LInt)) x_.2.1 k_).1.1) && ((eqI (gD dM m2_ t34_).2.1 (gD (dM, ([] : LInt)) x_.2.1 k_).1.2.1) && ((eqI (gD dM m2_ t34_).2.2 (gD (dM, ([] : LInt)) x_.2.1 k_).1.2.2) && true))) t33_ (w64 (t34_ + 1)) m2_)
 else bif (!legal) then some 0
 else (Q28 N x_.1 p_ (gD (dM, ([] : LInt)) x_.2.1 k_).1).bind fun y3 =>
 (Q34 N x_.1 y3).bind fun y4 =>
 bif (!(eqI y4 0)) then (bif (ltI 0 ((gD (dM, ([] : LInt)) x_.2.1 k_).2.length : Int)) then some 0
  else bif (!(eqI y4 x_.2.2)) then some 0
  else some 1)
 else (Q50 N x_.1 y3).bind fun y6 =>
 bif (!(eqI ((gD (dM, ([] : LInt)) x_.2.1 k_).2.length : Int) (y6.length : Int))) then some 0
 else r1 0 (y6.length : Int) 0 y3.1 y3.2.1.1 y3.2.1.2 y3.2.2.1 y3.2.2.2 y6
def Q38.s1 (N : Nat) (self : (TRules × ((List (TMv × LInt)) × Int)) → Int → TPos → Option Int) (x_ : (TRules × ((List (TMv × LInt)) × Int))) (k_ : Int) (p_ : TPos) (r0 : Bool → Int → Int → LMv → Option Int) (r1 : Int → Int → Int → LInt → LInt → LInt → Int → Int → LMv → Option Int) (most t89_ t90_ : Int) (m3_ m4_ m5_ : LInt) (q_ q_2 : Int) (m7_ : LMv) : Option Int :=
 bif (ltI t90_ t89_) then (chk ((leI 0 t90_) && (ltI t90_ (m7_.length : Int))) <|
  (Q28 N x_.1 (m3_, ((m4_, m5_), (q_, q_2))) (gD dM m7_ t90_)).bind fun y9 =>
  (Q34 N x_.1 y9).bind fun y10 =>
  chk ((leI 0 t90_) && (ltI t90_ ((gD (dM, ([] : LInt)) x_.2.1 k_).2.length : Int))) <|
  bif (!((!(eqI y10 0)) == (eqI (gD (0 : Int) (gD (dM, ([] : LInt)) x_.2.1 k_).2 t90_) (-1)))) then some 0
  else bif (!(eqI y10 0)) then (bif (!(eqI y10 x_.2.2)) then some 0
   else bif (eqI y10 0) then (chk ((leI 0 t90_) && (ltI t90_ ((gD (dM, ([] : LInt)) x_.2.1 k_).2.length : Int))) <|
    (self x_ (gD (0 : Int) (gD (dM, ([] : LInt)) x_.2.1 k_).2 t90_) y9).bind fun y13 =>
    bif (eqI y13 0) then some 0
    else r1 (bif (ltI most (w64 (y13 + 2))) then (w64 (y13 + 2)) else most) t89_ (w64 (t90_ + 1)) m3_ m4_ m5_ q_ q_2 m7_)
   else r1 (bif (ltI most 2) then 2 else most) t89_ (w64 (t90_ + 1)) m3_ m4_ m5_ q_ q_2 m7_)
  else bif (eqI y10 0) then (chk ((leI 0 t90_) && (ltI t90_ ((gD (dM, ([] : LInt)) x_.2.1 k_).2.length : Int))) <|
   (self x_ (gD (0 : Int) (gD (dM, ([] : LInt)) x_.2.1 k_).2 t90_) y9).bind fun y16 =>
   bif (eqI y16 0) then some 0
   else r1 (bif (ltI most (w64 (y16 + 2))) then (w64 (y16 + 2)) else most) t89_ (w64 (t90_ + 1)) m3_ m4_ m5_ q_ q_2 m7_)
  else r1 (bif (ltI most 2) then 2 else most) t89_ (w64 (t90_ + 1)) m3_ m4_ m5_ q_ q_2 m7_)
 else some most
def Q38.L (N : Nat) (self : (TRules × ((List (TMv × LInt)) × Int)) → Int → TPos → Option Int) (x_ : (TRules × ((List (TMv × LInt)) × Int))) (k_ : Int) (p_ : TPos) : Nat → (Bool → Int → Int → LMv → Option Int) × (Int → Int → Int → LInt → LInt → LInt → Int → Int → LMv → Option Int)
 | 0 => (fun _ _ _ _ => none, fun _ _ _ _ _ _ _ _ _ => none)
 | n + 1 => (fun legal t33_ t34_ m2_ => Q38.s0 N self x_ k_ p_ (Q38.L N self x_ k_ p_ n).1 (Q38.L N self x_ k_ p_ n).2 legal t33_ t34_ m2_, fun most t89_ t90_ m3_ m4_ m5_ q_ q_2 m7_ => Q38.s1 N self x_ k_ p_ (Q38.L N self x_ k_ p_ n).1 (Q38.L N self x_ k_ p_ n).2 most t89_ t90_ m3_ m4_ m5_ q_ q_2 m7_)
def Q38.l0 (N : Nat) (self : (TRules × ((List (TMv × LInt)) × Int)) → Int → TPos → Option Int) (x_ : (TRules × ((List (TMv × LInt)) × Int))) (k_ : Int) (p_ : TPos) (n : Nat) : Bool → Int → Int → LMv → Option Int := (Q38.L N self x_ k_ p_ n).1
def Q38.l1 (N : Nat) (self : (TRules × ((List (TMv × LInt)) × Int)) → Int → TPos → Option Int) (x_ : (TRules × ((List (TMv × LInt)) × Int))) (k_ : Int) (p_ : TPos) (n : Nat) : Int → Int → Int → LInt → LInt → LInt → Int → Int → LMv → Option Int := (Q38.L N self x_ k_ p_ n).2
theorem Q38.l0_s (N : Nat) (self : (TRules × ((List (TMv × LInt)) × Int)) → Int → TPos → Option Int) (x_ : (TRules × ((List (TMv × LInt)) × Int))) (k_ : Int) (p_ : TPos) (n : Nat) (legal : Bool) (t33_ t34_ : Int) (m2_ : LMv) : Q38.l0 N self x_ k_ p_ (n + 1) legal t33_ t34_ m2_ = Q38.s0 N self x_ k_ p_ (Q38.l0 N self x_ k_ p_ n) (Q38.l1 N self x_ k_ p_ n) legal t33_ t34_ m2_ := rfl
theorem Q38.l1_s (N : Nat) (self : (TRules × ((List (TMv × LInt)) × Int)) → Int → TPos → Option Int) (x_ : (TRules × ((List (TMv × LInt)) × Int))) (k_ : Int) (p_ : TPos) (n : Nat) (most t89_ t90_ : Int) (m3_ m4_ m5_ : LInt) (q_ q_2 : Int) (m7_ : LMv) : Q38.l1 N self x_ k_ p_ (n + 1) most t89_ t90_ m3_ m4_ m5_ q_ q_2 m7_ = Q38.s1 N self x_ k_ p_ (Q38.l0 N self x_ k_ p_ n) (Q38.l1 N self x_ k_ p_ n) most t89_ t90_ m3_ m4_ m5_ q_ q_2 m7_ := rfl
def Q38 : Nat → (TRules × ((List (TMv × LInt)) × Int)) → Int → TPos → Option Int
 | 0 => fun _ _ _ => none
 | N + 1 => fun x_ k_ p_ => Q38.e N (Q38 N) (Q38.l0 N (Q38 N) x_ k_ p_ N) (Q38.l1 N (Q38 N) x_ k_ p_ N) x_ k_ p_
def Q18.e (N : Nat) (r_ : TRules) (p_ : TPos) (l_ : (List (TMv × LInt))) : Option (Int × Int) :=
 (Q36 N r_ p_).bind fun y1 =>
 bif (!(eqI y1 0)) then (some (0, y1))
 else bif (ltI 5000 (l_.length : Int)) then (some (0, 2))
 else bif (eqI (l_.length : Int) 0) then (some (0, 3))
 else (Q34 N r_ p_).bind fun y4 =>
 bif (!(eqI y4 0)) then (some (0, 14))
 else (Q37 N l_).bind fun y5 =>
 bif (!y5) then (some (0, 3))
 else (Q38 N (r_, (l_, (w64 (1 + p_.2.2.1)))) 0 p_).bind fun y6 =>
 bif (eqI y6 0) then (some (0, 16))
 else some (y6, 0)
def Q18 (N : Nat) (r_ : TRules) (p_ : TPos) (l_ : (List (TMv × LInt))) : Option (Int × Int) := Q18.e N r_ p_ l_
def Q32.e (N : Nat) (e_ : Int) : Option Bool :=
 some (!(eqI e_ 0))
def Q32 (N : Nat) (e_ : Int) : Option Bool := Q32.e N e_
def Q59.e (N : Nat) (r0 : Int → Option Int) (s_ : LInt) : Option Int :=
 r0 0
def Q59.s0 (N : Nat) (s_ : LInt) (r0 : Int → Option Int) (t8_ : Int) : Option Int :=
 bif (ltI t8_ (s_.length : Int)) then (chk ((leI 0 t8_) && (ltI t8_ (s_.length : Int))) <|
  (Q32 N (gD (0 : Int) s_ t8_)).bind fun y2 =>
  bif y2 then some t8_
  else r0 (w64 (t8_ + 1)))
 else some (-1)
def Q59.L (N : Nat) (s_ : LInt) : Nat → (Int → Option Int)
 | 0 => fun _ => none
 | n + 1 => fun t8_ => Q59.s0 N s_ (Q59.L N s_ n) t8_
def Q59.l0 (N : Nat) (s_ : LInt) (n : Nat) : Int → Option Int := (Q59.L N s_ n)
theorem Q59.l0_s (N : Nat) (s_ : LInt) (n : Nat) (t8_ : Int) : Q59.l0 N s_ (n + 1) t8_ = Q59.s0 N s_ (Q59.l0 N s_ n) t8_ := rfl
def Q59 (N : Nat) (s_ : LInt) : Option Int := Q59.e N (Q59.l0 N s_ N) s_
def Q31.e (N : Nat) (s_ : LInt) : Option Bool :=
 (Q59 N s_).bind fun y1 =>
 some (leI 0 y1)
def Q31 (N : Nat) (s_ : LInt) : Option Bool := Q31.e N s_
def Q14.e (N : Nat) (l_ : LInt) : Option Bool :=
 (Q31 N l_).bind fun y1 =>
 some (!y1)
def Q14 (N : Nat) (l_ : LInt) : Option Bool := Q14.e N l_
def Q53.e (N : Nat) (r0 : Int → Option Bool) (s1_ s2_ : LInt) : Option Bool :=
 bif (!(eqI (s1_.length : Int) (s2_.length : Int))) then some false
 else r0 0
def Q53.s0 (N : Nat) (s1_ s2_ : LInt) (r0 : Int → Option Bool) (t13_ : Int) : Option Bool :=
 bif (ltI t13_ (s1_.length : Int)) then (chk ((leI 0 t13_) && (ltI t13_ (s1_.length : Int))) <|
  chk ((leI 0 t13_) && (ltI t13_ (s2_.length : Int))) <|
  bif (!(eqI (gD (0 : Int) s1_ t13_) (gD (0 : Int) s2_ t13_))) then some false
  else r0 (w64 (t13_ + 1)))
 else some true
def Q53.L (N : Nat) (s1_ s2_ : LInt) : Nat → (Int → Option Bool)
 | 0 => fun _ => none
 | n + 1 => fun t13_ => Q53.s0 N s1_ s2_ (Q53.L N s1_ s2_ n) t13_
def Q53.l0 (N : Nat) (s1_ s2_ : LInt) (n : Nat) : Int → Option Bool := (Q53.L N s1_ s2_ n)
theorem Q53.l0_s (N : Nat) (s1_ s2_ : LInt) (n : Nat) (t13_ : Int) : Q53.l0 N s1_ s2_ (n + 1) t13_ = Q53.s0 N s1_ s2_ (Q53.l0 N s1_ s2_ n) t13_ := rfl
def Q53 (N : Nat) (s1_ s2_ : LInt) : Option Bool := Q53.e N (Q53.l0 N s1_ s2_ N) s1_ s2_
def Q26.e (N : Nat) (p_ q_ : TPos) : Option Bool :=
 bif (eqI p_.2.2.1 q_.2.2.1) then ((Q53 N p_.1 q_.1).bind fun y1 =>
  bif y1 then ((Q53 N p_.2.1.1 q_.2.1.1).bind fun y2 =>
   bif y2 then ((Q53 N p_.2.1.2 q_.2.1.2).bind fun y3 =>
    some y3)
   else some false)
  else some false)
 else some false
def Q26 (N : Nat) (p_ q_ : TPos) : Option Bool := Q26.e N p_ q_
def Q9.e (N : Nat) : Option Bool :=
 (Q6 N).bind fun y1 =>
 (Q7 N).bind fun y2 =>
 (Q13 N y1 y2 1).bind fun y3 =>
 (Q6 N).bind fun y4 =>
 (Q7 N).bind fun y5 =>
 (Q25 N y4 y5 1).bind fun y6 =>
 (Q14 N [y3.2, y6.2]).bind fun y7 =>
 bif y7 then (bif (eqI y3.1 999) then (bif (eqI y6.1 6) then ((Q7 N).bind fun y8 =>
    (Q7 N).bind fun y9 =>
    (Q26 N y8 y9).bind fun y10 =>
    some y10)
   else some false)
  else some false)
 else some false
def Q9 (N : Nat) : Option Bool := Q9.e N
def Q40.e (N : Nat) (x_ : (TBoard × (Int × Int))) : Option ((Unit × (Unit × (Int × (Int × Bool)))) × (TBoard × (Int × Int))) :=
 (Q22 N x_.1).bind fun y1 =>
 bif (eqI y1 0) then (some (((), ((), (1, (1, false)))), x_))
 else bif (eqI y1 (w64 (1 + x_.2.1))) then (some (((), ((), (0, (1099511627776, true)))), x_))
 else some (((), ((), (1099511627776, (0, true)))), x_)
def Q40 (N : Nat) (x_ : (TBoard × (Int × Int))) : Option ((Unit × (Unit × (Int × (Int × Bool)))) × (TBoard × (Int × Int))) := Q40.e N x_
def Q64.e (N : Nat) (r0 : Int → Int → Int → Option (Int × ((List TPN) × Int))) (n_ : ((List TPN) × Int)) (own : Bool) : Option (Int × ((List TPN) × Int)) :=
 chk (leI 0 n_.2) <|
 r0 0 ((gD dP n_.1 n_.2).2.1.length : Int) 0
def Q64.s0 (N : Nat) (n_ : ((List TPN) × Int)) (own : Bool) (r0 : Int → Int → Int → Option (Int × ((List TPN) × Int))) (best t14_ t15_ : Int) : Option (Int × ((List TPN) × Int)) :=
 bif (ltI t15_ t14_) then (chk ((leI 0 t15_) && (ltI t15_ ((gD dP n_.1 n_.2).2.1.length : Int))) <|
  chk (eqI ((gD dP n_.1 n_.2).2.1.length : Int) ((gD dP n_.1 n_.2).2.1.length : Int)) <|
  let v2 : Int := (gD (-1 : Int) (gD dP n_.1 n_.2).2.1 t15_)
  chk (leI 0 v2) <|
  chk (leI 0 n_.2) <|
  chk ((leI 0 best) && (ltI best ((gD dP n_.1 n_.2).2.1.length : Int))) <|
  chk (eqI ((gD dP n_.1 n_.2).2.1.length : Int) ((gD dP n_.1 n_.2).2.1.length : Int)) <|
  let v3 : Int := (gD (-1 : Int) (gD dP n_.1 n_.2).2.1 best)
  chk (leI 0 v3) <|
  bif (!own) then (chk (leI 0 v2) <|
   chk (leI 0 n_.2) <|
   chk ((leI 0 best) && (ltI best ((gD dP n_.1 n_.2).2.1.length : Int))) <|
   chk (eqI ((gD dP n_.1 n_.2).2.1.length : Int) ((gD dP n_.1 n_.2).2.1.length : Int)) <|
   let v4 : Int := (gD (-1 : Int) (gD dP n_.1 n_.2).2.1 best)
   chk (leI 0 v4) <|
   bif (ltI (gD dP n_.1 v2).2.2.2.1 (gD dP n_.1 v4).2.2.2.1) then (r0 t15_ t14_ (w64 (t15_ + 1)))
   else r0 best t14_ (w64 (t15_ + 1)))
  else bif (ltI (gD dP n_.1 v2).2.2.1 (gD dP n_.1 v3).2.2.1) then (r0 t15_ t14_ (w64 (t15_ + 1)))
  else r0 best t14_ (w64 (t15_ + 1)))
 else some (best, n_)
def Q64.L (N : Nat) (n_ : ((List TPN) × Int)) (own : Bool) : Nat → (Int → Int → Int → Option (Int × ((List TPN) × Int)))
 | 0 => fun _ _ _ => none
 | n + 1 => fun best t14_ t15_ => Q64.s0 N n_ own (Q64.L N n_ own n) best t14_ t15_
def Q64.l0 (N : Nat) (n_ : ((List TPN) × Int)) (own : Bool) (n : Nat) : Int → Int → Int → Option (Int × ((List TPN) × Int)) := (Q64.L N n_ own n)
theorem Q64.l0_s (N : Nat) (n_ : ((List TPN) × Int)) (own : Bool) (n : Nat) (best t14_ t15_ : Int) : Q64.l0 N n_ own (n + 1) best t14_ t15_ = Q64.s0 N n_ own (Q64.l0 N n_ own n) best t14_ t15_ := rfl
def Q64 (N : Nat) (n_ : ((List TPN) × Int)) (own : Bool) : Option (Int × ((List TPN) × Int)) := Q64.e N (Q64.l0 N n_ own N) n_ own
def Q66.e (N : Nat) (r0 : Int → Int → Int → Int → Option ((List TPN) × Int)) (n_ : ((List TPN) × Int)) (own : Bool) : Option ((List TPN) × Int) :=
 chk (leI 0 n_.2) <|
 r0 1099511627776 0 ((gD dP n_.1 n_.2).2.1.length : Int) 0
def Q66.s0 (N : Nat) (n_ : ((List TPN) × Int)) (own : Bool) (r0 : Int → Int → Int → Int → Option ((List TPN) × Int)) (least sum t14_ t15_ : Int) : Option ((List TPN) × Int) :=
 bif (ltI t15_ t14_) then (chk ((leI 0 t15_) && (ltI t15_ ((gD dP n_.1 n_.2).2.1.length : Int))) <|
  chk (eqI ((gD dP n_.1 n_.2).2.1.length : Int) ((gD dP n_.1 n_.2).2.1.length : Int)) <|
  let v2 : Int := (gD (-1 : Int) (gD dP n_.1 n_.2).2.1 t15_)
  chk (leI 0 v2) <|
  chk (leI 0 v2) <|
  bif (!own) then (let v4 : Int := (w64 (sum + (gD dP n_.1 v2).2.2.1))
   r0 (bif (ltI (gD dP n_.1 v2).2.2.2.1 least) then (gD dP n_.1 v2).2.2.2.1 else least) (bif (ltI v4 1099511627776) then v4 else 1099511627776) t14_ (w64 (t15_ + 1)))
  else let v7 : Int := (w64 (sum + (gD dP n_.1 v2).2.2.2.1))
  r0 (bif (ltI (gD dP n_.1 v2).2.2.1 least) then (gD dP n_.1 v2).2.2.1 else least) (bif (ltI v7 1099511627776) then v7 else 1099511627776) t14_ (w64 (t15_ + 1)))
 else chk (leI 0 n_.2) <|
 let v9 : (List TPN) := (n_.1.set n_.2.toNat ((gD dP n_.1 n_.2).1, ((gD dP n_.1 n_.2).2.1, (least, (gD dP n_.1 n_.2).2.2.2))))
 chk (leI 0 n_.2) <|
 let v10 : (List TPN) := (v9.set n_.2.toNat ((gD dP v9 n_.2).1, ((gD dP v9 n_.2).2.1, ((gD dP v9 n_.2).2.2.1, (sum, (gD dP v9 n_.2).2.2.2.2)))))
 bif (!own) then (chk (leI 0 n_.2) <|
  let v11 : (List TPN) := (v10.set n_.2.toNat ((gD dP v10 n_.2).1, ((gD dP v10 n_.2).2.1, (sum, (gD dP v10 n_.2).2.2.2))))
  chk (leI 0 n_.2) <|
  some ((v11.set n_.2.toNat ((gD dP v11 n_.2).1, ((gD dP v11 n_.2).2.1, ((gD dP v11 n_.2).2.2.1, (least, (gD dP v11 n_.2).2.2.2.2))))), n_.2))
 else some (v10, n_.2)
def Q66.L (N : Nat) (n_ : ((List TPN) × Int)) (own : Bool) : Nat → (Int → Int → Int → Int → Option ((List TPN) × Int))
 | 0 => fun _ _ _ _ => none
 | n + 1 => fun least sum t14_ t15_ => Q66.s0 N n_ own (Q66.L N n_ own n) least sum t14_ t15_
def Q66.l0 (N : Nat) (n_ : ((List TPN) × Int)) (own : Bool) (n : Nat) : Int → Int → Int → Int → Option ((List TPN) × Int) := (Q66.L N n_ own n)
theorem Q66.l0_s (N : Nat) (n_ : ((List TPN) × Int)) (own : Bool) (n : Nat) (least sum t14_ t15_ : Int) : Q66.l0 N n_ own (n + 1) least sum t14_ t15_ = Q66.s0 N n_ own (Q66.l0 N n_ own n) least sum t14_ t15_ := rfl
def Q66 (N : Nat) (n_ : ((List TPN) × Int)) (own : Bool) : Option ((List TPN) × Int) := Q66.e N (Q66.l0 N n_ own N) n_ own
def Q65.e (N : Nat) (r0 : LMv → Int → Int → Int → Int → ByteArray → Int → Int → Bool → Bool → Int → Int → Int → Int → Int → Int → (List TPiece) → LInt → (List TEnd) → LInt → LInt → LInt → (List TUndo) → (List TPN) → Option ((TBoard × (Int × Int)) × ((List TPN) × Int))) (x_ : (TBoard × (Int × Int))) (n_ : ((List TPN) × Int)) : Option ((TBoard × (Int × Int)) × ((List TPN) × Int)) :=
 chk (leI 0 n_.2) <|
 let v1 : (List TPN) := (n_.1.set n_.2.toNat ((gD dP n_.1 n_.2).1, ((gD dP n_.1 n_.2).2.1, ((gD dP n_.1 n_.2).2.2.1, ((gD dP n_.1 n_.2).2.2.2.1, true)))))
 (Q24 N x_.1).bind fun y2 =>
 chk (leI 0 n_.2) <|
 let v3 : (List TPN) := (v1.set n_.2.toNat (y2, (gD dP v1 n_.2).2))
 chk (leI 0 n_.2) <|
 r0 (gD dP v3 n_.2).1 ((gD dP v3 n_.2).1.length : Int) 0 x_.2.1 (w64 (x_.2.2 + 1)) x_.1.1.1 x_.1.1.2.1 x_.1.1.2.2.1 x_.1.1.2.2.2.2.2.1 x_.1.1.2.2.2.2.2.2.1 x_.1.1.2.2.2.2.2.2.2.2.1 x_.1.1.2.2.2.2.2.2.2.2.2.1 x_.1.1.2.2.2.2.2.2.2.2.2.2 x_.1.2.1.2.2.1 x_.1.2.1.2.2.2 x_.1.2.2.1 x_.1.1.2.2.2.1 x_.1.1.2.2.2.2.1 x_.1.1.2.2.2.2.2.2.2.1 x_.1.2.1.1 x_.1.2.1.2.1.1 x_.1.2.1.2.1.2 x_.1.2.2.2 v3
def Q65.s0 (N : Nat) (x_ : (TBoard × (Int × Int))) (n_ : ((List TPN) × Int)) (r0 : LMv → Int → Int → Int → Int → ByteArray → Int → Int → Bool → Bool → Int → Int → Int → Int → Int → Int → (List TPiece) → LInt → (List TEnd) → LInt → LInt → LInt → (List TUndo) → (List TPN) → Option ((TBoard × (Int × Int)) × ((List TPN) × Int))) (t27_ : LMv) (t28_ t29_ x_2 x_3 : Int) (m1_ : ByteArray) (m1_2 m1_3 : Int) (m1_4 m1_5 : Bool) (m1_6 m1_7 m1_8 m1_9 m1_10 m1_11 : Int) (m11_ : (List TPiece)) (m12_ : LInt) (m13_ : (List TEnd)) (m14_ m15_ m16_ : LInt) (m17_ : (List TUndo)) (nodes : (List TPN)) : Option ((TBoard × (Int × Int)) × ((List TPN) × Int)) :=
 bif (ltI t29_ t28_) then (chk ((leI 0 t29_) && (ltI t29_ (t27_.length : Int))) <|
  (Q47 N ((m1_, (m1_2, (m1_3, (m11_, (m12_, (m1_4, (m1_5, (m13_, (m1_6, (m1_7, m1_8)))))))))), ((m14_, ((m15_, m16_), (m1_9, m1_10))), (m1_11, m17_))) (gD dM t27_ t29_)).bind fun y5 =>
  chk (leI 0 n_.2) <|
  bothK ((Q40 N (y5, (x_2, x_3))).bind fun y6 =>
   let v7 : (List TPN) := (nodes ++ [([], ([], y6.1.2.2))])
   chk ((eqI ((gD dP nodes n_.2).2.1.length : Int) ((gD dP v7 n_.2).2.1.length : Int)) && (true && capOk 8 ((gD dP v7 n_.2).2.1.length + 1))) <|
   chk (leI 0 n_.2) <|
   chk ((eqI n_.2 n_.2) && ((eqI n_.2 n_.2) && (eqI (((gD dP nodes n_.2).2.1.length : Int) + 1) (((gD dP v7 n_.2).2.1.length : Int) + 1)))) <|
   (Q48 N y6.2.1).bind fun y10 =>
   r0 t27_ t28_ (w64 (t29_ + 1)) y6.2.2.1 y6.2.2.2 y10.2.1.1 y10.2.1.2.1 y10.2.1.2.2.1 y10.2.1.2.2.2.2.2.1 y10.2.1.2.2.2.2.2.2.1 y10.2.1.2.2.2.2.2.2.2.2.1 y10.2.1.2.2.2.2.2.2.2.2.2.1 y10.2.1.2.2.2.2.2.2.2.2.2.2 y10.2.2.1.2.2.1 y10.2.2.1.2.2.2 y10.2.2.2.1 y10.2.1.2.2.2.1 y10.2.1.2.2.2.2.1 y10.2.1.2.2.2.2.2.2.2.1 y10.2.2.1.1 y10.2.2.1.2.1.1 y10.2.2.1.2.1.2 y10.2.2.2.2 (v7.set n_.2.toNat ((gD dP v7 n_.2).1, (((gD dP v7 n_.2).2.1 ++ [(nodes.length : Int)]), (gD dP v7 n_.2).2.2)))) ((Q40 N (y5, (x_2, x_3))).bind fun y11 =>
   let v12 : (List TPN) := (nodes ++ [([], ([], y11.1.2.2))])
   chk ((eqI ((gD dP nodes n_.2).2.1.length : Int) ((gD dP v12 n_.2).2.1.length : Int)) && (true && capOk 8 ((gD dP v12 n_.2).2.1.length + 1))) <|
   chk (leI 0 n_.2) <|
   chk ((eqI n_.2 n_.2) && ((eqI n_.2 n_.2) && (eqI (((gD dP nodes n_.2).2.1.length : Int) + 1) (((gD dP v12 n_.2).2.1.length : Int) + 1)))) <|
   (Q48 N y11.2.1).bind fun y15 =>
   r0 t27_ t28_ (w64 (t29_ + 1)) y11.2.2.1 y11.2.2.2 y15.2.1.1 y15.2.1.2.1 y15.2.1.2.2.1 y15.2.1.2.2.2.2.2.1 y15.2.1.2.2.2.2.2.2.1 y15.2.1.2.2.2.2.2.2.2.2.1 y15.2.1.2.2.2.2.2.2.2.2.2.1 y15.2.1.2.2.2.2.2.2.2.2.2.2 y15.2.2.1.2.2.1 y15.2.2.1.2.2.2 y15.2.2.2.1 y15.2.1.2.2.2.1 y15.2.1.2.2.2.2.1 y15.2.1.2.2.2.2.2.2.2.1 y15.2.2.1.1 y15.2.2.1.2.1.1 y15.2.2.1.2.1.2 y15.2.2.2.2 (v12.set n_.2.toNat ((gD dP v12 n_.2).1, (((gD dP v12 n_.2).2.1 ++ [(nodes.length : Int)]), (gD dP v12 n_.2).2.2)))))
 else some ((((m1_, (m1_2, (m1_3, (m11_, (m12_, (m1_4, (m1_5, (m13_, (m1_6, (m1_7, m1_8)))))))))), ((m14_, ((m15_, m16_), (m1_9, m1_10))), (m1_11, m17_))), (x_2, x_3)), (nodes, n_.2))
def Q65.L (N : Nat) (x_ : (TBoard × (Int × Int))) (n_ : ((List TPN) × Int)) : Nat → (LMv → Int → Int → Int → Int → ByteArray → Int → Int → Bool → Bool → Int → Int → Int → Int → Int → Int → (List TPiece) → LInt → (List TEnd) → LInt → LInt → LInt → (List TUndo) → (List TPN) → Option ((TBoard × (Int × Int)) × ((List TPN) × Int)))
 | 0 => fun _ _ _ _ _ _ _ _ _ _ _ _ _ _ _ _ _ _ _ _ _ _ _ _ => none
 | n + 1 => fun t27_ t28_ t29_ x_2 x_3 m1_ m1_2 m1_3 m1_4 m1_5 m1_6 m1_7 m1_8 m1_9 m1_10 m1_11 m11_ m12_ m13_ m14_ m15_ m16_ m17_ nodes => Q65.s0 N x_ n_ (Q65.L N x_ n_ n) t27_ t28_ t29_ x_2 x_3 m1_ m1_2 m1_3 m1_4 m1_5 m1_6 m1_7 m1_8 m1_9 m1_10 m1_11 m11_ m12_ m13_ m14_ m15_ m16_ m17_ nodes
def Q65.l0 (N : Nat) (x_ : (TBoard × (Int × Int))) (n_ : ((List TPN) × Int)) (n : Nat) : LMv → Int → Int → Int → Int → ByteArray → Int → Int → Bool → Bool → Int → Int → Int → Int → Int → Int → (List TPiece) → LInt → (List TEnd) → LInt → LInt → LInt → (List TUndo) → (List TPN) → Option ((TBoard × (Int × Int)) × ((List TPN) × Int)) := (Q65.L N x_ n_ n)
theorem Q65.l0_s (N : Nat) (x_ : (TBoard × (Int × Int))) (n_ : ((List TPN) × Int)) (n : Nat) (t27_ : LMv) (t28_ t29_ x_2 x_3 : Int) (m1_ : ByteArray) (m1_2 m1_3 : Int) (m1_4 m1_5 : Bool) (m1_6 m1_7 m1_8 m1_9 m1_10 m1_11 : Int) (m11_ : (List TPiece)) (m12_ : LInt) (m13_ : (List TEnd)) (m14_ m15_ m16_ : LInt) (m17_ : (List TUndo)) (nodes : (List TPN)) : Q65.l0 N x_ n_ (n + 1) t27_ t28_ t29_ x_2 x_3 m1_ m1_2 m1_3 m1_4 m1_5 m1_6 m1_7 m1_8 m1_9 m1_10 m1_11 m11_ m12_ m13_ m14_ m15_ m16_ m17_ nodes = Q65.s0 N x_ n_ (Q65.l0 N x_ n_ n) t27_ t28_ t29_ x_2 x_3 m1_ m1_2 m1_3 m1_4 m1_5 m1_6 m1_7 m1_8 m1_9 m1_10 m1_11 m11_ m12_ m13_ m14_ m15_ m16_ m17_ nodes := rfl
def Q65 (N : Nat) (x_ : (TBoard × (Int × Int))) (n_ : ((List TPN) × Int)) : Option ((TBoard × (Int × Int)) × ((List TPN) × Int)) := Q65.e N (Q65.l0 N x_ n_ N) x_ n_
def Q41.e (N : Nat) (self : (TBoard × (Int × Int)) → ((List TPN) × Int) → Option ((TBoard × (Int × Int)) × ((List TPN) × Int))) (x_ : (TBoard × (Int × Int))) (n_ : ((List TPN) × Int)) : Option ((TBoard × (Int × Int)) × ((List TPN) × Int)) :=
 (Q39 N x_.1).bind fun y1 =>
 chk (leI 0 n_.2) <|
 bif (gD dP n_.1 n_.2).2.2.2.2 then ((Q64 N n_ (eqI y1 x_.2.1)).bind fun y2 =>
  chk (leI 0 n_.2) <|
  chk ((leI 0 y2.1) && (ltI y2.1 ((gD dP y2.2.1 n_.2).1.length : Int))) <|
  (Q47 N x_.1 (gD dM (gD dP y2.2.1 n_.2).1 y2.1)).bind fun y3 =>
  chk (leI 0 n_.2) <|
  chk ((leI 0 y2.1) && (ltI y2.1 ((gD dP y2.2.1 n_.2).2.1.length : Int))) <|
  chk (eqI ((gD dP y2.2.1 n_.2).2.1.length : Int) ((gD dP y2.2.1 n_.2).2.1.length : Int)) <|
  (self (y3, x_.2) (y2.2.1, (gD (-1 : Int) (gD dP y2.2.1 n_.2).2.1 y2.1))).bind fun y5 =>
  (Q48 N y5.1.1).bind fun y6 =>
  (Q66 N (y5.2.1, n_.2) (eqI y1 x_.2.1)).bind fun y7 =>
  some ((y6.2, y5.1.2), (y7.1, n_.2)))
 else (Q65 N x_ n_).bind fun y8 =>
 (Q66 N (y8.2.1, n_.2) (eqI y1 x_.2.1)).bind fun y9 =>
 some (y8.1, (y9.1, n_.2))
def Q41 : Nat → (TBoard × (Int × Int)) → ((List TPN) × Int) → Option ((TBoard × (Int × Int)) × ((List TPN) × Int))
 | 0 => fun _ _ => none
 | N + 1 => fun x_ n_ => Q41.e N (Q41 N) x_ n_
def Q19.e (N : Nat) (r0 : ByteArray → Int → Int → Bool → Bool → Int → Int → Int → Int → Int → Int → Int → Int → (List TPiece) → LInt → (List TEnd) → LInt → LInt → LInt → (List TUndo) → (List TPN) → Option (TWay × Int)) (r_ : TRules) (p_ : TPos) (budget : Int) : Option (TWay × Int) :=
 (Q20 N r_ p_).bind fun y1 =>
 oCase y1.1 (bif (!(eqI y1.2 0)) then (some ((0, (0, (0, 0))), y1.2))
  else bif (ltI budget 0) then (some ((0, (0, (0, 0))), 1))
  else bif (ltI 5000 budget) then (some ((0, (0, (0, 0))), 1))
  else none) fun b2 =>
 bif (!(eqI y1.2 0)) then (some ((0, (0, (0, 0))), y1.2))
 else bif (ltI budget 0) then (some ((0, (0, (0, 0))), 1))
 else bif (ltI 5000 budget) then (some ((0, (0, (0, 0))), 1))
 else (Q39 N b2).bind fun y3 =>
 (Q40 N (b2, (y3, 0))).bind fun y4 =>
 r0 y4.2.1.1.1 y4.2.1.1.2.1 y4.2.1.1.2.2.1 y4.2.1.1.2.2.2.2.2.1 y4.2.1.1.2.2.2.2.2.2.1 y4.2.1.1.2.2.2.2.2.2.2.2.1 y4.2.1.1.2.2.2.2.2.2.2.2.2.1 y4.2.1.1.2.2.2.2.2.2.2.2.2.2 y4.2.1.2.1.2.2.1 y4.2.1.2.1.2.2.2 y4.2.1.2.2.1 y4.2.2.1 y4.2.2.2 y4.2.1.1.2.2.2.1 y4.2.1.1.2.2.2.2.1 y4.2.1.1.2.2.2.2.2.2.2.1 y4.2.1.2.1.1 y4.2.1.2.1.2.1.1 y4.2.1.2.1.2.1.2 y4.2.1.2.2.2 [([], ([], y4.1.2.2))]
def Q19.s0 (N : Nat) (r_ : TRules) (p_ : TPos) (budget : Int) (r0 : ByteArray → Int → Int → Bool → Bool → Int → Int → Int → Int → Int → Int → Int → Int → (List TPiece) → LInt → (List TEnd) → LInt → LInt → LInt → (List TUndo) → (List TPN) → Option (TWay × Int)) (m4_ : ByteArray) (m4_2 m4_3 : Int) (m4_4 m4_5 : Bool) (m4_6 m4_7 m4_8 m4_9 m4_10 m4_11 x_ x_2 : Int) (m15_ : (List TPiece)) (m16_ : LInt) (m17_ : (List TEnd)) (m18_ m19_ m20_ : LInt) (m21_ : (List TUndo)) (nodes : (List TPN)) : Option (TWay × Int) :=
 bif (ltI 0 (gD dP nodes 0).2.2.1) then (bif (ltI 0 (gD dP nodes 0).2.2.2.1) then (bif (ltI x_2 budget) then ((Q41 N (((m4_, (m4_2, (m4_3, (m15_, (m16_, (m4_4, (m4_5, (m17_, (m4_6, (m4_7, m4_8)))))))))), ((m18_, ((m19_, m20_), (m4_9, m4_10))), (m4_11, m21_))), (x_, x_2)) (nodes, 0)).bind fun y8 =>
    r0 y8.1.1.1.1 y8.1.1.1.2.1 y8.1.1.1.2.2.1 y8.1.1.1.2.2.2.2.2.1 y8.1.1.1.2.2.2.2.2.2.1 y8.1.1.1.2.2.2.2.2.2.2.2.1 y8.1.1.1.2.2.2.2.2.2.2.2.2.1 y8.1.1.1.2.2.2.2.2.2.2.2.2.2 y8.1.1.2.1.2.2.1 y8.1.1.2.1.2.2.2 y8.1.1.2.2.1 y8.1.2.1 y8.1.2.2 y8.1.1.1.2.2.2.1 y8.1.1.1.2.2.2.2.1 y8.1.1.1.2.2.2.2.2.2.2.1 y8.1.1.2.1.1 y8.1.1.2.1.2.1.1 y8.1.1.2.1.2.1.2 y8.1.1.2.2.2 y8.2.1)
   else bif (eqI (gD dP nodes 0).2.2.1 0) then (some ((0, ((gD dP nodes 0).2.2.1, ((gD dP nodes 0).2.2.2.1, x_2))), 0))
   else bif (eqI (gD dP nodes 0).2.2.2.1 0) then (some ((1, ((gD dP nodes 0).2.2.1, ((gD dP nodes 0).2.2.2.1, x_2))), 0))
   else some ((2, ((gD dP nodes 0).2.2.1, ((gD dP nodes 0).2.2.2.1, x_2))), 0))
  else bif (eqI (gD dP nodes 0).2.2.1 0) then (some ((0, ((gD dP nodes 0).2.2.1, ((gD dP nodes 0).2.2.2.1, x_2))), 0))
  else bif (eqI (gD dP nodes 0).2.2.2.1 0) then (some ((1, ((gD dP nodes 0).2.2.1, ((gD dP nodes 0).2.2.2.1, x_2))), 0))
  else some ((2, ((gD dP nodes 0).2.2.1, ((gD dP nodes 0).2.2.2.1, x_2))), 0))
 else bif (eqI (gD dP nodes 0).2.2.1 0) then (some ((0, ((gD dP nodes 0).2.2.1, ((gD dP nodes 0).2.2.2.1, x_2))), 0))
 else bif (eqI (gD dP nodes 0).2.2.2.1 0) then (some ((1, ((gD dP nodes 0).2.2.1, ((gD dP nodes 0).2.2.2.1, x_2))), 0))
 else some ((2, ((gD dP nodes 0).2.2.1, ((gD dP nodes 0).2.2.2.1, x_2))), 0)
def Q19.L (N : Nat) (r_ : TRules) (p_ : TPos) (budget : Int) : Nat → (ByteArray → Int → Int → Bool → Bool → Int → Int → Int → Int → Int → Int → Int → Int → (List TPiece) → LInt → (List TEnd) → LInt → LInt → LInt → (List TUndo) → (List TPN) → Option (TWay × Int))
 | 0 => fun _ _ _ _ _ _ _ _ _ _ _ _ _ _ _ _ _ _ _ _ _ => none
 | n + 1 => fun m4_ m4_2 m4_3 m4_4 m4_5 m4_6 m4_7 m4_8 m4_9 m4_10 m4_11 x_ x_2 m15_ m16_ m17_ m18_ m19_ m20_ m21_ nodes => Q19.s0 N r_ p_ budget (Q19.L N r_ p_ budget n) m4_ m4_2 m4_3 m4_4 m4_5 m4_6 m4_7 m4_8 m4_9 m4_10 m4_11 x_ x_2 m15_ m16_ m17_ m18_ m19_ m20_ m21_ nodes
def Q19.l0 (N : Nat) (r_ : TRules) (p_ : TPos) (budget : Int) (n : Nat) : ByteArray → Int → Int → Bool → Bool → Int → Int → Int → Int → Int → Int → Int → Int → (List TPiece) → LInt → (List TEnd) → LInt → LInt → LInt → (List TUndo) → (List TPN) → Option (TWay × Int) := (Q19.L N r_ p_ budget n)
theorem Q19.l0_s (N : Nat) (r_ : TRules) (p_ : TPos) (budget : Int) (n : Nat) (m4_ : ByteArray) (m4_2 m4_3 : Int) (m4_4 m4_5 : Bool) (m4_6 m4_7 m4_8 m4_9 m4_10 m4_11 x_ x_2 : Int) (m15_ : (List TPiece)) (m16_ : LInt) (m17_ : (List TEnd)) (m18_ m19_ m20_ : LInt) (m21_ : (List TUndo)) (nodes : (List TPN)) : Q19.l0 N r_ p_ budget (n + 1) m4_ m4_2 m4_3 m4_4 m4_5 m4_6 m4_7 m4_8 m4_9 m4_10 m4_11 x_ x_2 m15_ m16_ m17_ m18_ m19_ m20_ m21_ nodes = Q19.s0 N r_ p_ budget (Q19.l0 N r_ p_ budget n) m4_ m4_2 m4_3 m4_4 m4_5 m4_6 m4_7 m4_8 m4_9 m4_10 m4_11 x_ x_2 m15_ m16_ m17_ m18_ m19_ m20_ m21_ nodes := rfl
def Q19 (N : Nat) (r_ : TRules) (p_ : TPos) (budget : Int) : Option (TWay × Int) := Q19.e N (Q19.l0 N r_ p_ budget N) r_ p_ budget
def Q11.e (N : Nat) (r_ : TRules) (p_ : TPos) (depth : Int) : Option Bool :=
 (Q25 N r_ p_ depth).bind fun y1 =>
 bif (eqI y1.2 17) then some true
 else bif (ltI 2000 y1.1) then some true
 else some (ltI 16 (p_.1.length : Int))
def Q11 (N : Nat) (r_ : TRules) (p_ : TPos) (depth : Int) : Option Bool := Q11.e N r_ p_ depth
def Q4.e (N : Nat) (r_ : TRules) (p_ : TPos) (depth budget : Int) : Option Bool :=
 (Q6 N).bind fun y1 =>
 (Q7 N).bind fun y2 =>
 (Q17 N y1 y2 3).bind fun y3 =>
 (Q6 N).bind fun y4 =>
 (Q7 N).bind fun y5 =>
 (Q18 N y4 y5 y3.1).bind fun y6 =>
 (Q14 N [y3.2, y6.2]).bind fun y7 =>
 bif (!y7) then some false
 else bif (!(eqI y6.1 1)) then some false
 else (Q9 N).bind fun y8 =>
 bif (!y8) then some false
 else (Q6 N).bind fun y9 =>
 (Q7 N).bind fun y10 =>
 (Q19 N y9 y10 10).bind fun y11 =>
 bif (!(eqI y11.2 0)) then some false
 else bif (!(eqI y11.1.1 0)) then some false
 else bif (!(eqI y11.1.2.2.2 1)) then some false
 else (Q11 N r_ p_ depth).bind fun y12 =>
 bif y12 then some true
 else (Q13 N r_ p_ depth).bind fun y13 =>
 (Q17 N r_ p_ depth).bind fun y14 =>
 (Q19 N r_ p_ (Int.tmod (w64 ((Int.tmod budget 50) + 50)) 50)).bind fun y16 =>
 bif (!(eqI y13.2 0)) then (bif (eqI y14.2 y13.2) then (some (eqI (y14.1.length : Int) 0))
  else some false)
 else bif (!(eqI y16.2 0)) then some false
 else bif (ltI 0 y13.1) then (bif (eqI y16.1.1 1) then some false
  else bif (ltI y13.1 0) then (bif (eqI y16.1.1 0) then some false
   else bif (!(eqI y14.2 0)) then (bif (leI y13.1 0) then some true
    else bif (eqI y13.1 1000) then (bif (eqI y14.2 14) then some true
     else some (eqI y14.2 2))
    else some (eqI y14.2 2))
   else (Q18 N r_ p_ y14.1).bind fun y18 =>
   bif (ltI 0 y13.1) then (bif (eqI y18.2 0) then (some (eqI y18.1 (w64 (1000 - y13.1))))
    else some false)
   else some false)
  else bif (!(eqI y14.2 0)) then (bif (leI y13.1 0) then some true
   else bif (eqI y13.1 1000) then (bif (eqI y14.2 14) then some true
    else some (eqI y14.2 2))
   else some (eqI y14.2 2))
  else (Q18 N r_ p_ y14.1).bind fun y20 =>
  bif (ltI 0 y13.1) then (bif (eqI y20.2 0) then (some (eqI y20.1 (w64 (1000 - y13.1))))
   else some false)
  else some false)
 else bif (ltI y13.1 0) then (bif (eqI y16.1.1 0) then some false
  else bif (!(eqI y14.2 0)) then (bif (leI y13.1 0) then some true
   else bif (eqI y13.1 1000) then (bif (eqI y14.2 14) then some true
    else some (eqI y14.2 2))
   else some (eqI y14.2 2))
  else (Q18 N r_ p_ y14.1).bind fun y22 =>
  bif (ltI 0 y13.1) then (bif (eqI y22.2 0) then (some (eqI y22.1 (w64 (1000 - y13.1))))
   else some false)
  else some false)
 else bif (!(eqI y14.2 0)) then (bif (leI y13.1 0) then some true
  else bif (eqI y13.1 1000) then (bif (eqI y14.2 14) then some true
   else some (eqI y14.2 2))
  else some (eqI y14.2 2))
 else (Q18 N r_ p_ y14.1).bind fun y24 =>
 bif (ltI 0 y13.1) then (bif (eqI y24.2 0) then (some (eqI y24.1 (w64 (1000 - y13.1))))
  else some false)
 else some false
def Q4 (N : Nat) (r_ : TRules) (p_ : TPos) (depth budget : Int) : Option Bool := Q4.e N r_ p_ depth budget
end
end Go.Proofs.Ytnddjmhpofhfjaa.Am
