/- PRINTED by gen.py: what the functions compute, as plain Lean functions with fuel. -/
import Derived.Test.YtlfhchkhbecmbaaFnd
set_option linter.unusedVariables false
set_option linter.unusedSimpArgs false
namespace Go.Proofs.Ytlfhchkhbecmbaa.Am
open Go
noncomputable section
def Q24.e (N : Nat) (self : Int → TBoard → Int → Option (Int × Int × TBoard)) (r0 : Int → Int → Int → Int → ByteArray → Int → Int → Bool → Bool → Int → Int → Int → Int → Int → Int → LMv → (List TPiece) → LInt → (List TEnd) → LInt → LInt → LInt → (List TUndo) → Option (Int × Int × TBoard)) (c_ : Int) (b_ : TBoard) (depth : Int) : Option (Int × Int × TBoard) :=
 bif (ltI (w64 (c_ - 1)) 0) then (some (1, ((w64 (c_ - 1)), b_)))
 else bif (eqI depth 0) then (some (1, ((w64 (c_ - 1)), b_)))
 else (Q36 N b_).bind fun y1 =>
 r0 0 (y1.length : Int) 0 (w64 (c_ - 1)) b_.1.1 b_.1.2.1 b_.1.2.2.1 b_.1.2.2.2.2.2.1 b_.1.2.2.2.2.2.2.1 b_.1.2.2.2.2.2.2.2.2.1 b_.1.2.2.2.2.2.2.2.2.2.1 b_.1.2.2.2.2.2.2.2.2.2.2 b_.2.1.2.2.1 b_.2.1.2.2.2 b_.2.2.1 y1 b_.1.2.2.2.1 b_.1.2.2.2.2.1 b_.1.2.2.2.2.2.2.2.1 b_.2.1.1 b_.2.1.2.1.1 b_.2.1.2.1.2 b_.2.2.2
def Q24.s0 (N : Nat) (self : Int → TBoard → Int → Option (Int × Int × TBoard)) (c_ : Int) (b_ : TBoard) (depth : Int) (r0 : Int → Int → Int → Int → ByteArray → Int → Int → Bool → Bool → Int → Int → Int → Int → Int → Int → LMv → (List TPiece) → LInt → (List TEnd) → LInt → LInt → LInt → (List TUndo) → Option (Int × Int × TBoard)) (n_ t28_ t29_ c_2 : Int) (b_2 : ByteArray) (b_3 b_4 : Int) (b_5 b_6 : Bool) (b_7 b_8 b_9 b_10 b_11 b_12 : Int) (m9_ : LMv) (m10_ : (List TPiece)) (m11_ : LInt) (m12_ : (List TEnd)) (m13_ m14_ m15_ : LInt) (m16_ : (List TUndo)) : Option (Int × Int × TBoard) :=
 bif (ltI t29_ t28_) then (chk ((leI 0 t29_) && (ltI t29_ (m9_.length : Int))) <|
  (Q37 N ((b_2, (b_3, (b_4, (m10_, (m11_, (b_5, (b_6, (m12_, (b_7, (b_8, b_9)))))))))), ((m13_, ((m14_, m15_), (b_10, b_11))), (b_12, m16_))) (gD dM m9_ t29_)).bind fun y2 =>
  (self c_2 y2 (w64 (depth - 1))).bind fun y3 =>
  (Q40 N y3.2.2).bind fun y4 =>
  bif (ltI y3.2.1 0) then (some (0, (y3.2.1, y4.2)))
  else r0 (w64 (n_ + y3.1)) t28_ (w64 (t29_ + 1)) y3.2.1 y4.2.1.1 y4.2.1.2.1 y4.2.1.2.2.1 y4.2.1.2.2.2.2.2.1 y4.2.1.2.2.2.2.2.2.1 y4.2.1.2.2.2.2.2.2.2.2.1 y4.2.1.2.2.2.2.2.2.2.2.2.1 y4.2.1.2.2.2.2.2.2.2.2.2.2 y4.2.2.1.2.2.1 y4.2.2.1.2.2.2 y4.2.2.2.1 m9_ y4.2.1.2.2.2.1 y4.2.1.2.2.2.2.1 y4.2.1.2.2.2.2.2.2.2.1 y4.2.2.1.1 y4.2.2.1.2.1.1 y4.2.2.1.2.1.2 y4.2.2.2.2)
 else some (n_, (c_2, ((b_2, (b_3, (b_4, (m10_, (m11_, (b_5, (b_6, (m12_, (b_7, (b_8, b_9)))))))))), ((m13_, ((m14_, m15_), (b_10, b_11))), (b_12, m16_)))))
def Q24.L (N : Nat) (self : Int → TBoard → Int → Option (Int × Int × TBoard)) (c_ : Int) (b_ : TBoard) (depth : Int) : Nat → (Int → Int → Int → Int → ByteArray → Int → Int → Bool → Bool → Int → Int → Int → Int → Int → Int → LMv → (List TPiece) → LInt → (List TEnd) → LInt → LInt → LInt → (List TUndo) → Option (Int × Int × TBoard))
 | 0 => fun _ _ _ _ _ _ _ _ _ _ _ _ _ _ _ _ _ _ _ _ _ _ _ => none
 | n + 1 => fun n_ t28_ t29_ c_2 b_2 b_3 b_4 b_5 b_6 b_7 b_8 b_9 b_10 b_11 b_12 m9_ m10_ m11_ m12_ m13_ m14_ m15_ m16_ => Q24.s0 N self c_ b_ depth (Q24.L N self c_ b_ depth n) n_ t28_ t29_ c_2 b_2 b_3 b_4 b_5 b_6 b_7 b_8 b_9 b_10 b_11 b_12 m9_ m10_ m11_ m12_ m13_ m14_ m15_ m16_
def Q24.l0 (N : Nat) (self : Int → TBoard → Int → Option (Int × Int × TBoard)) (c_ : Int) (b_ : TBoard) (depth : Int) (n : Nat) : Int → Int → Int → Int → ByteArray → Int → Int → Bool → Bool → Int → Int → Int → Int → Int → Int → LMv → (List TPiece) → LInt → (List TEnd) → LInt → LInt → LInt → (List TUndo) → Option (Int × Int × TBoard) := (Q24.L N self c_ b_ depth n)
theorem Q24.l0_s (N : Nat) (self : Int → TBoard → Int → Option (Int × Int × TBoard)) (c_ : Int) (b_ : TBoard) (depth : Int) (n : Nat) (n_ t28_ t29_ c_2 : Int) (b_2 : ByteArray) (b_3 b_4 : Int) (b_5 b_6 : Bool) (b_7 b_8 b_9 b_10 b_11 b_12 : Int) (m9_ : LMv) (m10_ : (List TPiece)) (m11_ : LInt) (m12_ : (List TEnd)) (m13_ m14_ m15_ : LInt) (m16_ : (List TUndo)) : Q24.l0 N self c_ b_ depth (n + 1) n_ t28_ t29_ c_2 b_2 b_3 b_4 b_5 b_6 b_7 b_8 b_9 b_10 b_11 b_12 m9_ m10_ m11_ m12_ m13_ m14_ m15_ m16_ = Q24.s0 N self c_ b_ depth (Q24.l0 N self c_ b_ depth n) n_ t28_ t29_ c_2 b_2 b_3 b_4 b_5 b_6 b_7 b_8 b_9 b_10 b_11 b_12 m9_ m10_ m11_ m12_ m13_ m14_ m15_ m16_ := rfl
def Q24 : Nat → Int → TBoard → Int → Option (Int × Int × TBoard)
 | 0 => fun _ _ _ => none
 | N + 1 => fun c_ b_ depth => Q24.e N (Q24 N) (Q24.l0 N (Q24 N) c_ b_ depth N) c_ b_ depth
def Q12.e (N : Nat) (r_ : TRules) (p_ : TPos) (depth : Int) : Option (Int × Int) :=
 (Q23 N r_ p_ depth).bind fun y1 =>
 oCase y1.1 (bif (!(eqI y1.2 0)) then (some (0, y1.2))
  else none) fun b2 =>
 bif (!(eqI y1.2 0)) then (some (0, y1.2))
 else (Q24 N 50000 b2 depth).bind fun y3 =>
 bif (ltI y3.2.1 0) then (some (0, 17))
 else some ((w64 (50000 - y3.2.1)), 0)
def Q12 (N : Nat) (r_ : TRules) (p_ : TPos) (depth : Int) : Option (Int × Int) := Q12.e N r_ p_ depth
def Q16.e (N : Nat) (r0 : Int → Int → Int → Option (Int × Int)) (r_ : TRules) (p_ : TPos) (depth budget : Int) : Option (Int × Int) :=
 r0 0 1 1
def Q16.s0 (N : Nat) (r_ : TRules) (p_ : TPos) (depth budget : Int) (r0 : Int → Int → Int → Option (Int × Int)) (best many d_ : Int) : Option (Int × Int) :=
 bif (leI d_ depth) then ((Q12 N r_ p_ d_).bind fun y1 =>
  bif (!(eqI y1.2 0)) then (some (best, many))
  else bif (ltI budget y1.1) then (some (best, many))
  else r0 d_ y1.1 (w64 (d_ + 1)))
 else some (best, many)
def Q16.L (N : Nat) (r_ : TRules) (p_ : TPos) (depth budget : Int) : Nat → (Int → Int → Int → Option (Int × Int))
 | 0 => fun _ _ _ => none
 | n + 1 => fun best many d_ => Q16.s0 N r_ p_ depth budget (Q16.L N r_ p_ depth budget n) best many d_
def Q16.l0 (N : Nat) (r_ : TRules) (p_ : TPos) (depth budget : Int) (n : Nat) : Int → Int → Int → Option (Int × Int) := (Q16.L N r_ p_ depth budget n)
theorem Q16.l0_s (N : Nat) (r_ : TRules) (p_ : TPos) (depth budget : Int) (n : Nat) (best many d_ : Int) : Q16.l0 N r_ p_ depth budget (n + 1) best many d_ = Q16.s0 N r_ p_ depth budget (Q16.l0 N r_ p_ depth budget n) best many d_ := rfl
def Q16 (N : Nat) (r_ : TRules) (p_ : TPos) (depth budget : Int) : Option (Int × Int) := Q16.e N (Q16.l0 N r_ p_ depth budget N) r_ p_ depth budget
def Q17.e (N : Nat) (good : (List TWay)) : Option (List TWay) :=
 some good
def Q17 (N : Nat) (good : (List TWay)) : Option (List TWay) := Q17.e N good
def Q57.e (N : Nat) (b_ : TBoard) : Option Int :=
 some b_.2.1.2.2.1
def Q57 (N : Nat) (b_ : TBoard) : Option Int := Q57.e N b_
def Q56.e (N : Nat) (result turn : Int) : Option Int :=
 (Q49 N turn).bind fun y1 =>
 bif (eqI result y1) then some 1000
 else (Q49 N (w64 (1 - turn))).bind fun y2 =>
 bif (eqI result y2) then (some (-1000))
 else some 0
def Q56 (N : Nat) (result turn : Int) : Option Int := Q56.e N result turn
def Q33.e (N : Nat) (r0 : Int → Option Int) (s_ : LMv) (v_ : TMv) : Option Int :=
 r0 0
def Q33.s0 (N : Nat) (s_ : LMv) (v_ : TMv) (r0 : Int → Option Int) (t8_ : Int) : Option Int :=
 bif (ltI t8_ (s_.length : Int)) then (chk ((leI 0 t8_) && (ltI t8_ (s_.length : Int))) <|
  bif ((eqI v_.1 (gD dM s_ t8_).1) && ((eqI v_.2.1 (gD dM s_ t8_).2.1) && ((eqI v_.2.2 (gD dM s_ t8_).2.2) && true))) then some t8_
  else r0 (w64 (t8_ + 1)))
 else some (-1)
def Q33.L (N : Nat) (s_ : LMv) (v_ : TMv) : Nat → (Int → Option Int)
 | 0 => fun _ => none
 | n + 1 => fun t8_ => Q33.s0 N s_ v_ (Q33.L N s_ v_ n) t8_
def Q33.l0 (N : Nat) (s_ : LMv) (v_ : TMv) (n : Nat) : Int → Option Int := (Q33.L N s_ v_ n)
theorem Q33.l0_s (N : Nat) (s_ : LMv) (v_ : TMv) (n : Nat) (t8_ : Int) : Q33.l0 N s_ v_ (n + 1) t8_ = Q33.s0 N s_ v_ (Q33.l0 N s_ v_ n) t8_ := rfl
def Q33 (N : Nat) (s_ : LMv) (v_ : TMv) : Option Int := Q33.e N (Q33.l0 N s_ v_ N) s_ v_
def Q38.e (N : Nat) (n_ : Int) : Option Int :=
 bif (ltI 0 n_) then (some (w64 (n_ - 1)))
 else bif (ltI n_ 0) then (some (w64 (n_ + 1)))
 else some 0
def Q38 (N : Nat) (n_ : Int) : Option Int := Q38.e N n_
def Q39.e (N : Nat) (self : Int → TBoard → Int → Int → Int → (List TWay) → Option (Int × Int × TBoard × (List TWay))) (r0 : Int → Int → Int → Int → ByteArray → Int → Int → Bool → Bool → Int → Int → Int → Int → Int → Int → LMv → (List TPiece) → LInt → (List TEnd) → LInt → LInt → LInt → (List TUndo) → (List TWay) → Option (Int × Int × TBoard × (List TWay))) (x_ : Int) (b_ : TBoard) (depth low high : Int) (order : (List TWay)) : Option (Int × Int × TBoard × (List TWay)) :=
 (Q15 N b_).bind fun y1 =>
 bif (!(eqI y1 0)) then ((Q57 N b_).bind fun y2 =>
  (Q56 N y1 y2).bind fun y3 =>
  let v4 : Int := (bif (ltI high y3) then high else y3)
  some ((bif (ltI low v4) then v4 else low), ((w64 (x_ + 1)), (b_, order))))
 else bif (eqI depth 0) then (let v6 : Int := (bif (ltI high 0) then high else 0)
  some ((bif (ltI low v6) then v6 else low), ((w64 (x_ + 1)), (b_, order))))
 else (Q36 N b_).bind fun y8 =>
 chk (Lit.int .i64 depth).wf <|
 (Q33 N y8 ((mget eqDI order depth).getD dM)).bind fun y9 =>
 bif (ltI 0 y9) then (chk ((leI 0 y9) && (ltI y9 (y8.length : Int))) <|
  bothK ((slices_Delete N y8 y9 (w64 (y9 + 1))).bind fun y10 =>
   (slices_Insert N y10 0 [(gD dM y8 y9)]).bind fun y12 =>
   bif (ltI 0 (y12.length : Int)) then (chk (true && (ltI 0 (y12.length : Int))) <|
    chk (Lit.int .i64 depth).wf <|
    r0 low (y12.length : Int) 0 (w64 (x_ + 1)) b_.1.1 b_.1.2.1 b_.1.2.2.1 b_.1.2.2.2.2.2.1 b_.1.2.2.2.2.2.2.1 b_.1.2.2.2.2.2.2.2.2.1 b_.1.2.2.2.2.2.2.2.2.2.1 b_.1.2.2.2.2.2.2.2.2.2.2 b_.2.1.2.2.1 b_.2.1.2.2.2 b_.2.2.1 y12 b_.1.2.2.2.1 b_.1.2.2.2.2.1 b_.1.2.2.2.2.2.2.2.1 b_.2.1.1 b_.2.1.2.1.1 b_.2.1.2.1.2 b_.2.2.2 (mput eqDI order depth (gD dM y12 0)))
   else r0 low (y12.length : Int) 0 (w64 (x_ + 1)) b_.1.1 b_.1.2.1 b_.1.2.2.1 b_.1.2.2.2.2.2.1 b_.1.2.2.2.2.2.2.1 b_.1.2.2.2.2.2.2.2.2.1 b_.1.2.2.2.2.2.2.2.2.2.1 b_.1.2.2.2.2.2.2.2.2.2.2 b_.2.1.2.2.1 b_.2.1.2.2.2 b_.2.2.1 y12 b_.1.2.2.2.1 b_.1.2.2.2.2.1 b_.1.2.2.2.2.2.2.2.1 b_.2.1.1 b_.2.1.2.1.1 b_.2.1.2.1.2 b_.2.2.2 order) (bothK ((slices_Delete N y8 y9 (w64 (y9 + 1))).bind fun y15 =>
    (slices_Insert N y15 0 [(gD dM y8 y9)]).bind fun y17 =>
    bif (ltI 0 (y17.length : Int)) then (chk (true && (ltI 0 (y17.length : Int))) <|
     chk (Lit.int .i64 depth).wf <|
     r0 low (y17.length : Int) 0 (w64 (x_ + 1)) b_.1.1 b_.1.2.1 b_.1.2.2.1 b_.1.2.2.2.2.2.1 b_.1.2.2.2.2.2.2.1 b_.1.2.2.2.2.2.2.2.2.1 b_.1.2.2.2.2.2.2.2.2.2.1 b_.1.2.2.2.2.2.2.2.2.2.2 b_.2.1.2.2.1 b_.2.1.2.2.2 b_.2.2.1 y17 b_.1.2.2.2.1 b_.1.2.2.2.2.1 b_.1.2.2.2.2.2.2.2.1 b_.2.1.1 b_.2.1.2.1.1 b_.2.1.2.1.2 b_.2.2.2 (mput eqDI order depth (gD dM y17 0)))
    else r0 low (y17.length : Int) 0 (w64 (x_ + 1)) b_.1.1 b_.1.2.1 b_.1.2.2.1 b_.1.2.2.2.2.2.1 b_.1.2.2.2.2.2.2.1 b_.1.2.2.2.2.2.2.2.2.1 b_.1.2.2.2.2.2.2.2.2.2.1 b_.1.2.2.2.2.2.2.2.2.2.2 b_.2.1.2.2.1 b_.2.1.2.2.2 b_.2.2.1 y17 b_.1.2.2.2.1 b_.1.2.2.2.2.1 b_.1.2.2.2.2.2.2.2.1 b_.2.1.1 b_.2.1.2.1.1 b_.2.1.2.1.2 b_.2.2.2 order) ((slices_Delete N y8 y9 (w64 (y9 + 1))).bind fun y21 =>
    (slices_Insert N y21 0 [(gD dM y8 y9)]).bind fun y22 =>
    bif (ltI 0 (y22.length : Int)) then (chk (true && (ltI 0 (y22.length : Int))) <|
     chk (Lit.int .i64 depth).wf <|
     r0 low (y22.length : Int) 0 (w64 (x_ + 1)) b_.1.1 b_.1.2.1 b_.1.2.2.1 b_.1.2.2.2.2.2.1 b_.1.2.2.2.2.2.2.1 b_.1.2.2.2.2.2.2.2.2.1 b_.1.2.2.2.2.2.2.2.2.2.1 b_.1.2.2.2.2.2.2.2.2.2.2 b_.2.1.2.2.1 b_.2.1.2.2.2 b_.2.2.1 y22 b_.1.2.2.2.1 b_.1.2.2.2.2.1 b_.1.2.2.2.2.2.2.2.1 b_.2.1.1 b_.2.1.2.1.1 b_.2.1.2.1.2 b_.2.2.2 (mput eqDI order depth (gD dM y22 0)))
    else r0 low (y22.length : Int) 0 (w64 (x_ + 1)) b_.1.1 b_.1.2.1 b_.1.2.2.1 b_.1.2.2.2.2.2.1 b_.1.2.2.2.2.2.2.1 b_.1.2.2.2.2.2.2.2.2.1 b_.1.2.2.2.2.2.2.2.2.2.1 b_.1.2.2.2.2.2.2.2.2.2.2 b_.2.1.2.2.1 b_.2.1.2.2.2 b_.2.2.1 y22 b_.1.2.2.2.1 b_.1.2.2.2.2.1 b_.1.2.2.2.2.2.2.2.1 b_.2.1.1 b_.2.1.2.1.1 b_.2.1.2.1.2 b_.2.2.2 order)))
 else bif (ltI 0 (y8.length : Int)) then (chk (true && (ltI 0 (y8.length : Int))) <|
  chk (Lit.int .i64 depth).wf <|
  r0 low (y8.length : Int) 0 (w64 (x_ + 1)) b_.1.1 b_.1.2.1 b_.1.2.2.1 b_.1.2.2.2.2.2.1 b_.1.2.2.2.2.2.2.1 b_.1.2.2.2.2.2.2.2.2.1 b_.1.2.2.2.2.2.2.2.2.2.1 b_.1.2.2.2.2.2.2.2.2.2.2 b_.2.1.2.2.1 b_.2.1.2.2.2 b_.2.2.1 y8 b_.1.2.2.2.1 b_.1.2.2.2.2.1 b_.1.2.2.2.2.2.2.2.1 b_.2.1.1 b_.2.1.2.1.1 b_.2.1.2.1.2 b_.2.2.2 (mput eqDI order depth (gD dM y8 0)))
 else r0 low (y8.length : Int) 0 (w64 (x_ + 1)) b_.1.1 b_.1.2.1 b_.1.2.2.1 b_.1.2.2.2.2.2.1 b_.1.2.2.2.2.2.2.1 b_.1.2.2.2.2.2.2.2.2.1 b_.1.2.2.2.2.2.2.2.2.2.1 b_.1.2.2.2.2.2.2.2.2.2.2 b_.2.1.2.2.1 b_.2.1.2.2.2 b_.2.2.1 y8 b_.1.2.2.2.1 b_.1.2.2.2.2.1 b_.1.2.2.2.2.2.2.2.1 b_.2.1.1 b_.2.1.2.1.1 b_.2.1.2.1.2 b_.2.2.2 order
def Q39.s0 (N : Nat) (self : Int → TBoard → Int → Int → Int → (List TWay) → Option (Int × Int × TBoard × (List TWay))) (x_ : Int) (b_ : TBoard) (depth low high : Int) (order : (List TWay)) (r0 : Int → Int → Int → Int → ByteArray → Int → Int → Bool → Bool → Int → Int → Int → Int → Int → Int → LMv → (List TPiece) → LInt → (List TEnd) → LInt → LInt → LInt → (List TUndo) → (List TWay) → Option (Int × Int × TBoard × (List TWay))) (best t49_ t50_ x_2 : Int) (b_2 : ByteArray) (b_3 b_4 : Int) (b_5 b_6 : Bool) (b_7 b_8 b_9 b_10 b_11 b_12 : Int) (m15_ : LMv) (m16_ : (List TPiece)) (m17_ : LInt) (m18_ : (List TEnd)) (m19_ m20_ m21_ : LInt) (m22_ : (List TUndo)) (m23_ : (List TWay)) : Option (Int × Int × TBoard × (List TWay)) :=
 bif (ltI t50_ t49_) then (chk ((leI 0 t50_) && (ltI t50_ (m15_.length : Int))) <|
  (Q37 N ((b_2, (b_3, (b_4, (m16_, (m17_, (b_5, (b_6, (m18_, (b_7, (b_8, b_9)))))))))), ((m19_, ((m20_, m21_), (b_10, b_11))), (b_12, m22_))) (gD dM m15_ t50_)).bind fun y27 =>
  (self x_2 y27 (w64 (depth - 1)) (w64 ((w64 (0 - high)) - 1)) (w64 ((w64 (0 - best)) + 1)) m23_).bind fun y30 =>
  (Q38 N (w64 (0 - y30.1))).bind fun y31 =>
  (Q40 N y30.2.2.1).bind fun y32 =>
  let v33 : Int := (bif (ltI best y31) then y31 else best)
  bif (leI high v33) then (some (high, (y30.2.1, (y32.2, y30.2.2.2))))
  else r0 v33 t49_ (w64 (t50_ + 1)) y30.2.1 y32.2.1.1 y32.2.1.2.1 y32.2.1.2.2.1 y32.2.1.2.2.2.2.2.1 y32.2.1.2.2.2.2.2.2.1 y32.2.1.2.2.2.2.2.2.2.2.1 y32.2.1.2.2.2.2.2.2.2.2.2.1 y32.2.1.2.2.2.2.2.2.2.2.2.2 y32.2.2.1.2.2.1 y32.2.2.1.2.2.2 y32.2.2.2.1 m15_ y32.2.1.2.2.2.1 y32.2.1.2.2.2.2.1 y32.2.1.2.2.2.2.2.2.2.1 y32.2.2.1.1 y32.2.2.1.2.1.1 y32.2.2.1.2.1.2 y32.2.2.2.2 y30.2.2.2)
 else some (best, (x_2, (((b_2, (b_3, (b_4, (m16_, (m17_, (b_5, (b_6, (m18_, (b_7, (b_8, b_9)))))))))), ((m19_, ((m20_, m21_), (b_10, b_11))), (b_12, m22_))), m23_)))
def Q39.L (N : Nat) (self : Int → TBoard → Int → Int → Int → (List TWay) → Option (Int × Int × TBoard × (List TWay))) (x_ : Int) (b_ : TBoard) (depth low high : Int) (order : (List TWay)) : Nat → (Int → Int → Int → Int → ByteArray → Int → Int → Bool → Bool → Int → Int → Int → Int → Int → Int → LMv → (List TPiece) → LInt → (List TEnd) → LInt → LInt → LInt → (List TUndo) → (List TWay) → Option (Int × Int × TBoard × (List TWay)))
 | 0 => fun _ _ _ _ _ _ _ _ _ _ _ _ _ _ _ _ _ _ _ _ _ _ _ _ => none
 | n + 1 => fun best t49_ t50_ x_2 b_2 b_3 b_4 b_5 b_6 b_7 b_8 b_9 b_10 b_11 b_12 m15_ m16_ m17_ m18_ m19_ m20_ m21_ m22_ m23_ => Q39.s0 N self x_ b_ depth low high order (Q39.L N self x_ b_ depth low high order n) best t49_ t50_ x_2 b_2 b_3 b_4 b_5 b_6 b_7 b_8 b_9 b_10 b_11 b_12 m15_ m16_ m17_ m18_ m19_ m20_ m21_ m22_ m23_
def Q39.l0 (N : Nat) (self : Int → TBoard → Int → Int → Int → (List TWay) → Option (Int × Int × TBoard × (List TWay))) (x_ : Int) (b_ : TBoard) (depth low high : Int) (order : (List TWay)) (n : Nat) : Int → Int → Int → Int → ByteArray → Int → Int → Bool → Bool → Int → Int → Int → Int → Int → Int → LMv → (List TPiece) → LInt → (List TEnd) → LInt → LInt → LInt → (List TUndo) → (List TWay) → Option (Int × Int × TBoard × (List TWay)) := (Q39.L N self x_ b_ depth low high order n)
theorem Q39.l0_s (N : Nat) (self : Int → TBoard → Int → Int → Int → (List TWay) → Option (Int × Int × TBoard × (List TWay))) (x_ : Int) (b_ : TBoard) (depth low high : Int) (order : (List TWay)) (n : Nat) (best t49_ t50_ x_2 : Int) (b_2 : ByteArray) (b_3 b_4 : Int) (b_5 b_6 : Bool) (b_7 b_8 b_9 b_10 b_11 b_12 : Int) (m15_ : LMv) (m16_ : (List TPiece)) (m17_ : LInt) (m18_ : (List TEnd)) (m19_ m20_ m21_ : LInt) (m22_ : (List TUndo)) (m23_ : (List TWay)) : Q39.l0 N self x_ b_ depth low high order (n + 1) best t49_ t50_ x_2 b_2 b_3 b_4 b_5 b_6 b_7 b_8 b_9 b_10 b_11 b_12 m15_ m16_ m17_ m18_ m19_ m20_ m21_ m22_ m23_ = Q39.s0 N self x_ b_ depth low high order (Q39.l0 N self x_ b_ depth low high order n) best t49_ t50_ x_2 b_2 b_3 b_4 b_5 b_6 b_7 b_8 b_9 b_10 b_11 b_12 m15_ m16_ m17_ m18_ m19_ m20_ m21_ m22_ m23_ := rfl
def Q39 : Nat → Int → TBoard → Int → Int → Int → (List TWay) → Option (Int × Int × TBoard × (List TWay))
 | 0 => fun _ _ _ _ _ _ => none
 | N + 1 => fun x_ b_ depth low high order => Q39.e N (Q39 N) (Q39.l0 N (Q39 N) x_ b_ depth low high order N) x_ b_ depth low high order
def Q18.e (N : Nat) (r0 : Int → Int → Int → ByteArray → Int → Int → Bool → Bool → Int → Int → Int → Int → Int → Int → (List TPiece) → LInt → (List TEnd) → LInt → LInt → LInt → (List TUndo) → Int → Int → Int → Int → LMv → (List TWay) → Option (TMv × Int × (List TWay))) (r_ : TRules) (p_ : TPos) (depth : Int) (order : (List TWay)) : Option (TMv × Int × (List TWay)) :=
 (Q14 N r_ p_).bind fun y1 =>
 oCase y1.1 none fun b2 =>
 (Q36 N b2).bind fun y3 =>
 r0 (-1000) (y3.length : Int) 0 b2.1.1 b2.1.2.1 b2.1.2.2.1 b2.1.2.2.2.2.2.1 b2.1.2.2.2.2.2.2.1 b2.1.2.2.2.2.2.2.2.2.1 b2.1.2.2.2.2.2.2.2.2.2.1 b2.1.2.2.2.2.2.2.2.2.2.2 b2.2.1.2.2.1 b2.2.1.2.2.2 b2.2.2.1 b2.1.2.2.2.1 b2.1.2.2.2.2.1 b2.1.2.2.2.2.2.2.2.1 b2.2.1.1 b2.2.1.2.1.1 b2.2.1.2.1.2 b2.2.2.2 0 0 0 0 y3 order
def Q18.s0 (N : Nat) (r_ : TRules) (p_ : TPos) (depth : Int) (order : (List TWay)) (r0 : Int → Int → Int → ByteArray → Int → Int → Bool → Bool → Int → Int → Int → Int → Int → Int → (List TPiece) → LInt → (List TEnd) → LInt → LInt → LInt → (List TUndo) → Int → Int → Int → Int → LMv → (List TWay) → Option (TMv × Int × (List TWay))) (most t28_ t29_ : Int) (b_ : ByteArray) (b_2 b_3 : Int) (b_4 b_5 : Bool) (b_6 b_7 b_8 b_9 b_10 b_11 : Int) (m6_ : (List TPiece)) (m7_ : LInt) (m8_ : (List TEnd)) (m9_ m10_ m11_ : LInt) (m12_ : (List TUndo)) (x_ out out2 out3 : Int) (m15_ : LMv) (m16_ : (List TWay)) : Option (TMv × Int × (List TWay)) :=
 bif (ltI t29_ t28_) then (chk ((leI 0 t29_) && (ltI t29_ (m15_.length : Int))) <|
  (Q37 N ((b_, (b_2, (b_3, (m6_, (m7_, (b_4, (b_5, (m8_, (b_6, (b_7, b_8)))))))))), ((m9_, ((m10_, m11_), (b_9, b_10))), (b_11, m12_))) (gD dM m15_ t29_)).bind fun y4 =>
  (Q39 N x_ y4 (w64 (depth - 1)) (-1001) (w64 ((w64 (0 - most)) + 1)) m16_).bind fun y6 =>
  (Q38 N (w64 (0 - y6.1))).bind fun y7 =>
  (Q40 N y6.2.2.1).bind fun y8 =>
  bif (eqI t29_ 0) then (r0 y7 t28_ (w64 (t29_ + 1)) y8.2.1.1 y8.2.1.2.1 y8.2.1.2.2.1 y8.2.1.2.2.2.2.2.1 y8.2.1.2.2.2.2.2.2.1 y8.2.1.2.2.2.2.2.2.2.2.1 y8.2.1.2.2.2.2.2.2.2.2.2.1 y8.2.1.2.2.2.2.2.2.2.2.2.2 y8.2.2.1.2.2.1 y8.2.2.1.2.2.2 y8.2.2.2.1 y8.2.1.2.2.2.1 y8.2.1.2.2.2.2.1 y8.2.1.2.2.2.2.2.2.2.1 y8.2.2.1.1 y8.2.2.1.2.1.1 y8.2.2.1.2.1.2 y8.2.2.2.2 y6.2.1 (gD dM m15_ t29_).1 (gD dM m15_ t29_).2.1 (gD dM m15_ t29_).2.2 m15_ y6.2.2.2)
  else bif (ltI most y7) then (r0 y7 t28_ (w64 (t29_ + 1)) y8.2.1.1 y8.2.1.2.1 y8.2.1.2.2.1 y8.2.1.2.2.2.2.2.1 y8.2.1.2.2.2.2.2.2.1 y8.2.1.2.2.2.2.2.2.2.2.1 y8.2.1.2.2.2.2.2.2.2.2.2.1 y8.2.1.2.2.2.2.2.2.2.2.2.2 y8.2.2.1.2.2.1 y8.2.2.1.2.2.2 y8.2.2.2.1 y8.2.1.2.2.2.1 y8.2.1.2.2.2.2.1 y8.2.1.2.2.2.2.2.2.2.1 y8.2.2.1.1 y8.2.2.1.2.1.1 y8.2.2.1.2.1.2 y8.2.2.2.2 y6.2.1 (gD dM m15_ t29_).1 (gD dM m15_ t29_).2.1 (gD dM m15_ t29_).2.2 m15_ y6.2.2.2)
  else r0 most t28_ (w64 (t29_ + 1)) y8.2.1.1 y8.2.1.2.1 y8.2.1.2.2.1 y8.2.1.2.2.2.2.2.1 y8.2.1.2.2.2.2.2.2.1 y8.2.1.2.2.2.2.2.2.2.2.1 y8.2.1.2.2.2.2.2.2.2.2.2.1 y8.2.1.2.2.2.2.2.2.2.2.2.2 y8.2.2.1.2.2.1 y8.2.2.1.2.2.2 y8.2.2.2.1 y8.2.1.2.2.2.1 y8.2.1.2.2.2.2.1 y8.2.1.2.2.2.2.2.2.2.1 y8.2.2.1.1 y8.2.2.1.2.1.1 y8.2.2.1.2.1.2 y8.2.2.2.2 y6.2.1 out out2 out3 m15_ y6.2.2.2)
 else some ((out, (out2, out3)), (most, m16_))
def Q18.L (N : Nat) (r_ : TRules) (p_ : TPos) (depth : Int) (order : (List TWay)) : Nat → (Int → Int → Int → ByteArray → Int → Int → Bool → Bool → Int → Int → Int → Int → Int → Int → (List TPiece) → LInt → (List TEnd) → LInt → LInt → LInt → (List TUndo) → Int → Int → Int → Int → LMv → (List TWay) → Option (TMv × Int × (List TWay)))
 | 0 => fun _ _ _ _ _ _ _ _ _ _ _ _ _ _ _ _ _ _ _ _ _ _ _ _ _ _ _ => none
 | n + 1 => fun most t28_ t29_ b_ b_2 b_3 b_4 b_5 b_6 b_7 b_8 b_9 b_10 b_11 m6_ m7_ m8_ m9_ m10_ m11_ m12_ x_ out out2 out3 m15_ m16_ => Q18.s0 N r_ p_ depth order (Q18.L N r_ p_ depth order n) most t28_ t29_ b_ b_2 b_3 b_4 b_5 b_6 b_7 b_8 b_9 b_10 b_11 m6_ m7_ m8_ m9_ m10_ m11_ m12_ x_ out out2 out3 m15_ m16_
def Q18.l0 (N : Nat) (r_ : TRules) (p_ : TPos) (depth : Int) (order : (List TWay)) (n : Nat) : Int → Int → Int → ByteArray → Int → Int → Bool → Bool → Int → Int → Int → Int → Int → Int → (List TPiece) → LInt → (List TEnd) → LInt → LInt → LInt → (List TUndo) → Int → Int → Int → Int → LMv → (List TWay) → Option (TMv × Int × (List TWay)) := (Q18.L N r_ p_ depth order n)
theorem Q18.l0_s (N : Nat) (r_ : TRules) (p_ : TPos) (depth : Int) (order : (List TWay)) (n : Nat) (most t28_ t29_ : Int) (b_ : ByteArray) (b_2 b_3 : Int) (b_4 b_5 : Bool) (b_6 b_7 b_8 b_9 b_10 b_11 : Int) (m6_ : (List TPiece)) (m7_ : LInt) (m8_ : (List TEnd)) (m9_ m10_ m11_ : LInt) (m12_ : (List TUndo)) (x_ out out2 out3 : Int) (m15_ : LMv) (m16_ : (List TWay)) : Q18.l0 N r_ p_ depth order (n + 1) most t28_ t29_ b_ b_2 b_3 b_4 b_5 b_6 b_7 b_8 b_9 b_10 b_11 m6_ m7_ m8_ m9_ m10_ m11_ m12_ x_ out out2 out3 m15_ m16_ = Q18.s0 N r_ p_ depth order (Q18.l0 N r_ p_ depth order n) most t28_ t29_ b_ b_2 b_3 b_4 b_5 b_6 b_7 b_8 b_9 b_10 b_11 m6_ m7_ m8_ m9_ m10_ m11_ m12_ x_ out out2 out3 m15_ m16_ := rfl
def Q18 (N : Nat) (r_ : TRules) (p_ : TPos) (depth : Int) (order : (List TWay)) : Option (TMv × Int × (List TWay)) := Q18.e N (Q18.l0 N r_ p_ depth order N) r_ p_ depth order
def Q4.e (N : Nat) (r0 : Int → Int → Int → Int → Int → Int → Int → Int → (List TWay) → Option ((TMv × TMv) × Int)) (r_ : TRules) (p_ : TPos) (depth budget : Int) : Option ((TMv × TMv) × Int) :=
 (Q14 N r_ p_).bind fun y1 =>
 oCase y1.1 (bif (!(eqI y1.2 0)) then (some (((0, (0, 0)), (0, (0, 0))), y1.2))
  else bif (ltI depth 1) then (some (((0, (0, 0)), (0, (0, 0))), 1))
  else bif (ltI 12 depth) then (some (((0, (0, 0)), (0, (0, 0))), 1))
  else bif (ltI budget 1) then (some (((0, (0, 0)), (0, (0, 0))), 4))
  else bif (ltI 50000 budget) then (some (((0, (0, 0)), (0, (0, 0))), 4))
  else none) fun b2 =>
 bif (!(eqI y1.2 0)) then (some (((0, (0, 0)), (0, (0, 0))), y1.2))
 else bif (ltI depth 1) then (some (((0, (0, 0)), (0, (0, 0))), 1))
 else bif (ltI 12 depth) then (some (((0, (0, 0)), (0, (0, 0))), 1))
 else bif (ltI budget 1) then (some (((0, (0, 0)), (0, (0, 0))), 4))
 else bif (ltI 50000 budget) then (some (((0, (0, 0)), (0, (0, 0))), 4))
 else (Q15 N b2).bind fun y3 =>
 bif (!(eqI y3 0)) then (some (((0, (0, 0)), (0, (0, 0))), 14))
 else (Q16 N r_ p_ depth budget).bind fun y4 =>
 bif (eqI y4.1 0) then (some (((0, (0, 0)), (0, (0, 0))), 17))
 else (Q17 N []).bind fun y5 =>
 r0 y4.1 1 0 0 0 0 y4.1 y4.2 y5
def Q4.s0 (N : Nat) (r_ : TRules) (p_ : TPos) (depth budget : Int) (r0 : Int → Int → Int → Int → Int → Int → Int → Int → (List TWay) → Option ((TMv × TMv) × Int)) (d_ k_ out out2 out3 out4 out5 out6 : Int) (m14_ : (List TWay)) : Option ((TMv × TMv) × Int) :=
 bif (leI k_ d_) then ((Q18 N r_ p_ k_ m14_).bind fun y6 =>
  r0 d_ (w64 (k_ + 1)) y6.1.1 y6.1.2.1 y6.1.2.2 y6.2.1 out5 out6 y6.2.2)
 else some (((out, (out2, out3)), (out4, (out5, out6))), 0)
def Q4.L (N : Nat) (r_ : TRules) (p_ : TPos) (depth budget : Int) : Nat → (Int → Int → Int → Int → Int → Int → Int → Int → (List TWay) → Option ((TMv × TMv) × Int))
 | 0 => fun _ _ _ _ _ _ _ _ _ => none
 | n + 1 => fun d_ k_ out out2 out3 out4 out5 out6 m14_ => Q4.s0 N r_ p_ depth budget (Q4.L N r_ p_ depth budget n) d_ k_ out out2 out3 out4 out5 out6 m14_
def Q4.l0 (N : Nat) (r_ : TRules) (p_ : TPos) (depth budget : Int) (n : Nat) : Int → Int → Int → Int → Int → Int → Int → Int → (List TWay) → Option ((TMv × TMv) × Int) := (Q4.L N r_ p_ depth budget n)
theorem Q4.l0_s (N : Nat) (r_ : TRules) (p_ : TPos) (depth budget : Int) (n : Nat) (d_ k_ out out2 out3 out4 out5 out6 : Int) (m14_ : (List TWay)) : Q4.l0 N r_ p_ depth budget (n + 1) d_ k_ out out2 out3 out4 out5 out6 m14_ = Q4.s0 N r_ p_ depth budget (Q4.l0 N r_ p_ depth budget n) d_ k_ out out2 out3 out4 out5 out6 m14_ := rfl
def Q4 (N : Nat) (r_ : TRules) (p_ : TPos) (depth budget : Int) : Option ((TMv × TMv) × Int) := Q4.e N (Q4.l0 N r_ p_ depth budget N) r_ p_ depth budget
def Q7.e (N : Nat) (s_ : Int) : Option TMv :=
 some ((-1), (s_, 0))
def Q7 (N : Nat) (s_ : Int) : Option TMv := Q7.e N s_
def Q21.e (N : Nat) (r_ : TRules) (p_ : TPos) (depth : Int) : Option Int :=
 (Q12 N r_ p_ depth).bind fun y1 =>
 some y1.2
def Q21 (N : Nat) (r_ : TRules) (p_ : TPos) (depth : Int) : Option Int := Q21.e N r_ p_ depth
def Q41.e (N : Nat) (self : TBoard → Int → Option (Int × TBoard)) (r0 : Int → Int → Int → ByteArray → Int → Int → Bool → Bool → Int → Int → Int → Int → Int → Int → LMv → (List TPiece) → LInt → (List TEnd) → LInt → LInt → LInt → (List TUndo) → Option (Int × TBoard)) (b_ : TBoard) (depth : Int) : Option (Int × TBoard) :=
 (Q15 N b_).bind fun y1 =>
 bif (!(eqI y1 0)) then ((Q57 N b_).bind fun y2 =>
  (Q56 N y1 y2).bind fun y3 =>
  some (y3, b_))
 else bif (eqI depth 0) then (some (0, b_))
 else (Q36 N b_).bind fun y4 =>
 r0 (-1000) (y4.length : Int) 0 b_.1.1 b_.1.2.1 b_.1.2.2.1 b_.1.2.2.2.2.2.1 b_.1.2.2.2.2.2.2.1 b_.1.2.2.2.2.2.2.2.2.1 b_.1.2.2.2.2.2.2.2.2.2.1 b_.1.2.2.2.2.2.2.2.2.2.2 b_.2.1.2.2.1 b_.2.1.2.2.2 b_.2.2.1 y4 b_.1.2.2.2.1 b_.1.2.2.2.2.1 b_.1.2.2.2.2.2.2.2.1 b_.2.1.1 b_.2.1.2.1.1 b_.2.1.2.1.2 b_.2.2.2
def Q41.s0 (N : Nat) (self : TBoard → Int → Option (Int × TBoard)) (b_ : TBoard) (depth : Int) (r0 : Int → Int → Int → ByteArray → Int → Int → Bool → Bool → Int → Int → Int → Int → Int → Int → LMv → (List TPiece) → LInt → (List TEnd) → LInt → LInt → LInt → (List TUndo) → Option (Int × TBoard)) (best t21_ t22_ : Int) (b_2 : ByteArray) (b_3 b_4 : Int) (b_5 b_6 : Bool) (b_7 b_8 b_9 b_10 b_11 b_12 : Int) (m8_ : LMv) (m9_ : (List TPiece)) (m10_ : LInt) (m11_ : (List TEnd)) (m12_ m13_ m14_ : LInt) (m15_ : (List TUndo)) : Option (Int × TBoard) :=
 bif (ltI t22_ t21_) then (chk ((leI 0 t22_) && (ltI t22_ (m8_.length : Int))) <|
  (Q37 N ((b_2, (b_3, (b_4, (m9_, (m10_, (b_5, (b_6, (m11_, (b_7, (b_8, b_9)))))))))), ((m12_, ((m13_, m14_), (b_10, b_11))), (b_12, m15_))) (gD dM m8_ t22_)).bind fun y5 =>
  (self y5 (w64 (depth - 1))).bind fun y6 =>
  (Q38 N (w64 (0 - y6.1))).bind fun y7 =>
  (Q40 N y6.2).bind fun y9 =>
  r0 (bif (ltI best y7) then y7 else best) t21_ (w64 (t22_ + 1)) y9.2.1.1 y9.2.1.2.1 y9.2.1.2.2.1 y9.2.1.2.2.2.2.2.1 y9.2.1.2.2.2.2.2.2.1 y9.2.1.2.2.2.2.2.2.2.2.1 y9.2.1.2.2.2.2.2.2.2.2.2.1 y9.2.1.2.2.2.2.2.2.2.2.2.2 y9.2.2.1.2.2.1 y9.2.2.1.2.2.2 y9.2.2.2.1 m8_ y9.2.1.2.2.2.1 y9.2.1.2.2.2.2.1 y9.2.1.2.2.2.2.2.2.2.1 y9.2.2.1.1 y9.2.2.1.2.1.1 y9.2.2.1.2.1.2 y9.2.2.2.2)
 else some (best, ((b_2, (b_3, (b_4, (m9_, (m10_, (b_5, (b_6, (m11_, (b_7, (b_8, b_9)))))))))), ((m12_, ((m13_, m14_), (b_10, b_11))), (b_12, m15_))))
def Q41.L (N : Nat) (self : TBoard → Int → Option (Int × TBoard)) (b_ : TBoard) (depth : Int) : Nat → (Int → Int → Int → ByteArray → Int → Int → Bool → Bool → Int → Int → Int → Int → Int → Int → LMv → (List TPiece) → LInt → (List TEnd) → LInt → LInt → LInt → (List TUndo) → Option (Int × TBoard))
 | 0 => fun _ _ _ _ _ _ _ _ _ _ _ _ _ _ _ _ _ _ _ _ _ _ => none
 | n + 1 => fun best t21_ t22_ b_2 b_3 b_4 b_5 b_6 b_7 b_8 b_9 b_10 b_11 b_12 m8_ m9_ m10_ m11_ m12_ m13_ m14_ m15_ => Q41.s0 N self b_ depth (Q41.L N self b_ depth n) best t21_ t22_ b_2 b_3 b_4 b_5 b_6 b_7 b_8 b_9 b_10 b_11 b_12 m8_ m9_ m10_ m11_ m12_ m13_ m14_ m15_
def Q41.l0 (N : Nat) (self : TBoard → Int → Option (Int × TBoard)) (b_ : TBoard) (depth : Int) (n : Nat) : Int → Int → Int → ByteArray → Int → Int → Bool → Bool → Int → Int → Int → Int → Int → Int → LMv → (List TPiece) → LInt → (List TEnd) → LInt → LInt → LInt → (List TUndo) → Option (Int × TBoard) := (Q41.L N self b_ depth n)
theorem Q41.l0_s (N : Nat) (self : TBoard → Int → Option (Int × TBoard)) (b_ : TBoard) (depth : Int) (n : Nat) (best t21_ t22_ : Int) (b_2 : ByteArray) (b_3 b_4 : Int) (b_5 b_6 : Bool) (b_7 b_8 b_9 b_10 b_11 b_12 : Int) (m8_ : LMv) (m9_ : (List TPiece)) (m10_ : LInt) (m11_ : (List TEnd)) (m12_ m13_ m14_ : LInt) (m15_ : (List TUndo)) : Q41.l0 N self b_ depth (n + 1) best t21_ t22_ b_2 b_3 b_4 b_5 b_6 b_7 b_8 b_9 b_10 b_11 b_12 m8_ m9_ m10_ m11_ m12_ m13_ m14_ m15_ = Q41.s0 N self b_ depth (Q41.l0 N self b_ depth n) best t21_ t22_ b_2 b_3 b_4 b_5 b_6 b_7 b_8 b_9 b_10 b_11 b_12 m8_ m9_ m10_ m11_ m12_ m13_ m14_ m15_ := rfl
def Q41 : Nat → TBoard → Int → Option (Int × TBoard)
 | 0 => fun _ _ => none
 | N + 1 => fun b_ depth => Q41.e N (Q41 N) (Q41.l0 N (Q41 N) b_ depth N) b_ depth
def Q19.e (N : Nat) (r_ : TRules) (p_ : TPos) (depth : Int) : Option (Int × Int) :=
 (Q21 N r_ p_ depth).bind fun y1 =>
 bif (!(eqI y1 0)) then (some (0, y1))
 else (Q14 N r_ p_).bind fun y2 =>
 oCase y2.1 none fun b3 =>
 (Q41 N b3 depth).bind fun y4 =>
 some (y4.1, 0)
def Q19 (N : Nat) (r_ : TRules) (p_ : TPos) (depth : Int) : Option (Int × Int) := Q19.e N r_ p_ depth
def Q22.e (N : Nat) (r0 : Int → Int → Int → ByteArray → Int → Int → Bool → Bool → Int → Int → Int → Int → Int → Int → Int → Int → Int → LMv → (List TPiece) → LInt → (List TEnd) → LInt → LInt → LInt → (List TUndo) → Option (TMv × Int × TBoard)) (b_ : TBoard) (depth : Int) : Option (TMv × Int × TBoard) :=
 (Q36 N b_).bind fun y1 =>
 r0 (-1001) (y1.length : Int) 0 b_.1.1 b_.1.2.1 b_.1.2.2.1 b_.1.2.2.2.2.2.1 b_.1.2.2.2.2.2.2.1 b_.1.2.2.2.2.2.2.2.2.1 b_.1.2.2.2.2.2.2.2.2.2.1 b_.1.2.2.2.2.2.2.2.2.2.2 b_.2.1.2.2.1 b_.2.1.2.2.2 b_.2.2.1 0 0 0 y1 b_.1.2.2.2.1 b_.1.2.2.2.2.1 b_.1.2.2.2.2.2.2.2.1 b_.2.1.1 b_.2.1.2.1.1 b_.2.1.2.1.2 b_.2.2.2
def Q22.s0 (N : Nat) (b_ : TBoard) (depth : Int) (r0 : Int → Int → Int → ByteArray → Int → Int → Bool → Bool → Int → Int → Int → Int → Int → Int → Int → Int → Int → LMv → (List TPiece) → LInt → (List TEnd) → LInt → LInt → LInt → (List TUndo) → Option (TMv × Int × TBoard)) (most t13_ t14_ : Int) (b_2 : ByteArray) (b_3 b_4 : Int) (b_5 b_6 : Bool) (b_7 b_8 b_9 b_10 b_11 b_12 out out2 out3 : Int) (m10_ : LMv) (m11_ : (List TPiece)) (m12_ : LInt) (m13_ : (List TEnd)) (m14_ m15_ m16_ : LInt) (m17_ : (List TUndo)) : Option (TMv × Int × TBoard) :=
 bif (ltI t14_ t13_) then (chk ((leI 0 t14_) && (ltI t14_ (m10_.length : Int))) <|
  (Q37 N ((b_2, (b_3, (b_4, (m11_, (m12_, (b_5, (b_6, (m13_, (b_7, (b_8, b_9)))))))))), ((m14_, ((m15_, m16_), (b_10, b_11))), (b_12, m17_))) (gD dM m10_ t14_)).bind fun y2 =>
  (Q41 N y2 (w64 (depth - 1))).bind fun y3 =>
  (Q38 N (w64 (0 - y3.1))).bind fun y4 =>
  (Q40 N y3.2).bind fun y5 =>
  bif (ltI most y4) then (r0 y4 t13_ (w64 (t14_ + 1)) y5.2.1.1 y5.2.1.2.1 y5.2.1.2.2.1 y5.2.1.2.2.2.2.2.1 y5.2.1.2.2.2.2.2.2.1 y5.2.1.2.2.2.2.2.2.2.2.1 y5.2.1.2.2.2.2.2.2.2.2.2.1 y5.2.1.2.2.2.2.2.2.2.2.2.2 y5.2.2.1.2.2.1 y5.2.2.1.2.2.2 y5.2.2.2.1 (gD dM m10_ t14_).1 (gD dM m10_ t14_).2.1 (gD dM m10_ t14_).2.2 m10_ y5.2.1.2.2.2.1 y5.2.1.2.2.2.2.1 y5.2.1.2.2.2.2.2.2.2.1 y5.2.2.1.1 y5.2.2.1.2.1.1 y5.2.2.1.2.1.2 y5.2.2.2.2)
  else r0 most t13_ (w64 (t14_ + 1)) y5.2.1.1 y5.2.1.2.1 y5.2.1.2.2.1 y5.2.1.2.2.2.2.2.1 y5.2.1.2.2.2.2.2.2.1 y5.2.1.2.2.2.2.2.2.2.2.1 y5.2.1.2.2.2.2.2.2.2.2.2.1 y5.2.1.2.2.2.2.2.2.2.2.2.2 y5.2.2.1.2.2.1 y5.2.2.1.2.2.2 y5.2.2.2.1 out out2 out3 m10_ y5.2.1.2.2.2.1 y5.2.1.2.2.2.2.1 y5.2.1.2.2.2.2.2.2.2.1 y5.2.2.1.1 y5.2.2.1.2.1.1 y5.2.2.1.2.1.2 y5.2.2.2.2)
 else some ((out, (out2, out3)), (most, ((b_2, (b_3, (b_4, (m11_, (m12_, (b_5, (b_6, (m13_, (b_7, (b_8, b_9)))))))))), ((m14_, ((m15_, m16_), (b_10, b_11))), (b_12, m17_)))))
def Q22.L (N : Nat) (b_ : TBoard) (depth : Int) : Nat → (Int → Int → Int → ByteArray → Int → Int → Bool → Bool → Int → Int → Int → Int → Int → Int → Int → Int → Int → LMv → (List TPiece) → LInt → (List TEnd) → LInt → LInt → LInt → (List TUndo) → Option (TMv × Int × TBoard))
 | 0 => fun _ _ _ _ _ _ _ _ _ _ _ _ _ _ _ _ _ _ _ _ _ _ _ _ _ => none
 | n + 1 => fun most t13_ t14_ b_2 b_3 b_4 b_5 b_6 b_7 b_8 b_9 b_10 b_11 b_12 out out2 out3 m10_ m11_ m12_ m13_ m14_ m15_ m16_ m17_ => Q22.s0 N b_ depth (Q22.L N b_ depth n) most t13_ t14_ b_2 b_3 b_4 b_5 b_6 b_7 b_8 b_9 b_10 b_11 b_12 out out2 out3 m10_ m11_ m12_ m13_ m14_ m15_ m16_ m17_
def Q22.l0 (N : Nat) (b_ : TBoard) (depth : Int) (n : Nat) : Int → Int → Int → ByteArray → Int → Int → Bool → Bool → Int → Int → Int → Int → Int → Int → Int → Int → Int → LMv → (List TPiece) → LInt → (List TEnd) → LInt → LInt → LInt → (List TUndo) → Option (TMv × Int × TBoard) := (Q22.L N b_ depth n)
theorem Q22.l0_s (N : Nat) (b_ : TBoard) (depth : Int) (n : Nat) (most t13_ t14_ : Int) (b_2 : ByteArray) (b_3 b_4 : Int) (b_5 b_6 : Bool) (b_7 b_8 b_9 b_10 b_11 b_12 out out2 out3 : Int) (m10_ : LMv) (m11_ : (List TPiece)) (m12_ : LInt) (m13_ : (List TEnd)) (m14_ m15_ m16_ : LInt) (m17_ : (List TUndo)) : Q22.l0 N b_ depth (n + 1) most t13_ t14_ b_2 b_3 b_4 b_5 b_6 b_7 b_8 b_9 b_10 b_11 b_12 out out2 out3 m10_ m11_ m12_ m13_ m14_ m15_ m16_ m17_ = Q22.s0 N b_ depth (Q22.l0 N b_ depth n) most t13_ t14_ b_2 b_3 b_4 b_5 b_6 b_7 b_8 b_9 b_10 b_11 b_12 out out2 out3 m10_ m11_ m12_ m13_ m14_ m15_ m16_ m17_ := rfl
def Q22 (N : Nat) (b_ : TBoard) (depth : Int) : Option (TMv × Int × TBoard) := Q22.e N (Q22.l0 N b_ depth N) b_ depth
def Q11.e (N : Nat) (r_ : TRules) (p_ : TPos) (depth : Int) : Option (TMv × Int × Int) :=
 (Q21 N r_ p_ depth).bind fun y1 =>
 bif (!(eqI y1 0)) then (some ((0, (0, 0)), (0, y1)))
 else (Q14 N r_ p_).bind fun y2 =>
 oCase y2.1 (bif (eqI depth 0) then (some ((0, (0, 0)), (0, 1)))
  else none) fun b3 =>
 bif (eqI depth 0) then (some ((0, (0, 0)), (0, 1)))
 else (Q15 N b3).bind fun y4 =>
 bif (!(eqI y4 0)) then (some ((0, (0, 0)), (0, 14)))
 else (Q22 N b3 depth).bind fun y5 =>
 some (y5.1, (y5.2.1, 0))
def Q11 (N : Nat) (r_ : TRules) (p_ : TPos) (depth : Int) : Option (TMv × Int × Int) := Q11.e N r_ p_ depth
def Q26.e (N : Nat) (e_ : Int) : Option Bool :=
 some (!(eqI e_ 0))
def Q26 (N : Nat) (e_ : Int) : Option Bool := Q26.e N e_
def Q42.e (N : Nat) (r0 : Int → Option Int) (s_ : LInt) : Option Int :=
 r0 0
def Q42.s0 (N : Nat) (s_ : LInt) (r0 : Int → Option Int) (t8_ : Int) : Option Int :=
 bif (ltI t8_ (s_.length : Int)) then (chk ((leI 0 t8_) && (ltI t8_ (s_.length : Int))) <|
  (Q26 N (gD (0 : Int) s_ t8_)).bind fun y2 =>
  bif y2 then some t8_
  else r0 (w64 (t8_ + 1)))
 else some (-1)
def Q42.L (N : Nat) (s_ : LInt) : Nat → (Int → Option Int)
 | 0 => fun _ => none
 | n + 1 => fun t8_ => Q42.s0 N s_ (Q42.L N s_ n) t8_
def Q42.l0 (N : Nat) (s_ : LInt) (n : Nat) : Int → Option Int := (Q42.L N s_ n)
theorem Q42.l0_s (N : Nat) (s_ : LInt) (n : Nat) (t8_ : Int) : Q42.l0 N s_ (n + 1) t8_ = Q42.s0 N s_ (Q42.l0 N s_ n) t8_ := rfl
def Q42 (N : Nat) (s_ : LInt) : Option Int := Q42.e N (Q42.l0 N s_ N) s_
def Q25.e (N : Nat) (s_ : LInt) : Option Bool :=
 (Q42 N s_).bind fun y1 =>
 some (leI 0 y1)
def Q25 (N : Nat) (s_ : LInt) : Option Bool := Q25.e N s_
def Q13.e (N : Nat) (l_ : LInt) : Option Bool :=
 (Q25 N l_).bind fun y1 =>
 some (!y1)
def Q13 (N : Nat) (l_ : LInt) : Option Bool := Q13.e N l_
def Q8.e (N : Nat) : Option Bool :=
 (Q5 N).bind fun y1 =>
 (Q6 N).bind fun y2 =>
 (Q19 N y1 y2 1).bind fun y3 =>
 (Q5 N).bind fun y4 =>
 (Q6 N).bind fun y5 =>
 (Q11 N y4 y5 2).bind fun y6 =>
 (Q13 N [y3.2, y6.2.2]).bind fun y7 =>
 bif y7 then (bif (eqI y3.1 999) then ((Q7 N 2).bind fun y8 =>
   bif ((eqI y6.1.1 y8.1) && ((eqI y6.1.2.1 y8.2.1) && ((eqI y6.1.2.2 y8.2.2) && true))) then (some (eqI y6.2.1 999))
   else some false)
  else some false)
 else some false
def Q8 (N : Nat) : Option Bool := Q8.e N
def Q20.e (N : Nat) (r_ : TRules) (p_ : TPos) (depth : Int) : Option (Int × Int) :=
 (Q23 N r_ p_ depth).bind fun y1 =>
 oCase y1.1 (bif (!(eqI y1.2 0)) then (some (0, y1.2))
  else none) fun b2 =>
 bif (!(eqI y1.2 0)) then (some (0, y1.2))
 else (Q24 N 50000 b2 depth).bind fun y3 =>
 bif (ltI y3.2.1 0) then (some (0, 17))
 else some (y3.1, 0)
def Q20 (N : Nat) (r_ : TRules) (p_ : TPos) (depth : Int) : Option (Int × Int) := Q20.e N r_ p_ depth
def Q9.e (N : Nat) : Option Bool :=
 (Q5 N).bind fun y1 =>
 (Q6 N).bind fun y2 =>
 (Q20 N y1 y2 2).bind fun y3 =>
 (Q5 N).bind fun y4 =>
 (Q6 N).bind fun y5 =>
 (Q12 N y4 y5 2).bind fun y6 =>
 (Q13 N [y3.2, y6.2]).bind fun y7 =>
 bif y7 then (bif (eqI y3.1 16) then (some (eqI y6.1 22))
  else some false)
 else some false
def Q9 (N : Nat) : Option Bool := Q9.e N
def Q10.e (N : Nat) (r_ : TRules) (p_ : TPos) (depth : Int) : Option Bool :=
 (Q12 N r_ p_ depth).bind fun y1 =>
 bif (eqI y1.2 17) then some true
 else bif (ltI 3000 y1.1) then some true
 else some (ltI 20 (p_.1.length : Int))
def Q10 (N : Nat) (r_ : TRules) (p_ : TPos) (depth : Int) : Option Bool := Q10.e N r_ p_ depth
def Q3.e (N : Nat) (r_ : TRules) (p_ : TPos) (depth budget : Int) : Option Bool :=
 (Q5 N).bind fun y1 =>
 (Q6 N).bind fun y2 =>
 (Q4 N y1 y2 1 50).bind fun y3 =>
 bif (!(eqI y3.2 0)) then some false
 else (Q7 N 2).bind fun y4 =>
 bif (!((eqI y3.1.1.1 y4.1) && ((eqI y3.1.1.2.1 y4.2.1) && ((eqI y3.1.1.2.2 y4.2.2) && true)))) then some false
 else bif (!(eqI y3.1.2.2.2 6)) then some false
 else (Q8 N).bind fun y6 =>
 bif (!y6) then some false
 else (Q9 N).bind fun y7 =>
 bif (!y7) then some false
 else (Q10 N r_ p_ depth).bind fun y8 =>
 bif y8 then some true
 else (Q4 N r_ p_ depth budget).bind fun y9 =>
 bif (!(eqI y9.2 0)) then (some (((eqI y9.1.1.1 0) && ((eqI y9.1.1.2.1 0) && ((eqI y9.1.1.2.2 0) && true))) && ((eqI y9.1.2.1 0) && ((eqI y9.1.2.2.1 0) && ((eqI y9.1.2.2.2 0) && true)))))
 else (Q11 N r_ p_ y9.1.2.2.1).bind fun y11 =>
 (Q12 N r_ p_ y9.1.2.2.1).bind fun y12 =>
 (Q12 N r_ p_ (w64 (y9.1.2.2.1 + 1))).bind fun y13 =>
 (Q13 N [y11.2.2, y12.2]).bind fun y14 =>
 bif y14 then (bif ((eqI y11.1.1 y9.1.1.1) && ((eqI y11.1.2.1 y9.1.1.2.1) && ((eqI y11.1.2.2 y9.1.1.2.2) && true))) then (bif (eqI y11.2.1 y9.1.2.1) then (bif (eqI y12.1 y9.1.2.2.2) then (bif (leI y12.1 budget) then (bif (leI y9.1.2.2.1 depth) then (bif (eqI y9.1.2.2.1 depth) then some true
       else bif (!(eqI y13.2 0)) then some true
       else some (ltI budget y13.1))
      else some false)
     else some false)
    else some false)
   else some false)
  else some false)
 else some false
def Q3 (N : Nat) (r_ : TRules) (p_ : TPos) (depth budget : Int) : Option Bool := Q3.e N r_ p_ depth budget
end
end Go.Proofs.Ytlfhchkhbecmbaa.Am
