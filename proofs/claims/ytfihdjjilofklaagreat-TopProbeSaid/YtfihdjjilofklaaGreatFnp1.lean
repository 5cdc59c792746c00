/- PRINTED by gen.py: what the functions compute, as plain Lean functions with fuel. -/
import Derived.Test.YtfihdjjilofklaaGreatFnp
set_option linter.unusedVariables false
set_option linter.unusedSimpArgs false
namespace Go.Proofs.YtfihdjjilofklaaGreat.Am
open Go
noncomputable section
def Q12.e (N : Nat) (r0 : Int → ByteArray → Int → Int → Bool → Bool → Int → Int → Int → (List TPiece) → LInt → (List TEnd) → (List TPos) → (List LInt) → (List LMv) → (List (Int × Int)) → (List (ByteArray × Int)) → Option ((Option TTab) × Int)) (r1 : Int → Int → Int → ByteArray → Int → Int → Bool → Bool → Int → Int → Int → (List TPiece) → LInt → (List TEnd) → (List TPos) → (List LInt) → (List LMv) → (List (Int × Int)) → (List (ByteArray × Int)) → LInt → LInt → LInt → Int → Int → Int → LMv → LInt → Option ((Option TTab) × Int)) (r2 : Int → ByteArray → Int → Int → Bool → Bool → Int → Int → Int → (List TPiece) → LInt → (List TEnd) → (List TPos) → (List LInt) → (List LMv) → (List (Int × Int)) → (List (ByteArray × Int)) → Option ((Option TTab) × Int)) (r3 : Int → Int → ByteArray → Int → Int → Bool → Bool → Int → Int → Int → (List TPiece) → LInt → (List TEnd) → (List TPos) → (List LInt) → (List LMv) → (List (Int × Int)) → (List (ByteArray × Int)) → Option ((Option TTab) × Int)) (r_ : TRules) : Option ((Option TTab) × Int) :=
 (Q29 N r_).bind fun y1 =>
 bif (!(eqI y1 0)) then (some (none, y1))
 else bif (!(eqI r_.2.2.2.2.2.2.2.2.2.1 0)) then (some (none, 1))
 else (Q19 N r_).bind fun y3 =>
 (Q31 N r_).bind fun y4 =>
 (Q30 N (y3, ([], ([], ([], ([], []))))) y4).bind fun y5 =>
 r0 0 y5.2.1.1 y5.2.1.2.1 y5.2.1.2.2.1 y5.2.1.2.2.2.2.2.1 y5.2.1.2.2.2.2.2.2.1 y5.2.1.2.2.2.2.2.2.2.2.1 y5.2.1.2.2.2.2.2.2.2.2.2.1 y5.2.1.2.2.2.2.2.2.2.2.2.2 y5.2.1.2.2.2.1 y5.2.1.2.2.2.2.1 y5.2.1.2.2.2.2.2.2.2.1 y5.2.2.1 y5.2.2.2.1 y5.2.2.2.2.1 y5.2.2.2.2.2.1 y5.2.2.2.2.2.2
def Q12.s0 (N : Nat) (r_ : TRules) (r0 : Int → ByteArray → Int → Int → Bool → Bool → Int → Int → Int → (List TPiece) → LInt → (List TEnd) → (List TPos) → (List LInt) → (List LMv) → (List (Int × Int)) → (List (ByteArray × Int)) → Option ((Option TTab) × Int)) (r1 : Int → Int → Int → ByteArray → Int → Int → Bool → Bool → Int → Int → Int → (List TPiece) → LInt → (List TEnd) → (List TPos) → (List LInt) → (List LMv) → (List (Int × Int)) → (List (ByteArray × Int)) → LInt → LInt → LInt → Int → Int → Int → LMv → LInt → Option ((Option TTab) × Int)) (r2 : Int → ByteArray → Int → Int → Bool → Bool → Int → Int → Int → (List TPiece) → LInt → (List TEnd) → (List TPos) → (List LInt) → (List LMv) → (List (Int × Int)) → (List (ByteArray × Int)) → Option ((Option TTab) × Int)) (r3 : Int → Int → ByteArray → Int → Int → Bool → Bool → Int → Int → Int → (List TPiece) → LInt → (List TEnd) → (List TPos) → (List LInt) → (List LMv) → (List (Int × Int)) → (List (ByteArray × Int)) → Option ((Option TTab) × Int)) (i_ : Int) (t_ : ByteArray) (t_2 t_3 : Int) (t_4 t_5 : Bool) (t_6 t_7 t_8 : Int) (m9_ : (List TPiece)) (m10_ : LInt) (m11_ : (List TEnd)) (m12_ : (List TPos)) (m13_ : (List LInt)) (m14_ : (List LMv)) (m15_ : (List (Int × Int))) (m16_ : (List (ByteArray × Int))) : Option ((Option TTab) × Int) :=
 bif (ltI i_ (m12_.length : Int)) then (chk ((leI 0 i_) && (ltI i_ (m12_.length : Int))) <|
  (Q32 N r_ (gD (([] : LInt), ((([] : LInt), ([] : LInt)), ((0 : Int), (0 : Int)))) m12_ i_)).bind fun y7 =>
  bif (eqI y7 0) then ((Q33 N r_ (gD (([] : LInt), ((([] : LInt), ([] : LInt)), ((0 : Int), (0 : Int)))) m12_ i_)).bind fun y8 =>
   r1 i_ (y8.length : Int) 0 t_ t_2 t_3 t_4 t_5 t_6 t_7 t_8 m9_ m10_ m11_ m12_ m13_ m14_ m15_ m16_ (gD (([] : LInt), ((([] : LInt), ([] : LInt)), ((0 : Int), (0 : Int)))) m12_ i_).1 (gD (([] : LInt), ((([] : LInt), ([] : LInt)), ((0 : Int), (0 : Int)))) m12_ i_).2.1.1 (gD (([] : LInt), ((([] : LInt), ([] : LInt)), ((0 : Int), (0 : Int)))) m12_ i_).2.1.2 (gD (([] : LInt), ((([] : LInt), ([] : LInt)), ((0 : Int), (0 : Int)))) m12_ i_).2.2.1 (gD (([] : LInt), ((([] : LInt), ([] : LInt)), ((0 : Int), (0 : Int)))) m12_ i_).2.2.2 y7 y8 [])
  else bothK (bothK (chk (capOk 24 (m13_.length + ([[]] : List LInt).length)) <|
    bothK (bothK (chk (capOk 24 (m14_.length + ([[]] : List LMv).length)) <|
      chk (capOk 16 (m15_.length + ([(y7, 0)] : List (Int × Int)).length)) <|
      bif (ltI 3000 (m12_.length : Int)) then (some (none, 2))
      else r0 (w64 (i_ + 1)) t_ t_2 t_3 t_4 t_5 t_6 t_7 t_8 m9_ m10_ m11_ m12_ (m13_ ++ [[]]) (m14_ ++ [[]]) (m15_ ++ [(y7, 0)]) m16_) (chk (capOk 24 (m14_.length + ([[]] : List LMv).length)) <|
      chk (capOk 16 (m15_.length + ([(y7, 0)] : List (Int × Int)).length)) <|
      bif (ltI 3000 (m12_.length : Int)) then (some (none, 2))
      else r0 (w64 (i_ + 1)) t_ t_2 t_3 t_4 t_5 t_6 t_7 t_8 m9_ m10_ m11_ m12_ (m13_ ++ [[]]) (m14_ ++ [[]]) (m15_ ++ [(y7, 0)]) m16_)) (chk (capOk 24 (m14_.length + ([[]] : List LMv).length)) <|
     chk (capOk 16 (m15_.length + ([(y7, 0)] : List (Int × Int)).length)) <|
     bif (ltI 3000 (m12_.length : Int)) then (some (none, 2))
     else r0 (w64 (i_ + 1)) t_ t_2 t_3 t_4 t_5 t_6 t_7 t_8 m9_ m10_ m11_ m12_ (m13_ ++ [[]]) (m14_ ++ [[]]) (m15_ ++ [(y7, 0)]) m16_)) (bothK (bothK (chk (capOk 24 (m13_.length + ([[]] : List LInt).length)) <|
     bothK (chk (capOk 24 (m14_.length + ([[]] : List LMv).length)) <|
      chk (capOk 16 (m15_.length + ([(y7, 0)] : List (Int × Int)).length)) <|
      bif (ltI 3000 (m12_.length : Int)) then (some (none, 2))
      else r0 (w64 (i_ + 1)) t_ t_2 t_3 t_4 t_5 t_6 t_7 t_8 m9_ m10_ m11_ m12_ (m13_ ++ [[]]) (m14_ ++ [[]]) (m15_ ++ [(y7, 0)]) m16_) (chk (capOk 24 (m14_.length + ([[]] : List LMv).length)) <|
      chk (capOk 16 (m15_.length + ([(y7, 0)] : List (Int × Int)).length)) <|
      bif (ltI 3000 (m12_.length : Int)) then (some (none, 2))
      else r0 (w64 (i_ + 1)) t_ t_2 t_3 t_4 t_5 t_6 t_7 t_8 m9_ m10_ m11_ m12_ (m13_ ++ [[]]) (m14_ ++ [[]]) (m15_ ++ [(y7, 0)]) m16_)) (chk (capOk 24 (m13_.length + ([[]] : List LInt).length)) <|
     chk (capOk 24 (m14_.length + ([[]] : List LMv).length)) <|
     chk (capOk 16 (m15_.length + ([(y7, 0)] : List (Int × Int)).length)) <|
     bif (ltI 3000 (m12_.length : Int)) then (some (none, 2))
     else r0 (w64 (i_ + 1)) t_ t_2 t_3 t_4 t_5 t_6 t_7 t_8 m9_ m10_ m11_ m12_ (m13_ ++ [[]]) (m14_ ++ [[]]) (m15_ ++ [(y7, 0)]) m16_)) (bothK (chk (capOk 24 (m13_.length + ([[]] : List LInt).length)) <|
     chk (capOk 24 (m14_.length + ([[]] : List LMv).length)) <|
     chk (capOk 16 (m15_.length + ([(y7, 0)] : List (Int × Int)).length)) <|
     bif (ltI 3000 (m12_.length : Int)) then (some (none, 2))
     else r0 (w64 (i_ + 1)) t_ t_2 t_3 t_4 t_5 t_6 t_7 t_8 m9_ m10_ m11_ m12_ (m13_ ++ [[]]) (m14_ ++ [[]]) (m15_ ++ [(y7, 0)]) m16_) (chk (capOk 24 (m13_.length + ([[]] : List LInt).length)) <|
     chk (capOk 24 (m14_.length + ([[]] : List LMv).length)) <|
     chk (capOk 16 (m15_.length + ([(y7, 0)] : List (Int × Int)).length)) <|
     bif (ltI 3000 (m12_.length : Int)) then (some (none, 2))
     else r0 (w64 (i_ + 1)) t_ t_2 t_3 t_4 t_5 t_6 t_7 t_8 m9_ m10_ m11_ m12_ (m13_ ++ [[]]) (m14_ ++ [[]]) (m15_ ++ [(y7, 0)]) m16_)))) (bothK (bothK (bothK (chk (capOk 24 (m13_.length + ([[]] : List LInt).length)) <|
     bothK (chk (capOk 24 (m14_.length + ([[]] : List LMv).length)) <|
      chk (capOk 16 (m15_.length + ([(y7, 0)] : List (Int × Int)).length)) <|
      bif (ltI 3000 (m12_.length : Int)) then (some (none, 2))
      else r0 (w64 (i_ + 1)) t_ t_2 t_3 t_4 t_5 t_6 t_7 t_8 m9_ m10_ m11_ m12_ (m13_ ++ [[]]) (m14_ ++ [[]]) (m15_ ++ [(y7, 0)]) m16_) (chk (capOk 24 (m14_.length + ([[]] : List LMv).length)) <|
      chk (capOk 16 (m15_.length + ([(y7, 0)] : List (Int × Int)).length)) <|
      bif (ltI 3000 (m12_.length : Int)) then (some (none, 2))
      else r0 (w64 (i_ + 1)) t_ t_2 t_3 t_4 t_5 t_6 t_7 t_8 m9_ m10_ m11_ m12_ (m13_ ++ [[]]) (m14_ ++ [[]]) (m15_ ++ [(y7, 0)]) m16_)) (chk (capOk 24 (m13_.length + ([[]] : List LInt).length)) <|
     chk (capOk 24 (m14_.length + ([[]] : List LMv).length)) <|
     chk (capOk 16 (m15_.length + ([(y7, 0)] : List (Int × Int)).length)) <|
     bif (ltI 3000 (m12_.length : Int)) then (some (none, 2))
     else r0 (w64 (i_ + 1)) t_ t_2 t_3 t_4 t_5 t_6 t_7 t_8 m9_ m10_ m11_ m12_ (m13_ ++ [[]]) (m14_ ++ [[]]) (m15_ ++ [(y7, 0)]) m16_)) (chk (capOk 24 (m13_.length + ([[]] : List LInt).length)) <|
    chk (capOk 24 (m14_.length + ([[]] : List LMv).length)) <|
    chk (capOk 16 (m15_.length + ([(y7, 0)] : List (Int × Int)).length)) <|
    bif (ltI 3000 (m12_.length : Int)) then (some (none, 2))
    else r0 (w64 (i_ + 1)) t_ t_2 t_3 t_4 t_5 t_6 t_7 t_8 m9_ m10_ m11_ m12_ (m13_ ++ [[]]) (m14_ ++ [[]]) (m15_ ++ [(y7, 0)]) m16_)) (bothK (bothK (chk (capOk 24 (m13_.length + ([[]] : List LInt).length)) <|
     chk (capOk 24 (m14_.length + ([[]] : List LMv).length)) <|
     chk (capOk 16 (m15_.length + ([(y7, 0)] : List (Int × Int)).length)) <|
     bif (ltI 3000 (m12_.length : Int)) then (some (none, 2))
     else r0 (w64 (i_ + 1)) t_ t_2 t_3 t_4 t_5 t_6 t_7 t_8 m9_ m10_ m11_ m12_ (m13_ ++ [[]]) (m14_ ++ [[]]) (m15_ ++ [(y7, 0)]) m16_) (chk (capOk 24 (m13_.length + ([[]] : List LInt).length)) <|
     chk (capOk 24 (m14_.length + ([[]] : List LMv).length)) <|
     chk (capOk 16 (m15_.length + ([(y7, 0)] : List (Int × Int)).length)) <|
     bif (ltI 3000 (m12_.length : Int)) then (some (none, 2))
     else r0 (w64 (i_ + 1)) t_ t_2 t_3 t_4 t_5 t_6 t_7 t_8 m9_ m10_ m11_ m12_ (m13_ ++ [[]]) (m14_ ++ [[]]) (m15_ ++ [(y7, 0)]) m16_)) (chk (capOk 24 (m13_.length + ([[]] : List LInt).length)) <|
    chk (capOk 24 (m14_.length + ([[]] : List LMv).length)) <|
    chk (capOk 16 (m15_.length + ([(y7, 0)] : List (Int × Int)).length)) <|
    bif (ltI 3000 (m12_.length : Int)) then (some (none, 2))
    else r0 (w64 (i_ + 1)) t_ t_2 t_3 t_4 t_5 t_6 t_7 t_8 m9_ m10_ m11_ m12_ (m13_ ++ [[]]) (m14_ ++ [[]]) (m15_ ++ [(y7, 0)]) m16_))))
 else r2 1 t_ t_2 t_3 t_4 t_5 t_6 t_7 t_8 m9_ m10_ m11_ m12_ m13_ m14_ m15_ m16_
def Q12.s1 (N : Nat) (r_ : TRules) (r0 : Int → ByteArray → Int → Int → Bool → Bool → Int → Int → Int → (List TPiece) → LInt → (List TEnd) → (List TPos) → (List LInt) → (List LMv) → (List (Int × Int)) → (List (ByteArray × Int)) → Option ((Option TTab) × Int)) (r1 : Int → Int → Int → ByteArray → Int → Int → Bool → Bool → Int → Int → Int → (List TPiece) → LInt → (List TEnd) → (List TPos) → (List LInt) → (List LMv) → (List (Int × Int)) → (List (ByteArray × Int)) → LInt → LInt → LInt → Int → Int → Int → LMv → LInt → Option ((Option TTab) × Int)) (r2 : Int → ByteArray → Int → Int → Bool → Bool → Int → Int → Int → (List TPiece) → LInt → (List TEnd) → (List TPos) → (List LInt) → (List LMv) → (List (Int × Int)) → (List (ByteArray × Int)) → Option ((Option TTab) × Int)) (r3 : Int → Int → ByteArray → Int → Int → Bool → Bool → Int → Int → Int → (List TPiece) → LInt → (List TEnd) → (List TPos) → (List LInt) → (List LMv) → (List (Int × Int)) → (List (ByteArray × Int)) → Option ((Option TTab) × Int)) (i_ t60_ t61_ : Int) (t_ : ByteArray) (t_2 t_3 : Int) (t_4 t_5 : Bool) (t_6 t_7 t_8 : Int) (m9_ : (List TPiece)) (m10_ : LInt) (m11_ : (List TEnd)) (m12_ : (List TPos)) (m13_ : (List LInt)) (m14_ : (List LMv)) (m15_ : (List (Int × Int))) (m16_ : (List (ByteArray × Int))) (p_ p_2 p_3 : LInt) (p_4 p_5 entry : Int) (l_ : LMv) (next : LInt) : Option ((Option TTab) × Int) :=
 bif (ltI t61_ t60_) then (chk ((leI 0 t61_) && (ltI t61_ (l_.length : Int))) <|
  (Q24 N r_ (p_, ((p_2, p_3), (p_4, p_5))) (gD dM l_ t61_)).bind fun y28 =>
  (Q30 N ((t_, (t_2, (t_3, (m9_, (m10_, (t_4, (t_5, (m11_, (t_6, (t_7, t_8)))))))))), (m12_, (m13_, (m14_, (m15_, m16_))))) y28).bind fun y29 =>
  chk (capOk 8 (next.length + ([y29.1] : List Int).length)) <|
  r1 i_ t60_ (w64 (t61_ + 1)) y29.2.1.1 y29.2.1.2.1 y29.2.1.2.2.1 y29.2.1.2.2.2.2.2.1 y29.2.1.2.2.2.2.2.2.1 y29.2.1.2.2.2.2.2.2.2.2.1 y29.2.1.2.2.2.2.2.2.2.2.2.1 y29.2.1.2.2.2.2.2.2.2.2.2.2 y29.2.1.2.2.2.1 y29.2.1.2.2.2.2.1 y29.2.1.2.2.2.2.2.2.2.1 y29.2.2.1 y29.2.2.2.1 y29.2.2.2.2.1 y29.2.2.2.2.2.1 y29.2.2.2.2.2.2 p_ p_2 p_3 p_4 p_5 entry l_ (next ++ [y29.1]))
 else bothK (bothK (chk (capOk 24 (m13_.length + ([next] : List LInt).length)) <|
   bothK (bothK (chk (capOk 24 (m14_.length + ([l_] : List LMv).length)) <|
     chk (capOk 16 (m15_.length + ([(entry, 0)] : List (Int × Int)).length)) <|
     bif (ltI 3000 (m12_.length : Int)) then (some (none, 2))
     else r0 (w64 (i_ + 1)) t_ t_2 t_3 t_4 t_5 t_6 t_7 t_8 m9_ m10_ m11_ m12_ (m13_ ++ [next]) (m14_ ++ [l_]) (m15_ ++ [(entry, 0)]) m16_) (chk (capOk 24 (m14_.length + ([l_] : List LMv).length)) <|
     chk (capOk 16 (m15_.length + ([(entry, 0)] : List (Int × Int)).length)) <|
     bif (ltI 3000 (m12_.length : Int)) then (some (none, 2))
     else r0 (w64 (i_ + 1)) t_ t_2 t_3 t_4 t_5 t_6 t_7 t_8 m9_ m10_ m11_ m12_ (m13_ ++ [next]) (m14_ ++ [l_]) (m15_ ++ [(entry, 0)]) m16_)) (chk (capOk 24 (m14_.length + ([l_] : List LMv).length)) <|
    chk (capOk 16 (m15_.length + ([(entry, 0)] : List (Int × Int)).length)) <|
    bif (ltI 3000 (m12_.length : Int)) then (some (none, 2))
    else r0 (w64 (i_ + 1)) t_ t_2 t_3 t_4 t_5 t_6 t_7 t_8 m9_ m10_ m11_ m12_ (m13_ ++ [next]) (m14_ ++ [l_]) (m15_ ++ [(entry, 0)]) m16_)) (bothK (bothK (chk (capOk 24 (m13_.length + ([next] : List LInt).length)) <|
    bothK (chk (capOk 24 (m14_.length + ([l_] : List LMv).length)) <|
     chk (capOk 16 (m15_.length + ([(entry, 0)] : List (Int × Int)).length)) <|
     bif (ltI 3000 (m12_.length : Int)) then (some (none, 2))
     else r0 (w64 (i_ + 1)) t_ t_2 t_3 t_4 t_5 t_6 t_7 t_8 m9_ m10_ m11_ m12_ (m13_ ++ [next]) (m14_ ++ [l_]) (m15_ ++ [(entry, 0)]) m16_) (chk (capOk 24 (m14_.length + ([l_] : List LMv).length)) <|
     chk (capOk 16 (m15_.length + ([(entry, 0)] : List (Int × Int)).length)) <|
     bif (ltI 3000 (m12_.length : Int)) then (some (none, 2))
     else r0 (w64 (i_ + 1)) t_ t_2 t_3 t_4 t_5 t_6 t_7 t_8 m9_ m10_ m11_ m12_ (m13_ ++ [next]) (m14_ ++ [l_]) (m15_ ++ [(entry, 0)]) m16_)) (chk (capOk 24 (m13_.length + ([next] : List LInt).length)) <|
    chk (capOk 24 (m14_.length + ([l_] : List LMv).length)) <|
    chk (capOk 16 (m15_.length + ([(entry, 0)] : List (Int × Int)).length)) <|
    bif (ltI 3000 (m12_.length : Int)) then (some (none, 2))
    else r0 (w64 (i_ + 1)) t_ t_2 t_3 t_4 t_5 t_6 t_7 t_8 m9_ m10_ m11_ m12_ (m13_ ++ [next]) (m14_ ++ [l_]) (m15_ ++ [(entry, 0)]) m16_)) (bothK (chk (capOk 24 (m13_.length + ([next] : List LInt).length)) <|
    chk (capOk 24 (m14_.length + ([l_] : List LMv).length)) <|
    chk (capOk 16 (m15_.length + ([(entry, 0)] : List (Int × Int)).length)) <|
    bif (ltI 3000 (m12_.length : Int)) then (some (none, 2))
    else r0 (w64 (i_ + 1)) t_ t_2 t_3 t_4 t_5 t_6 t_7 t_8 m9_ m10_ m11_ m12_ (m13_ ++ [next]) (m14_ ++ [l_]) (m15_ ++ [(entry, 0)]) m16_) (chk (capOk 24 (m13_.length + ([next] : List LInt).length)) <|
    chk (capOk 24 (m14_.length + ([l_] : List LMv).length)) <|
    chk (capOk 16 (m15_.length + ([(entry, 0)] : List (Int × Int)).length)) <|
    bif (ltI 3000 (m12_.length : Int)) then (some (none, 2))
    else r0 (w64 (i_ + 1)) t_ t_2 t_3 t_4 t_5 t_6 t_7 t_8 m9_ m10_ m11_ m12_ (m13_ ++ [next]) (m14_ ++ [l_]) (m15_ ++ [(entry, 0)]) m16_)))) (bothK (bothK (bothK (chk (capOk 24 (m13_.length + ([next] : List LInt).length)) <|
    bothK (chk (capOk 24 (m14_.length + ([l_] : List LMv).length)) <|
     chk (capOk 16 (m15_.length + ([(entry, 0)] : List (Int × Int)).length)) <|
     bif (ltI 3000 (m12_.length : Int)) then (some (none, 2))
     else r0 (w64 (i_ + 1)) t_ t_2 t_3 t_4 t_5 t_6 t_7 t_8 m9_ m10_ m11_ m12_ (m13_ ++ [next]) (m14_ ++ [l_]) (m15_ ++ [(entry, 0)]) m16_) (chk (capOk 24 (m14_.length + ([l_] : List LMv).length)) <|
     chk (capOk 16 (m15_.length + ([(entry, 0)] : List (Int × Int)).length)) <|
     bif (ltI 3000 (m12_.length : Int)) then (some (none, 2))
     else r0 (w64 (i_ + 1)) t_ t_2 t_3 t_4 t_5 t_6 t_7 t_8 m9_ m10_ m11_ m12_ (m13_ ++ [next]) (m14_ ++ [l_]) (m15_ ++ [(entry, 0)]) m16_)) (chk (capOk 24 (m13_.length + ([next] : List LInt).length)) <|
    chk (capOk 24 (m14_.length + ([l_] : List LMv).length)) <|
    chk (capOk 16 (m15_.length + ([(entry, 0)] : List (Int × Int)).length)) <|
    bif (ltI 3000 (m12_.length : Int)) then (some (none, 2))
    else r0 (w64 (i_ + 1)) t_ t_2 t_3 t_4 t_5 t_6 t_7 t_8 m9_ m10_ m11_ m12_ (m13_ ++ [next]) (m14_ ++ [l_]) (m15_ ++ [(entry, 0)]) m16_)) (chk (capOk 24 (m13_.length + ([next] : List LInt).length)) <|
   chk (capOk 24 (m14_.length + ([l_] : List LMv).length)) <|
   chk (capOk 16 (m15_.length + ([(entry, 0)] : List (Int × Int)).length)) <|
   bif (ltI 3000 (m12_.length : Int)) then (some (none, 2))
   else r0 (w64 (i_ + 1)) t_ t_2 t_3 t_4 t_5 t_6 t_7 t_8 m9_ m10_ m11_ m12_ (m13_ ++ [next]) (m14_ ++ [l_]) (m15_ ++ [(entry, 0)]) m16_)) (bothK (bothK (chk (capOk 24 (m13_.length + ([next] : List LInt).length)) <|
    chk (capOk 24 (m14_.length + ([l_] : List LMv).length)) <|
    chk (capOk 16 (m15_.length + ([(entry, 0)] : List (Int × Int)).length)) <|
    bif (ltI 3000 (m12_.length : Int)) then (some (none, 2))
    else r0 (w64 (i_ + 1)) t_ t_2 t_3 t_4 t_5 t_6 t_7 t_8 m9_ m10_ m11_ m12_ (m13_ ++ [next]) (m14_ ++ [l_]) (m15_ ++ [(entry, 0)]) m16_) (chk (capOk 24 (m13_.length + ([next] : List LInt).length)) <|
    chk (capOk 24 (m14_.length + ([l_] : List LMv).length)) <|
    chk (capOk 16 (m15_.length + ([(entry, 0)] : List (Int × Int)).length)) <|
    bif (ltI 3000 (m12_.length : Int)) then (some (none, 2))
    else r0 (w64 (i_ + 1)) t_ t_2 t_3 t_4 t_5 t_6 t_7 t_8 m9_ m10_ m11_ m12_ (m13_ ++ [next]) (m14_ ++ [l_]) (m15_ ++ [(entry, 0)]) m16_)) (chk (capOk 24 (m13_.length + ([next] : List LInt).length)) <|
   chk (capOk 24 (m14_.length + ([l_] : List LMv).length)) <|
   chk (capOk 16 (m15_.length + ([(entry, 0)] : List (Int × Int)).length)) <|
   bif (ltI 3000 (m12_.length : Int)) then (some (none, 2))
   else r0 (w64 (i_ + 1)) t_ t_2 t_3 t_4 t_5 t_6 t_7 t_8 m9_ m10_ m11_ m12_ (m13_ ++ [next]) (m14_ ++ [l_]) (m15_ ++ [(entry, 0)]) m16_)))
def Q12.s2 (N : Nat) (r_ : TRules) (r0 : Int → ByteArray → Int → Int → Bool → Bool → Int → Int → Int → (List TPiece) → LInt → (List TEnd) → (List TPos) → (List LInt) → (List LMv) → (List (Int × Int)) → (List (ByteArray × Int)) → Option ((Option TTab) × Int)) (r1 : Int → Int → Int → ByteArray → Int → Int → Bool → Bool → Int → Int → Int → (List TPiece) → LInt → (List TEnd) → (List TPos) → (List LInt) → (List LMv) → (List (Int × Int)) → (List (ByteArray × Int)) → LInt → LInt → LInt → Int → Int → Int → LMv → LInt → Option ((Option TTab) × Int)) (r2 : Int → ByteArray → Int → Int → Bool → Bool → Int → Int → Int → (List TPiece) → LInt → (List TEnd) → (List TPos) → (List LInt) → (List LMv) → (List (Int × Int)) → (List (ByteArray × Int)) → Option ((Option TTab) × Int)) (r3 : Int → Int → ByteArray → Int → Int → Bool → Bool → Int → Int → Int → (List TPiece) → LInt → (List TEnd) → (List TPos) → (List LInt) → (List LMv) → (List (Int × Int)) → (List (ByteArray × Int)) → Option ((Option TTab) × Int)) (n_ : Int) (t_ : ByteArray) (t_2 t_3 : Int) (t_4 t_5 : Bool) (t_6 t_7 t_8 : Int) (m9_ : (List TPiece)) (m10_ : LInt) (m11_ : (List TEnd)) (m12_ : (List TPos)) (m13_ : (List LInt)) (m14_ : (List LMv)) (m15_ : (List (Int × Int))) (m16_ : (List (ByteArray × Int))) : Option ((Option TTab) × Int) :=
 (Q34 N ((t_, (t_2, (t_3, (m9_, (m10_, (t_4, (t_5, (m11_, (t_6, (t_7, t_8)))))))))), (m12_, (m13_, (m14_, (m15_, m16_))))) n_).bind fun y24 =>
 bif y24.1 then (r2 (w64 (n_ + 1)) y24.2.1.1 y24.2.1.2.1 y24.2.1.2.2.1 y24.2.1.2.2.2.2.2.1 y24.2.1.2.2.2.2.2.2.1 y24.2.1.2.2.2.2.2.2.2.2.1 y24.2.1.2.2.2.2.2.2.2.2.2.1 y24.2.1.2.2.2.2.2.2.2.2.2.2 y24.2.1.2.2.2.1 y24.2.1.2.2.2.2.1 y24.2.1.2.2.2.2.2.2.2.1 y24.2.2.1 y24.2.2.2.1 y24.2.2.2.2.1 y24.2.2.2.2.2.1 y24.2.2.2.2.2.2)
 else r3 (y24.2.2.2.2.2.1.length : Int) 0 y24.2.1.1 y24.2.1.2.1 y24.2.1.2.2.1 y24.2.1.2.2.2.2.2.1 y24.2.1.2.2.2.2.2.2.1 y24.2.1.2.2.2.2.2.2.2.2.1 y24.2.1.2.2.2.2.2.2.2.2.2.1 y24.2.1.2.2.2.2.2.2.2.2.2.2 y24.2.1.2.2.2.1 y24.2.1.2.2.2.2.1 y24.2.1.2.2.2.2.2.2.2.1 y24.2.2.1 y24.2.2.2.1 y24.2.2.2.2.1 y24.2.2.2.2.2.1 y24.2.2.2.2.2.2
def Q12.s3 (N : Nat) (r_ : TRules) (r0 : Int → ByteArray → Int → Int → Bool → Bool → Int → Int → Int → (List TPiece) → LInt → (List TEnd) → (List TPos) → (List LInt) → (List LMv) → (List (Int × Int)) → (List (ByteArray × Int)) → Option ((Option TTab) × Int)) (r1 : Int → Int → Int → ByteArray → Int → Int → Bool → Bool → Int → Int → Int → (List TPiece) → LInt → (List TEnd) → (List TPos) → (List LInt) → (List LMv) → (List (Int × Int)) → (List (ByteArray × Int)) → LInt → LInt → LInt → Int → Int → Int → LMv → LInt → Option ((Option TTab) × Int)) (r2 : Int → ByteArray → Int → Int → Bool → Bool → Int → Int → Int → (List TPiece) → LInt → (List TEnd) → (List TPos) → (List LInt) → (List LMv) → (List (Int × Int)) → (List (ByteArray × Int)) → Option ((Option TTab) × Int)) (r3 : Int → Int → ByteArray → Int → Int → Bool → Bool → Int → Int → Int → (List TPiece) → LInt → (List TEnd) → (List TPos) → (List LInt) → (List LMv) → (List (Int × Int)) → (List (ByteArray × Int)) → Option ((Option TTab) × Int)) (t120_ t121_ : Int) (t_ : ByteArray) (t_2 t_3 : Int) (t_4 t_5 : Bool) (t_6 t_7 t_8 : Int) (m17_ : (List TPiece)) (m18_ : LInt) (m19_ : (List TEnd)) (m20_ : (List TPos)) (m21_ : (List LInt)) (m22_ : (List LMv)) (m23_ : (List (Int × Int))) (m24_ : (List (ByteArray × Int))) : Option ((Option TTab) × Int) :=
 bif (ltI t121_ t120_) then (chk ((leI 0 t121_) && (ltI t121_ (m23_.length : Int))) <|
  bif (eqI (gD ((0 : Int), (0 : Int)) m23_ t121_).1 0) then (chk ((leI 0 t121_) && (ltI t121_ (m23_.length : Int))) <|
   r3 t120_ (w64 (t121_ + 1)) t_ t_2 t_3 t_4 t_5 t_6 t_7 t_8 m17_ m18_ m19_ m20_ m21_ m22_ (m23_.set t121_.toNat (3, 0)) m24_)
  else r3 t120_ (w64 (t121_ + 1)) t_ t_2 t_3 t_4 t_5 t_6 t_7 t_8 m17_ m18_ m19_ m20_ m21_ m22_ m23_ m24_)
 else some ((some ((t_, (t_2, (t_3, (m17_, (m18_, (t_4, (t_5, (m19_, (t_6, (t_7, t_8)))))))))), (m20_, (m21_, (m22_, (m23_, m24_)))))), 0)
def Q12.L (N : Nat) (r_ : TRules) : Nat → (Int → ByteArray → Int → Int → Bool → Bool → Int → Int → Int → (List TPiece) → LInt → (List TEnd) → (List TPos) → (List LInt) → (List LMv) → (List (Int × Int)) → (List (ByteArray × Int)) → Option ((Option TTab) × Int)) × (Int → Int → Int → ByteArray → Int → Int → Bool → Bool → Int → Int → Int → (List TPiece) → LInt → (List TEnd) → (List TPos) → (List LInt) → (List LMv) → (List (Int × Int)) → (List (ByteArray × Int)) → LInt → LInt → LInt → Int → Int → Int → LMv → LInt → Option ((Option TTab) × Int)) × (Int → ByteArray → Int → Int → Bool → Bool → Int → Int → Int → (List TPiece) → LInt → (List TEnd) → (List TPos) → (List LInt) → (List LMv) → (List (Int × Int)) → (List (ByteArray × Int)) → Option ((Option TTab) × Int)) × (Int → Int → ByteArray → Int → Int → Bool → Bool → Int → Int → Int → (List TPiece) → LInt → (List TEnd) → (List TPos) → (List LInt) → (List LMv) → (List (Int × Int)) → (List (ByteArray × Int)) → Option ((Option TTab) × Int))
 | 0 => (fun _ _ _ _ _ _ _ _ _ _ _ _ _ _ _ _ _ => none, fun _ _ _ _ _ _ _ _ _ _ _ _ _ _ _ _ _ _ _ _ _ _ _ _ _ _ _ => none, fun _ _ _ _ _ _ _ _ _ _ _ _ _ _ _ _ _ => none, fun _ _ _ _ _ _ _ _ _ _ _ _ _ _ _ _ _ _ => none)
 | n + 1 => (fun i_ t_ t_2 t_3 t_4 t_5 t_6 t_7 t_8 m9_ m10_ m11_ m12_ m13_ m14_ m15_ m16_ => Q12.s0 N r_ (Q12.L N r_ n).1 (Q12.L N r_ n).2.1 (Q12.L N r_ n).2.2.1 (Q12.L N r_ n).2.2.2 i_ t_ t_2 t_3 t_4 t_5 t_6 t_7 t_8 m9_ m10_ m11_ m12_ m13_ m14_ m15_ m16_, fun i_ t60_ t61_ t_ t_2 t_3 t_4 t_5 t_6 t_7 t_8 m9_ m10_ m11_ m12_ m13_ m14_ m15_ m16_ p_ p_2 p_3 p_4 p_5 entry l_ next => Q12.s1 N r_ (Q12.L N r_ n).1 (Q12.L N r_ n).2.1 (Q12.L N r_ n).2.2.1 (Q12.L N r_ n).2.2.2 i_ t60_ t61_ t_ t_2 t_3 t_4 t_5 t_6 t_7 t_8 m9_ m10_ m11_ m12_ m13_ m14_ m15_ m16_ p_ p_2 p_3 p_4 p_5 entry l_ next, fun n_ t_ t_2 t_3 t_4 t_5 t_6 t_7 t_8 m9_ m10_ m11_ m12_ m13_ m14_ m15_ m16_ => Q12.s2 N r_ (Q12.L N r_ n).1 (Q12.L N r_ n).2.1 (Q12.L N r_ n).2.2.1 (Q12.L N r_ n).2.2.2 n_ t_ t_2 t_3 t_4 t_5 t_6 t_7 t_8 m9_ m10_ m11_ m12_ m13_ m14_ m15_ m16_, fun t120_ t121_ t_ t_2 t_3 t_4 t_5 t_6 t_7 t_8 m17_ m18_ m19_ m20_ m21_ m22_ m23_ m24_ => Q12.s3 N r_ (Q12.L N r_ n).1 (Q12.L N r_ n).2.1 (Q12.L N r_ n).2.2.1 (Q12.L N r_ n).2.2.2 t120_ t121_ t_ t_2 t_3 t_4 t_5 t_6 t_7 t_8 m17_ m18_ m19_ m20_ m21_ m22_ m23_ m24_)
def Q12.l0 (N : Nat) (r_ : TRules) (n : Nat) : Int → ByteArray → Int → Int → Bool → Bool → Int → Int → Int → (List TPiece) → LInt → (List TEnd) → (List TPos) → (List LInt) → (List LMv) → (List (Int × Int)) → (List (ByteArray × Int)) → Option ((Option TTab) × Int) := (Q12.L N r_ n).1
def Q12.l1 (N : Nat) (r_ : TRules) (n : Nat) : Int → Int → Int → ByteArray → Int → Int → Bool → Bool → Int → Int → Int → (List TPiece) → LInt → (List TEnd) → (List TPos) → (List LInt) → (List LMv) → (List (Int × Int)) → (List (ByteArray × Int)) → LInt → LInt → LInt → Int → Int → Int → LMv → LInt → Option ((Option TTab) × Int) := (Q12.L N r_ n).2.1
def Q12.l2 (N : Nat) (r_ : TRules) (n : Nat) : Int → ByteArray → Int → Int → Bool → Bool → Int → Int → Int → (List TPiece) → LInt → (List TEnd) → (List TPos) → (List LInt) → (List LMv) → (List (Int × Int)) → (List (ByteArray × Int)) → Option ((Option TTab) × Int) := (Q12.L N r_ n).2.2.1
def Q12.l3 (N : Nat) (r_ : TRules) (n : Nat) : Int → Int → ByteArray → Int → Int → Bool → Bool → Int → Int → Int → (List TPiece) → LInt → (List TEnd) → (List TPos) → (List LInt) → (List LMv) → (List (Int × Int)) → (List (ByteArray × Int)) → Option ((Option TTab) × Int) := (Q12.L N r_ n).2.2.2
theorem Q12.l0_s (N : Nat) (r_ : TRules) (n : Nat) (i_ : Int) (t_ : ByteArray) (t_2 t_3 : Int) (t_4 t_5 : Bool) (t_6 t_7 t_8 : Int) (m9_ : (List TPiece)) (m10_ : LInt) (m11_ : (List TEnd)) (m12_ : (List TPos)) (m13_ : (List LInt)) (m14_ : (List LMv)) (m15_ : (List (Int × Int))) (m16_ : (List (ByteArray × Int))) : Q12.l0 N r_ (n + 1) i_ t_ t_2 t_3 t_4 t_5 t_6 t_7 t_8 m9_ m10_ m11_ m12_ m13_ m14_ m15_ m16_ = Q12.s0 N r_ (Q12.l0 N r_ n) (Q12.l1 N r_ n) (Q12.l2 N r_ n) (Q12.l3 N r_ n) i_ t_ t_2 t_3 t_4 t_5 t_6 t_7 t_8 m9_ m10_ m11_ m12_ m13_ m14_ m15_ m16_ := rfl
theorem Q12.l1_s (N : Nat) (r_ : TRules) (n : Nat) (i_ t60_ t61_ : Int) (t_ : ByteArray) (t_2 t_3 : Int) (t_4 t_5 : Bool) (t_6 t_7 t_8 : Int) (m9_ : (List TPiece)) (m10_ : LInt) (m11_ : (List TEnd)) (m12_ : (List TPos)) (m13_ : (List LInt)) (m14_ : (List LMv)) (m15_ : (List (Int × Int))) (m16_ : (List (ByteArray × Int))) (p_ p_2 p_3 : LInt) (p_4 p_5 entry : Int) (l_ : LMv) (next : LInt) : Q12.l1 N r_ (n + 1) i_ t60_ t61_ t_ t_2 t_3 t_4 t_5 t_6 t_7 t_8 m9_ m10_ m11_ m12_ m13_ m14_ m15_ m16_ p_ p_2 p_3 p_4 p_5 entry l_ next = Q12.s1 N r_ (Q12.l0 N r_ n) (Q12.l1 N r_ n) (Q12.l2 N r_ n) (Q12.l3 N r_ n) i_ t60_ t61_ t_ t_2 t_3 t_4 t_5 t_6 t_7 t_8 m9_ m10_ m11_ m12_ m13_ m14_ m15_ m16_ p_ p_2 p_3 p_4 p_5 entry l_ next := rfl
theorem Q12.l2_s (N : Nat) (r_ : TRules) (n : Nat) (n_ : Int) (t_ : ByteArray) (t_2 t_3 : Int) (t_4 t_5 : Bool) (t_6 t_7 t_8 : Int) (m9_ : (List TPiece)) (m10_ : LInt) (m11_ : (List TEnd)) (m12_ : (List TPos)) (m13_ : (List LInt)) (m14_ : (List LMv)) (m15_ : (List (Int × Int))) (m16_ : (List (ByteArray × Int))) : Q12.l2 N r_ (n + 1) n_ t_ t_2 t_3 t_4 t_5 t_6 t_7 t_8 m9_ m10_ m11_ m12_ m13_ m14_ m15_ m16_ = Q12.s2 N r_ (Q12.l0 N r_ n) (Q12.l1 N r_ n) (Q12.l2 N r_ n) (Q12.l3 N r_ n) n_ t_ t_2 t_3 t_4 t_5 t_6 t_7 t_8 m9_ m10_ m11_ m12_ m13_ m14_ m15_ m16_ := rfl
theorem Q12.l3_s (N : Nat) (r_ : TRules) (n : Nat) (t120_ t121_ : Int) (t_ : ByteArray) (t_2 t_3 : Int) (t_4 t_5 : Bool) (t_6 t_7 t_8 : Int) (m17_ : (List TPiece)) (m18_ : LInt) (m19_ : (List TEnd)) (m20_ : (List TPos)) (m21_ : (List LInt)) (m22_ : (List LMv)) (m23_ : (List (Int × Int))) (m24_ : (List (ByteArray × Int))) : Q12.l3 N r_ (n + 1) t120_ t121_ t_ t_2 t_3 t_4 t_5 t_6 t_7 t_8 m17_ m18_ m19_ m20_ m21_ m22_ m23_ m24_ = Q12.s3 N r_ (Q12.l0 N r_ n) (Q12.l1 N r_ n) (Q12.l2 N r_ n) (Q12.l3 N r_ n) t120_ t121_ t_ t_2 t_3 t_4 t_5 t_6 t_7 t_8 m17_ m18_ m19_ m20_ m21_ m22_ m23_ m24_ := rfl
def Q12 (N : Nat) (r_ : TRules) : Option ((Option TTab) × Int) := Q12.e N (Q12.l0 N r_ N) (Q12.l1 N r_ N) (Q12.l2 N r_ N) (Q12.l3 N r_ N) r_
def Q7.e (N : Nat) (r_ : TRules) : Option ((Option (TRules × (TTab × (Unit × (Unit × Int))))) × Int) :=
 (Q12 N r_).bind fun y1 =>
 oCase y1.1 (bif (!(eqI y1.2 0)) then (some (none, y1.2))
  else (Q19 N r_).bind fun y3 =>
  none) fun b2 =>
 bif (!(eqI y1.2 0)) then (some (none, y1.2))
 else (Q19 N r_).bind fun y4 =>
 some ((some (y4, (b2, ((), ((), 0))))), 0)
def Q7 (N : Nat) (r_ : TRules) : Option ((Option (TRules × (TTab × (Unit × (Unit × Int))))) × Int) := Q7.e N r_
def Q21.e (N : Nat) (e_ : Int) : Option Bool :=
 some (!(eqI e_ 0))
def Q21 (N : Nat) (e_ : Int) : Option Bool := Q21.e N e_
def Q42.e (N : Nat) (r0 : Int → Option Int) (s_ : LInt) : Option Int :=
 r0 0
def Q42.s0 (N : Nat) (s_ : LInt) (r0 : Int → Option Int) (t8_ : Int) : Option Int :=
 bif (ltI t8_ (s_.length : Int)) then (chk ((leI 0 t8_) && (ltI t8_ (s_.length : Int))) <|
  (Q21 N (gD (0 : Int) s_ t8_)).bind fun y2 =>
  bif y2 then some t8_
  else r0 (w64 (t8_ + 1)))
 else some (-1)
def Q42.L (N : Nat) (s_ : LInt) : Nat → (Int → Option Int)
 | 0 => fun _ => none
 | n + 1 => fun t8_ => Q42.s0 N s_ (Q42.L N s_ n) t8_
def Q42.l0 (N : Nat) (s_ : LInt) (n : Nat) : Int → Option Int := (Q42.L N s_ n)
theorem Q42.l0_s (N : Nat) (s_ : LInt) (n : Nat) (t8_ : Int) : Q42.l0 N s_ (n + 1) t8_ = Q42.s0 N s_ (Q42.l0 N s_ n) t8_ := rfl
def Q42 (N : Nat) (s_ : LInt) : Option Int := Q42.e N (Q42.l0 N s_ N) s_
def Q20.e (N : Nat) (s_ : LInt) : Option Bool :=
 (Q42 N s_).bind fun y1 =>
 some (leI 0 y1)
def Q20 (N : Nat) (s_ : LInt) : Option Bool := Q20.e N s_
def Q8.e (N : Nat) (l_ : LInt) : Option Bool :=
 (Q20 N l_).bind fun y1 =>
 some (!y1)
def Q8 (N : Nat) (l_ : LInt) : Option Bool := Q8.e N l_
def Q6.e (N : Nat) (t_ : TTab) (i_ : Int) : Option (TPos × (Int × Int) × Int × TTab) :=
 bif (ltI i_ 0) then (some (([], (([], []), (0, 0))), ((0, 0), (4, t_))))
 else bif (leI (t_.2.1.length : Int) i_) then (some (([], (([], []), (0, 0))), ((0, 0), (4, t_))))
 else chk ((leI 0 i_) && (ltI i_ (t_.2.1.length : Int))) <|
 chk ((leI 0 i_) && (ltI i_ (t_.2.2.2.2.1.length : Int))) <|
 (Q18 N (gD (([] : LInt), ((([] : LInt), ([] : LInt)), ((0 : Int), (0 : Int)))) t_.2.1 i_)).bind fun y2 =>
 some (y2, ((gD ((0 : Int), (0 : Int)) t_.2.2.2.2.1 i_), (0, t_)))
def Q6 (N : Nat) (t_ : TTab) (i_ : Int) : Option (TPos × (Int × Int) × Int × TTab) := Q6.e N t_ i_
def Q40.e (N : Nat) (r0 : Int → Option Int) (r1 : Int → Option Int) (r2 : Int → LInt → Int → Int → Option Int) (r_ : TRules) (p_ : TPos) : Option Int :=
 (Q29 N r_).bind fun y1 =>
 bif (!(eqI y1 0)) then some y1
 else bif (!(eqI (p_.1.length : Int) (w64 (r_.2.1 * r_.2.2.1)))) then some 3
 else bif (!(eqI (p_.2.1.1.length : Int) (r_.2.2.2.1.length : Int))) then some 3
 else bif (!(eqI (p_.2.1.2.length : Int) (r_.2.2.2.1.length : Int))) then some 3
 else r0 0
def Q40.s0 (N : Nat) (r_ : TRules) (p_ : TPos) (r0 : Int → Option Int) (r1 : Int → Option Int) (r2 : Int → LInt → Int → Int → Option Int) (t49_ : Int) : Option Int :=
 bif (ltI t49_ (p_.1.length : Int)) then (chk ((leI 0 t49_) && (ltI t49_ (p_.1.length : Int))) <|
  bif (ltI (gD (0 : Int) p_.1 t49_) 0) then some 4
  else bif (ltI (w64 (2 * (r_.2.2.2.1.length : Int))) (gD (0 : Int) p_.1 t49_)) then some 4
  else r0 (w64 (t49_ + 1)))
 else r1 0
def Q40.s1 (N : Nat) (r_ : TRules) (p_ : TPos) (r0 : Int → Option Int) (r1 : Int → Option Int) (r2 : Int → LInt → Int → Int → Option Int) (t66_ : Int) : Option Int :=
 bif (ltI t66_ 2) then (bif (eqI t66_ 0) then (r2 t66_ p_.2.1.1 (p_.2.1.1.length : Int) 0)
  else bif (eqI t66_ 1) then (r2 t66_ p_.2.1.2 (p_.2.1.2.length : Int) 0)
  else none)
 else bif (!(eqI p_.2.2.1 0)) then (bif (!(eqI p_.2.2.1 1)) then some 4
  else bif (ltI p_.2.2.2 0) then some 4
  else bif (ltI 200 p_.2.2.2) then some 4
  else some 0)
 else bif (ltI p_.2.2.2 0) then some 4
 else bif (ltI 200 p_.2.2.2) then some 4
 else some 0
def Q40.s2 (N : Nat) (r_ : TRules) (p_ : TPos) (r0 : Int → Option Int) (r1 : Int → Option Int) (r2 : Int → LInt → Int → Int → Option Int) (t66_ : Int) (t69_ : LInt) (t70_ t71_ : Int) : Option Int :=
 bif (ltI t71_ t70_) then (chk ((leI 0 t71_) && (ltI t71_ (t69_.length : Int))) <|
  bif (ltI (gD (0 : Int) t69_ t71_) 0) then some 4
  else bif (ltI 1000 (gD (0 : Int) t69_ t71_)) then some 4
  else r2 t66_ t69_ t70_ (w64 (t71_ + 1)))
 else r1 (w64 (t66_ + 1))
def Q40.L (N : Nat) (r_ : TRules) (p_ : TPos) : Nat → (Int → Option Int) × (Int → Option Int) × (Int → LInt → Int → Int → Option Int)
 | 0 => (fun _ => none, fun _ => none, fun _ _ _ _ => none)
 | n + 1 => (fun t49_ => Q40.s0 N r_ p_ (Q40.L N r_ p_ n).1 (Q40.L N r_ p_ n).2.1 (Q40.L N r_ p_ n).2.2 t49_, fun t66_ => Q40.s1 N r_ p_ (Q40.L N r_ p_ n).1 (Q40.L N r_ p_ n).2.1 (Q40.L N r_ p_ n).2.2 t66_, fun t66_ t69_ t70_ t71_ => Q40.s2 N r_ p_ (Q40.L N r_ p_ n).1 (Q40.L N r_ p_ n).2.1 (Q40.L N r_ p_ n).2.2 t66_ t69_ t70_ t71_)
def Q40.l0 (N : Nat) (r_ : TRules) (p_ : TPos) (n : Nat) : Int → Option Int := (Q40.L N r_ p_ n).1
def Q40.l1 (N : Nat) (r_ : TRules) (p_ : TPos) (n : Nat) : Int → Option Int := (Q40.L N r_ p_ n).2.1
def Q40.l2 (N : Nat) (r_ : TRules) (p_ : TPos) (n : Nat) : Int → LInt → Int → Int → Option Int := (Q40.L N r_ p_ n).2.2
theorem Q40.l0_s (N : Nat) (r_ : TRules) (p_ : TPos) (n : Nat) (t49_ : Int) : Q40.l0 N r_ p_ (n + 1) t49_ = Q40.s0 N r_ p_ (Q40.l0 N r_ p_ n) (Q40.l1 N r_ p_ n) (Q40.l2 N r_ p_ n) t49_ := rfl
theorem Q40.l1_s (N : Nat) (r_ : TRules) (p_ : TPos) (n : Nat) (t66_ : Int) : Q40.l1 N r_ p_ (n + 1) t66_ = Q40.s1 N r_ p_ (Q40.l0 N r_ p_ n) (Q40.l1 N r_ p_ n) (Q40.l2 N r_ p_ n) t66_ := rfl
theorem Q40.l2_s (N : Nat) (r_ : TRules) (p_ : TPos) (n : Nat) (t66_ : Int) (t69_ : LInt) (t70_ t71_ : Int) : Q40.l2 N r_ p_ (n + 1) t66_ t69_ t70_ t71_ = Q40.s2 N r_ p_ (Q40.l0 N r_ p_ n) (Q40.l1 N r_ p_ n) (Q40.l2 N r_ p_ n) t66_ t69_ t70_ t71_ := rfl
def Q40 (N : Nat) (r_ : TRules) (p_ : TPos) : Option Int := Q40.e N (Q40.l0 N r_ p_ N) (Q40.l1 N r_ p_ N) (Q40.l2 N r_ p_ N) r_ p_
def Q103.e (N : Nat) (n_ : Int) : Option Int :=
 let v2 : Int := (IntKind.wrap .u64 ((IntKind.wrap .u64 ((IntKind.wrap .u64 n_) + 1)) * 11400714819323198485))
 let v5 : Int := (IntKind.wrap .u64 ((Go.bits .xor .u64 v2 (Int.fdiv v2 (2 ^ (min (30 : Int).toNat 64)))) * 13787848793156543929))
 let v8 : Int := (IntKind.wrap .u64 ((Go.bits .xor .u64 v5 (Int.fdiv v5 (2 ^ (min (27 : Int).toNat 64)))) * 10723151780598845931))
 some (Go.bits .xor .u64 v8 (Int.fdiv v8 (2 ^ (min (31 : Int).toNat 64))))
def Q103 (N : Nat) (n_ : Int) : Option Int := Q103.e N n_
def Q85.e (N : Nat) (player : Int) : Option Int :=
 (Q103 N 3000).bind fun y2 =>
 some (IntKind.wrap .u64 ((IntKind.wrap .u64 player) * y2))
def Q85 (N : Nat) (player : Int) : Option Int := Q85.e N player
def Q86.e (N : Nat) (s_ c_ : Int) : Option Int :=
 bif (eqI c_ 0) then some 0
 else (Q103 N (w64 ((w64 (16 * s_)) + c_))).bind fun y2 =>
 some y2
def Q86 (N : Nat) (s_ c_ : Int) : Option Int := Q86.e N s_ c_
def Q87.e (N : Nat) (player kind n_ : Int) : Option Int :=
 (Q103 N (w64 ((w64 (2000 + (w64 (8 * player)))) + kind))).bind fun y2 =>
 some (IntKind.wrap .u64 ((IntKind.wrap .u64 n_) * y2))
def Q87 (N : Nat) (player kind n_ : Int) : Option Int := Q87.e N player kind n_
def Q64.e (N : Nat) (r0 : Int → Int → Option Int) (r1 : Int → Int → Option Int) (r2 : Int → Int → Int → LInt → Int → Int → Option Int) (p_ : TPos) : Option Int :=
 (Q85 N p_.2.2.1).bind fun y1 =>
 r0 y1 0
def Q64.s0 (N : Nat) (p_ : TPos) (r0 : Int → Int → Option Int) (r1 : Int → Int → Option Int) (r2 : Int → Int → Int → LInt → Int → Int → Option Int) (k_ t16_ : Int) : Option Int :=
 bif (ltI t16_ (p_.1.length : Int)) then (chk ((leI 0 t16_) && (ltI t16_ (p_.1.length : Int))) <|
  (Q86 N t16_ (gD (0 : Int) p_.1 t16_)).bind fun y3 =>
  r0 (IntKind.wrap .u64 (k_ + y3)) (w64 (t16_ + 1)))
 else r1 k_ 0
def Q64.s1 (N : Nat) (p_ : TPos) (r0 : Int → Int → Option Int) (r1 : Int → Int → Option Int) (r2 : Int → Int → Int → LInt → Int → Int → Option Int) (k_ t29_ : Int) : Option Int :=
 bif (ltI t29_ 2) then (bif (eqI t29_ 0) then (r2 k_ t29_ t29_ p_.2.1.1 (p_.2.1.1.length : Int) 0)
  else bif (eqI t29_ 1) then (r2 k_ t29_ t29_ p_.2.1.2 (p_.2.1.2.length : Int) 0)
  else none)
 else some k_
def Q64.s2 (N : Nat) (p_ : TPos) (r0 : Int → Int → Option Int) (r1 : Int → Int → Option Int) (r2 : Int → Int → Int → LInt → Int → Int → Option Int) (k_ o_ t29_ : Int) (t33_ : LInt) (t34_ t35_ : Int) : Option Int :=
 bif (ltI t35_ t34_) then (chk ((leI 0 t35_) && (ltI t35_ (t33_.length : Int))) <|
  (Q87 N o_ t35_ (gD (0 : Int) t33_ t35_)).bind fun y5 =>
  r2 (IntKind.wrap .u64 (k_ + y5)) o_ t29_ t33_ t34_ (w64 (t35_ + 1)))
 else r1 k_ (w64 (t29_ + 1))
def Q64.L (N : Nat) (p_ : TPos) : Nat → (Int → Int → Option Int) × (Int → Int → Option Int) × (Int → Int → Int → LInt → Int → Int → Option Int)
 | 0 => (fun _ _ => none, fun _ _ => none, fun _ _ _ _ _ _ => none)
 | n + 1 => (fun k_ t16_ => Q64.s0 N p_ (Q64.L N p_ n).1 (Q64.L N p_ n).2.1 (Q64.L N p_ n).2.2 k_ t16_, fun k_ t29_ => Q64.s1 N p_ (Q64.L N p_ n).1 (Q64.L N p_ n).2.1 (Q64.L N p_ n).2.2 k_ t29_, fun k_ o_ t29_ t33_ t34_ t35_ => Q64.s2 N p_ (Q64.L N p_ n).1 (Q64.L N p_ n).2.1 (Q64.L N p_ n).2.2 k_ o_ t29_ t33_ t34_ t35_)
def Q64.l0 (N : Nat) (p_ : TPos) (n : Nat) : Int → Int → Option Int := (Q64.L N p_ n).1
def Q64.l1 (N : Nat) (p_ : TPos) (n : Nat) : Int → Int → Option Int := (Q64.L N p_ n).2.1
def Q64.l2 (N : Nat) (p_ : TPos) (n : Nat) : Int → Int → Int → LInt → Int → Int → Option Int := (Q64.L N p_ n).2.2
theorem Q64.l0_s (N : Nat) (p_ : TPos) (n : Nat) (k_ t16_ : Int) : Q64.l0 N p_ (n + 1) k_ t16_ = Q64.s0 N p_ (Q64.l0 N p_ n) (Q64.l1 N p_ n) (Q64.l2 N p_ n) k_ t16_ := rfl
theorem Q64.l1_s (N : Nat) (p_ : TPos) (n : Nat) (k_ t29_ : Int) : Q64.l1 N p_ (n + 1) k_ t29_ = Q64.s1 N p_ (Q64.l0 N p_ n) (Q64.l1 N p_ n) (Q64.l2 N p_ n) k_ t29_ := rfl
theorem Q64.l2_s (N : Nat) (p_ : TPos) (n : Nat) (k_ o_ t29_ : Int) (t33_ : LInt) (t34_ t35_ : Int) : Q64.l2 N p_ (n + 1) k_ o_ t29_ t33_ t34_ t35_ = Q64.s2 N p_ (Q64.l0 N p_ n) (Q64.l1 N p_ n) (Q64.l2 N p_ n) k_ o_ t29_ t33_ t34_ t35_ := rfl
def Q64 (N : Nat) (p_ : TPos) : Option Int := Q64.e N (Q64.l0 N p_ N) (Q64.l1 N p_ N) (Q64.l2 N p_ N) p_
def Q36.e (N : Nat) (r_ : TRules) (p_ : TPos) : Option ((Option TBoard) × Int) :=
 (Q40 N r_ p_).bind fun y1 =>
 bif (!(eqI y1 0)) then (some (none, y1))
 else (Q19 N r_).bind fun y2 =>
 (Q18 N p_).bind fun y3 =>
 (Q64 N p_).bind fun y4 =>
 some ((some (y2, (y3, (y4, [])))), 0)
def Q36 (N : Nat) (r_ : TRules) (p_ : TPos) : Option ((Option TBoard) × Int) := Q36.e N r_ p_
def Q83.e (N : Nat) (r_ : TRules) (p_ : TPos) (depth : Int) : Option ((Option TBoard) × Int) :=
 (Q36 N r_ p_).bind fun y1 =>
 oCase y1.1 (bif (!(eqI y1.2 0)) then (some (none, y1.2))
  else bif (ltI depth 0) then (some (none, 1))
  else bif (ltI 12 depth) then (some (none, 1))
  else some (none, 0)) fun b2 =>
 bif (!(eqI y1.2 0)) then (some (none, y1.2))
 else bif (ltI depth 0) then (some (none, 1))
 else bif (ltI 12 depth) then (some (none, 1))
 else some ((some b2), 0)
def Q83 (N : Nat) (r_ : TRules) (p_ : TPos) (depth : Int) : Option ((Option TBoard) × Int) := Q83.e N r_ p_ depth
def Q65.e (N : Nat) (b_ : TBoard) : Option Int :=
 (Q32 N b_.1 b_.2.1).bind fun y1 =>
 some y1
def Q65 (N : Nat) (b_ : TBoard) : Option Int := Q65.e N b_
def Q68.e (N : Nat) (b_ : TBoard) : Option LMv :=
 (Q65 N b_).bind fun y1 =>
 bif (!(eqI y1 0)) then (some [])
 else (Q33 N b_.1 b_.2.1).bind fun y2 =>
 some y2
def Q68 (N : Nat) (b_ : TBoard) : Option LMv := Q68.e N b_
def Q88.e (N : Nat) (r_ : TRules) (p_ : TPos) (m_ : TMv) (k_ : Int) : Option Int :=
 (Q85 N (w64 (1 - p_.2.2.1))).bind fun y1 =>
 (Q85 N p_.2.2.1).bind fun y2 =>
 let v4 : Int := (IntKind.wrap .u64 (k_ + (IntKind.wrap .u64 (y1 - y2))))
 bif (ltI m_.1 0) then ((Q87 N p_.2.2.1 m_.2.2 1).bind fun y5 =>
  let v6 : Int := (IntKind.wrap .u64 (v4 - y5))
  chk ((leI 0 m_.2.1) && (ltI m_.2.1 (p_.1.length : Int))) <|
  bif (!(eqI (gD (0 : Int) p_.1 m_.2.1) 0)) then ((Q86 N m_.2.1 (gD (0 : Int) p_.1 m_.2.1)).bind fun y8 =>
   let v9 : Int := (IntKind.wrap .u64 (v6 - y8))
   bif r_.2.2.2.2.2.2.1 then (bif (eqI p_.2.2.1 0) then ((Q44 N (gD (0 : Int) p_.1 m_.2.1)).bind fun y10 =>
     chk ((leI 0 y10) && (ltI y10 (p_.2.1.1.length : Int))) <|
     bif (ltI (gD (0 : Int) p_.2.1.1 y10) 1000) then ((Q44 N (gD (0 : Int) p_.1 m_.2.1)).bind fun y12 =>
      (Q87 N p_.2.2.1 y12 1).bind fun y13 =>
      (Q45 N m_.2.2 p_.2.2.1).bind fun y15 =>
      (Q86 N m_.2.1 y15).bind fun y16 =>
      some (IntKind.wrap .u64 ((IntKind.wrap .u64 (v9 + y13)) + y16)))
     else (Q45 N m_.2.2 p_.2.2.1).bind fun y18 =>
     (Q86 N m_.2.1 y18).bind fun y19 =>
     some (IntKind.wrap .u64 (v9 + y19)))
    else bif (eqI p_.2.2.1 1) then ((Q44 N (gD (0 : Int) p_.1 m_.2.1)).bind fun y21 =>
     chk ((leI 0 y21) && (ltI y21 (p_.2.1.2.length : Int))) <|
     bif (ltI (gD (0 : Int) p_.2.1.2 y21) 1000) then ((Q44 N (gD (0 : Int) p_.1 m_.2.1)).bind fun y23 =>
      (Q87 N p_.2.2.1 y23 1).bind fun y24 =>
      (Q45 N m_.2.2 p_.2.2.1).bind fun y26 =>
      (Q86 N m_.2.1 y26).bind fun y27 =>
      some (IntKind.wrap .u64 ((IntKind.wrap .u64 (v9 + y24)) + y27)))
     else (Q45 N m_.2.2 p_.2.2.1).bind fun y29 =>
     (Q86 N m_.2.1 y29).bind fun y30 =>
     some (IntKind.wrap .u64 (v9 + y30)))
    else none)
   else (Q45 N m_.2.2 p_.2.2.1).bind fun y32 =>
   (Q86 N m_.2.1 y32).bind fun y33 =>
   some (IntKind.wrap .u64 (v9 + y33)))
  else (Q45 N m_.2.2 p_.2.2.1).bind fun y35 =>
  (Q86 N m_.2.1 y35).bind fun y36 =>
  some (IntKind.wrap .u64 (v6 + y36)))
 else chk ((leI 0 m_.1) && (ltI m_.1 (p_.1.length : Int))) <|
 (Q86 N m_.1 (gD (0 : Int) p_.1 m_.1)).bind fun y38 =>
 let v39 : Int := (IntKind.wrap .u64 (v4 - y38))
 chk ((leI 0 m_.2.1) && (ltI m_.2.1 (p_.1.length : Int))) <|
 bif (!(eqI (gD (0 : Int) p_.1 m_.2.1) 0)) then ((Q86 N m_.2.1 (gD (0 : Int) p_.1 m_.2.1)).bind fun y41 =>
  let v42 : Int := (IntKind.wrap .u64 (v39 - y41))
  bif r_.2.2.2.2.2.2.1 then (bif (eqI p_.2.2.1 0) then ((Q44 N (gD (0 : Int) p_.1 m_.2.1)).bind fun y43 =>
    chk ((leI 0 y43) && (ltI y43 (p_.2.1.1.length : Int))) <|
    bif (ltI (gD (0 : Int) p_.2.1.1 y43) 1000) then ((Q44 N (gD (0 : Int) p_.1 m_.2.1)).bind fun y45 =>
     (Q87 N p_.2.2.1 y45 1).bind fun y46 =>
     (Q45 N m_.2.2 p_.2.2.1).bind fun y48 =>
     (Q86 N m_.2.1 y48).bind fun y49 =>
     some (IntKind.wrap .u64 ((IntKind.wrap .u64 (v42 + y46)) + y49)))
    else (Q45 N m_.2.2 p_.2.2.1).bind fun y51 =>
    (Q86 N m_.2.1 y51).bind fun y52 =>
    some (IntKind.wrap .u64 (v42 + y52)))
   else bif (eqI p_.2.2.1 1) then ((Q44 N (gD (0 : Int) p_.1 m_.2.1)).bind fun y54 =>
    chk ((leI 0 y54) && (ltI y54 (p_.2.1.2.length : Int))) <|
    bif (ltI (gD (0 : Int) p_.2.1.2 y54) 1000) then ((Q44 N (gD (0 : Int) p_.1 m_.2.1)).bind fun y56 =>
     (Q87 N p_.2.2.1 y56 1).bind fun y57 =>
     (Q45 N m_.2.2 p_.2.2.1).bind fun y59 =>
     (Q86 N m_.2.1 y59).bind fun y60 =>
     some (IntKind.wrap .u64 ((IntKind.wrap .u64 (v42 + y57)) + y60)))
    else (Q45 N m_.2.2 p_.2.2.1).bind fun y62 =>
    (Q86 N m_.2.1 y62).bind fun y63 =>
    some (IntKind.wrap .u64 (v42 + y63)))
   else none)
  else (Q45 N m_.2.2 p_.2.2.1).bind fun y65 =>
  (Q86 N m_.2.1 y65).bind fun y66 =>
  some (IntKind.wrap .u64 (v42 + y66)))
 else (Q45 N m_.2.2 p_.2.2.1).bind fun y68 =>
 (Q86 N m_.2.1 y68).bind fun y69 =>
 some (IntKind.wrap .u64 (v39 + y69))
def Q88 (N : Nat) (r_ : TRules) (p_ : TPos) (m_ : TMv) (k_ : Int) : Option Int := Q88.e N r_ p_ m_ k_
def Q69.e (N : Nat) (b_ : TBoard) (m_ : TMv) : Option TBoard :=
 chk ((leI 0 m_.2.1) && (ltI m_.2.1 (b_.2.1.1.length : Int))) <|
 (Q88 N b_.1 b_.2.1 m_ b_.2.2.1).bind fun y1 =>
 let v2 : Int := (bif (ltI 200 (w64 (b_.2.1.2.2.2 + 1))) then 200 else (w64 (b_.2.1.2.2.2 + 1)))
 bif (eqI b_.2.1.2.2.1 0) then (bif (ltI m_.1 0) then (chk ((leI 0 m_.2.2) && (ltI m_.2.2 (b_.2.1.2.1.1.length : Int))) <|
   chk ((leI 0 m_.2.2) && (ltI m_.2.2 (b_.2.1.2.1.1.length : Int))) <|
   let v4 : List Int := (b_.2.1.2.1.1.set m_.2.2.toNat (w64 ((gD (0 : Int) b_.2.1.2.1.1 m_.2.2) - 1)))
   bif (!(eqI (gD (0 : Int) b_.2.1.1 m_.2.1) 0)) then ((Q44 N (gD (0 : Int) b_.2.1.1 m_.2.1)).bind fun y6 =>
    bif b_.1.2.2.2.2.2.2.1 then (chk ((leI 0 y6) && (ltI y6 (v4.length : Int))) <|
     bif (ltI (gD (0 : Int) v4 y6) 1000) then (chk ((leI 0 y6) && (ltI y6 (v4.length : Int))) <|
      chk ((leI 0 y6) && (ltI y6 (v4.length : Int))) <|
      (Q45 N m_.2.2 b_.2.1.2.2.1).bind fun y9 =>
      chk ((leI 0 m_.2.1) && (ltI m_.2.1 (b_.2.1.1.length : Int))) <|
      let v11 : List TUndo := [(m_, (0, ((gD (0 : Int) b_.2.1.1 m_.2.1), (true, (b_.2.1.2.2.2, b_.2.2.1)))))]
      chk (capOk 64 (b_.2.2.2.length + v11.length)) <|
      some (b_.1, (((b_.2.1.1.set m_.2.1.toNat y9), (((v4.set y6.toNat (w64 ((gD (0 : Int) v4 y6) + 1))), b_.2.1.2.1.2), ((w64 (1 - b_.2.1.2.2.1)), 0))), (y1, (b_.2.2.2 ++ v11)))))
     else (Q45 N m_.2.2 b_.2.1.2.2.1).bind fun y12 =>
     chk ((leI 0 m_.2.1) && (ltI m_.2.1 (b_.2.1.1.length : Int))) <|
     let v14 : List TUndo := [(m_, (0, ((gD (0 : Int) b_.2.1.1 m_.2.1), (false, (b_.2.1.2.2.2, b_.2.2.1)))))]
     chk (capOk 64 (b_.2.2.2.length + v14.length)) <|
     some (b_.1, (((b_.2.1.1.set m_.2.1.toNat y12), ((v4, b_.2.1.2.1.2), ((w64 (1 - b_.2.1.2.2.1)), 0))), (y1, (b_.2.2.2 ++ v14)))))
    else (Q45 N m_.2.2 b_.2.1.2.2.1).bind fun y15 =>
    chk ((leI 0 m_.2.1) && (ltI m_.2.1 (b_.2.1.1.length : Int))) <|
    let v17 : List TUndo := [(m_, (0, ((gD (0 : Int) b_.2.1.1 m_.2.1), (false, (b_.2.1.2.2.2, b_.2.2.1)))))]
    chk (capOk 64 (b_.2.2.2.length + v17.length)) <|
    some (b_.1, (((b_.2.1.1.set m_.2.1.toNat y15), ((v4, b_.2.1.2.1.2), ((w64 (1 - b_.2.1.2.2.1)), 0))), (y1, (b_.2.2.2 ++ v17)))))
   else (Q45 N m_.2.2 b_.2.1.2.2.1).bind fun y18 =>
   chk ((leI 0 m_.2.1) && (ltI m_.2.1 (b_.2.1.1.length : Int))) <|
   let v20 : List TUndo := [(m_, (0, ((gD (0 : Int) b_.2.1.1 m_.2.1), (false, (b_.2.1.2.2.2, b_.2.2.1)))))]
   chk (capOk 64 (b_.2.2.2.length + v20.length)) <|
   some (b_.1, (((b_.2.1.1.set m_.2.1.toNat y18), ((v4, b_.2.1.2.1.2), ((w64 (1 - b_.2.1.2.2.1)), 0))), (y1, (b_.2.2.2 ++ v20)))))
  else chk ((leI 0 m_.1) && (ltI m_.1 (b_.2.1.1.length : Int))) <|
  chk ((leI 0 m_.1) && (ltI m_.1 (b_.2.1.1.length : Int))) <|
  let v21 : List Int := (b_.2.1.1.set m_.1.toNat 0)
  bif (!(eqI (gD (0 : Int) b_.2.1.1 m_.2.1) 0)) then ((Q44 N (gD (0 : Int) b_.2.1.1 m_.2.1)).bind fun y23 =>
   bif b_.1.2.2.2.2.2.2.1 then (chk ((leI 0 y23) && (ltI y23 (b_.2.1.2.1.1.length : Int))) <|
    bif (ltI (gD (0 : Int) b_.2.1.2.1.1 y23) 1000) then (chk ((leI 0 y23) && (ltI y23 (b_.2.1.2.1.1.length : Int))) <|
     chk ((leI 0 y23) && (ltI y23 (b_.2.1.2.1.1.length : Int))) <|
     (Q45 N m_.2.2 b_.2.1.2.2.1).bind fun y27 =>
     chk ((leI 0 m_.2.1) && (ltI m_.2.1 (v21.length : Int))) <|
     let v29 : List TUndo := [(m_, ((gD (0 : Int) b_.2.1.1 m_.1), ((gD (0 : Int) b_.2.1.1 m_.2.1), (true, (b_.2.1.2.2.2, b_.2.2.1)))))]
     chk (capOk 64 (b_.2.2.2.length + v29.length)) <|
     some (b_.1, (((v21.set m_.2.1.toNat y27), (((b_.2.1.2.1.1.set y23.toNat (w64 ((gD (0 : Int) b_.2.1.2.1.1 y23) + 1))), b_.2.1.2.1.2), ((w64 (1 - b_.2.1.2.2.1)), 0))), (y1, (b_.2.2.2 ++ v29)))))
    else (Q45 N m_.2.2 b_.2.1.2.2.1).bind fun y30 =>
    chk ((leI 0 m_.2.1) && (ltI m_.2.1 (v21.length : Int))) <|
    let v32 : List TUndo := [(m_, ((gD (0 : Int) b_.2.1.1 m_.1), ((gD (0 : Int) b_.2.1.1 m_.2.1), (false, (b_.2.1.2.2.2, b_.2.2.1)))))]
    chk (capOk 64 (b_.2.2.2.length + v32.length)) <|
    some (b_.1, (((v21.set m_.2.1.toNat y30), (b_.2.1.2.1, ((w64 (1 - b_.2.1.2.2.1)), 0))), (y1, (b_.2.2.2 ++ v32)))))
   else (Q45 N m_.2.2 b_.2.1.2.2.1).bind fun y33 =>
   chk ((leI 0 m_.2.1) && (ltI m_.2.1 (v21.length : Int))) <|
   let v35 : List TUndo := [(m_, ((gD (0 : Int) b_.2.1.1 m_.1), ((gD (0 : Int) b_.2.1.1 m_.2.1), (false, (b_.2.1.2.2.2, b_.2.2.1)))))]
   chk (capOk 64 (b_.2.2.2.length + v35.length)) <|
   some (b_.1, (((v21.set m_.2.1.toNat y33), (b_.2.1.2.1, ((w64 (1 - b_.2.1.2.2.1)), 0))), (y1, (b_.2.2.2 ++ v35)))))
  else (Q45 N m_.2.2 b_.2.1.2.2.1).bind fun y36 =>
  chk ((leI 0 m_.2.1) && (ltI m_.2.1 (v21.length : Int))) <|
  let v38 : List TUndo := [(m_, ((gD (0 : Int) b_.2.1.1 m_.1), ((gD (0 : Int) b_.2.1.1 m_.2.1), (false, (b_.2.1.2.2.2, b_.2.2.1)))))]
  chk (capOk 64 (b_.2.2.2.length + v38.length)) <|
  some (b_.1, (((v21.set m_.2.1.toNat y36), (b_.2.1.2.1, ((w64 (1 - b_.2.1.2.2.1)), v2))), (y1, (b_.2.2.2 ++ v38)))))
 else bif (eqI b_.2.1.2.2.1 1) then (bif (ltI m_.1 0) then (chk ((leI 0 m_.2.2) && (ltI m_.2.2 (b_.2.1.2.1.2.length : Int))) <|
   chk ((leI 0 m_.2.2) && (ltI m_.2.2 (b_.2.1.2.1.2.length : Int))) <|
   let v40 : List Int := (b_.2.1.2.1.2.set m_.2.2.toNat (w64 ((gD (0 : Int) b_.2.1.2.1.2 m_.2.2) - 1)))
   bif (!(eqI (gD (0 : Int) b_.2.1.1 m_.2.1) 0)) then ((Q44 N (gD (0 : Int) b_.2.1.1 m_.2.1)).bind fun y42 =>
    bif b_.1.2.2.2.2.2.2.1 then (chk ((leI 0 y42) && (ltI y42 (v40.length : Int))) <|
     bif (ltI (gD (0 : Int) v40 y42) 1000) then (chk ((leI 0 y42) && (ltI y42 (v40.length : Int))) <|
      chk ((leI 0 y42) && (ltI y42 (v40.length : Int))) <|
      (Q45 N m_.2.2 b_.2.1.2.2.1).bind fun y45 =>
      chk ((leI 0 m_.2.1) && (ltI m_.2.1 (b_.2.1.1.length : Int))) <|
      let v47 : List TUndo := [(m_, (0, ((gD (0 : Int) b_.2.1.1 m_.2.1), (true, (b_.2.1.2.2.2, b_.2.2.1)))))]
      chk (capOk 64 (b_.2.2.2.length + v47.length)) <|
      some (b_.1, (((b_.2.1.1.set m_.2.1.toNat y45), ((b_.2.1.2.1.1, (v40.set y42.toNat (w64 ((gD (0 : Int) v40 y42) + 1)))), ((w64 (1 - b_.2.1.2.2.1)), 0))), (y1, (b_.2.2.2 ++ v47)))))
     else (Q45 N m_.2.2 b_.2.1.2.2.1).bind fun y48 =>
     chk ((leI 0 m_.2.1) && (ltI m_.2.1 (b_.2.1.1.length : Int))) <|
     let v50 : List TUndo := [(m_, (0, ((gD (0 : Int) b_.2.1.1 m_.2.1), (false, (b_.2.1.2.2.2, b_.2.2.1)))))]
     chk (capOk 64 (b_.2.2.2.length + v50.length)) <|
     some (b_.1, (((b_.2.1.1.set m_.2.1.toNat y48), ((b_.2.1.2.1.1, v40), ((w64 (1 - b_.2.1.2.2.1)), 0))), (y1, (b_.2.2.2 ++ v50)))))
    else (Q45 N m_.2.2 b_.2.1.2.2.1).bind fun y51 =>
    chk ((leI 0 m_.2.1) && (ltI m_.2.1 (b_.2.1.1.length : Int))) <|
    let v53 : List TUndo := [(m_, (0, ((gD (0 : Int) b_.2.1.1 m_.2.1), (false, (b_.2.1.2.2.2, b_.2.2.1)))))]
    chk (capOk 64 (b_.2.2.2.length + v53.length)) <|
    some (b_.1, (((b_.2.1.1.set m_.2.1.toNat y51), ((b_.2.1.2.1.1, v40), ((w64 (1 - b_.2.1.2.2.1)), 0))), (y1, (b_.2.2.2 ++ v53)))))
   else (Q45 N m_.2.2 b_.2.1.2.2.1).bind fun y54 =>
   chk ((leI 0 m_.2.1) && (ltI m_.2.1 (b_.2.1.1.length : Int))) <|
   let v56 : List TUndo := [(m_, (0, ((gD (0 : Int) b_.2.1.1 m_.2.1), (false, (b_.2.1.2.2.2, b_.2.2.1)))))]
   chk (capOk 64 (b_.2.2.2.length + v56.length)) <|
   some (b_.1, (((b_.2.1.1.set m_.2.1.toNat y54), ((b_.2.1.2.1.1, v40), ((w64 (1 - b_.2.1.2.2.1)), 0))), (y1, (b_.2.2.2 ++ v56)))))
  else chk ((leI 0 m_.1) && (ltI m_.1 (b_.2.1.1.length : Int))) <|
  chk ((leI 0 m_.1) && (ltI m_.1 (b_.2.1.1.length : Int))) <|
  let v57 : List Int := (b_.2.1.1.set m_.1.toNat 0)
  bif (!(eqI (gD (0 : Int) b_.2.1.1 m_.2.1) 0)) then ((Q44 N (gD (0 : Int) b_.2.1.1 m_.2.1)).bind fun y59 =>
   bif b_.1.2.2.2.2.2.2.1 then (chk ((leI 0 y59) && (ltI y59 (b_.2.1.2.1.2.length : Int))) <|
    bif (ltI (gD (0 : Int) b_.2.1.2.1.2 y59) 1000) then (chk ((leI 0 y59) && (ltI y59 (b_.2.1.2.1.2.length : Int))) <|
     chk ((leI 0 y59) && (ltI y59 (b_.2.1.2.1.2.length : Int))) <|
     (Q45 N m_.2.2 b_.2.1.2.2.1).bind fun y63 =>
     chk ((leI 0 m_.2.1) && (ltI m_.2.1 (v57.length : Int))) <|
     let v65 : List TUndo := [(m_, ((gD (0 : Int) b_.2.1.1 m_.1), ((gD (0 : Int) b_.2.1.1 m_.2.1), (true, (b_.2.1.2.2.2, b_.2.2.1)))))]
     chk (capOk 64 (b_.2.2.2.length + v65.length)) <|
     some (b_.1, (((v57.set m_.2.1.toNat y63), ((b_.2.1.2.1.1, (b_.2.1.2.1.2.set y59.toNat (w64 ((gD (0 : Int) b_.2.1.2.1.2 y59) + 1)))), ((w64 (1 - b_.2.1.2.2.1)), 0))), (y1, (b_.2.2.2 ++ v65)))))
    else (Q45 N m_.2.2 b_.2.1.2.2.1).bind fun y66 =>
    chk ((leI 0 m_.2.1) && (ltI m_.2.1 (v57.length : Int))) <|
    let v68 : List TUndo := [(m_, ((gD (0 : Int) b_.2.1.1 m_.1), ((gD (0 : Int) b_.2.1.1 m_.2.1), (false, (b_.2.1.2.2.2, b_.2.2.1)))))]
    chk (capOk 64 (b_.2.2.2.length + v68.length)) <|
    some (b_.1, (((v57.set m_.2.1.toNat y66), (b_.2.1.2.1, ((w64 (1 - b_.2.1.2.2.1)), 0))), (y1, (b_.2.2.2 ++ v68)))))
   else (Q45 N m_.2.2 b_.2.1.2.2.1).bind fun y69 =>
   chk ((leI 0 m_.2.1) && (ltI m_.2.1 (v57.length : Int))) <|
   let v71 : List TUndo := [(m_, ((gD (0 : Int) b_.2.1.1 m_.1), ((gD (0 : Int) b_.2.1.1 m_.2.1), (false, (b_.2.1.2.2.2, b_.2.2.1)))))]
   chk (capOk 64 (b_.2.2.2.length + v71.length)) <|
   some (b_.1, (((v57.set m_.2.1.toNat y69), (b_.2.1.2.1, ((w64 (1 - b_.2.1.2.2.1)), 0))), (y1, (b_.2.2.2 ++ v71)))))
  else (Q45 N m_.2.2 b_.2.1.2.2.1).bind fun y72 =>
  chk ((leI 0 m_.2.1) && (ltI m_.2.1 (v57.length : Int))) <|
  let v74 : List TUndo := [(m_, ((gD (0 : Int) b_.2.1.1 m_.1), ((gD (0 : Int) b_.2.1.1 m_.2.1), (false, (b_.2.1.2.2.2, b_.2.2.1)))))]
  chk (capOk 64 (b_.2.2.2.length + v74.length)) <|
  some (b_.1, (((v57.set m_.2.1.toNat y72), (b_.2.1.2.1, ((w64 (1 - b_.2.1.2.2.1)), v2))), (y1, (b_.2.2.2 ++ v74)))))
 else none
def Q69 (N : Nat) (b_ : TBoard) (m_ : TMv) : Option TBoard := Q69.e N b_ m_
def Q71.e (N : Nat) (b_ : TBoard) : Option (Int × TBoard) :=
 bif (eqI (b_.2.2.2.length : Int) 0) then (some (8, b_))
 else let v2 : Int := (w64 ((b_.2.2.2.length : Int) - 1))
 chk ((leI 0 v2) && (ltI v2 (b_.2.2.2.length : Int))) <|
 let v3 : Int := (w64 ((b_.2.2.2.length : Int) - 1))
 chk ((leI 0 v3) && (leI v3 (b_.2.2.2.length : Int))) <|
 bif (eqI (w64 (1 - b_.2.1.2.2.1)) 0) then (chk ((leI 0 (gD dU b_.2.2.2 v2).1.2.1) && (ltI (gD dU b_.2.2.2 v2).1.2.1 (b_.2.1.1.length : Int))) <|
  let v4 : List Int := (b_.2.1.1.set (gD dU b_.2.2.2 v2).1.2.1.toNat (gD dU b_.2.2.2 v2).2.2.1)
  bif (gD dU b_.2.2.2 v2).2.2.2.1 then ((Q44 N (gD dU b_.2.2.2 v2).2.2.1).bind fun y5 =>
   chk ((leI 0 y5) && (ltI y5 (b_.2.1.2.1.1.length : Int))) <|
   chk ((leI 0 y5) && (ltI y5 (b_.2.1.2.1.1.length : Int))) <|
   let v7 : List Int := (b_.2.1.2.1.1.set y5.toNat (w64 ((gD (0 : Int) b_.2.1.2.1.1 y5) - 1)))
   bif (ltI (gD dU b_.2.2.2 v2).1.1 0) then (chk ((leI 0 (gD dU b_.2.2.2 v2).1.2.2) && (ltI (gD dU b_.2.2.2 v2).1.2.2 (v7.length : Int))) <|
    chk ((leI 0 (gD dU b_.2.2.2 v2).1.2.2) && (ltI (gD dU b_.2.2.2 v2).1.2.2 (v7.length : Int))) <|
    some (0, (b_.1, ((v4, (((v7.set (gD dU b_.2.2.2 v2).1.2.2.toNat (w64 ((gD (0 : Int) v7 (gD dU b_.2.2.2 v2).1.2.2) + 1))), b_.2.1.2.1.2), ((w64 (1 - b_.2.1.2.2.1)), (gD dU b_.2.2.2 v2).2.2.2.2.1))), ((gD dU b_.2.2.2 v2).2.2.2.2.2, (b_.2.2.2.take v3.toNat))))))
   else chk ((leI 0 (gD dU b_.2.2.2 v2).1.1) && (ltI (gD dU b_.2.2.2 v2).1.1 (v4.length : Int))) <|
   some (0, (b_.1, (((v4.set (gD dU b_.2.2.2 v2).1.1.toNat (gD dU b_.2.2.2 v2).2.1), ((v7, b_.2.1.2.1.2), ((w64 (1 - b_.2.1.2.2.1)), (gD dU b_.2.2.2 v2).2.2.2.2.1))), ((gD dU b_.2.2.2 v2).2.2.2.2.2, (b_.2.2.2.take v3.toNat))))))
  else bif (ltI (gD dU b_.2.2.2 v2).1.1 0) then (chk ((leI 0 (gD dU b_.2.2.2 v2).1.2.2) && (ltI (gD dU b_.2.2.2 v2).1.2.2 (b_.2.1.2.1.1.length : Int))) <|
   chk ((leI 0 (gD dU b_.2.2.2 v2).1.2.2) && (ltI (gD dU b_.2.2.2 v2).1.2.2 (b_.2.1.2.1.1.length : Int))) <|
   some (0, (b_.1, ((v4, (((b_.2.1.2.1.1.set (gD dU b_.2.2.2 v2).1.2.2.toNat (w64 ((gD (0 : Int) b_.2.1.2.1.1 (gD dU b_.2.2.2 v2).1.2.2) + 1))), b_.2.1.2.1.2), ((w64 (1 - b_.2.1.2.2.1)), (gD dU b_.2.2.2 v2).2.2.2.2.1))), ((gD dU b_.2.2.2 v2).2.2.2.2.2, (b_.2.2.2.take v3.toNat))))))
  else chk ((leI 0 (gD dU b_.2.2.2 v2).1.1) && (ltI (gD dU b_.2.2.2 v2).1.1 (v4.length : Int))) <|
  some (0, (b_.1, (((v4.set (gD dU b_.2.2.2 v2).1.1.toNat (gD dU b_.2.2.2 v2).2.1), (b_.2.1.2.1, ((w64 (1 - b_.2.1.2.2.1)), (gD dU b_.2.2.2 v2).2.2.2.2.1))), ((gD dU b_.2.2.2 v2).2.2.2.2.2, (b_.2.2.2.take v3.toNat))))))
 else bif (eqI (w64 (1 - b_.2.1.2.2.1)) 1) then (chk ((leI 0 (gD dU b_.2.2.2 v2).1.2.1) && (ltI (gD dU b_.2.2.2 v2).1.2.1 (b_.2.1.1.length : Int))) <|
  let v16 : List Int := (b_.2.1.1.set (gD dU b_.2.2.2 v2).1.2.1.toNat (gD dU b_.2.2.2 v2).2.2.1)
  bif (gD dU b_.2.2.2 v2).2.2.2.1 then ((Q44 N (gD dU b_.2.2.2 v2).2.2.1).bind fun y17 =>
   chk ((leI 0 y17) && (ltI y17 (b_.2.1.2.1.2.length : Int))) <|
   chk ((leI 0 y17) && (ltI y17 (b_.2.1.2.1.2.length : Int))) <|
   let v19 : List Int := (b_.2.1.2.1.2.set y17.toNat (w64 ((gD (0 : Int) b_.2.1.2.1.2 y17) - 1)))
   bif (ltI (gD dU b_.2.2.2 v2).1.1 0) then (chk ((leI 0 (gD dU b_.2.2.2 v2).1.2.2) && (ltI (gD dU b_.2.2.2 v2).1.2.2 (v19.length : Int))) <|
    chk ((leI 0 (gD dU b_.2.2.2 v2).1.2.2) && (ltI (gD dU b_.2.2.2 v2).1.2.2 (v19.length : Int))) <|
    some (0, (b_.1, ((v16, ((b_.2.1.2.1.1, (v19.set (gD dU b_.2.2.2 v2).1.2.2.toNat (w64 ((gD (0 : Int) v19 (gD dU b_.2.2.2 v2).1.2.2) + 1)))), ((w64 (1 - b_.2.1.2.2.1)), (gD dU b_.2.2.2 v2).2.2.2.2.1))), ((gD dU b_.2.2.2 v2).2.2.2.2.2, (b_.2.2.2.take v3.toNat))))))
   else chk ((leI 0 (gD dU b_.2.2.2 v2).1.1) && (ltI (gD dU b_.2.2.2 v2).1.1 (v16.length : Int))) <|
   some (0, (b_.1, (((v16.set (gD dU b_.2.2.2 v2).1.1.toNat (gD dU b_.2.2.2 v2).2.1), ((b_.2.1.2.1.1, v19), ((w64 (1 - b_.2.1.2.2.1)), (gD dU b_.2.2.2 v2).2.2.2.2.1))), ((gD dU b_.2.2.2 v2).2.2.2.2.2, (b_.2.2.2.take v3.toNat))))))
  else bif (ltI (gD dU b_.2.2.2 v2).1.1 0) then (chk ((leI 0 (gD dU b_.2.2.2 v2).1.2.2) && (ltI (gD dU b_.2.2.2 v2).1.2.2 (b_.2.1.2.1.2.length : Int))) <|
   chk ((leI 0 (gD dU b_.2.2.2 v2).1.2.2) && (ltI (gD dU b_.2.2.2 v2).1.2.2 (b_.2.1.2.1.2.length : Int))) <|
   some (0, (b_.1, ((v16, ((b_.2.1.2.1.1, (b_.2.1.2.1.2.set (gD dU b_.2.2.2 v2).1.2.2.toNat (w64 ((gD (0 : Int) b_.2.1.2.1.2 (gD dU b_.2.2.2 v2).1.2.2) + 1)))), ((w64 (1 - b_.2.1.2.2.1)), (gD dU b_.2.2.2 v2).2.2.2.2.1))), ((gD dU b_.2.2.2 v2).2.2.2.2.2, (b_.2.2.2.take v3.toNat))))))
  else chk ((leI 0 (gD dU b_.2.2.2 v2).1.1) && (ltI (gD dU b_.2.2.2 v2).1.1 (v16.length : Int))) <|
  some (0, (b_.1, (((v16.set (gD dU b_.2.2.2 v2).1.1.toNat (gD dU b_.2.2.2 v2).2.1), (b_.2.1.2.1, ((w64 (1 - b_.2.1.2.2.1)), (gD dU b_.2.2.2 v2).2.2.2.2.1))), ((gD dU b_.2.2.2 v2).2.2.2.2.2, (b_.2.2.2.take v3.toNat))))))
 else none
def Q71 (N : Nat) (b_ : TBoard) : Option (Int × TBoard) := Q71.e N b_
def Q84.e (N : Nat) (self : Int → TBoard → Int → Option (Int × Int × TBoard)) (r0 : Int → Int → Int → Int → ByteArray → Int → Int → Bool → Bool → Int → Int → Int → Int → Int → Int → LMv → (List TPiece) → LInt → (List TEnd) → LInt → LInt → LInt → (List TUndo) → Option (Int × Int × TBoard)) (c_ : Int) (b_ : TBoard) (depth : Int) : Option (Int × Int × TBoard) :=
 bif (ltI (w64 (c_ - 1)) 0) then (some (1, ((w64 (c_ - 1)), b_)))
 else bif (eqI depth 0) then (some (1, ((w64 (c_ - 1)), b_)))
 else (Q68 N b_).bind fun y1 =>
 r0 0 (y1.length : Int) 0 (w64 (c_ - 1)) b_.1.1 b_.1.2.1 b_.1.2.2.1 b_.1.2.2.2.2.2.1 b_.1.2.2.2.2.2.2.1 b_.1.2.2.2.2.2.2.2.2.1 b_.1.2.2.2.2.2.2.2.2.2.1 b_.1.2.2.2.2.2.2.2.2.2.2 b_.2.1.2.2.1 b_.2.1.2.2.2 b_.2.2.1 y1 b_.1.2.2.2.1 b_.1.2.2.2.2.1 b_.1.2.2.2.2.2.2.2.1 b_.2.1.1 b_.2.1.2.1.1 b_.2.1.2.1.2 b_.2.2.2
def Q84.s0 (N : Nat) (self : Int → TBoard → Int → Option (Int × Int × TBoard)) (c_ : Int) (b_ : TBoard) (depth : Int) (r0 : Int → Int → Int → Int → ByteArray → Int → Int → Bool → Bool → Int → Int → Int → Int → Int → Int → LMv → (List TPiece) → LInt → (List TEnd) → LInt → LInt → LInt → (List TUndo) → Option (Int × Int × TBoard)) (n_ t28_ t29_ c_2 : Int) (b_2 : ByteArray) (b_3 b_4 : Int) (b_5 b_6 : Bool) (b_7 b_8 b_9 b_10 b_11 b_12 : Int) (m9_ : LMv) (m10_ : (List TPiece)) (m11_ : LInt) (m12_ : (List TEnd)) (m13_ m14_ m15_ : LInt) (m16_ : (List TUndo)) : Option (Int × Int × TBoard) :=
 bif (ltI t29_ t28_) then (chk ((leI 0 t29_) && (ltI t29_ (m9_.length : Int))) <|
  (Q69 N ((b_2, (b_3, (b_4, (m10_, (m11_, (b_5, (b_6, (m12_, (b_7, (b_8, b_9)))))))))), ((m13_, ((m14_, m15_), (b_10, b_11))), (b_12, m16_))) (gD dM m9_ t29_)).bind fun y2 =>
  (self c_2 y2 (w64 (depth - 1))).bind fun y3 =>
  (Q71 N y3.2.2).bind fun y4 =>
  bif (ltI y3.2.1 0) then (some (0, (y3.2.1, y4.2)))
  else r0 (w64 (n_ + y3.1)) t28_ (w64 (t29_ + 1)) y3.2.1 y4.2.1.1 y4.2.1.2.1 y4.2.1.2.2.1 y4.2.1.2.2.2.2.2.1 y4.2.1.2.2.2.2.2.2.1 y4.2.1.2.2.2.2.2.2.2.2.1 y4.2.1.2.2.2.2.2.2.2.2.2.1 y4.2.1.2.2.2.2.2.2.2.2.2.2 y4.2.2.1.2.2.1 y4.2.2.1.2.2.2 y4.2.2.2.1 m9_ y4.2.1.2.2.2.1 y4.2.1.2.2.2.2.1 y4.2.1.2.2.2.2.2.2.2.1 y4.2.2.1.1 y4.2.2.1.2.1.1 y4.2.2.1.2.1.2 y4.2.2.2.2)
 else some (n_, (c_2, ((b_2, (b_3, (b_4, (m10_, (m11_, (b_5, (b_6, (m12_, (b_7, (b_8, b_9)))))))))), ((m13_, ((m14_, m15_), (b_10, b_11))), (b_12, m16_)))))
def Q84.L (N : Nat) (self : Int → TBoard → Int → Option (Int × Int × TBoard)) (c_ : Int) (b_ : TBoard) (depth : Int) : Nat → (Int → Int → Int → Int → ByteArray → Int → Int → Bool → Bool → Int → Int → Int → Int → Int → Int → LMv → (List TPiece) → LInt → (List TEnd) → LInt → LInt → LInt → (List TUndo) → Option (Int × Int × TBoard))
 | 0 => fun _ _ _ _ _ _ _ _ _ _ _ _ _ _ _ _ _ _ _ _ _ _ _ => none
 | n + 1 => fun n_ t28_ t29_ c_2 b_2 b_3 b_4 b_5 b_6 b_7 b_8 b_9 b_10 b_11 b_12 m9_ m10_ m11_ m12_ m13_ m14_ m15_ m16_ => Q84.s0 N self c_ b_ depth (Q84.L N self c_ b_ depth n) n_ t28_ t29_ c_2 b_2 b_3 b_4 b_5 b_6 b_7 b_8 b_9 b_10 b_11 b_12 m9_ m10_ m11_ m12_ m13_ m14_ m15_ m16_
def Q84.l0 (N : Nat) (self : Int → TBoard → Int → Option (Int × Int × TBoard)) (c_ : Int) (b_ : TBoard) (depth : Int) (n : Nat) : Int → Int → Int → Int → ByteArray → Int → Int → Bool → Bool → Int → Int → Int → Int → Int → Int → LMv → (List TPiece) → LInt → (List TEnd) → LInt → LInt → LInt → (List TUndo) → Option (Int × Int × TBoard) := (Q84.L N self c_ b_ depth n)
theorem Q84.l0_s (N : Nat) (self : Int → TBoard → Int → Option (Int × Int × TBoard)) (c_ : Int) (b_ : TBoard) (depth : Int) (n : Nat) (n_ t28_ t29_ c_2 : Int) (b_2 : ByteArray) (b_3 b_4 : Int) (b_5 b_6 : Bool) (b_7 b_8 b_9 b_10 b_11 b_12 : Int) (m9_ : LMv) (m10_ : (List TPiece)) (m11_ : LInt) (m12_ : (List TEnd)) (m13_ m14_ m15_ : LInt) (m16_ : (List TUndo)) : Q84.l0 N self c_ b_ depth (n + 1) n_ t28_ t29_ c_2 b_2 b_3 b_4 b_5 b_6 b_7 b_8 b_9 b_10 b_11 b_12 m9_ m10_ m11_ m12_ m13_ m14_ m15_ m16_ = Q84.s0 N self c_ b_ depth (Q84.l0 N self c_ b_ depth n) n_ t28_ t29_ c_2 b_2 b_3 b_4 b_5 b_6 b_7 b_8 b_9 b_10 b_11 b_12 m9_ m10_ m11_ m12_ m13_ m14_ m15_ m16_ := rfl
def Q84 : Nat → Int → TBoard → Int → Option (Int × Int × TBoard)
 | 0 => fun _ _ _ => none
 | N + 1 => fun c_ b_ depth => Q84.e N (Q84 N) (Q84.l0 N (Q84 N) c_ b_ depth N) c_ b_ depth
def Q63.e (N : Nat) (r_ : TRules) (p_ : TPos) (depth : Int) : Option (Int × Int) :=
 (Q83 N r_ p_ depth).bind fun y1 =>
 oCase y1.1 (bif (!(eqI y1.2 0)) then (some (0, y1.2))
  else none) fun b2 =>
 bif (!(eqI y1.2 0)) then (some (0, y1.2))
 else (Q84 N 50000 b2 depth).bind fun y3 =>
 bif (ltI y3.2.1 0) then (some (0, 17))
 else some ((w64 (50000 - y3.2.1)), 0)
def Q63 (N : Nat) (r_ : TRules) (p_ : TPos) (depth : Int) : Option (Int × Int) := Q63.e N r_ p_ depth
def Q35.e (N : Nat) (r_ : TRules) (p_ : TPos) (depth : Int) : Option Int :=
 (Q63 N r_ p_ depth).bind fun y1 =>
 some y1.2
def Q35 (N : Nat) (r_ : TRules) (p_ : TPos) (depth : Int) : Option Int := Q35.e N r_ p_ depth
def Q67.e (N : Nat) (b_ : TBoard) : Option Int :=
 some b_.2.1.2.2.1
def Q67 (N : Nat) (b_ : TBoard) : Option Int := Q67.e N b_
def Q66.e (N : Nat) (result turn : Int) : Option Int :=
 (Q55 N turn).bind fun y1 =>
 bif (eqI result y1) then some 1000
 else (Q55 N (w64 (1 - turn))).bind fun y2 =>
 bif (eqI result y2) then (some (-1000))
 else some 0
def Q66 (N : Nat) (result turn : Int) : Option Int := Q66.e N result turn
def Q70.e (N : Nat) (n_ : Int) : Option Int :=
 bif (ltI 0 n_) then (some (w64 (n_ - 1)))
 else bif (ltI n_ 0) then (some (w64 (n_ + 1)))
 else some 0
def Q70 (N : Nat) (n_ : Int) : Option Int := Q70.e N n_
def Q37.e (N : Nat) (self : TBoard → Int → Option (Int × TBoard)) (r0 : Int → Int → Int → ByteArray → Int → Int → Bool → Bool → Int → Int → Int → Int → Int → Int → LMv → (List TPiece) → LInt → (List TEnd) → LInt → LInt → LInt → (List TUndo) → Option (Int × TBoard)) (b_ : TBoard) (depth : Int) : Option (Int × TBoard) :=
 (Q65 N b_).bind fun y1 =>
 bif (!(eqI y1 0)) then ((Q67 N b_).bind fun y2 =>
  (Q66 N y1 y2).bind fun y3 =>
  some (y3, b_))
 else bif (eqI depth 0) then (some (0, b_))
 else (Q68 N b_).bind fun y4 =>
 r0 (-1000) (y4.length : Int) 0 b_.1.1 b_.1.2.1 b_.1.2.2.1 b_.1.2.2.2.2.2.1 b_.1.2.2.2.2.2.2.1 b_.1.2.2.2.2.2.2.2.2.1 b_.1.2.2.2.2.2.2.2.2.2.1 b_.1.2.2.2.2.2.2.2.2.2.2 b_.2.1.2.2.1 b_.2.1.2.2.2 b_.2.2.1 y4 b_.1.2.2.2.1 b_.1.2.2.2.2.1 b_.1.2.2.2.2.2.2.2.1 b_.2.1.1 b_.2.1.2.1.1 b_.2.1.2.1.2 b_.2.2.2
def Q37.s0 (N : Nat) (self : TBoard → Int → Option (Int × TBoard)) (b_ : TBoard) (depth : Int) (r0 : Int → Int → Int → ByteArray → Int → Int → Bool → Bool → Int → Int → Int → Int → Int → Int → LMv → (List TPiece) → LInt → (List TEnd) → LInt → LInt → LInt → (List TUndo) → Option (Int × TBoard)) (best t21_ t22_ : Int) (b_2 : ByteArray) (b_3 b_4 : Int) (b_5 b_6 : Bool) (b_7 b_8 b_9 b_10 b_11 b_12 : Int) (m8_ : LMv) (m9_ : (List TPiece)) (m10_ : LInt) (m11_ : (List TEnd)) (m12_ m13_ m14_ : LInt) (m15_ : (List TUndo)) : Option (Int × TBoard) :=
 bif (ltI t22_ t21_) then (chk ((leI 0 t22_) && (ltI t22_ (m8_.length : Int))) <|
  (Q69 N ((b_2, (b_3, (b_4, (m9_, (m10_, (b_5, (b_6, (m11_, (b_7, (b_8, b_9)))))))))), ((m12_, ((m13_, m14_), (b_10, b_11))), (b_12, m15_))) (gD dM m8_ t22_)).bind fun y5 =>
  (self y5 (w64 (depth - 1))).bind fun y6 =>
  (Q70 N (w64 (0 - y6.1))).bind fun y7 =>
  (Q71 N y6.2).bind fun y9 =>
  r0 (bif (ltI best y7) then y7 else best) t21_ (w64 (t22_ + 1)) y9.2.1.1 y9.2.1.2.1 y9.2.1.2.2.1 y9.2.1.2.2.2.2.2.1 y9.2.1.2.2.2.2.2.2.1 y9.2.1.2.2.2.2.2.2.2.2.1 y9.2.1.2.2.2.2.2.2.2.2.2.1 y9.2.1.2.2.2.2.2.2.2.2.2.2 y9.2.2.1.2.2.1 y9.2.2.1.2.2.2 y9.2.2.2.1 m8_ y9.2.1.2.2.2.1 y9.2.1.2.2.2.2.1 y9.2.1.2.2.2.2.2.2.2.1 y9.2.2.1.1 y9.2.2.1.2.1.1 y9.2.2.1.2.1.2 y9.2.2.2.2)
 else some (best, ((b_2, (b_3, (b_4, (m9_, (m10_, (b_5, (b_6, (m11_, (b_7, (b_8, b_9)))))))))), ((m12_, ((m13_, m14_), (b_10, b_11))), (b_12, m15_))))
def Q37.L (N : Nat) (self : TBoard → Int → Option (Int × TBoard)) (b_ : TBoard) (depth : Int) : Nat → (Int → Int → Int → ByteArray → Int → Int → Bool → Bool → Int → Int → Int → Int → Int → Int → LMv → (List TPiece) → LInt → (List TEnd) → LInt → LInt → LInt → (List TUndo) → Option (Int × TBoard))
 | 0 => fun _ _ _ _ _ _ _ _ _ _ _ _ _ _ _ _ _ _ _ _ _ _ => none
 | n + 1 => fun best t21_ t22_ b_2 b_3 b_4 b_5 b_6 b_7 b_8 b_9 b_10 b_11 b_12 m8_ m9_ m10_ m11_ m12_ m13_ m14_ m15_ => Q37.s0 N self b_ depth (Q37.L N self b_ depth n) best t21_ t22_ b_2 b_3 b_4 b_5 b_6 b_7 b_8 b_9 b_10 b_11 b_12 m8_ m9_ m10_ m11_ m12_ m13_ m14_ m15_
def Q37.l0 (N : Nat) (self : TBoard → Int → Option (Int × TBoard)) (b_ : TBoard) (depth : Int) (n : Nat) : Int → Int → Int → ByteArray → Int → Int → Bool → Bool → Int → Int → Int → Int → Int → Int → LMv → (List TPiece) → LInt → (List TEnd) → LInt → LInt → LInt → (List TUndo) → Option (Int × TBoard) := (Q37.L N self b_ depth n)
theorem Q37.l0_s (N : Nat) (self : TBoard → Int → Option (Int × TBoard)) (b_ : TBoard) (depth : Int) (n : Nat) (best t21_ t22_ : Int) (b_2 : ByteArray) (b_3 b_4 : Int) (b_5 b_6 : Bool) (b_7 b_8 b_9 b_10 b_11 b_12 : Int) (m8_ : LMv) (m9_ : (List TPiece)) (m10_ : LInt) (m11_ : (List TEnd)) (m12_ m13_ m14_ : LInt) (m15_ : (List TUndo)) : Q37.l0 N self b_ depth (n + 1) best t21_ t22_ b_2 b_3 b_4 b_5 b_6 b_7 b_8 b_9 b_10 b_11 b_12 m8_ m9_ m10_ m11_ m12_ m13_ m14_ m15_ = Q37.s0 N self b_ depth (Q37.l0 N self b_ depth n) best t21_ t22_ b_2 b_3 b_4 b_5 b_6 b_7 b_8 b_9 b_10 b_11 b_12 m8_ m9_ m10_ m11_ m12_ m13_ m14_ m15_ := rfl
def Q37 : Nat → TBoard → Int → Option (Int × TBoard)
 | 0 => fun _ _ => none
 | N + 1 => fun b_ depth => Q37.e N (Q37 N) (Q37.l0 N (Q37 N) b_ depth N) b_ depth
def Q13.e (N : Nat) (r_ : TRules) (p_ : TPos) (depth : Int) : Option (Int × Int) :=
 (Q35 N r_ p_ depth).bind fun y1 =>
 bif (!(eqI y1 0)) then (some (0, y1))
 else (Q36 N r_ p_).bind fun y2 =>
 oCase y2.1 none fun b3 =>
 (Q37 N b3 depth).bind fun y4 =>
 some (y4.1, 0)
def Q13 (N : Nat) (r_ : TRules) (p_ : TPos) (depth : Int) : Option (Int × Int) := Q13.e N r_ p_ depth
def Q43.e (N : Nat) (t_ : TTab) (p_ : TPos) : Option (Int × Int × TTab) :=
 (Q40 N t_.1 p_).bind fun y1 =>
 bif (!(eqI y1 0)) then (some (0, (y1, t_)))
 else (Q53 N p_).bind fun y2 =>
 chk (okDS y2) <|
 let v3 : Option Int := (mget eqDS t_.2.2.2.2.2 y2)
 bif (!v3.isSome) then (some (0, (8, t_)))
 else some ((v3.getD (0 : Int)), (0, t_))
def Q43 (N : Nat) (t_ : TTab) (p_ : TPos) : Option (Int × Int × TTab) := Q43.e N t_ p_
def Q22.e (N : Nat) (t_ : TTab) (p_ : TPos) : Option ((Int × Int) × Int × TTab) :=
 (Q43 N t_ p_).bind fun y1 =>
 bif (!(eqI y1.2.1 0)) then (some ((0, 0), y1.2))
 else chk ((leI 0 y1.1) && (ltI y1.1 (y1.2.2.2.2.2.2.1.length : Int))) <|
 some ((gD ((0 : Int), (0 : Int)) y1.2.2.2.2.2.2.1 y1.1), (0, y1.2.2))
def Q22 (N : Nat) (t_ : TTab) (p_ : TPos) : Option ((Int × Int) × Int × TTab) := Q22.e N t_ p_
def Q23.e (N : Nat) (r0 : Int → LInt → Int → Int → ByteArray → Int → Int → Bool → Bool → Int → Int → Int → (List TPiece) → LInt → (List TEnd) → (List TPos) → (List LInt) → (List LMv) → (List (Int × Int)) → (List (ByteArray × Int)) → Int → Int → Int → Int → LMv → Option (LMv × Int × TTab)) (t_ : TTab) (p_ : TPos) : Option (LMv × Int × TTab) :=
 (Q43 N t_ p_).bind fun y1 =>
 bif (!(eqI y1.2.1 0)) then (some ([], y1.2))
 else chk ((leI 0 y1.1) && (ltI y1.1 (y1.2.2.2.2.1.length : Int))) <|
 bif (eqI ((gD ([] : LInt) y1.2.2.2.2.1 y1.1).length : Int) 0) then (some ([], (14, y1.2.2)))
 else chk ((leI 0 y1.1) && (ltI y1.1 (y1.2.2.2.2.2.2.1.length : Int))) <|
 let v3 : Int := (w64 ((gD ((0 : Int), (0 : Int)) y1.2.2.2.2.2.2.1 y1.1).2 - 1))
 chk ((leI 0 y1.1) && (ltI y1.1 (y1.2.2.2.2.1.length : Int))) <|
 r0 y1.1 (gD ([] : LInt) y1.2.2.2.2.1 y1.1) ((gD ([] : LInt) y1.2.2.2.2.1 y1.1).length : Int) 0 y1.2.2.1.1 y1.2.2.1.2.1 y1.2.2.1.2.2.1 y1.2.2.1.2.2.2.2.2.1 y1.2.2.1.2.2.2.2.2.2.1 y1.2.2.1.2.2.2.2.2.2.2.2.1 y1.2.2.1.2.2.2.2.2.2.2.2.2.1 y1.2.2.1.2.2.2.2.2.2.2.2.2.2 y1.2.2.1.2.2.2.1 y1.2.2.1.2.2.2.2.1 y1.2.2.1.2.2.2.2.2.2.2.1 y1.2.2.2.1 y1.2.2.2.2.1 y1.2.2.2.2.2.1 y1.2.2.2.2.2.2.1 y1.2.2.2.2.2.2.2 (gD ((0 : Int), (0 : Int)) y1.2.2.2.2.2.2.1 y1.1).1 (gD ((0 : Int), (0 : Int)) y1.2.2.2.2.2.2.1 y1.1).2 (gD ((0 : Int), (0 : Int)) y1.2.2.2.2.2.2.1 y1.1).1 (bif (ltI 0 v3) then v3 else 0) []
def Q23.s0 (N : Nat) (t_ : TTab) (p_ : TPos) (r0 : Int → LInt → Int → Int → ByteArray → Int → Int → Bool → Bool → Int → Int → Int → (List TPiece) → LInt → (List TEnd) → (List TPos) → (List LInt) → (List LMv) → (List (Int × Int)) → (List (ByteArray × Int)) → Int → Int → Int → Int → LMv → Option (LMv × Int × TTab)) (i_ : Int) (t51_ : LInt) (t52_ t53_ : Int) (t_2 : ByteArray) (t_3 t_4 : Int) (t_5 t_6 : Bool) (t_7 t_8 t_9 : Int) (m10_ : (List TPiece)) (m11_ : LInt) (m12_ : (List TEnd)) (m13_ : (List TPos)) (m14_ : (List LInt)) (m15_ : (List LMv)) (m16_ : (List (Int × Int))) (m17_ : (List (ByteArray × Int))) (x_ x_2 want want2 : Int) (out : LMv) : Option (LMv × Int × TTab) :=
 bif (ltI t53_ t52_) then (chk ((leI 0 t53_) && (ltI t53_ (t51_.length : Int))) <|
  chk ((leI 0 (gD (0 : Int) t51_ t53_)) && (ltI (gD (0 : Int) t51_ t53_) (m16_.length : Int))) <|
  bif ((eqI (gD ((0 : Int), (0 : Int)) m16_ (gD (0 : Int) t51_ t53_)).1 want) && ((eqI (gD ((0 : Int), (0 : Int)) m16_ (gD (0 : Int) t51_ t53_)).2 want2) && true)) then (chk ((leI 0 i_) && (ltI i_ (m15_.length : Int))) <|
   chk ((leI 0 t53_) && (ltI t53_ ((gD ([] : LMv) m15_ i_).length : Int))) <|
   let v7 : List TMv := [(gD dM (gD ([] : LMv) m15_ i_) t53_)]
   chk (capOk 24 (out.length + v7.length)) <|
   r0 i_ t51_ t52_ (w64 (t53_ + 1)) t_2 t_3 t_4 t_5 t_6 t_7 t_8 t_9 m10_ m11_ m12_ m13_ m14_ m15_ m16_ m17_ x_ x_2 want want2 (out ++ v7))
  else bif (eqI x_ 3) then (chk ((leI 0 (gD (0 : Int) t51_ t53_)) && (ltI (gD (0 : Int) t51_ t53_) (m16_.length : Int))) <|
   bif (eqI (gD ((0 : Int), (0 : Int)) m16_ (gD (0 : Int) t51_ t53_)).1 3) then (chk ((leI 0 i_) && (ltI i_ (m15_.length : Int))) <|
    chk ((leI 0 t53_) && (ltI t53_ ((gD ([] : LMv) m15_ i_).length : Int))) <|
    let v9 : List TMv := [(gD dM (gD ([] : LMv) m15_ i_) t53_)]
    chk (capOk 24 (out.length + v9.length)) <|
    r0 i_ t51_ t52_ (w64 (t53_ + 1)) t_2 t_3 t_4 t_5 t_6 t_7 t_8 t_9 m10_ m11_ m12_ m13_ m14_ m15_ m16_ m17_ x_ x_2 want want2 (out ++ v9))
   else r0 i_ t51_ t52_ (w64 (t53_ + 1)) t_2 t_3 t_4 t_5 t_6 t_7 t_8 t_9 m10_ m11_ m12_ m13_ m14_ m15_ m16_ m17_ x_ x_2 want want2 out)
  else r0 i_ t51_ t52_ (w64 (t53_ + 1)) t_2 t_3 t_4 t_5 t_6 t_7 t_8 t_9 m10_ m11_ m12_ m13_ m14_ m15_ m16_ m17_ x_ x_2 want want2 out)
 else some (out, (0, ((t_2, (t_3, (t_4, (m10_, (m11_, (t_5, (t_6, (m12_, (t_7, (t_8, t_9)))))))))), (m13_, (m14_, (m15_, (m16_, m17_)))))))
def Q23.L (N : Nat) (t_ : TTab) (p_ : TPos) : Nat → (Int → LInt → Int → Int → ByteArray → Int → Int → Bool → Bool → Int → Int → Int → (List TPiece) → LInt → (List TEnd) → (List TPos) → (List LInt) → (List LMv) → (List (Int × Int)) → (List (ByteArray × Int)) → Int → Int → Int → Int → LMv → Option (LMv × Int × TTab))
 | 0 => fun _ _ _ _ _ _ _ _ _ _ _ _ _ _ _ _ _ _ _ _ _ _ _ _ _ => none
 | n + 1 => fun i_ t51_ t52_ t53_ t_2 t_3 t_4 t_5 t_6 t_7 t_8 t_9 m10_ m11_ m12_ m13_ m14_ m15_ m16_ m17_ x_ x_2 want want2 out => Q23.s0 N t_ p_ (Q23.L N t_ p_ n) i_ t51_ t52_ t53_ t_2 t_3 t_4 t_5 t_6 t_7 t_8 t_9 m10_ m11_ m12_ m13_ m14_ m15_ m16_ m17_ x_ x_2 want want2 out
def Q23.l0 (N : Nat) (t_ : TTab) (p_ : TPos) (n : Nat) : Int → LInt → Int → Int → ByteArray → Int → Int → Bool → Bool → Int → Int → Int → (List TPiece) → LInt → (List TEnd) → (List TPos) → (List LInt) → (List LMv) → (List (Int × Int)) → (List (ByteArray × Int)) → Int → Int → Int → Int → LMv → Option (LMv × Int × TTab) := (Q23.L N t_ p_ n)
theorem Q23.l0_s (N : Nat) (t_ : TTab) (p_ : TPos) (n : Nat) (i_ : Int) (t51_ : LInt) (t52_ t53_ : Int) (t_2 : ByteArray) (t_3 t_4 : Int) (t_5 t_6 : Bool) (t_7 t_8 t_9 : Int) (m10_ : (List TPiece)) (m11_ : LInt) (m12_ : (List TEnd)) (m13_ : (List TPos)) (m14_ : (List LInt)) (m15_ : (List LMv)) (m16_ : (List (Int × Int))) (m17_ : (List (ByteArray × Int))) (x_ x_2 want want2 : Int) (out : LMv) : Q23.l0 N t_ p_ (n + 1) i_ t51_ t52_ t53_ t_2 t_3 t_4 t_5 t_6 t_7 t_8 t_9 m10_ m11_ m12_ m13_ m14_ m15_ m16_ m17_ x_ x_2 want want2 out = Q23.s0 N t_ p_ (Q23.l0 N t_ p_ n) i_ t51_ t52_ t53_ t_2 t_3 t_4 t_5 t_6 t_7 t_8 t_9 m10_ m11_ m12_ m13_ m14_ m15_ m16_ m17_ x_ x_2 want want2 out := rfl
def Q23 (N : Nat) (t_ : TTab) (p_ : TPos) : Option (LMv × Int × TTab) := Q23.e N (Q23.l0 N t_ p_ N) t_ p_
def Q9.e (N : Nat) (r0 : Int → ByteArray → Int → Int → Bool → Bool → Int → Int → Int → LInt → LInt → LInt → Int → Int → (List TPiece) → LInt → (List TEnd) → (List TPos) → (List LInt) → (List LMv) → (List (Int × Int)) → (List (ByteArray × Int)) → LMv → Option (LMv × Int × (TRules × (TTab × (Unit × (Unit × Int)))))) (x_ : (TRules × (TTab × (Unit × (Unit × Int))))) (p_ : TPos) (most : Int) : Option (LMv × Int × (TRules × (TTab × (Unit × (Unit × Int))))) :=
 bothK ((Q22 N x_.2.1 p_).bind fun y1 =>
  bif (!(eqI y1.2.1 0)) then (some ([], (y1.2.1, (x_.1, (y1.2.2, ((), ((), x_.2.2.2.2)))))))
  else bif (ltI most 0) then (some ([], (4, (x_.1, (y1.2.2, ((), ((), x_.2.2.2.2)))))))
  else bif (ltI 256 most) then (some ([], (4, (x_.1, (y1.2.2, ((), ((), x_.2.2.2.2)))))))
  else r0 0 y1.2.2.1.1 y1.2.2.1.2.1 y1.2.2.1.2.2.1 y1.2.2.1.2.2.2.2.2.1 y1.2.2.1.2.2.2.2.2.2.1 y1.2.2.1.2.2.2.2.2.2.2.2.1 y1.2.2.1.2.2.2.2.2.2.2.2.2.1 y1.2.2.1.2.2.2.2.2.2.2.2.2.2 p_.1 p_.2.1.1 p_.2.1.2 p_.2.2.1 p_.2.2.2 y1.2.2.1.2.2.2.1 y1.2.2.1.2.2.2.2.1 y1.2.2.1.2.2.2.2.2.2.2.1 y1.2.2.2.1 y1.2.2.2.2.1 y1.2.2.2.2.2.1 y1.2.2.2.2.2.2.1 y1.2.2.2.2.2.2.2 []) ((Q22 N x_.2.1 p_).bind fun y2 =>
  bif (!(eqI y2.2.1 0)) then (some ([], (y2.2.1, (x_.1, (y2.2.2, ((), ((), x_.2.2.2.2)))))))
  else bif (ltI most 0) then (some ([], (4, (x_.1, (y2.2.2, ((), ((), x_.2.2.2.2)))))))
  else bif (ltI 256 most) then (some ([], (4, (x_.1, (y2.2.2, ((), ((), x_.2.2.2.2)))))))
  else r0 0 y2.2.2.1.1 y2.2.2.1.2.1 y2.2.2.1.2.2.1 y2.2.2.1.2.2.2.2.2.1 y2.2.2.1.2.2.2.2.2.2.1 y2.2.2.1.2.2.2.2.2.2.2.2.1 y2.2.2.1.2.2.2.2.2.2.2.2.2.1 y2.2.2.1.2.2.2.2.2.2.2.2.2.2 p_.1 p_.2.1.1 p_.2.1.2 p_.2.2.1 p_.2.2.2 y2.2.2.1.2.2.2.1 y2.2.2.1.2.2.2.2.1 y2.2.2.1.2.2.2.2.2.2.2.1 y2.2.2.2.1 y2.2.2.2.2.1 y2.2.2.2.2.2.1 y2.2.2.2.2.2.2.1 y2.2.2.2.2.2.2.2 [])
def Q9.s0 (N : Nat) (x_ : (TRules × (TTab × (Unit × (Unit × Int))))) (p_ : TPos) (most : Int) (r0 : Int → ByteArray → Int → Int → Bool → Bool → Int → Int → Int → LInt → LInt → LInt → Int → Int → (List TPiece) → LInt → (List TEnd) → (List TPos) → (List LInt) → (List LMv) → (List (Int × Int)) → (List (ByteArray × Int)) → LMv → Option (LMv × Int × (TRules × (TTab × (Unit × (Unit × Int)))))) (t32_ : Int) (m4_ : ByteArray) (m4_2 m4_3 : Int) (m4_4 m4_5 : Bool) (m4_6 m4_7 m4_8 : Int) (p_2 p_3 p_4 : LInt) (p_5 p_6 : Int) (m14_ : (List TPiece)) (m15_ : LInt) (m16_ : (List TEnd)) (m17_ : (List TPos)) (m18_ : (List LInt)) (m19_ : (List LMv)) (m20_ : (List (Int × Int))) (m21_ : (List (ByteArray × Int))) (out : LMv) : Option (LMv × Int × (TRules × (TTab × (Unit × (Unit × Int))))) :=
 bif (ltI t32_ most) then ((Q23 N ((m4_, (m4_2, (m4_3, (m14_, (m15_, (m4_4, (m4_5, (m16_, (m4_6, (m4_7, m4_8)))))))))), (m17_, (m18_, (m19_, (m20_, m21_))))) (p_2, ((p_3, p_4), (p_5, p_6)))).bind fun y3 =>
  bif (!(eqI y3.2.1 0)) then (some (out, (0, (x_.1, (y3.2.2, ((), ((), x_.2.2.2.2)))))))
  else chk (true && (ltI 0 (y3.1.length : Int))) <|
  let v4 : List TMv := [(gD dM y3.1 0)]
  chk (capOk 24 (out.length + v4.length)) <|
  chk (true && (ltI 0 (y3.1.length : Int))) <|
  (Q24 N x_.1 (p_2, ((p_3, p_4), (p_5, p_6))) (gD dM y3.1 0)).bind fun y5 =>
  r0 (w64 (t32_ + 1)) y3.2.2.1.1 y3.2.2.1.2.1 y3.2.2.1.2.2.1 y3.2.2.1.2.2.2.2.2.1 y3.2.2.1.2.2.2.2.2.2.1 y3.2.2.1.2.2.2.2.2.2.2.2.1 y3.2.2.1.2.2.2.2.2.2.2.2.2.1 y3.2.2.1.2.2.2.2.2.2.2.2.2.2 y5.1 y5.2.1.1 y5.2.1.2 y5.2.2.1 y5.2.2.2 y3.2.2.1.2.2.2.1 y3.2.2.1.2.2.2.2.1 y3.2.2.1.2.2.2.2.2.2.2.1 y3.2.2.2.1 y3.2.2.2.2.1 y3.2.2.2.2.2.1 y3.2.2.2.2.2.2.1 y3.2.2.2.2.2.2.2 (out ++ v4))
 else some (out, (0, (x_.1, (((m4_, (m4_2, (m4_3, (m14_, (m15_, (m4_4, (m4_5, (m16_, (m4_6, (m4_7, m4_8)))))))))), (m17_, (m18_, (m19_, (m20_, m21_))))), ((), ((), x_.2.2.2.2))))))
def Q9.L (N : Nat) (x_ : (TRules × (TTab × (Unit × (Unit × Int))))) (p_ : TPos) (most : Int) : Nat → (Int → ByteArray → Int → Int → Bool → Bool → Int → Int → Int → LInt → LInt → LInt → Int → Int → (List TPiece) → LInt → (List TEnd) → (List TPos) → (List LInt) → (List LMv) → (List (Int × Int)) → (List (ByteArray × Int)) → LMv → Option (LMv × Int × (TRules × (TTab × (Unit × (Unit × Int))))))
 | 0 => fun _ _ _ _ _ _ _ _ _ _ _ _ _ _ _ _ _ _ _ _ _ _ _ => none
 | n + 1 => fun t32_ m4_ m4_2 m4_3 m4_4 m4_5 m4_6 m4_7 m4_8 p_2 p_3 p_4 p_5 p_6 m14_ m15_ m16_ m17_ m18_ m19_ m20_ m21_ out => Q9.s0 N x_ p_ most (Q9.L N x_ p_ most n) t32_ m4_ m4_2 m4_3 m4_4 m4_5 m4_6 m4_7 m4_8 p_2 p_3 p_4 p_5 p_6 m14_ m15_ m16_ m17_ m18_ m19_ m20_ m21_ out
def Q9.l0 (N : Nat) (x_ : (TRules × (TTab × (Unit × (Unit × Int))))) (p_ : TPos) (most : Int) (n : Nat) : Int → ByteArray → Int → Int → Bool → Bool → Int → Int → Int → LInt → LInt → LInt → Int → Int → (List TPiece) → LInt → (List TEnd) → (List TPos) → (List LInt) → (List LMv) → (List (Int × Int)) → (List (ByteArray × Int)) → LMv → Option (LMv × Int × (TRules × (TTab × (Unit × (Unit × Int))))) := (Q9.L N x_ p_ most n)
theorem Q9.l0_s (N : Nat) (x_ : (TRules × (TTab × (Unit × (Unit × Int))))) (p_ : TPos) (most : Int) (n : Nat) (t32_ : Int) (m4_ : ByteArray) (m4_2 m4_3 : Int) (m4_4 m4_5 : Bool) (m4_6 m4_7 m4_8 : Int) (p_2 p_3 p_4 : LInt) (p_5 p_6 : Int) (m14_ : (List TPiece)) (m15_ : LInt) (m16_ : (List TEnd)) (m17_ : (List TPos)) (m18_ : (List LInt)) (m19_ : (List LMv)) (m20_ : (List (Int × Int))) (m21_ : (List (ByteArray × Int))) (out : LMv) : Q9.l0 N x_ p_ most (n + 1) t32_ m4_ m4_2 m4_3 m4_4 m4_5 m4_6 m4_7 m4_8 p_2 p_3 p_4 p_5 p_6 m14_ m15_ m16_ m17_ m18_ m19_ m20_ m21_ out = Q9.s0 N x_ p_ most (Q9.l0 N x_ p_ most n) t32_ m4_ m4_2 m4_3 m4_4 m4_5 m4_6 m4_7 m4_8 p_2 p_3 p_4 p_5 p_6 m14_ m15_ m16_ m17_ m18_ m19_ m20_ m21_ out := rfl
def Q9 (N : Nat) (x_ : (TRules × (TTab × (Unit × (Unit × Int))))) (p_ : TPos) (most : Int) : Option (LMv × Int × (TRules × (TTab × (Unit × (Unit × Int))))) := Q9.e N (Q9.l0 N x_ p_ most N) x_ p_ most
def Q46.e (N : Nat) (r_ : TRules) : Option (TPos × Int) :=
 (Q29 N r_).bind fun y1 =>
 bif (!(eqI y1 0)) then (some (([], (([], []), (0, 0))), y1))
 else (Q31 N r_).bind fun y2 =>
 some (y2, 0)
def Q46 (N : Nat) (r_ : TRules) : Option (TPos × Int) := Q46.e N r_
def Q25.e (N : Nat) (r_ : TRules) : Option ((Option (TRules × ((List TPos) × LMv))) × Int) :=
 (Q46 N r_).bind fun y1 =>
 bif (!(eqI y1.2 0)) then (some (none, y1.2))
 else bothK ((Q19 N r_).bind fun y2 =>
  some ((some (y2, ([y1.1], []))), 0)) ((Q19 N r_).bind fun y3 =>
  some ((some (y3, ([y1.1], []))), 0))
def Q25 (N : Nat) (r_ : TRules) : Option ((Option (TRules × ((List TPos) × LMv))) × Int) := Q25.e N r_
def Q91.e (N : Nat) (r0 : Int → Option Bool) (s1_ s2_ : LInt) : Option Bool :=
 bif (!(eqI (s1_.length : Int) (s2_.length : Int))) then some false
 else r0 0
def Q91.s0 (N : Nat) (s1_ s2_ : LInt) (r0 : Int → Option Bool) (t13_ : Int) : Option Bool :=
 bif (ltI t13_ (s1_.length : Int)) then (chk ((leI 0 t13_) && (ltI t13_ (s1_.length : Int))) <|
  chk ((leI 0 t13_) && (ltI t13_ (s2_.length : Int))) <|
  bif (!(eqI (gD (0 : Int) s1_ t13_) (gD (0 : Int) s2_ t13_))) then some false
  else r0 (w64 (t13_ + 1)))
 else some true
def Q91.L (N : Nat) (s1_ s2_ : LInt) : Nat → (Int → Option Bool)
 | 0 => fun _ => none
 | n + 1 => fun t13_ => Q91.s0 N s1_ s2_ (Q91.L N s1_ s2_ n) t13_
def Q91.l0 (N : Nat) (s1_ s2_ : LInt) (n : Nat) : Int → Option Bool := (Q91.L N s1_ s2_ n)
theorem Q91.l0_s (N : Nat) (s1_ s2_ : LInt) (n : Nat) (t13_ : Int) : Q91.l0 N s1_ s2_ (n + 1) t13_ = Q91.s0 N s1_ s2_ (Q91.l0 N s1_ s2_ n) t13_ := rfl
def Q91 (N : Nat) (s1_ s2_ : LInt) : Option Bool := Q91.e N (Q91.l0 N s1_ s2_ N) s1_ s2_
def Q74.e (N : Nat) (p_ q_ : TPos) : Option Bool :=
 bif (eqI p_.2.2.1 q_.2.2.1) then ((Q91 N p_.1 q_.1).bind fun y1 =>
  bif y1 then ((Q91 N p_.2.1.1 q_.2.1.1).bind fun y2 =>
   bif y2 then ((Q91 N p_.2.1.2 q_.2.1.2).bind fun y3 =>
    some y3)
   else some false)
  else some false)
 else some false
def Q74 (N : Nat) (p_ q_ : TPos) : Option Bool := Q74.e N p_ q_
def Q49.e (N : Nat) (r0 : Int → Int → Option Int) (g_ : (TRules × ((List TPos) × LMv))) : Option Int :=
 r0 0 0
def Q49.s0 (N : Nat) (g_ : (TRules × ((List TPos) × LMv))) (r0 : Int → Int → Option Int) (n_ t11_ : Int) : Option Int :=
 bif (ltI t11_ (g_.2.1.length : Int)) then (chk ((leI 0 t11_) && (ltI t11_ (g_.2.1.length : Int))) <|
  bothK (let v2 : Int := (w64 ((g_.2.1.length : Int) - 1))
   chk ((leI 0 v2) && (ltI v2 (g_.2.1.length : Int))) <|
   (Q74 N (gD (([] : LInt), ((([] : LInt), ([] : LInt)), ((0 : Int), (0 : Int)))) g_.2.1 t11_) (gD (([] : LInt), ((([] : LInt), ([] : LInt)), ((0 : Int), (0 : Int)))) g_.2.1 v2)).bind fun y3 =>
   bif y3 then (r0 (w64 (n_ + 1)) (w64 (t11_ + 1)))
   else r0 n_ (w64 (t11_ + 1))) (let v4 : Int := (w64 ((g_.2.1.length : Int) - 1))
   chk ((leI 0 v4) && (ltI v4 (g_.2.1.length : Int))) <|
   (Q74 N (gD (([] : LInt), ((([] : LInt), ([] : LInt)), ((0 : Int), (0 : Int)))) g_.2.1 t11_) (gD (([] : LInt), ((([] : LInt), ([] : LInt)), ((0 : Int), (0 : Int)))) g_.2.1 v4)).bind fun y5 =>
   bif y5 then (r0 (w64 (n_ + 1)) (w64 (t11_ + 1)))
   else r0 n_ (w64 (t11_ + 1))))
 else some n_
def Q49.L (N : Nat) (g_ : (TRules × ((List TPos) × LMv))) : Nat → (Int → Int → Option Int)
 | 0 => fun _ _ => none
 | n + 1 => fun n_ t11_ => Q49.s0 N g_ (Q49.L N g_ n) n_ t11_
def Q49.l0 (N : Nat) (g_ : (TRules × ((List TPos) × LMv))) (n : Nat) : Int → Int → Option Int := (Q49.L N g_ n)
theorem Q49.l0_s (N : Nat) (g_ : (TRules × ((List TPos) × LMv))) (n : Nat) (n_ t11_ : Int) : Q49.l0 N g_ (n + 1) n_ t11_ = Q49.s0 N g_ (Q49.l0 N g_ n) n_ t11_ := rfl
def Q49 (N : Nat) (g_ : (TRules × ((List TPos) × LMv))) : Option Int := Q49.e N (Q49.l0 N g_ N) g_
def Q28.e (N : Nat) (g_ : (TRules × ((List TPos) × LMv))) : Option Int :=
 bothK (let v1 : Int := (w64 ((g_.2.1.length : Int) - 1))
  chk ((leI 0 v1) && (ltI v1 (g_.2.1.length : Int))) <|
  (Q32 N g_.1 (gD (([] : LInt), ((([] : LInt), ([] : LInt)), ((0 : Int), (0 : Int)))) g_.2.1 v1)).bind fun y2 =>
  bif (eqI y2 0) then (bif (ltI 0 g_.1.2.2.2.2.2.2.2.2.2.2) then ((Q49 N g_).bind fun y4 =>
    bif (leI g_.1.2.2.2.2.2.2.2.2.2.2 y4) then some 3
    else some y2)
   else some y2)
  else some y2) (let v6 : Int := (w64 ((g_.2.1.length : Int) - 1))
  chk ((leI 0 v6) && (ltI v6 (g_.2.1.length : Int))) <|
  (Q32 N g_.1 (gD (([] : LInt), ((([] : LInt), ([] : LInt)), ((0 : Int), (0 : Int)))) g_.2.1 v6)).bind fun y7 =>
  bif (eqI y7 0) then (bif (ltI 0 g_.1.2.2.2.2.2.2.2.2.2.2) then ((Q49 N g_).bind fun y9 =>
    bif (leI g_.1.2.2.2.2.2.2.2.2.2.2 y9) then some 3
    else some y7)
   else some y7)
  else some y7)
def Q28 (N : Nat) (g_ : (TRules × ((List TPos) × LMv))) : Option Int := Q28.e N g_
def Q104.e (N : Nat) (r0 : Int → Option Int) (s_ : LMv) (v_ : TMv) : Option Int :=
 r0 0
def Q104.s0 (N : Nat) (s_ : LMv) (v_ : TMv) (r0 : Int → Option Int) (t8_ : Int) : Option Int :=
 bif (ltI t8_ (s_.length : Int)) then (chk ((leI 0 t8_) && (ltI t8_ (s_.length : Int))) <|
  bif ((eqI v_.1 (gD dM s_ t8_).1) && ((eqI v_.2.1 (gD dM s_ t8_).2.1) && ((eqI v_.2.2 (gD dM s_ t8_).2.2) && true))) then some t8_
  else r0 (w64 (t8_ + 1)))
 else some (-1)
def Q104.L (N : Nat) (s_ : LMv) (v_ : TMv) : Nat → (Int → Option Int)
 | 0 => fun _ => none
 | n + 1 => fun t8_ => Q104.s0 N s_ v_ (Q104.L N s_ v_ n) t8_
def Q104.l0 (N : Nat) (s_ : LMv) (v_ : TMv) (n : Nat) : Int → Option Int := (Q104.L N s_ v_ n)
theorem Q104.l0_s (N : Nat) (s_ : LMv) (v_ : TMv) (n : Nat) (t8_ : Int) : Q104.l0 N s_ v_ (n + 1) t8_ = Q104.s0 N s_ v_ (Q104.l0 N s_ v_ n) t8_ := rfl
def Q104 (N : Nat) (s_ : LMv) (v_ : TMv) : Option Int := Q104.e N (Q104.l0 N s_ v_ N) s_ v_
def Q90.e (N : Nat) (s_ : LMv) (v_ : TMv) : Option Bool :=
 (Q104 N s_ v_).bind fun y1 =>
 some (leI 0 y1)
def Q90 (N : Nat) (s_ : LMv) (v_ : TMv) : Option Bool := Q90.e N s_ v_
def Q73.e (N : Nat) (r_ : TRules) (p_ : TPos) (m_ : TMv) : Option (Bool × Int) :=
 (Q40 N r_ p_).bind fun y1 =>
 bif (!(eqI y1 0)) then (some (false, y1))
 else (Q33 N r_ p_).bind fun y2 =>
 (Q90 N y2 m_).bind fun y3 =>
 some (y3, 0)
def Q73 (N : Nat) (r_ : TRules) (p_ : TPos) (m_ : TMv) : Option (Bool × Int) := Q73.e N r_ p_ m_
def Q47.e (N : Nat) (r_ : TRules) (p_ : TPos) (m_ : TMv) : Option (TPos × Int) :=
 (Q73 N r_ p_ m_).bind fun y1 =>
 bif (!(eqI y1.2 0)) then (some (([], (([], []), (0, 0))), y1.2))
 else bif (!y1.1) then (some (([], (([], []), (0, 0))), 13))
 else (Q24 N r_ p_ m_).bind fun y2 =>
 some (y2, 0)
def Q47 (N : Nat) (r_ : TRules) (p_ : TPos) (m_ : TMv) : Option (TPos × Int) := Q47.e N r_ p_ m_
def Q26.e (N : Nat) (g_ : (TRules × ((List TPos) × LMv))) (m_ : TMv) : Option (Int × (TRules × ((List TPos) × LMv))) :=
 (Q28 N g_).bind fun y1 =>
 bif (!(eqI y1 0)) then (some (14, g_))
 else bothK (bothK (let v2 : Int := (w64 ((g_.2.1.length : Int) - 1))
   chk ((leI 0 v2) && (ltI v2 (g_.2.1.length : Int))) <|
   bothK ((Q47 N g_.1 (gD (([] : LInt), ((([] : LInt), ([] : LInt)), ((0 : Int), (0 : Int)))) g_.2.1 v2) m_).bind fun y3 =>
    bif (!(eqI y3.2 0)) then (some (13, g_))
    else bif (eqI (g_.2.2.length : Int) 400) then (some (9, g_))
    else bothK (bothK (chk (capOk 88 (g_.2.1.length + ([y3.1] : List TPos).length)) <|
      chk (capOk 24 (g_.2.2.length + ([m_] : List TMv).length)) <|
      some (0, (g_.1, ((g_.2.1 ++ [y3.1]), (g_.2.2 ++ [m_]))))) (chk (capOk 88 (g_.2.1.length + ([y3.1] : List TPos).length)) <|
      chk (capOk 24 (g_.2.2.length + ([m_] : List TMv).length)) <|
      some (0, (g_.1, ((g_.2.1 ++ [y3.1]), (g_.2.2 ++ [m_])))))) (chk (capOk 88 (g_.2.1.length + ([y3.1] : List TPos).length)) <|
     chk (capOk 24 (g_.2.2.length + ([m_] : List TMv).length)) <|
     some (0, (g_.1, ((g_.2.1 ++ [y3.1]), (g_.2.2 ++ [m_])))))) ((Q47 N g_.1 (gD (([] : LInt), ((([] : LInt), ([] : LInt)), ((0 : Int), (0 : Int)))) g_.2.1 v2) m_).bind fun y5 =>
    bif (!(eqI y5.2 0)) then (some (13, g_))
    else bif (eqI (g_.2.2.length : Int) 400) then (some (9, g_))
    else bothK (bothK (chk (capOk 88 (g_.2.1.length + ([y5.1] : List TPos).length)) <|
      chk (capOk 24 (g_.2.2.length + ([m_] : List TMv).length)) <|
      some (0, (g_.1, ((g_.2.1 ++ [y5.1]), (g_.2.2 ++ [m_]))))) (chk (capOk 88 (g_.2.1.length + ([y5.1] : List TPos).length)) <|
      chk (capOk 24 (g_.2.2.length + ([m_] : List TMv).length)) <|
      some (0, (g_.1, ((g_.2.1 ++ [y5.1]), (g_.2.2 ++ [m_])))))) (chk (capOk 88 (g_.2.1.length + ([y5.1] : List TPos).length)) <|
     chk (capOk 24 (g_.2.2.length + ([m_] : List TMv).length)) <|
     some (0, (g_.1, ((g_.2.1 ++ [y5.1]), (g_.2.2 ++ [m_]))))))) (bothK (bothK (let v7 : Int := (w64 ((g_.2.1.length : Int) - 1))
    chk ((leI 0 v7) && (ltI v7 (g_.2.1.length : Int))) <|
    bothK ((Q47 N g_.1 (gD (([] : LInt), ((([] : LInt), ([] : LInt)), ((0 : Int), (0 : Int)))) g_.2.1 v7) m_).bind fun y8 =>
     bif (!(eqI y8.2 0)) then (some (13, g_))
     else bif (eqI (g_.2.2.length : Int) 400) then (some (9, g_))
     else bothK (bothK (chk (capOk 88 (g_.2.1.length + ([y8.1] : List TPos).length)) <|
       chk (capOk 24 (g_.2.2.length + ([m_] : List TMv).length)) <|
       some (0, (g_.1, ((g_.2.1 ++ [y8.1]), (g_.2.2 ++ [m_]))))) (chk (capOk 88 (g_.2.1.length + ([y8.1] : List TPos).length)) <|
       chk (capOk 24 (g_.2.2.length + ([m_] : List TMv).length)) <|
       some (0, (g_.1, ((g_.2.1 ++ [y8.1]), (g_.2.2 ++ [m_])))))) (chk (capOk 88 (g_.2.1.length + ([y8.1] : List TPos).length)) <|
      chk (capOk 24 (g_.2.2.length + ([m_] : List TMv).length)) <|
      some (0, (g_.1, ((g_.2.1 ++ [y8.1]), (g_.2.2 ++ [m_])))))) ((Q47 N g_.1 (gD (([] : LInt), ((([] : LInt), ([] : LInt)), ((0 : Int), (0 : Int)))) g_.2.1 v7) m_).bind fun y10 =>
     bif (!(eqI y10.2 0)) then (some (13, g_))
     else bif (eqI (g_.2.2.length : Int) 400) then (some (9, g_))
     else bothK (bothK (chk (capOk 88 (g_.2.1.length + ([y10.1] : List TPos).length)) <|
       chk (capOk 24 (g_.2.2.length + ([m_] : List TMv).length)) <|
       some (0, (g_.1, ((g_.2.1 ++ [y10.1]), (g_.2.2 ++ [m_]))))) (chk (capOk 88 (g_.2.1.length + ([y10.1] : List TPos).length)) <|
       chk (capOk 24 (g_.2.2.length + ([m_] : List TMv).length)) <|
       some (0, (g_.1, ((g_.2.1 ++ [y10.1]), (g_.2.2 ++ [m_])))))) (chk (capOk 88 (g_.2.1.length + ([y10.1] : List TPos).length)) <|
      chk (capOk 24 (g_.2.2.length + ([m_] : List TMv).length)) <|
      some (0, (g_.1, ((g_.2.1 ++ [y10.1]), (g_.2.2 ++ [m_]))))))) (let v12 : Int := (w64 ((g_.2.1.length : Int) - 1))
    chk ((leI 0 v12) && (ltI v12 (g_.2.1.length : Int))) <|
    (Q47 N g_.1 (gD (([] : LInt), ((([] : LInt), ([] : LInt)), ((0 : Int), (0 : Int)))) g_.2.1 v12) m_).bind fun y13 =>
    bif (!(eqI y13.2 0)) then (some (13, g_))
    else bif (eqI (g_.2.2.length : Int) 400) then (some (9, g_))
    else bothK (bothK (chk (capOk 88 (g_.2.1.length + ([y13.1] : List TPos).length)) <|
      chk (capOk 24 (g_.2.2.length + ([m_] : List TMv).length)) <|
      some (0, (g_.1, ((g_.2.1 ++ [y13.1]), (g_.2.2 ++ [m_]))))) (chk (capOk 88 (g_.2.1.length + ([y13.1] : List TPos).length)) <|
      chk (capOk 24 (g_.2.2.length + ([m_] : List TMv).length)) <|
      some (0, (g_.1, ((g_.2.1 ++ [y13.1]), (g_.2.2 ++ [m_])))))) (chk (capOk 88 (g_.2.1.length + ([y13.1] : List TPos).length)) <|
     chk (capOk 24 (g_.2.2.length + ([m_] : List TMv).length)) <|
     some (0, (g_.1, ((g_.2.1 ++ [y13.1]), (g_.2.2 ++ [m_]))))))) (bothK (let v15 : Int := (w64 ((g_.2.1.length : Int) - 1))
    chk ((leI 0 v15) && (ltI v15 (g_.2.1.length : Int))) <|
    (Q47 N g_.1 (gD (([] : LInt), ((([] : LInt), ([] : LInt)), ((0 : Int), (0 : Int)))) g_.2.1 v15) m_).bind fun y16 =>
    bif (!(eqI y16.2 0)) then (some (13, g_))
    else bif (eqI (g_.2.2.length : Int) 400) then (some (9, g_))
    else bothK (bothK (chk (capOk 88 (g_.2.1.length + ([y16.1] : List TPos).length)) <|
      chk (capOk 24 (g_.2.2.length + ([m_] : List TMv).length)) <|
      some (0, (g_.1, ((g_.2.1 ++ [y16.1]), (g_.2.2 ++ [m_]))))) (chk (capOk 88 (g_.2.1.length + ([y16.1] : List TPos).length)) <|
      chk (capOk 24 (g_.2.2.length + ([m_] : List TMv).length)) <|
      some (0, (g_.1, ((g_.2.1 ++ [y16.1]), (g_.2.2 ++ [m_])))))) (chk (capOk 88 (g_.2.1.length + ([y16.1] : List TPos).length)) <|
     chk (capOk 24 (g_.2.2.length + ([m_] : List TMv).length)) <|
     some (0, (g_.1, ((g_.2.1 ++ [y16.1]), (g_.2.2 ++ [m_])))))) (let v18 : Int := (w64 ((g_.2.1.length : Int) - 1))
    chk ((leI 0 v18) && (ltI v18 (g_.2.1.length : Int))) <|
    (Q47 N g_.1 (gD (([] : LInt), ((([] : LInt), ([] : LInt)), ((0 : Int), (0 : Int)))) g_.2.1 v18) m_).bind fun y19 =>
    bif (!(eqI y19.2 0)) then (some (13, g_))
    else bif (eqI (g_.2.2.length : Int) 400) then (some (9, g_))
    else bothK (bothK (chk (capOk 88 (g_.2.1.length + ([y19.1] : List TPos).length)) <|
      chk (capOk 24 (g_.2.2.length + ([m_] : List TMv).length)) <|
      some (0, (g_.1, ((g_.2.1 ++ [y19.1]), (g_.2.2 ++ [m_]))))) (chk (capOk 88 (g_.2.1.length + ([y19.1] : List TPos).length)) <|
      chk (capOk 24 (g_.2.2.length + ([m_] : List TMv).length)) <|
      some (0, (g_.1, ((g_.2.1 ++ [y19.1]), (g_.2.2 ++ [m_])))))) (chk (capOk 88 (g_.2.1.length + ([y19.1] : List TPos).length)) <|
     chk (capOk 24 (g_.2.2.length + ([m_] : List TMv).length)) <|
     some (0, (g_.1, ((g_.2.1 ++ [y19.1]), (g_.2.2 ++ [m_]))))))))) (bothK (let v21 : Int := (w64 ((g_.2.1.length : Int) - 1))
  chk ((leI 0 v21) && (ltI v21 (g_.2.1.length : Int))) <|
  bothK ((Q47 N g_.1 (gD (([] : LInt), ((([] : LInt), ([] : LInt)), ((0 : Int), (0 : Int)))) g_.2.1 v21) m_).bind fun y22 =>
   bif (!(eqI y22.2 0)) then (some (13, g_))
   else bif (eqI (g_.2.2.length : Int) 400) then (some (9, g_))
   else bothK (bothK (chk (capOk 88 (g_.2.1.length + ([y22.1] : List TPos).length)) <|
     chk (capOk 24 (g_.2.2.length + ([m_] : List TMv).length)) <|
     some (0, (g_.1, ((g_.2.1 ++ [y22.1]), (g_.2.2 ++ [m_]))))) (chk (capOk 88 (g_.2.1.length + ([y22.1] : List TPos).length)) <|
     chk (capOk 24 (g_.2.2.length + ([m_] : List TMv).length)) <|
     some (0, (g_.1, ((g_.2.1 ++ [y22.1]), (g_.2.2 ++ [m_])))))) (chk (capOk 88 (g_.2.1.length + ([y22.1] : List TPos).length)) <|
    chk (capOk 24 (g_.2.2.length + ([m_] : List TMv).length)) <|
    some (0, (g_.1, ((g_.2.1 ++ [y22.1]), (g_.2.2 ++ [m_])))))) ((Q47 N g_.1 (gD (([] : LInt), ((([] : LInt), ([] : LInt)), ((0 : Int), (0 : Int)))) g_.2.1 v21) m_).bind fun y24 =>
   bif (!(eqI y24.2 0)) then (some (13, g_))
   else bif (eqI (g_.2.2.length : Int) 400) then (some (9, g_))
   else bothK (bothK (chk (capOk 88 (g_.2.1.length + ([y24.1] : List TPos).length)) <|
     chk (capOk 24 (g_.2.2.length + ([m_] : List TMv).length)) <|
     some (0, (g_.1, ((g_.2.1 ++ [y24.1]), (g_.2.2 ++ [m_]))))) (chk (capOk 88 (g_.2.1.length + ([y24.1] : List TPos).length)) <|
     chk (capOk 24 (g_.2.2.length + ([m_] : List TMv).length)) <|
     some (0, (g_.1, ((g_.2.1 ++ [y24.1]), (g_.2.2 ++ [m_])))))) (chk (capOk 88 (g_.2.1.length + ([y24.1] : List TPos).length)) <|
    chk (capOk 24 (g_.2.2.length + ([m_] : List TMv).length)) <|
    some (0, (g_.1, ((g_.2.1 ++ [y24.1]), (g_.2.2 ++ [m_]))))))) (bothK (bothK (bothK (let v26 : Int := (w64 ((g_.2.1.length : Int) - 1))
    chk ((leI 0 v26) && (ltI v26 (g_.2.1.length : Int))) <|
    bothK ((Q47 N g_.1 (gD (([] : LInt), ((([] : LInt), ([] : LInt)), ((0 : Int), (0 : Int)))) g_.2.1 v26) m_).bind fun y27 =>
     bif (!(eqI y27.2 0)) then (some (13, g_))
     else bif (eqI (g_.2.2.length : Int) 400) then (some (9, g_))
     else bothK (bothK (chk (capOk 88 (g_.2.1.length + ([y27.1] : List TPos).length)) <|
       chk (capOk 24 (g_.2.2.length + ([m_] : List TMv).length)) <|
       some (0, (g_.1, ((g_.2.1 ++ [y27.1]), (g_.2.2 ++ [m_]))))) (chk (capOk 88 (g_.2.1.length + ([y27.1] : List TPos).length)) <|
       chk (capOk 24 (g_.2.2.length + ([m_] : List TMv).length)) <|
       some (0, (g_.1, ((g_.2.1 ++ [y27.1]), (g_.2.2 ++ [m_])))))) (chk (capOk 88 (g_.2.1.length + ([y27.1] : List TPos).length)) <|
      chk (capOk 24 (g_.2.2.length + ([m_] : List TMv).length)) <|
      some (0, (g_.1, ((g_.2.1 ++ [y27.1]), (g_.2.2 ++ [m_])))))) ((Q47 N g_.1 (gD (([] : LInt), ((([] : LInt), ([] : LInt)), ((0 : Int), (0 : Int)))) g_.2.1 v26) m_).bind fun y29 =>
     bif (!(eqI y29.2 0)) then (some (13, g_))
     else bif (eqI (g_.2.2.length : Int) 400) then (some (9, g_))
     else bothK (bothK (chk (capOk 88 (g_.2.1.length + ([y29.1] : List TPos).length)) <|
       chk (capOk 24 (g_.2.2.length + ([m_] : List TMv).length)) <|
       some (0, (g_.1, ((g_.2.1 ++ [y29.1]), (g_.2.2 ++ [m_]))))) (chk (capOk 88 (g_.2.1.length + ([y29.1] : List TPos).length)) <|
       chk (capOk 24 (g_.2.2.length + ([m_] : List TMv).length)) <|
       some (0, (g_.1, ((g_.2.1 ++ [y29.1]), (g_.2.2 ++ [m_])))))) (chk (capOk 88 (g_.2.1.length + ([y29.1] : List TPos).length)) <|
      chk (capOk 24 (g_.2.2.length + ([m_] : List TMv).length)) <|
      some (0, (g_.1, ((g_.2.1 ++ [y29.1]), (g_.2.2 ++ [m_]))))))) (let v31 : Int := (w64 ((g_.2.1.length : Int) - 1))
    chk ((leI 0 v31) && (ltI v31 (g_.2.1.length : Int))) <|
    (Q47 N g_.1 (gD (([] : LInt), ((([] : LInt), ([] : LInt)), ((0 : Int), (0 : Int)))) g_.2.1 v31) m_).bind fun y32 =>
    bif (!(eqI y32.2 0)) then (some (13, g_))
    else bif (eqI (g_.2.2.length : Int) 400) then (some (9, g_))
    else bothK (bothK (chk (capOk 88 (g_.2.1.length + ([y32.1] : List TPos).length)) <|
      chk (capOk 24 (g_.2.2.length + ([m_] : List TMv).length)) <|
      some (0, (g_.1, ((g_.2.1 ++ [y32.1]), (g_.2.2 ++ [m_]))))) (chk (capOk 88 (g_.2.1.length + ([y32.1] : List TPos).length)) <|
      chk (capOk 24 (g_.2.2.length + ([m_] : List TMv).length)) <|
      some (0, (g_.1, ((g_.2.1 ++ [y32.1]), (g_.2.2 ++ [m_])))))) (chk (capOk 88 (g_.2.1.length + ([y32.1] : List TPos).length)) <|
     chk (capOk 24 (g_.2.2.length + ([m_] : List TMv).length)) <|
     some (0, (g_.1, ((g_.2.1 ++ [y32.1]), (g_.2.2 ++ [m_]))))))) (bothK (let v34 : Int := (w64 ((g_.2.1.length : Int) - 1))
   chk ((leI 0 v34) && (ltI v34 (g_.2.1.length : Int))) <|
   bothK ((Q47 N g_.1 (gD (([] : LInt), ((([] : LInt), ([] : LInt)), ((0 : Int), (0 : Int)))) g_.2.1 v34) m_).bind fun y35 =>
    bif (!(eqI y35.2 0)) then (some (13, g_))
    else bif (eqI (g_.2.2.length : Int) 400) then (some (9, g_))
    else bothK (bothK (chk (capOk 88 (g_.2.1.length + ([y35.1] : List TPos).length)) <|
      chk (capOk 24 (g_.2.2.length + ([m_] : List TMv).length)) <|
      some (0, (g_.1, ((g_.2.1 ++ [y35.1]), (g_.2.2 ++ [m_]))))) (chk (capOk 88 (g_.2.1.length + ([y35.1] : List TPos).length)) <|
      chk (capOk 24 (g_.2.2.length + ([m_] : List TMv).length)) <|
      some (0, (g_.1, ((g_.2.1 ++ [y35.1]), (g_.2.2 ++ [m_])))))) (chk (capOk 88 (g_.2.1.length + ([y35.1] : List TPos).length)) <|
     chk (capOk 24 (g_.2.2.length + ([m_] : List TMv).length)) <|
     some (0, (g_.1, ((g_.2.1 ++ [y35.1]), (g_.2.2 ++ [m_])))))) ((Q47 N g_.1 (gD (([] : LInt), ((([] : LInt), ([] : LInt)), ((0 : Int), (0 : Int)))) g_.2.1 v34) m_).bind fun y37 =>
    bif (!(eqI y37.2 0)) then (some (13, g_))
    else bif (eqI (g_.2.2.length : Int) 400) then (some (9, g_))
    else bothK (bothK (chk (capOk 88 (g_.2.1.length + ([y37.1] : List TPos).length)) <|
      chk (capOk 24 (g_.2.2.length + ([m_] : List TMv).length)) <|
      some (0, (g_.1, ((g_.2.1 ++ [y37.1]), (g_.2.2 ++ [m_]))))) (chk (capOk 88 (g_.2.1.length + ([y37.1] : List TPos).length)) <|
      chk (capOk 24 (g_.2.2.length + ([m_] : List TMv).length)) <|
      some (0, (g_.1, ((g_.2.1 ++ [y37.1]), (g_.2.2 ++ [m_])))))) (chk (capOk 88 (g_.2.1.length + ([y37.1] : List TPos).length)) <|
     chk (capOk 24 (g_.2.2.length + ([m_] : List TMv).length)) <|
     some (0, (g_.1, ((g_.2.1 ++ [y37.1]), (g_.2.2 ++ [m_]))))))) (bothK (let v39 : Int := (w64 ((g_.2.1.length : Int) - 1))
    chk ((leI 0 v39) && (ltI v39 (g_.2.1.length : Int))) <|
    (Q47 N g_.1 (gD (([] : LInt), ((([] : LInt), ([] : LInt)), ((0 : Int), (0 : Int)))) g_.2.1 v39) m_).bind fun y40 =>
    bif (!(eqI y40.2 0)) then (some (13, g_))
    else bif (eqI (g_.2.2.length : Int) 400) then (some (9, g_))
    else bothK (bothK (chk (capOk 88 (g_.2.1.length + ([y40.1] : List TPos).length)) <|
      chk (capOk 24 (g_.2.2.length + ([m_] : List TMv).length)) <|
      some (0, (g_.1, ((g_.2.1 ++ [y40.1]), (g_.2.2 ++ [m_]))))) (chk (capOk 88 (g_.2.1.length + ([y40.1] : List TPos).length)) <|
      chk (capOk 24 (g_.2.2.length + ([m_] : List TMv).length)) <|
      some (0, (g_.1, ((g_.2.1 ++ [y40.1]), (g_.2.2 ++ [m_])))))) (chk (capOk 88 (g_.2.1.length + ([y40.1] : List TPos).length)) <|
     chk (capOk 24 (g_.2.2.length + ([m_] : List TMv).length)) <|
     some (0, (g_.1, ((g_.2.1 ++ [y40.1]), (g_.2.2 ++ [m_])))))) (let v42 : Int := (w64 ((g_.2.1.length : Int) - 1))
    chk ((leI 0 v42) && (ltI v42 (g_.2.1.length : Int))) <|
    (Q47 N g_.1 (gD (([] : LInt), ((([] : LInt), ([] : LInt)), ((0 : Int), (0 : Int)))) g_.2.1 v42) m_).bind fun y43 =>
    bif (!(eqI y43.2 0)) then (some (13, g_))
    else bif (eqI (g_.2.2.length : Int) 400) then (some (9, g_))
    else bothK (bothK (chk (capOk 88 (g_.2.1.length + ([y43.1] : List TPos).length)) <|
      chk (capOk 24 (g_.2.2.length + ([m_] : List TMv).length)) <|
      some (0, (g_.1, ((g_.2.1 ++ [y43.1]), (g_.2.2 ++ [m_]))))) (chk (capOk 88 (g_.2.1.length + ([y43.1] : List TPos).length)) <|
      chk (capOk 24 (g_.2.2.length + ([m_] : List TMv).length)) <|
      some (0, (g_.1, ((g_.2.1 ++ [y43.1]), (g_.2.2 ++ [m_])))))) (chk (capOk 88 (g_.2.1.length + ([y43.1] : List TPos).length)) <|
     chk (capOk 24 (g_.2.2.length + ([m_] : List TMv).length)) <|
     some (0, (g_.1, ((g_.2.1 ++ [y43.1]), (g_.2.2 ++ [m_]))))))))) (bothK (bothK (let v45 : Int := (w64 ((g_.2.1.length : Int) - 1))
    chk ((leI 0 v45) && (ltI v45 (g_.2.1.length : Int))) <|
    (Q47 N g_.1 (gD (([] : LInt), ((([] : LInt), ([] : LInt)), ((0 : Int), (0 : Int)))) g_.2.1 v45) m_).bind fun y46 =>
    bif (!(eqI y46.2 0)) then (some (13, g_))
    else bif (eqI (g_.2.2.length : Int) 400) then (some (9, g_))
    else bothK (bothK (chk (capOk 88 (g_.2.1.length + ([y46.1] : List TPos).length)) <|
      chk (capOk 24 (g_.2.2.length + ([m_] : List TMv).length)) <|
      some (0, (g_.1, ((g_.2.1 ++ [y46.1]), (g_.2.2 ++ [m_]))))) (chk (capOk 88 (g_.2.1.length + ([y46.1] : List TPos).length)) <|
      chk (capOk 24 (g_.2.2.length + ([m_] : List TMv).length)) <|
      some (0, (g_.1, ((g_.2.1 ++ [y46.1]), (g_.2.2 ++ [m_])))))) (chk (capOk 88 (g_.2.1.length + ([y46.1] : List TPos).length)) <|
     chk (capOk 24 (g_.2.2.length + ([m_] : List TMv).length)) <|
     some (0, (g_.1, ((g_.2.1 ++ [y46.1]), (g_.2.2 ++ [m_])))))) (let v48 : Int := (w64 ((g_.2.1.length : Int) - 1))
    chk ((leI 0 v48) && (ltI v48 (g_.2.1.length : Int))) <|
    (Q47 N g_.1 (gD (([] : LInt), ((([] : LInt), ([] : LInt)), ((0 : Int), (0 : Int)))) g_.2.1 v48) m_).bind fun y49 =>
    bif (!(eqI y49.2 0)) then (some (13, g_))
    else bif (eqI (g_.2.2.length : Int) 400) then (some (9, g_))
    else bothK (bothK (chk (capOk 88 (g_.2.1.length + ([y49.1] : List TPos).length)) <|
      chk (capOk 24 (g_.2.2.length + ([m_] : List TMv).length)) <|
      some (0, (g_.1, ((g_.2.1 ++ [y49.1]), (g_.2.2 ++ [m_]))))) (chk (capOk 88 (g_.2.1.length + ([y49.1] : List TPos).length)) <|
      chk (capOk 24 (g_.2.2.length + ([m_] : List TMv).length)) <|
      some (0, (g_.1, ((g_.2.1 ++ [y49.1]), (g_.2.2 ++ [m_])))))) (chk (capOk 88 (g_.2.1.length + ([y49.1] : List TPos).length)) <|
     chk (capOk 24 (g_.2.2.length + ([m_] : List TMv).length)) <|
     some (0, (g_.1, ((g_.2.1 ++ [y49.1]), (g_.2.2 ++ [m_]))))))) (bothK (let v51 : Int := (w64 ((g_.2.1.length : Int) - 1))
   chk ((leI 0 v51) && (ltI v51 (g_.2.1.length : Int))) <|
   (Q47 N g_.1 (gD (([] : LInt), ((([] : LInt), ([] : LInt)), ((0 : Int), (0 : Int)))) g_.2.1 v51) m_).bind fun y52 =>
   bif (!(eqI y52.2 0)) then (some (13, g_))
   else bif (eqI (g_.2.2.length : Int) 400) then (some (9, g_))
   else bothK (bothK (chk (capOk 88 (g_.2.1.length + ([y52.1] : List TPos).length)) <|
     chk (capOk 24 (g_.2.2.length + ([m_] : List TMv).length)) <|
     some (0, (g_.1, ((g_.2.1 ++ [y52.1]), (g_.2.2 ++ [m_]))))) (chk (capOk 88 (g_.2.1.length + ([y52.1] : List TPos).length)) <|
     chk (capOk 24 (g_.2.2.length + ([m_] : List TMv).length)) <|
     some (0, (g_.1, ((g_.2.1 ++ [y52.1]), (g_.2.2 ++ [m_])))))) (chk (capOk 88 (g_.2.1.length + ([y52.1] : List TPos).length)) <|
    chk (capOk 24 (g_.2.2.length + ([m_] : List TMv).length)) <|
    some (0, (g_.1, ((g_.2.1 ++ [y52.1]), (g_.2.2 ++ [m_])))))) (bothK (let v54 : Int := (w64 ((g_.2.1.length : Int) - 1))
    chk ((leI 0 v54) && (ltI v54 (g_.2.1.length : Int))) <|
    (Q47 N g_.1 (gD (([] : LInt), ((([] : LInt), ([] : LInt)), ((0 : Int), (0 : Int)))) g_.2.1 v54) m_).bind fun y55 =>
    bif (!(eqI y55.2 0)) then (some (13, g_))
    else bif (eqI (g_.2.2.length : Int) 400) then (some (9, g_))
    else bothK (bothK (chk (capOk 88 (g_.2.1.length + ([y55.1] : List TPos).length)) <|
      chk (capOk 24 (g_.2.2.length + ([m_] : List TMv).length)) <|
      some (0, (g_.1, ((g_.2.1 ++ [y55.1]), (g_.2.2 ++ [m_]))))) (chk (capOk 88 (g_.2.1.length + ([y55.1] : List TPos).length)) <|
      chk (capOk 24 (g_.2.2.length + ([m_] : List TMv).length)) <|
      some (0, (g_.1, ((g_.2.1 ++ [y55.1]), (g_.2.2 ++ [m_])))))) (chk (capOk 88 (g_.2.1.length + ([y55.1] : List TPos).length)) <|
     chk (capOk 24 (g_.2.2.length + ([m_] : List TMv).length)) <|
     some (0, (g_.1, ((g_.2.1 ++ [y55.1]), (g_.2.2 ++ [m_])))))) (let v57 : Int := (w64 ((g_.2.1.length : Int) - 1))
    chk ((leI 0 v57) && (ltI v57 (g_.2.1.length : Int))) <|
    (Q47 N g_.1 (gD (([] : LInt), ((([] : LInt), ([] : LInt)), ((0 : Int), (0 : Int)))) g_.2.1 v57) m_).bind fun y58 =>
    bif (!(eqI y58.2 0)) then (some (13, g_))
    else bif (eqI (g_.2.2.length : Int) 400) then (some (9, g_))
    else bothK (bothK (chk (capOk 88 (g_.2.1.length + ([y58.1] : List TPos).length)) <|
      chk (capOk 24 (g_.2.2.length + ([m_] : List TMv).length)) <|
      some (0, (g_.1, ((g_.2.1 ++ [y58.1]), (g_.2.2 ++ [m_]))))) (chk (capOk 88 (g_.2.1.length + ([y58.1] : List TPos).length)) <|
      chk (capOk 24 (g_.2.2.length + ([m_] : List TMv).length)) <|
      some (0, (g_.1, ((g_.2.1 ++ [y58.1]), (g_.2.2 ++ [m_])))))) (chk (capOk 88 (g_.2.1.length + ([y58.1] : List TPos).length)) <|
     chk (capOk 24 (g_.2.2.length + ([m_] : List TMv).length)) <|
     some (0, (g_.1, ((g_.2.1 ++ [y58.1]), (g_.2.2 ++ [m_])))))))))))
def Q26 (N : Nat) (g_ : (TRules × ((List TPos) × LMv))) (m_ : TMv) : Option (Int × (TRules × ((List TPos) × LMv))) := Q26.e N g_ m_
def Q27.e (N : Nat) (g_ : (TRules × ((List TPos) × LMv))) : Option TPos :=
 let v1 : Int := (w64 ((g_.2.1.length : Int) - 1))
 chk ((leI 0 v1) && (ltI v1 (g_.2.1.length : Int))) <|
 (Q18 N (gD (([] : LInt), ((([] : LInt), ([] : LInt)), ((0 : Int), (0 : Int)))) g_.2.1 v1)).bind fun y2 =>
 some y2
def Q27 (N : Nat) (g_ : (TRules × ((List TPos) × LMv))) : Option TPos := Q27.e N g_
def Q10.e (N : Nat) (r0 : Int → ByteArray → Int → Int → Bool → Bool → Int → Int → Int → (List TPiece) → LInt → (List TEnd) → (List TPos) → LMv → Option (TPos × Int × Int)) (r_ : TRules) (l_ : LMv) : Option (TPos × Int × Int) :=
 (Q25 N r_).bind fun y1 =>
 oCase y1.1 (bif (!(eqI y1.2 0)) then (some (([], (([], []), (0, 0))), (0, y1.2)))
  else none) fun b2 =>
 bif (!(eqI y1.2 0)) then (some (([], (([], []), (0, 0))), (0, y1.2)))
 else r0 0 b2.1.1 b2.1.2.1 b2.1.2.2.1 b2.1.2.2.2.2.2.1 b2.1.2.2.2.2.2.2.1 b2.1.2.2.2.2.2.2.2.2.1 b2.1.2.2.2.2.2.2.2.2.2.1 b2.1.2.2.2.2.2.2.2.2.2.2 b2.1.2.2.2.1 b2.1.2.2.2.2.1 b2.1.2.2.2.2.2.2.2.1 b2.2.1 b2.2.2
def Q10.s0 (N : Nat) (r_ : TRules) (l_ : LMv) (r0 : Int → ByteArray → Int → Int → Bool → Bool → Int → Int → Int → (List TPiece) → LInt → (List TEnd) → (List TPos) → LMv → Option (TPos × Int × Int)) (t23_ : Int) (g_ : ByteArray) (g_2 g_3 : Int) (g_4 g_5 : Bool) (g_6 g_7 g_8 : Int) (m3_ : (List TPiece)) (m4_ : LInt) (m5_ : (List TEnd)) (m6_ : (List TPos)) (m7_ : LMv) : Option (TPos × Int × Int) :=
 bif (ltI t23_ (l_.length : Int)) then (chk ((leI 0 t23_) && (ltI t23_ (l_.length : Int))) <|
  (Q26 N ((g_, (g_2, (g_3, (m3_, (m4_, (g_4, (g_5, (m5_, (g_6, (g_7, g_8)))))))))), (m6_, m7_)) (gD dM l_ t23_)).bind fun y4 =>
  bif (!(eqI y4.1 0)) then (some (([], (([], []), (0, 0))), (0, y4.1)))
  else r0 (w64 (t23_ + 1)) y4.2.1.1 y4.2.1.2.1 y4.2.1.2.2.1 y4.2.1.2.2.2.2.2.1 y4.2.1.2.2.2.2.2.2.1 y4.2.1.2.2.2.2.2.2.2.2.1 y4.2.1.2.2.2.2.2.2.2.2.2.1 y4.2.1.2.2.2.2.2.2.2.2.2.2 y4.2.1.2.2.2.1 y4.2.1.2.2.2.2.1 y4.2.1.2.2.2.2.2.2.2.1 y4.2.2.1 y4.2.2.2)
 else (Q27 N ((g_, (g_2, (g_3, (m3_, (m4_, (g_4, (g_5, (m5_, (g_6, (g_7, g_8)))))))))), (m6_, m7_))).bind fun y5 =>
 (Q28 N ((g_, (g_2, (g_3, (m3_, (m4_, (g_4, (g_5, (m5_, (g_6, (g_7, g_8)))))))))), (m6_, m7_))).bind fun y6 =>
 some (y5, (y6, 0))
def Q10.L (N : Nat) (r_ : TRules) (l_ : LMv) : Nat → (Int → ByteArray → Int → Int → Bool → Bool → Int → Int → Int → (List TPiece) → LInt → (List TEnd) → (List TPos) → LMv → Option (TPos × Int × Int))
 | 0 => fun _ _ _ _ _ _ _ _ _ _ _ _ _ _ => none
 | n + 1 => fun t23_ g_ g_2 g_3 g_4 g_5 g_6 g_7 g_8 m3_ m4_ m5_ m6_ m7_ => Q10.s0 N r_ l_ (Q10.L N r_ l_ n) t23_ g_ g_2 g_3 g_4 g_5 g_6 g_7 g_8 m3_ m4_ m5_ m6_ m7_
def Q10.l0 (N : Nat) (r_ : TRules) (l_ : LMv) (n : Nat) : Int → ByteArray → Int → Int → Bool → Bool → Int → Int → Int → (List TPiece) → LInt → (List TEnd) → (List TPos) → LMv → Option (TPos × Int × Int) := (Q10.L N r_ l_ n)
theorem Q10.l0_s (N : Nat) (r_ : TRules) (l_ : LMv) (n : Nat) (t23_ : Int) (g_ : ByteArray) (g_2 g_3 : Int) (g_4 g_5 : Bool) (g_6 g_7 g_8 : Int) (m3_ : (List TPiece)) (m4_ : LInt) (m5_ : (List TEnd)) (m6_ : (List TPos)) (m7_ : LMv) : Q10.l0 N r_ l_ (n + 1) t23_ g_ g_2 g_3 g_4 g_5 g_6 g_7 g_8 m3_ m4_ m5_ m6_ m7_ = Q10.s0 N r_ l_ (Q10.l0 N r_ l_ n) t23_ g_ g_2 g_3 g_4 g_5 g_6 g_7 g_8 m3_ m4_ m5_ m6_ m7_ := rfl
def Q10 (N : Nat) (r_ : TRules) (l_ : LMv) : Option (TPos × Int × Int) := Q10.e N (Q10.l0 N r_ l_ N) r_ l_
def Q38.e (N : Nat) (r_ : TRules) (p_ : TPos) (n_ : Int) : Option Int :=
 (Q40 N r_ p_).bind fun y1 =>
 bif (!(eqI y1 0)) then some y1
 else bif (ltI n_ 1) then some 4
 else bif (ltI 5 n_) then some 4
 else bif (eqI (Int.tmod n_ 2) 0) then some 4
 else (Q32 N r_ p_).bind fun y2 =>
 bif (!(eqI y2 0)) then some 14
 else (Q63 N r_ p_ n_).bind fun y3 =>
 some y3.2
def Q38 (N : Nat) (r_ : TRules) (p_ : TPos) (n_ : Int) : Option Int := Q38.e N r_ p_ n_
def Q89.e (N : Nat) (player : Int) : Option Int :=
 chk ((leI 0 player) && (ltI player (([1, 2]).length : Int))) <|
 some (gD (0 : Int) [1, 2] player)
def Q89 (N : Nat) (player : Int) : Option Int := Q89.e N player
def Q72.e (N : Nat) (par : TRules → TPos → Int → Option Bool) (r0 : Int → Int → LInt → LInt → LInt → Int → Int → LMv → Option Bool) (r_ : TRules) (p_ : TPos) (m_ : TMv) (n_ : Int) : Option Bool :=
 (Q24 N r_ p_ m_).bind fun y1 =>
 (Q32 N r_ y1).bind fun y2 =>
 bif (!(eqI y2 0)) then ((Q89 N p_.2.2.1).bind fun y3 =>
  some (eqI y2 y3))
 else bif (ltI n_ 3) then some false
 else (Q33 N r_ y1).bind fun y4 =>
 r0 (y4.length : Int) 0 y1.1 y1.2.1.1 y1.2.1.2 y1.2.2.1 y1.2.2.2 y4
def Q72.s0 (N : Nat) (par : TRules → TPos → Int → Option Bool) (r_ : TRules) (p_ : TPos) (m_ : TMv) (n_ : Int) (r0 : Int → Int → LInt → LInt → LInt → Int → Int → LMv → Option Bool) (t33_ t34_ : Int) (m3_ m4_ m5_ : LInt) (q_ q_2 : Int) (m7_ : LMv) : Option Bool :=
 bif (ltI t34_ t33_) then (chk ((leI 0 t34_) && (ltI t34_ (m7_.length : Int))) <|
  (Q24 N r_ (m3_, ((m4_, m5_), (q_, q_2))) (gD dM m7_ t34_)).bind fun y5 =>
  (Q32 N r_ y5).bind fun y6 =>
  (Q89 N p_.2.2.1).bind fun y7 =>
  bif (eqI y6 y7) then (r0 t33_ (w64 (t34_ + 1)) m3_ m4_ m5_ q_ q_2 m7_)
  else bif (eqI y6 0) then ((par r_ y5 (w64 (n_ - 2))).bind fun y8 =>
   bif (!y8) then some false
   else r0 t33_ (w64 (t34_ + 1)) m3_ m4_ m5_ q_ q_2 m7_)
  else some false)
 else some true
def Q72.L (N : Nat) (par : TRules → TPos → Int → Option Bool) (r_ : TRules) (p_ : TPos) (m_ : TMv) (n_ : Int) : Nat → (Int → Int → LInt → LInt → LInt → Int → Int → LMv → Option Bool)
 | 0 => fun _ _ _ _ _ _ _ _ => none
 | n + 1 => fun t33_ t34_ m3_ m4_ m5_ q_ q_2 m7_ => Q72.s0 N par r_ p_ m_ n_ (Q72.L N par r_ p_ m_ n_ n) t33_ t34_ m3_ m4_ m5_ q_ q_2 m7_
def Q72.l0 (N : Nat) (par : TRules → TPos → Int → Option Bool) (r_ : TRules) (p_ : TPos) (m_ : TMv) (n_ : Int) (n : Nat) : Int → Int → LInt → LInt → LInt → Int → Int → LMv → Option Bool := (Q72.L N par r_ p_ m_ n_ n)
theorem Q72.l0_s (N : Nat) (par : TRules → TPos → Int → Option Bool) (r_ : TRules) (p_ : TPos) (m_ : TMv) (n_ : Int) (n : Nat) (t33_ t34_ : Int) (m3_ m4_ m5_ : LInt) (q_ q_2 : Int) (m7_ : LMv) : Q72.l0 N par r_ p_ m_ n_ (n + 1) t33_ t34_ m3_ m4_ m5_ q_ q_2 m7_ = Q72.s0 N par r_ p_ m_ n_ (Q72.l0 N par r_ p_ m_ n_ n) t33_ t34_ m3_ m4_ m5_ q_ q_2 m7_ := rfl
def Q72 (N : Nat) (par : TRules → TPos → Int → Option Bool) (r_ : TRules) (p_ : TPos) (m_ : TMv) (n_ : Int) : Option Bool := Q72.e N par (Q72.l0 N par r_ p_ m_ n_ N) r_ p_ m_ n_
end
end Go.Proofs.YtfihdjjilofklaaGreat.Am
