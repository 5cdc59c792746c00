/- PRINTED by gen.py: what the functions compute, as plain Lean functions with fuel. -/
import Derived.Test.YtpielijehhhobaaFnf
set_option linter.unusedVariables false
set_option linter.unusedSimpArgs false
namespace Go.Proofs.Ytpielijehhhobaa.Am
open Go
noncomputable section
def Q53.e (N : Nat) (r0 : Int → Int → Int → Int → Option ((List (LMv × List Int × (Int × (Int × Bool)))) × Int)) (n_ : ((List (LMv × List Int × (Int × (Int × Bool)))) × Int)) (own : Bool) : Option ((List (LMv × List Int × (Int × (Int × Bool)))) × Int) :=
 chk (leI 0 n_.2) <|
 r0 1099511627776 0 ((gD (([] : LMv), ([] : List Int), ((0 : Int), ((0 : Int), false))) n_.1 n_.2).2.1.length : Int) 0
def Q53.s0 (N : Nat) (n_ : ((List (LMv × List Int × (Int × (Int × Bool)))) × Int)) (own : Bool) (r0 : Int → Int → Int → Int → Option ((List (LMv × List Int × (Int × (Int × Bool)))) × Int)) (least sum t14_ t15_ : Int) : Option ((List (LMv × List Int × (Int × (Int × Bool)))) × Int) :=
 bif (ltI t15_ t14_) then (chk ((leI 0 t15_) && (ltI t15_ ((gD (([] : LMv), ([] : List Int), ((0 : Int), ((0 : Int), false))) n_.1 n_.2).2.1.length : Int))) <|
  chk (eqI ((gD (([] : LMv), ([] : List Int), ((0 : Int), ((0 : Int), false))) n_.1 n_.2).2.1.length : Int) ((gD (([] : LMv), ([] : List Int), ((0 : Int), ((0 : Int), false))) n_.1 n_.2).2.1.length : Int)) <|
  let v2 : Int := (gD (-1 : Int) (gD (([] : LMv), ([] : List Int), ((0 : Int), ((0 : Int), false))) n_.1 n_.2).2.1 t15_)
  chk (leI 0 v2) <|
  chk (leI 0 v2) <|
  bif (!own) then (let v4 : Int := (w64 (sum + (gD (([] : LMv), ([] : List Int), ((0 : Int), ((0 : Int), false))) n_.1 v2).2.2.1))
   r0 (bif (ltI (gD (([] : LMv), ([] : List Int), ((0 : Int), ((0 : Int), false))) n_.1 v2).2.2.2.1 least) then (gD (([] : LMv), ([] : List Int), ((0 : Int), ((0 : Int), false))) n_.1 v2).2.2.2.1 else least) (bif (ltI v4 1099511627776) then v4 else 1099511627776) t14_ (w64 (t15_ + 1)))
  else let v7 : Int := (w64 (sum + (gD (([] : LMv), ([] : List Int), ((0 : Int), ((0 : Int), false))) n_.1 v2).2.2.2.1))
  r0 (bif (ltI (gD (([] : LMv), ([] : List Int), ((0 : Int), ((0 : Int), false))) n_.1 v2).2.2.1 least) then (gD (([] : LMv), ([] : List Int), ((0 : Int), ((0 : Int), false))) n_.1 v2).2.2.1 else least) (bif (ltI v7 1099511627776) then v7 else 1099511627776) t14_ (w64 (t15_ + 1)))
 else chk (leI 0 n_.2) <|
 let v9 : (List (LMv × List Int × (Int × (Int × Bool)))) := (n_.1.set n_.2.toNat ((gD (([] : LMv), ([] : List Int), ((0 : Int), ((0 : Int), false))) n_.1 n_.2).1, ((gD (([] : LMv), ([] : List Int), ((0 : Int), ((0 : Int), false))) n_.1 n_.2).2.1, (least, (gD (([] : LMv), ([] : List Int), ((0 : Int), ((0 : Int), false))) n_.1 n_.2).2.2.2))))
 chk (leI 0 n_.2) <|
 let v10 : (List (LMv × List Int × (Int × (Int × Bool)))) := (v9.set n_.2.toNat ((gD (([] : LMv), ([] : List Int), ((0 : Int), ((0 : Int), false))) v9 n_.2).1, ((gD (([] : LMv), ([] : List Int), ((0 : Int), ((0 : Int), false))) v9 n_.2).2.1, ((gD (([] : LMv), ([] : List Int), ((0 : Int), ((0 : Int), false))) v9 n_.2).2.2.1, (sum, (gD (([] : LMv), ([] : List Int), ((0 : Int), ((0 : Int), false))) v9 n_.2).2.2.2.2)))))
 bif (!own) then (chk (leI 0 n_.2) <|
  let v11 : (List (LMv × List Int × (Int × (Int × Bool)))) := (v10.set n_.2.toNat ((gD (([] : LMv), ([] : List Int), ((0 : Int), ((0 : Int), false))) v10 n_.2).1, ((gD (([] : LMv), ([] : List Int), ((0 : Int), ((0 : Int), false))) v10 n_.2).2.1, (sum, (gD (([] : LMv), ([] : List Int), ((0 : Int), ((0 : Int), false))) v10 n_.2).2.2.2))))
  chk (leI 0 n_.2) <|
  some ((v11.set n_.2.toNat ((gD (([] : LMv), ([] : List Int), ((0 : Int), ((0 : Int), false))) v11 n_.2).1, ((gD (([] : LMv), ([] : List Int), ((0 : Int), ((0 : Int), false))) v11 n_.2).2.1, ((gD (([] : LMv), ([] : List Int), ((0 : Int), ((0 : Int), false))) v11 n_.2).2.2.1, (least, (gD (([] : LMv), ([] : List Int), ((0 : Int), ((0 : Int), false))) v11 n_.2).2.2.2.2))))), n_.2))
 else some (v10, n_.2)
def Q53.L (N : Nat) (n_ : ((List (LMv × List Int × (Int × (Int × Bool)))) × Int)) (own : Bool) : Nat → (Int → Int → Int → Int → Option ((List (LMv × List Int × (Int × (Int × Bool)))) × Int))
 | 0 => fun _ _ _ _ => none
 | n + 1 => fun least sum t14_ t15_ => Q53.s0 N n_ own (Q53.L N n_ own n) least sum t14_ t15_
def Q53.l0 (N : Nat) (n_ : ((List (LMv × List Int × (Int × (Int × Bool)))) × Int)) (own : Bool) (n : Nat) : Int → Int → Int → Int → Option ((List (LMv × List Int × (Int × (Int × Bool)))) × Int) := (Q53.L N n_ own n)
theorem Q53.l0_s (N : Nat) (n_ : ((List (LMv × List Int × (Int × (Int × Bool)))) × Int)) (own : Bool) (n : Nat) (least sum t14_ t15_ : Int) : Q53.l0 N n_ own (n + 1) least sum t14_ t15_ = Q53.s0 N n_ own (Q53.l0 N n_ own n) least sum t14_ t15_ := rfl
def Q53 (N : Nat) (n_ : ((List (LMv × List Int × (Int × (Int × Bool)))) × Int)) (own : Bool) : Option ((List (LMv × List Int × (Int × (Int × Bool)))) × Int) := Q53.e N (Q53.l0 N n_ own N) n_ own
def Q34.e (N : Nat) (b_ : TBoard) : Option LMv :=
 (Q32 N b_).bind fun y1 =>
 bif (!(eqI y1 0)) then (some [])
 else (Q38 N b_.1 b_.2.1).bind fun y2 =>
 some y2
def Q34 (N : Nat) (b_ : TBoard) : Option LMv := Q34.e N b_
def Q52.e (N : Nat) (r0 : LMv → Int → Int → Int → Int → ByteArray → Int → Int → Bool → Bool → Int → Int → Int → Int → Int → Int → (List TPiece) → LInt → (List TEnd) → LInt → LInt → LInt → (List TUndo) → (List (LMv × List Int × (Int × (Int × Bool)))) → Option ((TBoard × (Int × Int)) × ((List (LMv × List Int × (Int × (Int × Bool)))) × Int))) (x_ : (TBoard × (Int × Int))) (n_ : ((List (LMv × List Int × (Int × (Int × Bool)))) × Int)) : Option ((TBoard × (Int × Int)) × ((List (LMv × List Int × (Int × (Int × Bool)))) × Int)) :=
 chk (leI 0 n_.2) <|
 let v1 : (List (LMv × List Int × (Int × (Int × Bool)))) := (n_.1.set n_.2.toNat ((gD (([] : LMv), ([] : List Int), ((0 : Int), ((0 : Int), false))) n_.1 n_.2).1, ((gD (([] : LMv), ([] : List Int), ((0 : Int), ((0 : Int), false))) n_.1 n_.2).2.1, ((gD (([] : LMv), ([] : List Int), ((0 : Int), ((0 : Int), false))) n_.1 n_.2).2.2.1, ((gD (([] : LMv), ([] : List Int), ((0 : Int), ((0 : Int), false))) n_.1 n_.2).2.2.2.1, true)))))
 (Q34 N x_.1).bind fun y2 =>
 chk (leI 0 n_.2) <|
 let v3 : (List (LMv × List Int × (Int × (Int × Bool)))) := (v1.set n_.2.toNat (y2, (gD (([] : LMv), ([] : List Int), ((0 : Int), ((0 : Int), false))) v1 n_.2).2))
 chk (leI 0 n_.2) <|
 r0 (gD (([] : LMv), ([] : List Int), ((0 : Int), ((0 : Int), false))) v3 n_.2).1 ((gD (([] : LMv), ([] : List Int), ((0 : Int), ((0 : Int), false))) v3 n_.2).1.length : Int) 0 x_.2.1 (w64 (x_.2.2 + 1)) x_.1.1.1 x_.1.1.2.1 x_.1.1.2.2.1 x_.1.1.2.2.2.2.2.1 x_.1.1.2.2.2.2.2.2.1 x_.1.1.2.2.2.2.2.2.2.2.1 x_.1.1.2.2.2.2.2.2.2.2.2.1 x_.1.1.2.2.2.2.2.2.2.2.2.2 x_.1.2.1.2.2.1 x_.1.2.1.2.2.2 x_.1.2.2.1 x_.1.1.2.2.2.1 x_.1.1.2.2.2.2.1 x_.1.1.2.2.2.2.2.2.2.1 x_.1.2.1.1 x_.1.2.1.2.1.1 x_.1.2.1.2.1.2 x_.1.2.2.2 v3
def Q52.s0 (N : Nat) (x_ : (TBoard × (Int × Int))) (n_ : ((List (LMv × List Int × (Int × (Int × Bool)))) × Int)) (r0 : LMv → Int → Int → Int → Int → ByteArray → Int → Int → Bool → Bool → Int → Int → Int → Int → Int → Int → (List TPiece) → LInt → (List TEnd) → LInt → LInt → LInt → (List TUndo) → (List (LMv × List Int × (Int × (Int × Bool)))) → Option ((TBoard × (Int × Int)) × ((List (LMv × List Int × (Int × (Int × Bool)))) × Int))) (t27_ : LMv) (t28_ t29_ x_2 x_3 : Int) (m1_ : ByteArray) (m1_2 m1_3 : Int) (m1_4 m1_5 : Bool) (m1_6 m1_7 m1_8 m1_9 m1_10 m1_11 : Int) (m11_ : (List TPiece)) (m12_ : LInt) (m13_ : (List TEnd)) (m14_ m15_ m16_ : LInt) (m17_ : (List TUndo)) (nodes : (List (LMv × List Int × (Int × (Int × Bool))))) : Option ((TBoard × (Int × Int)) × ((List (LMv × List Int × (Int × (Int × Bool)))) × Int)) :=
 bif (ltI t29_ t28_) then (chk ((leI 0 t29_) && (ltI t29_ (t27_.length : Int))) <|
  (Q50 N ((m1_, (m1_2, (m1_3, (m11_, (m12_, (m1_4, (m1_5, (m13_, (m1_6, (m1_7, m1_8)))))))))), ((m14_, ((m15_, m16_), (m1_9, m1_10))), (m1_11, m17_))) (gD ((0 : Int), ((0 : Int), (0 : Int))) t27_ t29_)).bind fun y5 =>
  chk (leI 0 n_.2) <|
  bothK ((Q29 N (y5, (x_2, x_3))).bind fun y6 =>
   let v7 : (List (LMv × List Int × (Int × (Int × Bool)))) := (nodes ++ [([], ([], y6.1.2.2))])
   chk ((eqI ((gD (([] : LMv), ([] : List Int), ((0 : Int), ((0 : Int), false))) nodes n_.2).2.1.length : Int) ((gD (([] : LMv), ([] : List Int), ((0 : Int), ((0 : Int), false))) v7 n_.2).2.1.length : Int)) && (true && capOk 8 ((gD (([] : LMv), ([] : List Int), ((0 : Int), ((0 : Int), false))) v7 n_.2).2.1.length + 1))) <|
   chk (leI 0 n_.2) <|
   chk ((eqI n_.2 n_.2) && ((eqI n_.2 n_.2) && (eqI (((gD (([] : LMv), ([] : List Int), ((0 : Int), ((0 : Int), false))) nodes n_.2).2.1.length : Int) + 1) (((gD (([] : LMv), ([] : List Int), ((0 : Int), ((0 : Int), false))) v7 n_.2).2.1.length : Int) + 1)))) <|
   (Q51 N y6.2.1).bind fun y10 =>
   r0 t27_ t28_ (w64 (t29_ + 1)) y6.2.2.1 y6.2.2.2 y10.2.1.1 y10.2.1.2.1 y10.2.1.2.2.1 y10.2.1.2.2.2.2.2.1 y10.2.1.2.2.2.2.2.2.1 y10.2.1.2.2.2.2.2.2.2.2.1 y10.2.1.2.2.2.2.2.2.2.2.2.1 y10.2.1.2.2.2.2.2.2.2.2.2.2 y10.2.2.1.2.2.1 y10.2.2.1.2.2.2 y10.2.2.2.1 y10.2.1.2.2.2.1 y10.2.1.2.2.2.2.1 y10.2.1.2.2.2.2.2.2.2.1 y10.2.2.1.1 y10.2.2.1.2.1.1 y10.2.2.1.2.1.2 y10.2.2.2.2 (v7.set n_.2.toNat ((gD (([] : LMv), ([] : List Int), ((0 : Int), ((0 : Int), false))) v7 n_.2).1, (((gD (([] : LMv), ([] : List Int), ((0 : Int), ((0 : Int), false))) v7 n_.2).2.1 ++ [(nodes.length : Int)]), (gD (([] : LMv), ([] : List Int), ((0 : Int), ((0 : Int), false))) v7 n_.2).2.2)))) ((Q29 N (y5, (x_2, x_3))).bind fun y11 =>
   let v12 : (List (LMv × List Int × (Int × (Int × Bool)))) := (nodes ++ [([], ([], y11.1.2.2))])
   chk ((eqI ((gD (([] : LMv), ([] : List Int), ((0 : Int), ((0 : Int), false))) nodes n_.2).2.1.length : Int) ((gD (([] : LMv), ([] : List Int), ((0 : Int), ((0 : Int), false))) v12 n_.2).2.1.length : Int)) && (true && capOk 8 ((gD (([] : LMv), ([] : List Int), ((0 : Int), ((0 : Int), false))) v12 n_.2).2.1.length + 1))) <|
   chk (leI 0 n_.2) <|
   chk ((eqI n_.2 n_.2) && ((eqI n_.2 n_.2) && (eqI (((gD (([] : LMv), ([] : List Int), ((0 : Int), ((0 : Int), false))) nodes n_.2).2.1.length : Int) + 1) (((gD (([] : LMv), ([] : List Int), ((0 : Int), ((0 : Int), false))) v12 n_.2).2.1.length : Int) + 1)))) <|
   (Q51 N y11.2.1).bind fun y15 =>
   r0 t27_ t28_ (w64 (t29_ + 1)) y11.2.2.1 y11.2.2.2 y15.2.1.1 y15.2.1.2.1 y15.2.1.2.2.1 y15.2.1.2.2.2.2.2.1 y15.2.1.2.2.2.2.2.2.1 y15.2.1.2.2.2.2.2.2.2.2.1 y15.2.1.2.2.2.2.2.2.2.2.2.1 y15.2.1.2.2.2.2.2.2.2.2.2.2 y15.2.2.1.2.2.1 y15.2.2.1.2.2.2 y15.2.2.2.1 y15.2.1.2.2.2.1 y15.2.1.2.2.2.2.1 y15.2.1.2.2.2.2.2.2.2.1 y15.2.2.1.1 y15.2.2.1.2.1.1 y15.2.2.1.2.1.2 y15.2.2.2.2 (v12.set n_.2.toNat ((gD (([] : LMv), ([] : List Int), ((0 : Int), ((0 : Int), false))) v12 n_.2).1, (((gD (([] : LMv), ([] : List Int), ((0 : Int), ((0 : Int), false))) v12 n_.2).2.1 ++ [(nodes.length : Int)]), (gD (([] : LMv), ([] : List Int), ((0 : Int), ((0 : Int), false))) v12 n_.2).2.2)))))
 else some ((((m1_, (m1_2, (m1_3, (m11_, (m12_, (m1_4, (m1_5, (m13_, (m1_6, (m1_7, m1_8)))))))))), ((m14_, ((m15_, m16_), (m1_9, m1_10))), (m1_11, m17_))), (x_2, x_3)), (nodes, n_.2))
def Q52.L (N : Nat) (x_ : (TBoard × (Int × Int))) (n_ : ((List (LMv × List Int × (Int × (Int × Bool)))) × Int)) : Nat → (LMv → Int → Int → Int → Int → ByteArray → Int → Int → Bool → Bool → Int → Int → Int → Int → Int → Int → (List TPiece) → LInt → (List TEnd) → LInt → LInt → LInt → (List TUndo) → (List (LMv × List Int × (Int × (Int × Bool)))) → Option ((TBoard × (Int × Int)) × ((List (LMv × List Int × (Int × (Int × Bool)))) × Int)))
 | 0 => fun _ _ _ _ _ _ _ _ _ _ _ _ _ _ _ _ _ _ _ _ _ _ _ _ => none
 | n + 1 => fun t27_ t28_ t29_ x_2 x_3 m1_ m1_2 m1_3 m1_4 m1_5 m1_6 m1_7 m1_8 m1_9 m1_10 m1_11 m11_ m12_ m13_ m14_ m15_ m16_ m17_ nodes => Q52.s0 N x_ n_ (Q52.L N x_ n_ n) t27_ t28_ t29_ x_2 x_3 m1_ m1_2 m1_3 m1_4 m1_5 m1_6 m1_7 m1_8 m1_9 m1_10 m1_11 m11_ m12_ m13_ m14_ m15_ m16_ m17_ nodes
def Q52.l0 (N : Nat) (x_ : (TBoard × (Int × Int))) (n_ : ((List (LMv × List Int × (Int × (Int × Bool)))) × Int)) (n : Nat) : LMv → Int → Int → Int → Int → ByteArray → Int → Int → Bool → Bool → Int → Int → Int → Int → Int → Int → (List TPiece) → LInt → (List TEnd) → LInt → LInt → LInt → (List TUndo) → (List (LMv × List Int × (Int × (Int × Bool)))) → Option ((TBoard × (Int × Int)) × ((List (LMv × List Int × (Int × (Int × Bool)))) × Int)) := (Q52.L N x_ n_ n)
theorem Q52.l0_s (N : Nat) (x_ : (TBoard × (Int × Int))) (n_ : ((List (LMv × List Int × (Int × (Int × Bool)))) × Int)) (n : Nat) (t27_ : LMv) (t28_ t29_ x_2 x_3 : Int) (m1_ : ByteArray) (m1_2 m1_3 : Int) (m1_4 m1_5 : Bool) (m1_6 m1_7 m1_8 m1_9 m1_10 m1_11 : Int) (m11_ : (List TPiece)) (m12_ : LInt) (m13_ : (List TEnd)) (m14_ m15_ m16_ : LInt) (m17_ : (List TUndo)) (nodes : (List (LMv × List Int × (Int × (Int × Bool))))) : Q52.l0 N x_ n_ (n + 1) t27_ t28_ t29_ x_2 x_3 m1_ m1_2 m1_3 m1_4 m1_5 m1_6 m1_7 m1_8 m1_9 m1_10 m1_11 m11_ m12_ m13_ m14_ m15_ m16_ m17_ nodes = Q52.s0 N x_ n_ (Q52.l0 N x_ n_ n) t27_ t28_ t29_ x_2 x_3 m1_ m1_2 m1_3 m1_4 m1_5 m1_6 m1_7 m1_8 m1_9 m1_10 m1_11 m11_ m12_ m13_ m14_ m15_ m16_ m17_ nodes := rfl
def Q52 (N : Nat) (x_ : (TBoard × (Int × Int))) (n_ : ((List (LMv × List Int × (Int × (Int × Bool)))) × Int)) : Option ((TBoard × (Int × Int)) × ((List (LMv × List Int × (Int × (Int × Bool)))) × Int)) := Q52.e N (Q52.l0 N x_ n_ N) x_ n_
def Q30.e (N : Nat) (self : (TBoard × (Int × Int)) → ((List (LMv × List Int × (Int × (Int × Bool)))) × Int) → Option ((TBoard × (Int × Int)) × ((List (LMv × List Int × (Int × (Int × Bool)))) × Int))) (x_ : (TBoard × (Int × Int))) (n_ : ((List (LMv × List Int × (Int × (Int × Bool)))) × Int)) : Option ((TBoard × (Int × Int)) × ((List (LMv × List Int × (Int × (Int × Bool)))) × Int)) :=
 (Q28 N x_.1).bind fun y1 =>
 chk (leI 0 n_.2) <|
 bif (gD (([] : LMv), ([] : List Int), ((0 : Int), ((0 : Int), false))) n_.1 n_.2).2.2.2.2 then ((Q49 N n_ (eqI y1 x_.2.1)).bind fun y2 =>
  chk (leI 0 n_.2) <|
  chk ((leI 0 y2.1) && (ltI y2.1 ((gD (([] : LMv), ([] : List Int), ((0 : Int), ((0 : Int), false))) y2.2.1 n_.2).1.length : Int))) <|
  (Q50 N x_.1 (gD ((0 : Int), ((0 : Int), (0 : Int))) (gD (([] : LMv), ([] : List Int), ((0 : Int), ((0 : Int), false))) y2.2.1 n_.2).1 y2.1)).bind fun y3 =>
  chk (leI 0 n_.2) <|
  chk ((leI 0 y2.1) && (ltI y2.1 ((gD (([] : LMv), ([] : List Int), ((0 : Int), ((0 : Int), false))) y2.2.1 n_.2).2.1.length : Int))) <|
  chk (eqI ((gD (([] : LMv), ([] : List Int), ((0 : Int), ((0 : Int), false))) y2.2.1 n_.2).2.1.length : Int) ((gD (([] : LMv), ([] : List Int), ((0 : Int), ((0 : Int), false))) y2.2.1 n_.2).2.1.length : Int)) <|
  (self (y3, x_.2) (y2.2.1, (gD (-1 : Int) (gD (([] : LMv), ([] : List Int), ((0 : Int), ((0 : Int), false))) y2.2.1 n_.2).2.1 y2.1))).bind fun y5 =>
  (Q51 N y5.1.1).bind fun y6 =>
  (Q53 N (y5.2.1, n_.2) (eqI y1 x_.2.1)).bind fun y7 =>
  some ((y6.2, y5.1.2), (y7.1, n_.2)))
 else (Q52 N x_ n_).bind fun y8 =>
 (Q53 N (y8.2.1, n_.2) (eqI y1 x_.2.1)).bind fun y9 =>
 some (y8.1, (y9.1, n_.2))
def Q30 : Nat → (TBoard × (Int × Int)) → ((List (LMv × List Int × (Int × (Int × Bool)))) × Int) → Option ((TBoard × (Int × Int)) × ((List (LMv × List Int × (Int × (Int × Bool)))) × Int))
 | 0 => fun _ _ => none
 | N + 1 => fun x_ n_ => Q30.e N (Q30 N) x_ n_
theorem Q30_s (N : Nat) (x_ : (TBoard × (Int × Int))) (n_ : ((List (LMv × List Int × (Int × (Int × Bool)))) × Int)) : Q30 (N + 1) x_ n_ = Q30.e N (Q30 N) x_ n_ := rfl
def Q10.e (N : Nat) (r0 : ByteArray → Int → Int → Bool → Bool → Int → Int → Int → Int → Int → Int → Int → Int → (List TPiece) → LInt → (List TEnd) → LInt → LInt → LInt → (List TUndo) → (List (LMv × List Int × (Int × (Int × Bool)))) → Option (TWay × Int)) (r_ : TRules) (p_ : TPos) (budget : Int) : Option (TWay × Int) :=
 (Q27 N r_ p_).bind fun y1 =>
 oCase y1.1 (bif (!(eqI y1.2 0)) then (some ((0, (0, (0, 0))), y1.2))
  else bif (ltI budget 0) then (some ((0, (0, (0, 0))), 1))
  else bif (ltI 5000 budget) then (some ((0, (0, (0, 0))), 1))
  else none) fun b2 =>
 bif (!(eqI y1.2 0)) then (some ((0, (0, (0, 0))), y1.2))
 else bif (ltI budget 0) then (some ((0, (0, (0, 0))), 1))
 else bif (ltI 5000 budget) then (some ((0, (0, (0, 0))), 1))
 else (Q28 N b2).bind fun y3 =>
 (Q29 N (b2, (y3, 0))).bind fun y4 =>
 r0 y4.2.1.1.1 y4.2.1.1.2.1 y4.2.1.1.2.2.1 y4.2.1.1.2.2.2.2.2.1 y4.2.1.1.2.2.2.2.2.2.1 y4.2.1.1.2.2.2.2.2.2.2.2.1 y4.2.1.1.2.2.2.2.2.2.2.2.2.1 y4.2.1.1.2.2.2.2.2.2.2.2.2.2 y4.2.1.2.1.2.2.1 y4.2.1.2.1.2.2.2 y4.2.1.2.2.1 y4.2.2.1 y4.2.2.2 y4.2.1.1.2.2.2.1 y4.2.1.1.2.2.2.2.1 y4.2.1.1.2.2.2.2.2.2.2.1 y4.2.1.2.1.1 y4.2.1.2.1.2.1.1 y4.2.1.2.1.2.1.2 y4.2.1.2.2.2 [([], ([], y4.1.2.2))]
def Q10.s0 (N : Nat) (r_ : TRules) (p_ : TPos) (budget : Int) (r0 : ByteArray → Int → Int → Bool → Bool → Int → Int → Int → Int → Int → Int → Int → Int → (List TPiece) → LInt → (List TEnd) → LInt → LInt → LInt → (List TUndo) → (List (LMv × List Int × (Int × (Int × Bool)))) → Option (TWay × Int)) (m4_ : ByteArray) (m4_2 m4_3 : Int) (m4_4 m4_5 : Bool) (m4_6 m4_7 m4_8 m4_9 m4_10 m4_11 x_ x_2 : Int) (m15_ : (List TPiece)) (m16_ : LInt) (m17_ : (List TEnd)) (m18_ m19_ m20_ : LInt) (m21_ : (List TUndo)) (nodes : (List (LMv × List Int × (Int × (Int × Bool))))) : Option (TWay × Int) :=
 bif (ltI 0 (gD (([] : LMv), ([] : List Int), ((0 : Int), ((0 : Int), false))) nodes 0).2.2.1) then (bif (ltI 0 (gD (([] : LMv), ([] : List Int), ((0 : Int), ((0 : Int), false))) nodes 0).2.2.2.1) then (bif (ltI x_2 budget) then ((Q30 N (((m4_, (m4_2, (m4_3, (m15_, (m16_, (m4_4, (m4_5, (m17_, (m4_6, (m4_7, m4_8)))))))))), ((m18_, ((m19_, m20_), (m4_9, m4_10))), (m4_11, m21_))), (x_, x_2)) (nodes, 0)).bind fun y8 =>
    r0 y8.1.1.1.1 y8.1.1.1.2.1 y8.1.1.1.2.2.1 y8.1.1.1.2.2.2.2.2.1 y8.1.1.1.2.2.2.2.2.2.1 y8.1.1.1.2.2.2.2.2.2.2.2.1 y8.1.1.1.2.2.2.2.2.2.2.2.2.1 y8.1.1.1.2.2.2.2.2.2.2.2.2.2 y8.1.1.2.1.2.2.1 y8.1.1.2.1.2.2.2 y8.1.1.2.2.1 y8.1.2.1 y8.1.2.2 y8.1.1.1.2.2.2.1 y8.1.1.1.2.2.2.2.1 y8.1.1.1.2.2.2.2.2.2.2.1 y8.1.1.2.1.1 y8.1.1.2.1.2.1.1 y8.1.1.2.1.2.1.2 y8.1.1.2.2.2 y8.2.1)
   else bif (eqI (gD (([] : LMv), ([] : List Int), ((0 : Int), ((0 : Int), false))) nodes 0).2.2.1 0) then (some ((0, ((gD (([] : LMv), ([] : List Int), ((0 : Int), ((0 : Int), false))) nodes 0).2.2.1, ((gD (([] : LMv), ([] : List Int), ((0 : Int), ((0 : Int), false))) nodes 0).2.2.2.1, x_2))), 0))
   else bif (eqI (gD (([] : LMv), ([] : List Int), ((0 : Int), ((0 : Int), false))) nodes 0).2.2.2.1 0) then (some ((1, ((gD (([] : LMv), ([] : List Int), ((0 : Int), ((0 : Int), false))) nodes 0).2.2.1, ((gD (([] : LMv), ([] : List Int), ((0 : Int), ((0 : Int), false))) nodes 0).2.2.2.1, x_2))), 0))
   else some ((2, ((gD (([] : LMv), ([] : List Int), ((0 : Int), ((0 : Int), false))) nodes 0).2.2.1, ((gD (([] : LMv), ([] : List Int), ((0 : Int), ((0 : Int), false))) nodes 0).2.2.2.1, x_2))), 0))
  else bif (eqI (gD (([] : LMv), ([] : List Int), ((0 : Int), ((0 : Int), false))) nodes 0).2.2.1 0) then (some ((0, ((gD (([] : LMv), ([] : List Int), ((0 : Int), ((0 : Int), false))) nodes 0).2.2.1, ((gD (([] : LMv), ([] : List Int), ((0 : Int), ((0 : Int), false))) nodes 0).2.2.2.1, x_2))), 0))
  else bif (eqI (gD (([] : LMv), ([] : List Int), ((0 : Int), ((0 : Int), false))) nodes 0).2.2.2.1 0) then (some ((1, ((gD (([] : LMv), ([] : List Int), ((0 : Int), ((0 : Int), false))) nodes 0).2.2.1, ((gD (([] : LMv), ([] : List Int), ((0 : Int), ((0 : Int), false))) nodes 0).2.2.2.1, x_2))), 0))
  else some ((2, ((gD (([] : LMv), ([] : List Int), ((0 : Int), ((0 : Int), false))) nodes 0).2.2.1, ((gD (([] : LMv), ([] : List Int), ((0 : Int), ((0 : Int), false))) nodes 0).2.2.2.1, x_2))), 0))
 else bif (eqI (gD (([] : LMv), ([] : List Int), ((0 : Int), ((0 : Int), false))) nodes 0).2.2.1 0) then (some ((0, ((gD (([] : LMv), ([] : List Int), ((0 : Int), ((0 : Int), false))) nodes 0).2.2.1, ((gD (([] : LMv), ([] : List Int), ((0 : Int), ((0 : Int), false))) nodes 0).2.2.2.1, x_2))), 0))
 else bif (eqI (gD (([] : LMv), ([] : List Int), ((0 : Int), ((0 : Int), false))) nodes 0).2.2.2.1 0) then (some ((1, ((gD (([] : LMv), ([] : List Int), ((0 : Int), ((0 : Int), false))) nodes 0).2.2.1, ((gD (([] : LMv), ([] : List Int), ((0 : Int), ((0 : Int), false))) nodes 0).2.2.2.1, x_2))), 0))
 else some ((2, ((gD (([] : LMv), ([] : List Int), ((0 : Int), ((0 : Int), false))) nodes 0).2.2.1, ((gD (([] : LMv), ([] : List Int), ((0 : Int), ((0 : Int), false))) nodes 0).2.2.2.1, x_2))), 0)
def Q10.L (N : Nat) (r_ : TRules) (p_ : TPos) (budget : Int) : Nat → (ByteArray → Int → Int → Bool → Bool → Int → Int → Int → Int → Int → Int → Int → Int → (List TPiece) → LInt → (List TEnd) → LInt → LInt → LInt → (List TUndo) → (List (LMv × List Int × (Int × (Int × Bool)))) → Option (TWay × Int))
 | 0 => fun _ _ _ _ _ _ _ _ _ _ _ _ _ _ _ _ _ _ _ _ _ => none
 | n + 1 => fun m4_ m4_2 m4_3 m4_4 m4_5 m4_6 m4_7 m4_8 m4_9 m4_10 m4_11 x_ x_2 m15_ m16_ m17_ m18_ m19_ m20_ m21_ nodes => Q10.s0 N r_ p_ budget (Q10.L N r_ p_ budget n) m4_ m4_2 m4_3 m4_4 m4_5 m4_6 m4_7 m4_8 m4_9 m4_10 m4_11 x_ x_2 m15_ m16_ m17_ m18_ m19_ m20_ m21_ nodes
def Q10.l0 (N : Nat) (r_ : TRules) (p_ : TPos) (budget : Int) (n : Nat) : ByteArray → Int → Int → Bool → Bool → Int → Int → Int → Int → Int → Int → Int → Int → (List TPiece) → LInt → (List TEnd) → LInt → LInt → LInt → (List TUndo) → (List (LMv × List Int × (Int × (Int × Bool)))) → Option (TWay × Int) := (Q10.L N r_ p_ budget n)
theorem Q10.l0_s (N : Nat) (r_ : TRules) (p_ : TPos) (budget : Int) (n : Nat) (m4_ : ByteArray) (m4_2 m4_3 : Int) (m4_4 m4_5 : Bool) (m4_6 m4_7 m4_8 m4_9 m4_10 m4_11 x_ x_2 : Int) (m15_ : (List TPiece)) (m16_ : LInt) (m17_ : (List TEnd)) (m18_ m19_ m20_ : LInt) (m21_ : (List TUndo)) (nodes : (List (LMv × List Int × (Int × (Int × Bool))))) : Q10.l0 N r_ p_ budget (n + 1) m4_ m4_2 m4_3 m4_4 m4_5 m4_6 m4_7 m4_8 m4_9 m4_10 m4_11 x_ x_2 m15_ m16_ m17_ m18_ m19_ m20_ m21_ nodes = Q10.s0 N r_ p_ budget (Q10.l0 N r_ p_ budget n) m4_ m4_2 m4_3 m4_4 m4_5 m4_6 m4_7 m4_8 m4_9 m4_10 m4_11 x_ x_2 m15_ m16_ m17_ m18_ m19_ m20_ m21_ nodes := rfl
def Q10 (N : Nat) (r_ : TRules) (p_ : TPos) (budget : Int) : Option (TWay × Int) := Q10.e N (Q10.l0 N r_ p_ budget N) r_ p_ budget
def Q22.e (N : Nat) (r0 : ByteArray → Int → Int → Bool → Bool → Int → Int → Int → Int → Int → Int → Int → Int → (List TPiece) → LInt → (List TEnd) → LInt → LInt → LInt → (List TUndo) → (List (LMv × List Int × (Int × (Int × Bool)))) → Option (TMv × Int)) (r1 : Int → Int → Int → (List (LMv × List Int × (Int × (Int × Bool)))) → Option (TMv × Int)) (r_ : TRules) (p_ : TPos) (budget : Int) : Option (TMv × Int) :=
 (Q10 N r_ p_ budget).bind fun y1 =>
 bif (!(eqI y1.2 0)) then (some ((0, (0, 0)), y1.2))
 else bif (!(eqI y1.1.1 0)) then (some ((0, (0, 0)), 8))
 else bif (eqI y1.1.2.2.2 0) then (some ((0, (0, 0)), 8))
 else (Q27 N r_ p_).bind fun y2 =>
 oCase y2.1 none fun b3 =>
 (Q28 N b3).bind fun y4 =>
 (Q29 N (b3, (y4, 0))).bind fun y5 =>
 r0 y5.2.1.1.1 y5.2.1.1.2.1 y5.2.1.1.2.2.1 y5.2.1.1.2.2.2.2.2.1 y5.2.1.1.2.2.2.2.2.2.1 y5.2.1.1.2.2.2.2.2.2.2.2.1 y5.2.1.1.2.2.2.2.2.2.2.2.2.1 y5.2.1.1.2.2.2.2.2.2.2.2.2.2 y5.2.1.2.1.2.2.1 y5.2.1.2.1.2.2.2 y5.2.1.2.2.1 y5.2.2.1 y5.2.2.2 y5.2.1.1.2.2.2.1 y5.2.1.1.2.2.2.2.1 y5.2.1.1.2.2.2.2.2.2.2.1 y5.2.1.2.1.1 y5.2.1.2.1.2.1.1 y5.2.1.2.1.2.1.2 y5.2.1.2.2.2 [([], ([], y5.1.2.2))]
def Q22.s0 (N : Nat) (r_ : TRules) (p_ : TPos) (budget : Int) (r0 : ByteArray → Int → Int → Bool → Bool → Int → Int → Int → Int → Int → Int → Int → Int → (List TPiece) → LInt → (List TEnd) → LInt → LInt → LInt → (List TUndo) → (List (LMv × List Int × (Int × (Int × Bool)))) → Option (TMv × Int)) (r1 : Int → Int → Int → (List (LMv × List Int × (Int × (Int × Bool)))) → Option (TMv × Int)) (m5_ : ByteArray) (m5_2 m5_3 : Int) (m5_4 m5_5 : Bool) (m5_6 m5_7 m5_8 m5_9 m5_10 m5_11 x_ x_2 : Int) (m16_ : (List TPiece)) (m17_ : LInt) (m18_ : (List TEnd)) (m19_ m20_ m21_ : LInt) (m22_ : (List TUndo)) (nodes : (List (LMv × List Int × (Int × (Int × Bool))))) : Option (TMv × Int) :=
 bif (ltI 0 (gD (([] : LMv), ([] : List Int), ((0 : Int), ((0 : Int), false))) nodes 0).2.2.1) then ((Q30 N (((m5_, (m5_2, (m5_3, (m16_, (m17_, (m5_4, (m5_5, (m18_, (m5_6, (m5_7, m5_8)))))))))), ((m19_, ((m20_, m21_), (m5_9, m5_10))), (m5_11, m22_))), (x_, x_2)) (nodes, 0)).bind fun y8 =>
  r0 y8.1.1.1.1 y8.1.1.1.2.1 y8.1.1.1.2.2.1 y8.1.1.1.2.2.2.2.2.1 y8.1.1.1.2.2.2.2.2.2.1 y8.1.1.1.2.2.2.2.2.2.2.2.1 y8.1.1.1.2.2.2.2.2.2.2.2.2.1 y8.1.1.1.2.2.2.2.2.2.2.2.2.2 y8.1.1.2.1.2.2.1 y8.1.1.2.1.2.2.2 y8.1.1.2.2.1 y8.1.2.1 y8.1.2.2 y8.1.1.1.2.2.2.1 y8.1.1.1.2.2.2.2.1 y8.1.1.1.2.2.2.2.2.2.2.1 y8.1.1.2.1.1 y8.1.1.2.1.2.1.1 y8.1.1.2.1.2.1.2 y8.1.1.2.2.2 y8.2.1)
 else r1 ((gD (([] : LMv), ([] : List Int), ((0 : Int), ((0 : Int), false))) nodes 0).2.1.length : Int) ((gD (([] : LMv), ([] : List Int), ((0 : Int), ((0 : Int), false))) nodes 0).2.1.length : Int) 0 nodes
def Q22.s1 (N : Nat) (r_ : TRules) (p_ : TPos) (budget : Int) (r0 : ByteArray → Int → Int → Bool → Bool → Int → Int → Int → Int → Int → Int → Int → Int → (List TPiece) → LInt → (List TEnd) → LInt → LInt → LInt → (List TUndo) → (List (LMv × List Int × (Int × (Int × Bool)))) → Option (TMv × Int)) (r1 : Int → Int → Int → (List (LMv × List Int × (Int × (Int × Bool)))) → Option (TMv × Int)) (t62n t63_ t64_ : Int) (nodes : (List (LMv × List Int × (Int × (Int × Bool))))) : Option (TMv × Int) :=
 bif (ltI t64_ t63_) then (chk ((leI 0 t64_) && (ltI t64_ t62n)) <|
  chk (eqI t62n ((gD (([] : LMv), ([] : List Int), ((0 : Int), ((0 : Int), false))) nodes 0).2.1.length : Int)) <|
  let v10 : Int := (gD (-1 : Int) (gD (([] : LMv), ([] : List Int), ((0 : Int), ((0 : Int), false))) nodes 0).2.1 t64_)
  chk (leI 0 v10) <|
  bif (eqI (gD (([] : LMv), ([] : List Int), ((0 : Int), ((0 : Int), false))) nodes v10).2.2.1 0) then (chk ((leI 0 t64_) && (ltI t64_ ((gD (([] : LMv), ([] : List Int), ((0 : Int), ((0 : Int), false))) nodes 0).1.length : Int))) <|
   some ((gD ((0 : Int), ((0 : Int), (0 : Int))) (gD (([] : LMv), ([] : List Int), ((0 : Int), ((0 : Int), false))) nodes 0).1 t64_), 0))
  else r1 t62n t63_ (w64 (t64_ + 1)) nodes)
 else some ((0, (0, 0)), 8)
def Q22.L (N : Nat) (r_ : TRules) (p_ : TPos) (budget : Int) : Nat → (ByteArray → Int → Int → Bool → Bool → Int → Int → Int → Int → Int → Int → Int → Int → (List TPiece) → LInt → (List TEnd) → LInt → LInt → LInt → (List TUndo) → (List (LMv × List Int × (Int × (Int × Bool)))) → Option (TMv × Int)) × (Int → Int → Int → (List (LMv × List Int × (Int × (Int × Bool)))) → Option (TMv × Int))
 | 0 => (fun _ _ _ _ _ _ _ _ _ _ _ _ _ _ _ _ _ _ _ _ _ => none, fun _ _ _ _ => none)
 | n + 1 => (fun m5_ m5_2 m5_3 m5_4 m5_5 m5_6 m5_7 m5_8 m5_9 m5_10 m5_11 x_ x_2 m16_ m17_ m18_ m19_ m20_ m21_ m22_ nodes => Q22.s0 N r_ p_ budget (Q22.L N r_ p_ budget n).1 (Q22.L N r_ p_ budget n).2 m5_ m5_2 m5_3 m5_4 m5_5 m5_6 m5_7 m5_8 m5_9 m5_10 m5_11 x_ x_2 m16_ m17_ m18_ m19_ m20_ m21_ m22_ nodes, fun t62n t63_ t64_ nodes => Q22.s1 N r_ p_ budget (Q22.L N r_ p_ budget n).1 (Q22.L N r_ p_ budget n).2 t62n t63_ t64_ nodes)
def Q22.l0 (N : Nat) (r_ : TRules) (p_ : TPos) (budget : Int) (n : Nat) : ByteArray → Int → Int → Bool → Bool → Int → Int → Int → Int → Int → Int → Int → Int → (List TPiece) → LInt → (List TEnd) → LInt → LInt → LInt → (List TUndo) → (List (LMv × List Int × (Int × (Int × Bool)))) → Option (TMv × Int) := (Q22.L N r_ p_ budget n).1
def Q22.l1 (N : Nat) (r_ : TRules) (p_ : TPos) (budget : Int) (n : Nat) : Int → Int → Int → (List (LMv × List Int × (Int × (Int × Bool)))) → Option (TMv × Int) := (Q22.L N r_ p_ budget n).2
theorem Q22.l0_s (N : Nat) (r_ : TRules) (p_ : TPos) (budget : Int) (n : Nat) (m5_ : ByteArray) (m5_2 m5_3 : Int) (m5_4 m5_5 : Bool) (m5_6 m5_7 m5_8 m5_9 m5_10 m5_11 x_ x_2 : Int) (m16_ : (List TPiece)) (m17_ : LInt) (m18_ : (List TEnd)) (m19_ m20_ m21_ : LInt) (m22_ : (List TUndo)) (nodes : (List (LMv × List Int × (Int × (Int × Bool))))) : Q22.l0 N r_ p_ budget (n + 1) m5_ m5_2 m5_3 m5_4 m5_5 m5_6 m5_7 m5_8 m5_9 m5_10 m5_11 x_ x_2 m16_ m17_ m18_ m19_ m20_ m21_ m22_ nodes = Q22.s0 N r_ p_ budget (Q22.l0 N r_ p_ budget n) (Q22.l1 N r_ p_ budget n) m5_ m5_2 m5_3 m5_4 m5_5 m5_6 m5_7 m5_8 m5_9 m5_10 m5_11 x_ x_2 m16_ m17_ m18_ m19_ m20_ m21_ m22_ nodes := rfl
theorem Q22.l1_s (N : Nat) (r_ : TRules) (p_ : TPos) (budget : Int) (n : Nat) (t62n t63_ t64_ : Int) (nodes : (List (LMv × List Int × (Int × (Int × Bool))))) : Q22.l1 N r_ p_ budget (n + 1) t62n t63_ t64_ nodes = Q22.s1 N r_ p_ budget (Q22.l0 N r_ p_ budget n) (Q22.l1 N r_ p_ budget n) t62n t63_ t64_ nodes := rfl
def Q22 (N : Nat) (r_ : TRules) (p_ : TPos) (budget : Int) : Option (TMv × Int) := Q22.e N (Q22.l0 N r_ p_ budget N) (Q22.l1 N r_ p_ budget N) r_ p_ budget
def Q44.e (N : Nat) (e_ : Int) : Option Bool :=
 some (!(eqI e_ 0))
def Q44 (N : Nat) (e_ : Int) : Option Bool := Q44.e N e_
def Q73.e (N : Nat) (r0 : Int → Option Int) (s_ : LInt) : Option Int :=
 r0 0
def Q73.s0 (N : Nat) (s_ : LInt) (r0 : Int → Option Int) (t8_ : Int) : Option Int :=
 bif (ltI t8_ (s_.length : Int)) then (chk ((leI 0 t8_) && (ltI t8_ (s_.length : Int))) <|
  (Q44 N (gD (0 : Int) s_ t8_)).bind fun y2 =>
  bif y2 then some t8_
  else r0 (w64 (t8_ + 1)))
 else some (-1)
def Q73.L (N : Nat) (s_ : LInt) : Nat → (Int → Option Int)
 | 0 => fun _ => none
 | n + 1 => fun t8_ => Q73.s0 N s_ (Q73.L N s_ n) t8_
def Q73.l0 (N : Nat) (s_ : LInt) (n : Nat) : Int → Option Int := (Q73.L N s_ n)
theorem Q73.l0_s (N : Nat) (s_ : LInt) (n : Nat) (t8_ : Int) : Q73.l0 N s_ (n + 1) t8_ = Q73.s0 N s_ (Q73.l0 N s_ n) t8_ := rfl
def Q73 (N : Nat) (s_ : LInt) : Option Int := Q73.e N (Q73.l0 N s_ N) s_
def Q43.e (N : Nat) (s_ : LInt) : Option Bool :=
 (Q73 N s_).bind fun y1 =>
 some (leI 0 y1)
def Q43 (N : Nat) (s_ : LInt) : Option Bool := Q43.e N s_
def Q21.e (N : Nat) (l_ : LInt) : Option Bool :=
 (Q43 N l_).bind fun y1 =>
 some (!y1)
def Q21 (N : Nat) (l_ : LInt) : Option Bool := Q21.e N l_
def Q26.e (N : Nat) (s_ : Int) : Option TMv :=
 some ((-1), (s_, 0))
def Q26 (N : Nat) (s_ : Int) : Option TMv := Q26.e N s_
def Q9.e (N : Nat) : Option Bool :=
 (Q24 N).bind fun y1 =>
 (Q25 N).bind fun y2 =>
 (Q10 N y1 y2 10).bind fun y3 =>
 (Q24 N).bind fun y4 =>
 (Q25 N).bind fun y5 =>
 (Q22 N y4 y5 10).bind fun y6 =>
 (Q21 N [y3.2, y6.2]).bind fun y7 =>
 bif y7 then (bif (eqI y3.1.1 0) then (bif (eqI y3.1.2.1 0) then (bif (eqI y3.1.2.2.2 1) then ((Q26 N 2).bind fun y8 =>
     some ((eqI y6.1.1 y8.1) && ((eqI y6.1.2.1 y8.2.1) && ((eqI y6.1.2.2 y8.2.2) && true))))
    else some false)
   else some false)
  else some false)
 else some false
def Q9 (N : Nat) : Option Bool := Q9.e N
def Q69.e (N : Nat) (r_ : TRules) (p_ : TPos) (depth : Int) : Option ((Option TBoard) × Int) :=
 (Q27 N r_ p_).bind fun y1 =>
 oCase y1.1 (bif (!(eqI y1.2 0)) then (some (none, y1.2))
  else bif (ltI depth 0) then (some (none, 1))
  else bif (ltI 12 depth) then (some (none, 1))
  else some (none, 0)) fun b2 =>
 bif (!(eqI y1.2 0)) then (some (none, y1.2))
 else bif (ltI depth 0) then (some (none, 1))
 else bif (ltI 12 depth) then (some (none, 1))
 else some ((some b2), 0)
def Q69 (N : Nat) (r_ : TRules) (p_ : TPos) (depth : Int) : Option ((Option TBoard) × Int) := Q69.e N r_ p_ depth
def Q70.e (N : Nat) (self : Int → TBoard → Int → Option (Int × Int × TBoard)) (r0 : Int → Int → Int → Int → ByteArray → Int → Int → Bool → Bool → Int → Int → Int → Int → Int → Int → LMv → (List TPiece) → LInt → (List TEnd) → LInt → LInt → LInt → (List TUndo) → Option (Int × Int × TBoard)) (c_ : Int) (b_ : TBoard) (depth : Int) : Option (Int × Int × TBoard) :=
 bif (ltI (w64 (c_ - 1)) 0) then (some (1, ((w64 (c_ - 1)), b_)))
 else bif (eqI depth 0) then (some (1, ((w64 (c_ - 1)), b_)))
 else (Q34 N b_).bind fun y1 =>
 r0 0 (y1.length : Int) 0 (w64 (c_ - 1)) b_.1.1 b_.1.2.1 b_.1.2.2.1 b_.1.2.2.2.2.2.1 b_.1.2.2.2.2.2.2.1 b_.1.2.2.2.2.2.2.2.2.1 b_.1.2.2.2.2.2.2.2.2.2.1 b_.1.2.2.2.2.2.2.2.2.2.2 b_.2.1.2.2.1 b_.2.1.2.2.2 b_.2.2.1 y1 b_.1.2.2.2.1 b_.1.2.2.2.2.1 b_.1.2.2.2.2.2.2.2.1 b_.2.1.1 b_.2.1.2.1.1 b_.2.1.2.1.2 b_.2.2.2
def Q70.s0 (N : Nat) (self : Int → TBoard → Int → Option (Int × Int × TBoard)) (c_ : Int) (b_ : TBoard) (depth : Int) (r0 : Int → Int → Int → Int → ByteArray → Int → Int → Bool → Bool → Int → Int → Int → Int → Int → Int → LMv → (List TPiece) → LInt → (List TEnd) → LInt → LInt → LInt → (List TUndo) → Option (Int × Int × TBoard)) (n_ t28_ t29_ c_2 : Int) (b_2 : ByteArray) (b_3 b_4 : Int) (b_5 b_6 : Bool) (b_7 b_8 b_9 b_10 b_11 b_12 : Int) (m9_ : LMv) (m10_ : (List TPiece)) (m11_ : LInt) (m12_ : (List TEnd)) (m13_ m14_ m15_ : LInt) (m16_ : (List TUndo)) : Option (Int × Int × TBoard) :=
 bif (ltI t29_ t28_) then (chk ((leI 0 t29_) && (ltI t29_ (m9_.length : Int))) <|
  (Q50 N ((b_2, (b_3, (b_4, (m10_, (m11_, (b_5, (b_6, (m12_, (b_7, (b_8, b_9)))))))))), ((m13_, ((m14_, m15_), (b_10, b_11))), (b_12, m16_))) (gD ((0 : Int), ((0 : Int), (0 : Int))) m9_ t29_)).bind fun y2 =>
  (self c_2 y2 (w64 (depth - 1))).bind fun y3 =>
  (Q51 N y3.2.2).bind fun y4 =>
  bif (ltI y3.2.1 0) then (some (0, (y3.2.1, y4.2)))
  else r0 (w64 (n_ + y3.1)) t28_ (w64 (t29_ + 1)) y3.2.1 y4.2.1.1 y4.2.1.2.1 y4.2.1.2.2.1 y4.2.1.2.2.2.2.2.1 y4.2.1.2.2.2.2.2.2.1 y4.2.1.2.2.2.2.2.2.2.2.1 y4.2.1.2.2.2.2.2.2.2.2.2.1 y4.2.1.2.2.2.2.2.2.2.2.2.2 y4.2.2.1.2.2.1 y4.2.2.1.2.2.2 y4.2.2.2.1 m9_ y4.2.1.2.2.2.1 y4.2.1.2.2.2.2.1 y4.2.1.2.2.2.2.2.2.2.1 y4.2.2.1.1 y4.2.2.1.2.1.1 y4.2.2.1.2.1.2 y4.2.2.2.2)
 else some (n_, (c_2, ((b_2, (b_3, (b_4, (m10_, (m11_, (b_5, (b_6, (m12_, (b_7, (b_8, b_9)))))))))), ((m13_, ((m14_, m15_), (b_10, b_11))), (b_12, m16_)))))
def Q70.L (N : Nat) (self : Int → TBoard → Int → Option (Int × Int × TBoard)) (c_ : Int) (b_ : TBoard) (depth : Int) : Nat → (Int → Int → Int → Int → ByteArray → Int → Int → Bool → Bool → Int → Int → Int → Int → Int → Int → LMv → (List TPiece) → LInt → (List TEnd) → LInt → LInt → LInt → (List TUndo) → Option (Int × Int × TBoard))
 | 0 => fun _ _ _ _ _ _ _ _ _ _ _ _ _ _ _ _ _ _ _ _ _ _ _ => none
 | n + 1 => fun n_ t28_ t29_ c_2 b_2 b_3 b_4 b_5 b_6 b_7 b_8 b_9 b_10 b_11 b_12 m9_ m10_ m11_ m12_ m13_ m14_ m15_ m16_ => Q70.s0 N self c_ b_ depth (Q70.L N self c_ b_ depth n) n_ t28_ t29_ c_2 b_2 b_3 b_4 b_5 b_6 b_7 b_8 b_9 b_10 b_11 b_12 m9_ m10_ m11_ m12_ m13_ m14_ m15_ m16_
def Q70.l0 (N : Nat) (self : Int → TBoard → Int → Option (Int × Int × TBoard)) (c_ : Int) (b_ : TBoard) (depth : Int) (n : Nat) : Int → Int → Int → Int → ByteArray → Int → Int → Bool → Bool → Int → Int → Int → Int → Int → Int → LMv → (List TPiece) → LInt → (List TEnd) → LInt → LInt → LInt → (List TUndo) → Option (Int × Int × TBoard) := (Q70.L N self c_ b_ depth n)
theorem Q70.l0_s (N : Nat) (self : Int → TBoard → Int → Option (Int × Int × TBoard)) (c_ : Int) (b_ : TBoard) (depth : Int) (n : Nat) (n_ t28_ t29_ c_2 : Int) (b_2 : ByteArray) (b_3 b_4 : Int) (b_5 b_6 : Bool) (b_7 b_8 b_9 b_10 b_11 b_12 : Int) (m9_ : LMv) (m10_ : (List TPiece)) (m11_ : LInt) (m12_ : (List TEnd)) (m13_ m14_ m15_ : LInt) (m16_ : (List TUndo)) : Q70.l0 N self c_ b_ depth (n + 1) n_ t28_ t29_ c_2 b_2 b_3 b_4 b_5 b_6 b_7 b_8 b_9 b_10 b_11 b_12 m9_ m10_ m11_ m12_ m13_ m14_ m15_ m16_ = Q70.s0 N self c_ b_ depth (Q70.l0 N self c_ b_ depth n) n_ t28_ t29_ c_2 b_2 b_3 b_4 b_5 b_6 b_7 b_8 b_9 b_10 b_11 b_12 m9_ m10_ m11_ m12_ m13_ m14_ m15_ m16_ := rfl
def Q70 : Nat → Int → TBoard → Int → Option (Int × Int × TBoard)
 | 0 => fun _ _ _ => none
 | N + 1 => fun c_ b_ depth => Q70.e N (Q70 N) (Q70.l0 N (Q70 N) c_ b_ depth N) c_ b_ depth
theorem Q70_s (N : Nat) (c_ : Int) (b_ : TBoard) (depth : Int) : Q70 (N + 1) c_ b_ depth = Q70.e N (Q70 N) (Q70.l0 N (Q70 N) c_ b_ depth N) c_ b_ depth := rfl
def Q40.e (N : Nat) (r_ : TRules) (p_ : TPos) (depth : Int) : Option (Int × Int) :=
 (Q69 N r_ p_ depth).bind fun y1 =>
 oCase y1.1 (bif (!(eqI y1.2 0)) then (some (0, y1.2))
  else none) fun b2 =>
 bif (!(eqI y1.2 0)) then (some (0, y1.2))
 else (Q70 N 50000 b2 depth).bind fun y3 =>
 bif (ltI y3.2.1 0) then (some (0, 17))
 else some ((w64 (50000 - y3.2.1)), 0)
def Q40 (N : Nat) (r_ : TRules) (p_ : TPos) (depth : Int) : Option (Int × Int) := Q40.e N r_ p_ depth
def Q41.e (N : Nat) (r_ : TRules) (p_ : TPos) (depth : Int) : Option Int :=
 (Q40 N r_ p_ depth).bind fun y1 =>
 some y1.2
def Q41 (N : Nat) (r_ : TRules) (p_ : TPos) (depth : Int) : Option Int := Q41.e N r_ p_ depth
def Q71.e (N : Nat) (result turn : Int) : Option Int :=
 (Q81 N turn).bind fun y1 =>
 bif (eqI result y1) then some 1000
 else (Q81 N (w64 (1 - turn))).bind fun y2 =>
 bif (eqI result y2) then (some (-1000))
 else some 0
def Q71 (N : Nat) (result turn : Int) : Option Int := Q71.e N result turn
def Q72.e (N : Nat) (n_ : Int) : Option Int :=
 bif (ltI 0 n_) then (some (w64 (n_ - 1)))
 else bif (ltI n_ 0) then (some (w64 (n_ + 1)))
 else some 0
def Q72 (N : Nat) (n_ : Int) : Option Int := Q72.e N n_
def Q42.e (N : Nat) (self : TBoard → Int → Option (Int × TBoard)) (r0 : Int → Int → Int → ByteArray → Int → Int → Bool → Bool → Int → Int → Int → Int → Int → Int → LMv → (List TPiece) → LInt → (List TEnd) → LInt → LInt → LInt → (List TUndo) → Option (Int × TBoard)) (b_ : TBoard) (depth : Int) : Option (Int × TBoard) :=
 (Q32 N b_).bind fun y1 =>
 bif (!(eqI y1 0)) then ((Q28 N b_).bind fun y2 =>
  (Q71 N y1 y2).bind fun y3 =>
  some (y3, b_))
 else bif (eqI depth 0) then (some (0, b_))
 else (Q34 N b_).bind fun y4 =>
 r0 (-1000) (y4.length : Int) 0 b_.1.1 b_.1.2.1 b_.1.2.2.1 b_.1.2.2.2.2.2.1 b_.1.2.2.2.2.2.2.1 b_.1.2.2.2.2.2.2.2.2.1 b_.1.2.2.2.2.2.2.2.2.2.1 b_.1.2.2.2.2.2.2.2.2.2.2 b_.2.1.2.2.1 b_.2.1.2.2.2 b_.2.2.1 y4 b_.1.2.2.2.1 b_.1.2.2.2.2.1 b_.1.2.2.2.2.2.2.2.1 b_.2.1.1 b_.2.1.2.1.1 b_.2.1.2.1.2 b_.2.2.2
def Q42.s0 (N : Nat) (self : TBoard → Int → Option (Int × TBoard)) (b_ : TBoard) (depth : Int) (r0 : Int → Int → Int → ByteArray → Int → Int → Bool → Bool → Int → Int → Int → Int → Int → Int → LMv → (List TPiece) → LInt → (List TEnd) → LInt → LInt → LInt → (List TUndo) → Option (Int × TBoard)) (best t21_ t22_ : Int) (b_2 : ByteArray) (b_3 b_4 : Int) (b_5 b_6 : Bool) (b_7 b_8 b_9 b_10 b_11 b_12 : Int) (m8_ : LMv) (m9_ : (List TPiece)) (m10_ : LInt) (m11_ : (List TEnd)) (m12_ m13_ m14_ : LInt) (m15_ : (List TUndo)) : Option (Int × TBoard) :=
 bif (ltI t22_ t21_) then (chk ((leI 0 t22_) && (ltI t22_ (m8_.length : Int))) <|
  (Q50 N ((b_2, (b_3, (b_4, (m9_, (m10_, (b_5, (b_6, (m11_, (b_7, (b_8, b_9)))))))))), ((m12_, ((m13_, m14_), (b_10, b_11))), (b_12, m15_))) (gD ((0 : Int), ((0 : Int), (0 : Int))) m8_ t22_)).bind fun y5 =>
  (self y5 (w64 (depth - 1))).bind fun y6 =>
  (Q72 N (w64 (0 - y6.1))).bind fun y7 =>
  (Q51 N y6.2).bind fun y9 =>
  r0 (bif (ltI best y7) then y7 else best) t21_ (w64 (t22_ + 1)) y9.2.1.1 y9.2.1.2.1 y9.2.1.2.2.1 y9.2.1.2.2.2.2.2.1 y9.2.1.2.2.2.2.2.2.1 y9.2.1.2.2.2.2.2.2.2.2.1 y9.2.1.2.2.2.2.2.2.2.2.2.1 y9.2.1.2.2.2.2.2.2.2.2.2.2 y9.2.2.1.2.2.1 y9.2.2.1.2.2.2 y9.2.2.2.1 m8_ y9.2.1.2.2.2.1 y9.2.1.2.2.2.2.1 y9.2.1.2.2.2.2.2.2.2.1 y9.2.2.1.1 y9.2.2.1.2.1.1 y9.2.2.1.2.1.2 y9.2.2.2.2)
 else some (best, ((b_2, (b_3, (b_4, (m9_, (m10_, (b_5, (b_6, (m11_, (b_7, (b_8, b_9)))))))))), ((m12_, ((m13_, m14_), (b_10, b_11))), (b_12, m15_))))
def Q42.L (N : Nat) (self : TBoard → Int → Option (Int × TBoard)) (b_ : TBoard) (depth : Int) : Nat → (Int → Int → Int → ByteArray → Int → Int → Bool → Bool → Int → Int → Int → Int → Int → Int → LMv → (List TPiece) → LInt → (List TEnd) → LInt → LInt → LInt → (List TUndo) → Option (Int × TBoard))
 | 0 => fun _ _ _ _ _ _ _ _ _ _ _ _ _ _ _ _ _ _ _ _ _ _ => none
 | n + 1 => fun best t21_ t22_ b_2 b_3 b_4 b_5 b_6 b_7 b_8 b_9 b_10 b_11 b_12 m8_ m9_ m10_ m11_ m12_ m13_ m14_ m15_ => Q42.s0 N self b_ depth (Q42.L N self b_ depth n) best t21_ t22_ b_2 b_3 b_4 b_5 b_6 b_7 b_8 b_9 b_10 b_11 b_12 m8_ m9_ m10_ m11_ m12_ m13_ m14_ m15_
def Q42.l0 (N : Nat) (self : TBoard → Int → Option (Int × TBoard)) (b_ : TBoard) (depth : Int) (n : Nat) : Int → Int → Int → ByteArray → Int → Int → Bool → Bool → Int → Int → Int → Int → Int → Int → LMv → (List TPiece) → LInt → (List TEnd) → LInt → LInt → LInt → (List TUndo) → Option (Int × TBoard) := (Q42.L N self b_ depth n)
theorem Q42.l0_s (N : Nat) (self : TBoard → Int → Option (Int × TBoard)) (b_ : TBoard) (depth : Int) (n : Nat) (best t21_ t22_ : Int) (b_2 : ByteArray) (b_3 b_4 : Int) (b_5 b_6 : Bool) (b_7 b_8 b_9 b_10 b_11 b_12 : Int) (m8_ : LMv) (m9_ : (List TPiece)) (m10_ : LInt) (m11_ : (List TEnd)) (m12_ m13_ m14_ : LInt) (m15_ : (List TUndo)) : Q42.l0 N self b_ depth (n + 1) best t21_ t22_ b_2 b_3 b_4 b_5 b_6 b_7 b_8 b_9 b_10 b_11 b_12 m8_ m9_ m10_ m11_ m12_ m13_ m14_ m15_ = Q42.s0 N self b_ depth (Q42.l0 N self b_ depth n) best t21_ t22_ b_2 b_3 b_4 b_5 b_6 b_7 b_8 b_9 b_10 b_11 b_12 m8_ m9_ m10_ m11_ m12_ m13_ m14_ m15_ := rfl
def Q42 : Nat → TBoard → Int → Option (Int × TBoard)
 | 0 => fun _ _ => none
 | N + 1 => fun b_ depth => Q42.e N (Q42 N) (Q42.l0 N (Q42 N) b_ depth N) b_ depth
theorem Q42_s (N : Nat) (b_ : TBoard) (depth : Int) : Q42 (N + 1) b_ depth = Q42.e N (Q42 N) (Q42.l0 N (Q42 N) b_ depth N) b_ depth := rfl
def Q20.e (N : Nat) (r_ : TRules) (p_ : TPos) (depth : Int) : Option (Int × Int) :=
 (Q41 N r_ p_ depth).bind fun y1 =>
 bif (!(eqI y1 0)) then (some (0, y1))
 else (Q27 N r_ p_).bind fun y2 =>
 oCase y2.1 none fun b3 =>
 (Q42 N b3 depth).bind fun y4 =>
 some (y4.1, 0)
def Q20 (N : Nat) (r_ : TRules) (p_ : TPos) (depth : Int) : Option (Int × Int) := Q20.e N r_ p_ depth
def Q68.e (N : Nat) (r0 : Int → Int → Int → ByteArray → Int → Int → Bool → Bool → Int → Int → Int → Int → Int → Int → Int → Int → Int → LMv → (List TPiece) → LInt → (List TEnd) → LInt → LInt → LInt → (List TUndo) → Option (TMv × Int × TBoard)) (b_ : TBoard) (depth : Int) : Option (TMv × Int × TBoard) :=
 (Q34 N b_).bind fun y1 =>
 r0 (-1001) (y1.length : Int) 0 b_.1.1 b_.1.2.1 b_.1.2.2.1 b_.1.2.2.2.2.2.1 b_.1.2.2.2.2.2.2.1 b_.1.2.2.2.2.2.2.2.2.1 b_.1.2.2.2.2.2.2.2.2.2.1 b_.1.2.2.2.2.2.2.2.2.2.2 b_.2.1.2.2.1 b_.2.1.2.2.2 b_.2.2.1 0 0 0 y1 b_.1.2.2.2.1 b_.1.2.2.2.2.1 b_.1.2.2.2.2.2.2.2.1 b_.2.1.1 b_.2.1.2.1.1 b_.2.1.2.1.2 b_.2.2.2
def Q68.s0 (N : Nat) (b_ : TBoard) (depth : Int) (r0 : Int → Int → Int → ByteArray → Int → Int → Bool → Bool → Int → Int → Int → Int → Int → Int → Int → Int → Int → LMv → (List TPiece) → LInt → (List TEnd) → LInt → LInt → LInt → (List TUndo) → Option (TMv × Int × TBoard)) (most t13_ t14_ : Int) (b_2 : ByteArray) (b_3 b_4 : Int) (b_5 b_6 : Bool) (b_7 b_8 b_9 b_10 b_11 b_12 out out2 out3 : Int) (m10_ : LMv) (m11_ : (List TPiece)) (m12_ : LInt) (m13_ : (List TEnd)) (m14_ m15_ m16_ : LInt) (m17_ : (List TUndo)) : Option (TMv × Int × TBoard) :=
 bif (ltI t14_ t13_) then (chk ((leI 0 t14_) && (ltI t14_ (m10_.length : Int))) <|
  (Q50 N ((b_2, (b_3, (b_4, (m11_, (m12_, (b_5, (b_6, (m13_, (b_7, (b_8, b_9)))))))))), ((m14_, ((m15_, m16_), (b_10, b_11))), (b_12, m17_))) (gD ((0 : Int), ((0 : Int), (0 : Int))) m10_ t14_)).bind fun y2 =>
  (Q42 N y2 (w64 (depth - 1))).bind fun y3 =>
  (Q72 N (w64 (0 - y3.1))).bind fun y4 =>
  (Q51 N y3.2).bind fun y5 =>
  bif (ltI most y4) then (r0 y4 t13_ (w64 (t14_ + 1)) y5.2.1.1 y5.2.1.2.1 y5.2.1.2.2.1 y5.2.1.2.2.2.2.2.1 y5.2.1.2.2.2.2.2.2.1 y5.2.1.2.2.2.2.2.2.2.2.1 y5.2.1.2.2.2.2.2.2.2.2.2.1 y5.2.1.2.2.2.2.2.2.2.2.2.2 y5.2.2.1.2.2.1 y5.2.2.1.2.2.2 y5.2.2.2.1 (gD ((0 : Int), ((0 : Int), (0 : Int))) m10_ t14_).1 (gD ((0 : Int), ((0 : Int), (0 : Int))) m10_ t14_).2.1 (gD ((0 : Int), ((0 : Int), (0 : Int))) m10_ t14_).2.2 m10_ y5.2.1.2.2.2.1 y5.2.1.2.2.2.2.1 y5.2.1.2.2.2.2.2.2.2.1 y5.2.2.1.1 y5.2.2.1.2.1.1 y5.2.2.1.2.1.2 y5.2.2.2.2)
  else r0 most t13_ (w64 (t14_ + 1)) y5.2.1.1 y5.2.1.2.1 y5.2.1.2.2.1 y5.2.1.2.2.2.2.2.1 y5.2.1.2.2.2.2.2.2.1 y5.2.1.2.2.2.2.2.2.2.2.1 y5.2.1.2.2.2.2.2.2.2.2.2.1 y5.2.1.2.2.2.2.2.2.2.2.2.2 y5.2.2.1.2.2.1 y5.2.2.1.2.2.2 y5.2.2.2.1 out out2 out3 m10_ y5.2.1.2.2.2.1 y5.2.1.2.2.2.2.1 y5.2.1.2.2.2.2.2.2.2.1 y5.2.2.1.1 y5.2.2.1.2.1.1 y5.2.2.1.2.1.2 y5.2.2.2.2)
 else some ((out, (out2, out3)), (most, ((b_2, (b_3, (b_4, (m11_, (m12_, (b_5, (b_6, (m13_, (b_7, (b_8, b_9)))))))))), ((m14_, ((m15_, m16_), (b_10, b_11))), (b_12, m17_)))))
def Q68.L (N : Nat) (b_ : TBoard) (depth : Int) : Nat → (Int → Int → Int → ByteArray → Int → Int → Bool → Bool → Int → Int → Int → Int → Int → Int → Int → Int → Int → LMv → (List TPiece) → LInt → (List TEnd) → LInt → LInt → LInt → (List TUndo) → Option (TMv × Int × TBoard))
 | 0 => fun _ _ _ _ _ _ _ _ _ _ _ _ _ _ _ _ _ _ _ _ _ _ _ _ _ => none
 | n + 1 => fun most t13_ t14_ b_2 b_3 b_4 b_5 b_6 b_7 b_8 b_9 b_10 b_11 b_12 out out2 out3 m10_ m11_ m12_ m13_ m14_ m15_ m16_ m17_ => Q68.s0 N b_ depth (Q68.L N b_ depth n) most t13_ t14_ b_2 b_3 b_4 b_5 b_6 b_7 b_8 b_9 b_10 b_11 b_12 out out2 out3 m10_ m11_ m12_ m13_ m14_ m15_ m16_ m17_
def Q68.l0 (N : Nat) (b_ : TBoard) (depth : Int) (n : Nat) : Int → Int → Int → ByteArray → Int → Int → Bool → Bool → Int → Int → Int → Int → Int → Int → Int → Int → Int → LMv → (List TPiece) → LInt → (List TEnd) → LInt → LInt → LInt → (List TUndo) → Option (TMv × Int × TBoard) := (Q68.L N b_ depth n)
theorem Q68.l0_s (N : Nat) (b_ : TBoard) (depth : Int) (n : Nat) (most t13_ t14_ : Int) (b_2 : ByteArray) (b_3 b_4 : Int) (b_5 b_6 : Bool) (b_7 b_8 b_9 b_10 b_11 b_12 out out2 out3 : Int) (m10_ : LMv) (m11_ : (List TPiece)) (m12_ : LInt) (m13_ : (List TEnd)) (m14_ m15_ m16_ : LInt) (m17_ : (List TUndo)) : Q68.l0 N b_ depth (n + 1) most t13_ t14_ b_2 b_3 b_4 b_5 b_6 b_7 b_8 b_9 b_10 b_11 b_12 out out2 out3 m10_ m11_ m12_ m13_ m14_ m15_ m16_ m17_ = Q68.s0 N b_ depth (Q68.l0 N b_ depth n) most t13_ t14_ b_2 b_3 b_4 b_5 b_6 b_7 b_8 b_9 b_10 b_11 b_12 out out2 out3 m10_ m11_ m12_ m13_ m14_ m15_ m16_ m17_ := rfl
def Q68 (N : Nat) (b_ : TBoard) (depth : Int) : Option (TMv × Int × TBoard) := Q68.e N (Q68.l0 N b_ depth N) b_ depth
def Q39.e (N : Nat) (r_ : TRules) (p_ : TPos) (depth : Int) : Option (TMv × Int × Int) :=
 (Q41 N r_ p_ depth).bind fun y1 =>
 bif (!(eqI y1 0)) then (some ((0, (0, 0)), (0, y1)))
 else (Q27 N r_ p_).bind fun y2 =>
 oCase y2.1 (bif (eqI depth 0) then (some ((0, (0, 0)), (0, 1)))
  else none) fun b3 =>
 bif (eqI depth 0) then (some ((0, (0, 0)), (0, 1)))
 else (Q32 N b3).bind fun y4 =>
 bif (!(eqI y4 0)) then (some ((0, (0, 0)), (0, 14)))
 else (Q68 N b3 depth).bind fun y5 =>
 some (y5.1, (y5.2.1, 0))
def Q39 (N : Nat) (r_ : TRules) (p_ : TPos) (depth : Int) : Option (TMv × Int × Int) := Q39.e N r_ p_ depth
def Q18.e (N : Nat) : Option Bool :=
 (Q24 N).bind fun y1 =>
 (Q25 N).bind fun y2 =>
 (Q20 N y1 y2 1).bind fun y3 =>
 (Q24 N).bind fun y4 =>
 (Q25 N).bind fun y5 =>
 (Q39 N y4 y5 2).bind fun y6 =>
 (Q21 N [y3.2, y6.2.2]).bind fun y7 =>
 bif y7 then (bif (eqI y3.1 999) then ((Q26 N 2).bind fun y8 =>
   bif ((eqI y6.1.1 y8.1) && ((eqI y6.1.2.1 y8.2.1) && ((eqI y6.1.2.2 y8.2.2) && true))) then (some (eqI y6.2.1 999))
   else some false)
  else some false)
 else some false
def Q18 (N : Nat) : Option Bool := Q18.e N
def Q59.e (N : Nat) (r0 : Int → LInt → LInt → LInt → Option TPos) (r1 : Int → Int → Int → Int → LInt → LInt → LInt → Option TPos) (r_ : TRules) : Option TPos :=
 (Q75 N r_.2.2.2.2.1).bind fun y1 =>
 r0 0 y1 [] []
def Q59.s0 (N : Nat) (r_ : TRules) (r0 : Int → LInt → LInt → LInt → Option TPos) (r1 : Int → Int → Int → Int → LInt → LInt → LInt → Option TPos) (t11_ : Int) (m2_ m4_ m5_ : LInt) : Option TPos :=
 bif (ltI t11_ 2) then (r1 t11_ t11_ (r_.2.2.2.1.length : Int) 0 m2_ m4_ m5_)
 else some (m2_, ((m4_, m5_), (0, 0)))
def Q59.s1 (N : Nat) (r_ : TRules) (r0 : Int → LInt → LInt → LInt → Option TPos) (r1 : Int → Int → Int → Int → LInt → LInt → LInt → Option TPos) (o_ t11_ t16_ t17_ : Int) (m2_ m4_ m5_ : LInt) : Option TPos :=
 bif (ltI t17_ t16_) then (chk ((leI 0 t17_) && (ltI t17_ (r_.2.2.2.1.length : Int))) <|
  bif (eqI o_ 0) then (let v3 : List Int := [(gD ((0 : Int), ((0 : Int), ((0 : Int), ([] : (List TWay))))) r_.2.2.2.1 t17_).2.1]
   chk (capOk 8 (m4_.length + v3.length)) <|
   r1 0 t11_ t16_ (w64 (t17_ + 1)) m2_ (m4_ ++ v3) m5_)
  else bif (eqI o_ 1) then (let v4 : List Int := [(gD ((0 : Int), ((0 : Int), ((0 : Int), ([] : (List TWay))))) r_.2.2.2.1 t17_).2.1]
   chk (capOk 8 (m5_.length + v4.length)) <|
   r1 1 t11_ t16_ (w64 (t17_ + 1)) m2_ m4_ (m5_ ++ v4))
  else none)
 else r0 (w64 (t11_ + 1)) m2_ m4_ m5_
def Q59.L (N : Nat) (r_ : TRules) : Nat → (Int → LInt → LInt → LInt → Option TPos) × (Int → Int → Int → Int → LInt → LInt → LInt → Option TPos)
 | 0 => (fun _ _ _ _ => none, fun _ _ _ _ _ _ _ => none)
 | n + 1 => (fun t11_ m2_ m4_ m5_ => Q59.s0 N r_ (Q59.L N r_ n).1 (Q59.L N r_ n).2 t11_ m2_ m4_ m5_, fun o_ t11_ t16_ t17_ m2_ m4_ m5_ => Q59.s1 N r_ (Q59.L N r_ n).1 (Q59.L N r_ n).2 o_ t11_ t16_ t17_ m2_ m4_ m5_)
def Q59.l0 (N : Nat) (r_ : TRules) (n : Nat) : Int → LInt → LInt → LInt → Option TPos := (Q59.L N r_ n).1
def Q59.l1 (N : Nat) (r_ : TRules) (n : Nat) : Int → Int → Int → Int → LInt → LInt → LInt → Option TPos := (Q59.L N r_ n).2
theorem Q59.l0_s (N : Nat) (r_ : TRules) (n : Nat) (t11_ : Int) (m2_ m4_ m5_ : LInt) : Q59.l0 N r_ (n + 1) t11_ m2_ m4_ m5_ = Q59.s0 N r_ (Q59.l0 N r_ n) (Q59.l1 N r_ n) t11_ m2_ m4_ m5_ := rfl
theorem Q59.l1_s (N : Nat) (r_ : TRules) (n : Nat) (o_ t11_ t16_ t17_ : Int) (m2_ m4_ m5_ : LInt) : Q59.l1 N r_ (n + 1) o_ t11_ t16_ t17_ m2_ m4_ m5_ = Q59.s1 N r_ (Q59.l0 N r_ n) (Q59.l1 N r_ n) o_ t11_ t16_ t17_ m2_ m4_ m5_ := rfl
def Q59 (N : Nat) (r_ : TRules) : Option TPos := Q59.e N (Q59.l0 N r_ N) (Q59.l1 N r_ N) r_
def Q35.e (N : Nat) (r_ : TRules) : Option (TPos × Int) :=
 (Q58 N r_).bind fun y1 =>
 bif (!(eqI y1 0)) then (some (([], (([], []), (0, 0))), y1))
 else (Q59 N r_).bind fun y2 =>
 some (y2, 0)
def Q35 (N : Nat) (r_ : TRules) : Option (TPos × Int) := Q35.e N r_
def Q17.e (N : Nat) (r_ : TRules) (p_ : TPos) : Option (LMv × Int) :=
 (Q37 N r_ p_).bind fun y1 =>
 bif (!(eqI y1 0)) then (some ([], y1))
 else (Q38 N r_ p_).bind fun y2 =>
 some (y2, 0)
def Q17 (N : Nat) (r_ : TRules) (p_ : TPos) : Option (LMv × Int) := Q17.e N r_ p_
def Q86.e (N : Nat) (r0 : Int → Option Int) (s_ : LMv) (v_ : TMv) : Option Int :=
 r0 0
def Q86.s0 (N : Nat) (s_ : LMv) (v_ : TMv) (r0 : Int → Option Int) (t8_ : Int) : Option Int :=
 bif (ltI t8_ (s_.length : Int)) then (chk ((leI 0 t8_) && (ltI t8_ (s_.length : Int))) <|
  bif ((eqI v_.1 (gD ((0 : Int), ((0 : Int), (0 : Int))) s_ t8_).1) && ((eqI v_.2.1 (gD ((0 : Int), ((0 : Int), (0 : Int))) s_ t8_).2.1) && ((eqI v_.2.2 (gD ((0 : Int), ((0 : Int), (0 : Int))) s_ t8_).2.2) && true))) then some t8_
  else r0 (w64 (t8_ + 1)))
 else some (-1)
def Q86.L (N : Nat) (s_ : LMv) (v_ : TMv) : Nat → (Int → Option Int)
 | 0 => fun _ => none
 | n + 1 => fun t8_ => Q86.s0 N s_ v_ (Q86.L N s_ v_ n) t8_
def Q86.l0 (N : Nat) (s_ : LMv) (v_ : TMv) (n : Nat) : Int → Option Int := (Q86.L N s_ v_ n)
theorem Q86.l0_s (N : Nat) (s_ : LMv) (v_ : TMv) (n : Nat) (t8_ : Int) : Q86.l0 N s_ v_ (n + 1) t8_ = Q86.s0 N s_ v_ (Q86.l0 N s_ v_ n) t8_ := rfl
def Q86 (N : Nat) (s_ : LMv) (v_ : TMv) : Option Int := Q86.e N (Q86.l0 N s_ v_ N) s_ v_
def Q60.e (N : Nat) (s_ : LMv) (v_ : TMv) : Option Bool :=
 (Q86 N s_ v_).bind fun y1 =>
 some (leI 0 y1)
def Q60 (N : Nat) (s_ : LMv) (v_ : TMv) : Option Bool := Q60.e N s_ v_
def Q36.e (N : Nat) (r_ : TRules) (p_ : TPos) (m_ : TMv) : Option (Bool × Int) :=
 (Q37 N r_ p_).bind fun y1 =>
 bif (!(eqI y1 0)) then (some (false, y1))
 else (Q38 N r_ p_).bind fun y2 =>
 (Q60 N y2 m_).bind fun y3 =>
 some (y3, 0)
def Q36 (N : Nat) (r_ : TRules) (p_ : TPos) (m_ : TMv) : Option (Bool × Int) := Q36.e N r_ p_ m_
def Q45.e (N : Nat) (r_ : TRules) (p_ : TPos) (m_ : TMv) : Option TPos :=
 (Q47 N p_).bind fun y1 =>
 bif (ltI m_.1 0) then (bif (eqI p_.2.2.1 0) then (chk ((leI 0 m_.2.2) && (ltI m_.2.2 (y1.2.1.1.length : Int))) <|
   chk ((leI 0 m_.2.2) && (ltI m_.2.2 (y1.2.1.1.length : Int))) <|
   let v4 : List Int := (y1.2.1.1.set m_.2.2.toNat (w64 ((gD (0 : Int) y1.2.1.1 m_.2.2) - 1)))
   chk ((leI 0 m_.2.1) && (ltI m_.2.1 (p_.1.length : Int))) <|
   bif (!(eqI (gD (0 : Int) p_.1 m_.2.1) 0)) then (bif (eqI p_.2.2.1 0) then (bif r_.2.2.2.2.2.2.1 then ((Q63 N (gD (0 : Int) p_.1 m_.2.1)).bind fun y6 =>
      (Q63 N (gD (0 : Int) p_.1 m_.2.1)).bind fun y7 =>
      chk ((leI 0 y7) && (ltI y7 (v4.length : Int))) <|
      let v8 : Int := (w64 ((gD (0 : Int) v4 y7) + 1))
      chk ((leI 0 y6) && (ltI y6 (v4.length : Int))) <|
      (Q74 N m_.2.2 p_.2.2.1).bind fun y10 =>
      chk ((leI 0 m_.2.1) && (ltI m_.2.1 (y1.1.length : Int))) <|
      some ((y1.1.set m_.2.1.toNat y10), (((v4.set y6.toNat (bif (ltI 1000 v8) then 1000 else v8)), y1.2.1.2), ((w64 (1 - p_.2.2.1)), 0))))
     else (Q74 N m_.2.2 p_.2.2.1).bind fun y12 =>
     chk ((leI 0 m_.2.1) && (ltI m_.2.1 (y1.1.length : Int))) <|
     some ((y1.1.set m_.2.1.toNat y12), ((v4, y1.2.1.2), ((w64 (1 - p_.2.2.1)), 0))))
    else bif (eqI p_.2.2.1 1) then (bif r_.2.2.2.2.2.2.1 then ((Q63 N (gD (0 : Int) p_.1 m_.2.1)).bind fun y14 =>
      (Q63 N (gD (0 : Int) p_.1 m_.2.1)).bind fun y15 =>
      chk ((leI 0 y15) && (ltI y15 (y1.2.1.2.length : Int))) <|
      let v16 : Int := (w64 ((gD (0 : Int) y1.2.1.2 y15) + 1))
      chk ((leI 0 y14) && (ltI y14 (y1.2.1.2.length : Int))) <|
      (Q74 N m_.2.2 p_.2.2.1).bind fun y19 =>
      chk ((leI 0 m_.2.1) && (ltI m_.2.1 (y1.1.length : Int))) <|
      some ((y1.1.set m_.2.1.toNat y19), ((v4, (y1.2.1.2.set y14.toNat (bif (ltI 1000 v16) then 1000 else v16))), ((w64 (1 - p_.2.2.1)), 0))))
     else (Q74 N m_.2.2 p_.2.2.1).bind fun y21 =>
     chk ((leI 0 m_.2.1) && (ltI m_.2.1 (y1.1.length : Int))) <|
     some ((y1.1.set m_.2.1.toNat y21), ((v4, y1.2.1.2), ((w64 (1 - p_.2.2.1)), 0))))
    else none)
   else (Q74 N m_.2.2 p_.2.2.1).bind fun y23 =>
   chk ((leI 0 m_.2.1) && (ltI m_.2.1 (y1.1.length : Int))) <|
   some ((y1.1.set m_.2.1.toNat y23), ((v4, y1.2.1.2), ((w64 (1 - p_.2.2.1)), 0))))
  else bif (eqI p_.2.2.1 1) then (chk ((leI 0 m_.2.2) && (ltI m_.2.2 (y1.2.1.2.length : Int))) <|
   chk ((leI 0 m_.2.2) && (ltI m_.2.2 (y1.2.1.2.length : Int))) <|
   let v26 : List Int := (y1.2.1.2.set m_.2.2.toNat (w64 ((gD (0 : Int) y1.2.1.2 m_.2.2) - 1)))
   chk ((leI 0 m_.2.1) && (ltI m_.2.1 (p_.1.length : Int))) <|
   bif (!(eqI (gD (0 : Int) p_.1 m_.2.1) 0)) then (bif (eqI p_.2.2.1 0) then (bif r_.2.2.2.2.2.2.1 then ((Q63 N (gD (0 : Int) p_.1 m_.2.1)).bind fun y28 =>
      (Q63 N (gD (0 : Int) p_.1 m_.2.1)).bind fun y29 =>
      chk ((leI 0 y29) && (ltI y29 (y1.2.1.1.length : Int))) <|
      let v30 : Int := (w64 ((gD (0 : Int) y1.2.1.1 y29) + 1))
      chk ((leI 0 y28) && (ltI y28 (y1.2.1.1.length : Int))) <|
      (Q74 N m_.2.2 p_.2.2.1).bind fun y33 =>
      chk ((leI 0 m_.2.1) && (ltI m_.2.1 (y1.1.length : Int))) <|
      some ((y1.1.set m_.2.1.toNat y33), (((y1.2.1.1.set y28.toNat (bif (ltI 1000 v30) then 1000 else v30)), v26), ((w64 (1 - p_.2.2.1)), 0))))
     else (Q74 N m_.2.2 p_.2.2.1).bind fun y35 =>
     chk ((leI 0 m_.2.1) && (ltI m_.2.1 (y1.1.length : Int))) <|
     some ((y1.1.set m_.2.1.toNat y35), ((y1.2.1.1, v26), ((w64 (1 - p_.2.2.1)), 0))))
    else bif (eqI p_.2.2.1 1) then (bif r_.2.2.2.2.2.2.1 then ((Q63 N (gD (0 : Int) p_.1 m_.2.1)).bind fun y37 =>
      (Q63 N (gD (0 : Int) p_.1 m_.2.1)).bind fun y38 =>
      chk ((leI 0 y38) && (ltI y38 (v26.length : Int))) <|
      let v39 : Int := (w64 ((gD (0 : Int) v26 y38) + 1))
      chk ((leI 0 y37) && (ltI y37 (v26.length : Int))) <|
      (Q74 N m_.2.2 p_.2.2.1).bind fun y41 =>
      chk ((leI 0 m_.2.1) && (ltI m_.2.1 (y1.1.length : Int))) <|
      some ((y1.1.set m_.2.1.toNat y41), ((y1.2.1.1, (v26.set y37.toNat (bif (ltI 1000 v39) then 1000 else v39))), ((w64 (1 - p_.2.2.1)), 0))))
     else (Q74 N m_.2.2 p_.2.2.1).bind fun y43 =>
     chk ((leI 0 m_.2.1) && (ltI m_.2.1 (y1.1.length : Int))) <|
     some ((y1.1.set m_.2.1.toNat y43), ((y1.2.1.1, v26), ((w64 (1 - p_.2.2.1)), 0))))
    else none)
   else (Q74 N m_.2.2 p_.2.2.1).bind fun y45 =>
   chk ((leI 0 m_.2.1) && (ltI m_.2.1 (y1.1.length : Int))) <|
   some ((y1.1.set m_.2.1.toNat y45), ((y1.2.1.1, v26), ((w64 (1 - p_.2.2.1)), 0))))
  else none)
 else chk ((leI 0 m_.1) && (ltI m_.1 (y1.1.length : Int))) <|
 chk ((leI 0 m_.2.1) && (ltI m_.2.1 (p_.1.length : Int))) <|
 bif (!(eqI (gD (0 : Int) p_.1 m_.2.1) 0)) then (bif (eqI p_.2.2.1 0) then (bif r_.2.2.2.2.2.2.1 then ((Q63 N (gD (0 : Int) p_.1 m_.2.1)).bind fun y48 =>
    (Q63 N (gD (0 : Int) p_.1 m_.2.1)).bind fun y49 =>
    chk ((leI 0 y49) && (ltI y49 (y1.2.1.1.length : Int))) <|
    let v50 : Int := (w64 ((gD (0 : Int) y1.2.1.1 y49) + 1))
    chk ((leI 0 y48) && (ltI y48 (y1.2.1.1.length : Int))) <|
    (Q74 N m_.2.2 p_.2.2.1).bind fun y53 =>
    chk ((leI 0 m_.2.1) && (ltI m_.2.1 ((y1.1.set m_.1.toNat 0).length : Int))) <|
    some (((y1.1.set m_.1.toNat 0).set m_.2.1.toNat y53), (((y1.2.1.1.set y48.toNat (bif (ltI 1000 v50) then 1000 else v50)), y1.2.1.2), ((w64 (1 - p_.2.2.1)), 0))))
   else (Q74 N m_.2.2 p_.2.2.1).bind fun y55 =>
   chk ((leI 0 m_.2.1) && (ltI m_.2.1 ((y1.1.set m_.1.toNat 0).length : Int))) <|
   some (((y1.1.set m_.1.toNat 0).set m_.2.1.toNat y55), (y1.2.1, ((w64 (1 - p_.2.2.1)), 0))))
  else bif (eqI p_.2.2.1 1) then (bif r_.2.2.2.2.2.2.1 then ((Q63 N (gD (0 : Int) p_.1 m_.2.1)).bind fun y57 =>
    (Q63 N (gD (0 : Int) p_.1 m_.2.1)).bind fun y58 =>
    chk ((leI 0 y58) && (ltI y58 (y1.2.1.2.length : Int))) <|
    let v59 : Int := (w64 ((gD (0 : Int) y1.2.1.2 y58) + 1))
    chk ((leI 0 y57) && (ltI y57 (y1.2.1.2.length : Int))) <|
    (Q74 N m_.2.2 p_.2.2.1).bind fun y62 =>
    chk ((leI 0 m_.2.1) && (ltI m_.2.1 ((y1.1.set m_.1.toNat 0).length : Int))) <|
    some (((y1.1.set m_.1.toNat 0).set m_.2.1.toNat y62), ((y1.2.1.1, (y1.2.1.2.set y57.toNat (bif (ltI 1000 v59) then 1000 else v59))), ((w64 (1 - p_.2.2.1)), 0))))
   else (Q74 N m_.2.2 p_.2.2.1).bind fun y64 =>
   chk ((leI 0 m_.2.1) && (ltI m_.2.1 ((y1.1.set m_.1.toNat 0).length : Int))) <|
   some (((y1.1.set m_.1.toNat 0).set m_.2.1.toNat y64), (y1.2.1, ((w64 (1 - p_.2.2.1)), 0))))
  else none)
 else (Q74 N m_.2.2 p_.2.2.1).bind fun y66 =>
 chk ((leI 0 m_.2.1) && (ltI m_.2.1 ((y1.1.set m_.1.toNat 0).length : Int))) <|
 some (((y1.1.set m_.1.toNat 0).set m_.2.1.toNat y66), (y1.2.1, ((w64 (1 - p_.2.2.1)), (bif (ltI 200 (w64 (p_.2.2.2 + 1))) then 200 else (w64 (p_.2.2.2 + 1))))))
def Q45 (N : Nat) (r_ : TRules) (p_ : TPos) (m_ : TMv) : Option TPos := Q45.e N r_ p_ m_
def Q23.e (N : Nat) (r_ : TRules) (p_ : TPos) (m_ : TMv) : Option (TPos × Int) :=
 (Q36 N r_ p_ m_).bind fun y1 =>
 bif (!(eqI y1.2 0)) then (some (([], (([], []), (0, 0))), y1.2))
 else bif (!y1.1) then (some (([], (([], []), (0, 0))), 13))
 else (Q45 N r_ p_ m_).bind fun y2 =>
 some (y2, 0)
def Q23 (N : Nat) (r_ : TRules) (p_ : TPos) (m_ : TMv) : Option (TPos × Int) := Q23.e N r_ p_ m_
def Q16.e (N : Nat) : Option Bool :=
 (Q24 N).bind fun y1 =>
 (Q35 N y1).bind fun y2 =>
 (Q24 N).bind fun y3 =>
 (Q17 N y3 y2.1).bind fun y4 =>
 (Q24 N).bind fun y5 =>
 (Q26 N 4).bind fun y6 =>
 (Q23 N y5 y2.1 y6).bind fun y7 =>
 (Q24 N).bind fun y8 =>
 (Q26 N 9).bind fun y9 =>
 (Q36 N y8 y2.1 y9).bind fun y10 =>
 (Q21 N [y2.2, y4.2, y7.2, y10.2]).bind fun y12 =>
 bif y12 then (bif (eqI (y4.1.length : Int) 9) then (chk (true && (ltI 8 (y4.1.length : Int))) <|
   (Q26 N 8).bind fun y14 =>
   bif ((eqI (gD ((0 : Int), ((0 : Int), (0 : Int))) y4.1 8).1 y14.1) && ((eqI (gD ((0 : Int), ((0 : Int), (0 : Int))) y4.1 8).2.1 y14.2.1) && ((eqI (gD ((0 : Int), ((0 : Int), (0 : Int))) y4.1 8).2.2 y14.2.2) && true))) then (bif (eqI (y7.1.1.length : Int) 9) then (chk (true && (ltI 4 (y7.1.1.length : Int))) <|
     bif (eqI (gD (0 : Int) y7.1.1 4) 1) then (some (!y10.1))
     else some false)
    else some false)
   else some false)
  else some false)
 else some false
def Q16 (N : Nat) : Option Bool := Q16.e N
def Q19.e (N : Nat) (r_ : TRules) (p_ : TPos) (depth : Int) : Option Bool :=
 (Q40 N r_ p_ depth).bind fun y1 =>
 bif (eqI y1.2 17) then some true
 else bif (ltI 3000 y1.1) then some true
 else some (ltI 20 (p_.1.length : Int))
def Q19 (N : Nat) (r_ : TRules) (p_ : TPos) (depth : Int) : Option Bool := Q19.e N r_ p_ depth
def Q8.e (N : Nat) (r_ : TRules) (p_ : TPos) (budget depth : Int) : Option Bool :=
 (Q9 N).bind fun y1 =>
 bif (!y1) then some false
 else (Q18 N).bind fun y2 =>
 bif (!y2) then some false
 else (Q16 N).bind fun y3 =>
 bif (!y3) then some false
 else (Q22 N r_ p_ (Int.tmod (w64 ((Int.tmod budget 60) + 60)) 60)).bind fun y5 =>
 bif (!(eqI y5.2 0)) then (some ((eqI y5.1.1 0) && ((eqI y5.1.2.1 0) && ((eqI y5.1.2.2 0) && true))))
 else (Q23 N r_ p_ y5.1).bind fun y7 =>
 (Q19 N r_ y7.1 depth).bind fun y8 =>
 bif y8 then (some (eqI y7.2 0))
 else (Q20 N r_ y7.1 depth).bind fun y9 =>
 bif (eqI y7.2 0) then (bif (!(eqI y9.2 0)) then some true
  else some (leI y9.1 0))
 else some false
def Q8 (N : Nat) (r_ : TRules) (p_ : TPos) (budget depth : Int) : Option Bool := Q8.e N r_ p_ budget depth
end
end Go.Proofs.Ytpielijehhhobaa.Am
