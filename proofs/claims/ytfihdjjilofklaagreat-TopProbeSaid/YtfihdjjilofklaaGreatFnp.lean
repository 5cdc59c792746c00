/- PRINTED by gen.py: what the functions compute, as plain Lean functions with fuel. -/
import Derived.Test.YtfihdjjilofklaaGreatAm14
set_option linter.unusedVariables false
set_option linter.unusedSimpArgs false
namespace Go.Proofs.YtfihdjjilofklaaGreat.Am
open Go
abbrev TWay := Int × (Int × (Int × Int))
abbrev TPiece := Int × (Int × (Int × (List TWay)))
abbrev TEnd := Int × (Int × (Int × Bool))
abbrev TMv := Int × (Int × Int)
abbrev LMv := List TMv
abbrev LInt := List Int
abbrev TRules := ByteArray × (Int × (Int × ((List TPiece) × (LInt × (Bool × (Bool × ((List TEnd) × (Int × (Int × Int)))))))))
abbrev TPos := LInt × ((LInt × LInt) × (Int × Int))
abbrev TUndo := TMv × (Int × (Int × (Bool × (Int × Int))))
abbrev TBoard := TRules × (TPos × (Int × (List TUndo)))
abbrev TTab := TRules × ((List TPos) × ((List LInt) × ((List LMv) × ((List (Int × Int)) × (List (ByteArray × Int))))))
def Q11.e (N : Nat) : Option TRules :=
 some ((⟨#[84, 87, 79]⟩ : ByteArray), (2, (1, ([(65, (2, (0, [])))], ([0, 0], (false, (false, ([(0, (0, (2, false)))], (0, (0, 0))))))))))
def Q11 (N : Nat) : Option TRules := Q11.e N
def Q50.e (N : Nat) (r0 : Int → Option Bool) (s_ : ByteArray) : Option Bool :=
 bif (s_.toList == (⟨#[]⟩ : ByteArray).toList) then some false
 else bif (ltI 8 (s_.size : Int)) then some false
 else chk (true && ltI 0 (s_.size : Int)) <|
 bif (leI 48 (bt s_ 0)) then (chk (true && ltI 0 (s_.size : Int)) <|
  bif (leI (bt s_ 0) 57) then some false
  else r0 0)
 else r0 0
def Q50.s0 (N : Nat) (s_ : ByteArray) (r0 : Int → Option Bool) (t23_ : Int) : Option Bool :=
 bif (ltI t23_ (s_.size : Int)) then (chk ((leI 0 t23_) && ltI t23_ (s_.size : Int)) <|
  bif (ltI (bt s_ t23_) 65) then (chk ((leI 0 t23_) && ltI t23_ (s_.size : Int)) <|
   bif (ltI (bt s_ t23_) 48) then some false
   else chk ((leI 0 t23_) && ltI t23_ (s_.size : Int)) <|
   bif (ltI 57 (bt s_ t23_)) then some false
   else r0 (w64 (t23_ + 1)))
  else chk ((leI 0 t23_) && ltI t23_ (s_.size : Int)) <|
  bif (ltI 90 (bt s_ t23_)) then (chk ((leI 0 t23_) && ltI t23_ (s_.size : Int)) <|
   bif (ltI (bt s_ t23_) 48) then some false
   else chk ((leI 0 t23_) && ltI t23_ (s_.size : Int)) <|
   bif (ltI 57 (bt s_ t23_)) then some false
   else r0 (w64 (t23_ + 1)))
  else r0 (w64 (t23_ + 1)))
 else some true
def Q50.L (N : Nat) (s_ : ByteArray) : Nat → (Int → Option Bool)
 | 0 => fun _ => none
 | n + 1 => fun t23_ => Q50.s0 N s_ (Q50.L N s_ n) t23_
def Q50.l0 (N : Nat) (s_ : ByteArray) (n : Nat) : Int → Option Bool := (Q50.L N s_ n)
theorem Q50.l0_s (N : Nat) (s_ : ByteArray) (n : Nat) (t23_ : Int) : Q50.l0 N s_ (n + 1) t23_ = Q50.s0 N s_ (Q50.l0 N s_ n) t23_ := rfl
def Q50 (N : Nat) (s_ : ByteArray) : Option Bool := Q50.e N (Q50.l0 N s_ N) s_
def Q75.e (N : Nat) (w_ : TWay) : Option Int :=
 bif (ltI w_.1 (-7)) then some 4
 else bif (ltI 7 w_.1) then some 4
 else bif (ltI w_.2.1 (-7)) then some 4
 else bif (ltI 7 w_.2.1) then some 4
 else bif (eqI w_.1 0) then (bif (eqI w_.2.1 0) then some 4
  else bif (ltI w_.2.2.1 1) then some 4
  else bif (ltI 7 w_.2.2.1) then some 4
  else bif (ltI w_.2.2.2 0) then some 4
  else bif (ltI 2 w_.2.2.2) then some 4
  else some 0)
 else bif (ltI w_.2.2.1 1) then some 4
 else bif (ltI 7 w_.2.2.1) then some 4
 else bif (ltI w_.2.2.2 0) then some 4
 else bif (ltI 2 w_.2.2.2) then some 4
 else some 0
def Q75 (N : Nat) (w_ : TWay) : Option Int := Q75.e N w_
def Q51.e (N : Nat) (r0 : Int → Option Int) (r1 : Int → (List TPiece) → Int → Int → Int → Int → Int → (List TWay) → Option Int) (r2 : Int → (List TWay) → Int → Int → Option Int) (l_ : (List TPiece)) : Option Int :=
 bif (eqI (l_.length : Int) 0) then some 8
 else bif (ltI 6 (l_.length : Int)) then some 2
 else r0 0
def Q51.s0 (N : Nat) (l_ : (List TPiece)) (r0 : Int → Option Int) (r1 : Int → (List TPiece) → Int → Int → Int → Int → Int → (List TWay) → Option Int) (r2 : Int → (List TWay) → Int → Int → Option Int) (t20_ : Int) : Option Int :=
 bif (ltI t20_ (l_.length : Int)) then (chk ((leI 0 t20_) && (ltI t20_ (l_.length : Int))) <|
  bif (ltI (gD ((0 : Int), ((0 : Int), ((0 : Int), ([] : (List TWay))))) l_ t20_).1 65) then some 6
  else bif (ltI 90 (gD ((0 : Int), ((0 : Int), ((0 : Int), ([] : (List TWay))))) l_ t20_).1) then some 6
  else chk (true && ((leI 0 t20_) && (leI t20_ (l_.length : Int)))) <|
  r1 t20_ ((l_.take t20_.toNat).drop (0 : Int).toNat) (((l_.take t20_.toNat).drop (0 : Int).toNat).length : Int) 0 (gD ((0 : Int), ((0 : Int), ((0 : Int), ([] : (List TWay))))) l_ t20_).1 (gD ((0 : Int), ((0 : Int), ((0 : Int), ([] : (List TWay))))) l_ t20_).2.1 (gD ((0 : Int), ((0 : Int), ((0 : Int), ([] : (List TWay))))) l_ t20_).2.2.1 (gD ((0 : Int), ((0 : Int), ((0 : Int), ([] : (List TWay))))) l_ t20_).2.2.2)
 else some 0
def Q51.s1 (N : Nat) (l_ : (List TPiece)) (r0 : Int → Option Int) (r1 : Int → (List TPiece) → Int → Int → Int → Int → Int → (List TWay) → Option Int) (r2 : Int → (List TWay) → Int → Int → Option Int) (t20_ : Int) (t35_ : (List TPiece)) (t36_ t37_ p_ p_2 p_3 : Int) (p_4 : (List TWay)) : Option Int :=
 bif (ltI t37_ t36_) then (chk ((leI 0 t37_) && (ltI t37_ (t35_.length : Int))) <|
  bif (eqI (gD ((0 : Int), ((0 : Int), ((0 : Int), ([] : (List TWay))))) t35_ t37_).1 p_) then some 7
  else r1 t20_ t35_ t36_ (w64 (t37_ + 1)) p_ p_2 p_3 p_4)
 else bif (ltI p_2 0) then some 4
 else bif (ltI 64 p_2) then some 4
 else bif (ltI p_3 0) then some 4
 else bif (ltI (l_.length : Int) p_3) then some 4
 else bif (ltI 16 (p_4.length : Int)) then some 2
 else r2 t20_ p_4 (p_4.length : Int) 0
def Q51.s2 (N : Nat) (l_ : (List TPiece)) (r0 : Int → Option Int) (r1 : Int → (List TPiece) → Int → Int → Int → Int → Int → (List TWay) → Option Int) (r2 : Int → (List TWay) → Int → Int → Option Int) (t20_ : Int) (t72_ : (List TWay)) (t73_ t74_ : Int) : Option Int :=
 bif (ltI t74_ t73_) then (chk ((leI 0 t74_) && (ltI t74_ (t72_.length : Int))) <|
  (Q75 N (gD ((0 : Int), dM) t72_ t74_)).bind fun y10 =>
  bif (!(eqI y10 0)) then some y10
  else r2 t20_ t72_ t73_ (w64 (t74_ + 1)))
 else r0 (w64 (t20_ + 1))
def Q51.L (N : Nat) (l_ : (List TPiece)) : Nat → (Int → Option Int) × (Int → (List TPiece) → Int → Int → Int → Int → Int → (List TWay) → Option Int) × (Int → (List TWay) → Int → Int → Option Int)
 | 0 => (fun _ => none, fun _ _ _ _ _ _ _ _ => none, fun _ _ _ _ => none)
 | n + 1 => (fun t20_ => Q51.s0 N l_ (Q51.L N l_ n).1 (Q51.L N l_ n).2.1 (Q51.L N l_ n).2.2 t20_, fun t20_ t35_ t36_ t37_ p_ p_2 p_3 p_4 => Q51.s1 N l_ (Q51.L N l_ n).1 (Q51.L N l_ n).2.1 (Q51.L N l_ n).2.2 t20_ t35_ t36_ t37_ p_ p_2 p_3 p_4, fun t20_ t72_ t73_ t74_ => Q51.s2 N l_ (Q51.L N l_ n).1 (Q51.L N l_ n).2.1 (Q51.L N l_ n).2.2 t20_ t72_ t73_ t74_)
def Q51.l0 (N : Nat) (l_ : (List TPiece)) (n : Nat) : Int → Option Int := (Q51.L N l_ n).1
def Q51.l1 (N : Nat) (l_ : (List TPiece)) (n : Nat) : Int → (List TPiece) → Int → Int → Int → Int → Int → (List TWay) → Option Int := (Q51.L N l_ n).2.1
def Q51.l2 (N : Nat) (l_ : (List TPiece)) (n : Nat) : Int → (List TWay) → Int → Int → Option Int := (Q51.L N l_ n).2.2
theorem Q51.l0_s (N : Nat) (l_ : (List TPiece)) (n : Nat) (t20_ : Int) : Q51.l0 N l_ (n + 1) t20_ = Q51.s0 N l_ (Q51.l0 N l_ n) (Q51.l1 N l_ n) (Q51.l2 N l_ n) t20_ := rfl
theorem Q51.l1_s (N : Nat) (l_ : (List TPiece)) (n : Nat) (t20_ : Int) (t35_ : (List TPiece)) (t36_ t37_ p_ p_2 p_3 : Int) (p_4 : (List TWay)) : Q51.l1 N l_ (n + 1) t20_ t35_ t36_ t37_ p_ p_2 p_3 p_4 = Q51.s1 N l_ (Q51.l0 N l_ n) (Q51.l1 N l_ n) (Q51.l2 N l_ n) t20_ t35_ t36_ t37_ p_ p_2 p_3 p_4 := rfl
theorem Q51.l2_s (N : Nat) (l_ : (List TPiece)) (n : Nat) (t20_ : Int) (t72_ : (List TWay)) (t73_ t74_ : Int) : Q51.l2 N l_ (n + 1) t20_ t72_ t73_ t74_ = Q51.s2 N l_ (Q51.l0 N l_ n) (Q51.l1 N l_ n) (Q51.l2 N l_ n) t20_ t72_ t73_ t74_ := rfl
def Q51 (N : Nat) (l_ : (List TPiece)) : Option Int := Q51.e N (Q51.l0 N l_ N) (Q51.l1 N l_ N) (Q51.l2 N l_ N) l_
def Q52.e (N : Nat) (x_ : TEnd) (types : Int) : Option Int :=
 bif (eqI x_.1 0) then (bif (!(eqI x_.2.1 0)) then some 4
  else bif (ltI x_.2.2.1 1) then some 4
  else bif (ltI 64 x_.2.2.1) then some 4
  else some 0)
 else bif (eqI x_.1 1) then (bif (ltI x_.2.1 0) then some 4
  else bif (leI types x_.2.1) then some 4
  else bif (!(eqI x_.2.2.1 0)) then some 4
  else some 0)
 else bif (eqI x_.1 2) then (bif (ltI x_.2.1 0) then some 4
  else bif (leI types x_.2.1) then some 4
  else bif (ltI x_.2.2.1 1) then some 4
  else bif (ltI 64 x_.2.2.1) then some 4
  else some 0)
 else some 1
def Q52 (N : Nat) (x_ : TEnd) (types : Int) : Option Int := Q52.e N x_ types
def Q29.e (N : Nat) (r0 : Int → Int → Option Int) (r1 : Int → Int → Option Int) (r_ : TRules) : Option Int :=
 (Q50 N r_.1).bind fun y1 =>
 bif (!y1) then some 6
 else bif (ltI r_.2.1 1) then some 4
 else bif (ltI 8 r_.2.1) then some 4
 else bif (ltI r_.2.2.1 1) then some 4
 else bif (ltI 8 r_.2.2.1) then some 4
 else (Q51 N r_.2.2.2.1).bind fun y2 =>
 bif (!(eqI y2 0)) then some y2
 else bif (!(eqI (r_.2.2.2.2.1.length : Int) (w64 (r_.2.1 * r_.2.2.1)))) then some 3
 else r0 (r_.2.2.2.2.1.length : Int) 0
def Q29.s0 (N : Nat) (r_ : TRules) (r0 : Int → Int → Option Int) (r1 : Int → Int → Option Int) (t50_ t51_ : Int) : Option Int :=
 bif (ltI t51_ t50_) then (chk ((leI 0 t51_) && (ltI t51_ (r_.2.2.2.2.1.length : Int))) <|
  bif (ltI (gD (0 : Int) r_.2.2.2.2.1 t51_) 0) then some 4
  else bif (ltI (w64 (2 * (r_.2.2.2.1.length : Int))) (gD (0 : Int) r_.2.2.2.2.1 t51_)) then some 4
  else r0 t50_ (w64 (t51_ + 1)))
 else bif (ltI 6 (r_.2.2.2.2.2.2.2.1.length : Int)) then some 2
 else r1 (r_.2.2.2.2.2.2.2.1.length : Int) 0
def Q29.s1 (N : Nat) (r_ : TRules) (r0 : Int → Int → Option Int) (r1 : Int → Int → Option Int) (t72_ t73_ : Int) : Option Int :=
 bif (ltI t73_ t72_) then (chk ((leI 0 t73_) && (ltI t73_ (r_.2.2.2.2.2.2.2.1.length : Int))) <|
  (Q52 N (gD ((0 : Int), ((0 : Int), ((0 : Int), false))) r_.2.2.2.2.2.2.2.1 t73_) (r_.2.2.2.1.length : Int)).bind fun y12 =>
  bif (!(eqI y12 0)) then some y12
  else r1 t72_ (w64 (t73_ + 1)))
 else bif (ltI r_.2.2.2.2.2.2.2.2.1 0) then some 4
 else bif (ltI 2 r_.2.2.2.2.2.2.2.2.1) then some 4
 else bif (ltI r_.2.2.2.2.2.2.2.2.2.1 0) then some 4
 else bif (ltI 200 r_.2.2.2.2.2.2.2.2.2.1) then some 4
 else bif (ltI r_.2.2.2.2.2.2.2.2.2.2 0) then some 4
 else bif (eqI r_.2.2.2.2.2.2.2.2.2.2 1) then some 4
 else bif (ltI 5 r_.2.2.2.2.2.2.2.2.2.2) then some 4
 else some 0
def Q29.L (N : Nat) (r_ : TRules) : Nat → (Int → Int → Option Int) × (Int → Int → Option Int)
 | 0 => (fun _ _ => none, fun _ _ => none)
 | n + 1 => (fun t50_ t51_ => Q29.s0 N r_ (Q29.L N r_ n).1 (Q29.L N r_ n).2 t50_ t51_, fun t72_ t73_ => Q29.s1 N r_ (Q29.L N r_ n).1 (Q29.L N r_ n).2 t72_ t73_)
def Q29.l0 (N : Nat) (r_ : TRules) (n : Nat) : Int → Int → Option Int := (Q29.L N r_ n).1
def Q29.l1 (N : Nat) (r_ : TRules) (n : Nat) : Int → Int → Option Int := (Q29.L N r_ n).2
theorem Q29.l0_s (N : Nat) (r_ : TRules) (n : Nat) (t50_ t51_ : Int) : Q29.l0 N r_ (n + 1) t50_ t51_ = Q29.s0 N r_ (Q29.l0 N r_ n) (Q29.l1 N r_ n) t50_ t51_ := rfl
theorem Q29.l1_s (N : Nat) (r_ : TRules) (n : Nat) (t72_ t73_ : Int) : Q29.l1 N r_ (n + 1) t72_ t73_ = Q29.s1 N r_ (Q29.l0 N r_ n) (Q29.l1 N r_ n) t72_ t73_ := rfl
def Q29 (N : Nat) (r_ : TRules) : Option Int := Q29.e N (Q29.l0 N r_ N) (Q29.l1 N r_ N) r_
def Q19.e (N : Nat) (r0 : Int → Int → (List TPiece) → Option TRules) (r_ : TRules) : Option TRules :=
 let v1 : Int := (r_.2.2.2.1.length : Int)
 chk (leI 0 v1 && (decide (v1.toNat ≤ 140737488355328) && capOk 48 v1.toNat)) <|
 r0 (r_.2.2.2.1.length : Int) 0 (List.replicate v1.toNat ((0 : Int), ((0 : Int), ((0 : Int), ([] : (List TWay))))))
def Q19.s0 (N : Nat) (r_ : TRules) (r0 : Int → Int → (List TPiece) → Option TRules) (t14_ t15_ : Int) (m3_ : (List TPiece)) : Option TRules :=
 bif (ltI t15_ t14_) then (chk ((leI 0 t15_) && (ltI t15_ (r_.2.2.2.1.length : Int))) <|
  chk (capOk 32 (gD ((0 : Int), ((0 : Int), ((0 : Int), ([] : (List TWay))))) r_.2.2.2.1 t15_).2.2.2.length) <|
  chk ((leI 0 t15_) && (ltI t15_ (m3_.length : Int))) <|
  r0 t14_ (w64 (t15_ + 1)) (m3_.set t15_.toNat (gD ((0 : Int), ((0 : Int), ((0 : Int), ([] : (List TWay))))) r_.2.2.2.1 t15_)))
 else chk (capOk 8 r_.2.2.2.2.1.length) <|
 chk (capOk 32 r_.2.2.2.2.2.2.2.1.length) <|
 some (r_.1, (r_.2.1, (r_.2.2.1, (m3_, r_.2.2.2.2))))
def Q19.L (N : Nat) (r_ : TRules) : Nat → (Int → Int → (List TPiece) → Option TRules)
 | 0 => fun _ _ _ => none
 | n + 1 => fun t14_ t15_ m3_ => Q19.s0 N r_ (Q19.L N r_ n) t14_ t15_ m3_
def Q19.l0 (N : Nat) (r_ : TRules) (n : Nat) : Int → Int → (List TPiece) → Option TRules := (Q19.L N r_ n)
theorem Q19.l0_s (N : Nat) (r_ : TRules) (n : Nat) (t14_ t15_ : Int) (m3_ : (List TPiece)) : Q19.l0 N r_ (n + 1) t14_ t15_ m3_ = Q19.s0 N r_ (Q19.l0 N r_ n) t14_ t15_ m3_ := rfl
def Q19 (N : Nat) (r_ : TRules) : Option TRules := Q19.e N (Q19.l0 N r_ N) r_
def Q41.e (N : Nat) (s_ : LInt) : Option LInt :=
 chk (capOk 8 (([] : List Int).length + s_.length)) <|
 some ([] ++ s_)
def Q41 (N : Nat) (s_ : LInt) : Option LInt := Q41.e N s_
def Q31.e (N : Nat) (r0 : Int → LInt → LInt → LInt → Option TPos) (r1 : Int → Int → Int → Int → LInt → LInt → LInt → Option TPos) (r_ : TRules) : Option TPos :=
 (Q41 N r_.2.2.2.2.1).bind fun y1 =>
 r0 0 y1 [] []
def Q31.s0 (N : Nat) (r_ : TRules) (r0 : Int → LInt → LInt → LInt → Option TPos) (r1 : Int → Int → Int → Int → LInt → LInt → LInt → Option TPos) (t11_ : Int) (m2_ m4_ m5_ : LInt) : Option TPos :=
 bif (ltI t11_ 2) then (r1 t11_ t11_ (r_.2.2.2.1.length : Int) 0 m2_ m4_ m5_)
 else some (m2_, ((m4_, m5_), (0, 0)))
def Q31.s1 (N : Nat) (r_ : TRules) (r0 : Int → LInt → LInt → LInt → Option TPos) (r1 : Int → Int → Int → Int → LInt → LInt → LInt → Option TPos) (o_ t11_ t16_ t17_ : Int) (m2_ m4_ m5_ : LInt) : Option TPos :=
 bif (ltI t17_ t16_) then (chk ((leI 0 t17_) && (ltI t17_ (r_.2.2.2.1.length : Int))) <|
  bif (eqI o_ 0) then (let v3 : List Int := [(gD ((0 : Int), ((0 : Int), ((0 : Int), ([] : (List TWay))))) r_.2.2.2.1 t17_).2.1]
   chk (capOk 8 (m4_.length + v3.length)) <|
   r1 0 t11_ t16_ (w64 (t17_ + 1)) m2_ (m4_ ++ v3) m5_)
  else bif (eqI o_ 1) then (let v4 : List Int := [(gD ((0 : Int), ((0 : Int), ((0 : Int), ([] : (List TWay))))) r_.2.2.2.1 t17_).2.1]
   chk (capOk 8 (m5_.length + v4.length)) <|
   r1 1 t11_ t16_ (w64 (t17_ + 1)) m2_ m4_ (m5_ ++ v4))
  else none)
 else r0 (w64 (t11_ + 1)) m2_ m4_ m5_
def Q31.L (N : Nat) (r_ : TRules) : Nat → (Int → LInt → LInt → LInt → Option TPos) × (Int → Int → Int → Int → LInt → LInt → LInt → Option TPos)
 | 0 => (fun _ _ _ _ => none, fun _ _ _ _ _ _ _ => none)
 | n + 1 => (fun t11_ m2_ m4_ m5_ => Q31.s0 N r_ (Q31.L N r_ n).1 (Q31.L N r_ n).2 t11_ m2_ m4_ m5_, fun o_ t11_ t16_ t17_ m2_ m4_ m5_ => Q31.s1 N r_ (Q31.L N r_ n).1 (Q31.L N r_ n).2 o_ t11_ t16_ t17_ m2_ m4_ m5_)
def Q31.l0 (N : Nat) (r_ : TRules) (n : Nat) : Int → LInt → LInt → LInt → Option TPos := (Q31.L N r_ n).1
def Q31.l1 (N : Nat) (r_ : TRules) (n : Nat) : Int → Int → Int → Int → LInt → LInt → LInt → Option TPos := (Q31.L N r_ n).2
theorem Q31.l0_s (N : Nat) (r_ : TRules) (n : Nat) (t11_ : Int) (m2_ m4_ m5_ : LInt) : Q31.l0 N r_ (n + 1) t11_ m2_ m4_ m5_ = Q31.s0 N r_ (Q31.l0 N r_ n) (Q31.l1 N r_ n) t11_ m2_ m4_ m5_ := rfl
theorem Q31.l1_s (N : Nat) (r_ : TRules) (n : Nat) (o_ t11_ t16_ t17_ : Int) (m2_ m4_ m5_ : LInt) : Q31.l1 N r_ (n + 1) o_ t11_ t16_ t17_ m2_ m4_ m5_ = Q31.s1 N r_ (Q31.l0 N r_ n) (Q31.l1 N r_ n) o_ t11_ t16_ t17_ m2_ m4_ m5_ := rfl
def Q31 (N : Nat) (r_ : TRules) : Option TPos := Q31.e N (Q31.l0 N r_ N) (Q31.l1 N r_ N) r_
def Q53.e (N : Nat) (r0 : Int → LInt → Option ByteArray) (r1 : Int → LInt → Option ByteArray) (r2 : Int → LInt → Int → Int → LInt → Option ByteArray) (p_ : TPos) : Option ByteArray :=
 let v1 : Int := (w64 ((p_.1.length : Int) + 16))
 chk ((leI 0 v1 && (decide (v1.toNat ≤ 140737488355328) && capOk 1 v1.toNat))) <|
 r0 0 ([] : List Int)
def Q53.s0 (N : Nat) (p_ : TPos) (r0 : Int → LInt → Option ByteArray) (r1 : Int → LInt → Option ByteArray) (r2 : Int → LInt → Int → Int → LInt → Option ByteArray) (t18_ : Int) (b_ : LInt) : Option ByteArray :=
 bif (ltI t18_ (p_.1.length : Int)) then (chk ((leI 0 t18_) && (ltI t18_ (p_.1.length : Int))) <|
  let v3 : Int := (IntKind.wrap .u8 (gD (0 : Int) p_.1 t18_))
  chk (capOk 1 (b_.length + ([v3] : List Int).length)) <|
  r0 (w64 (t18_ + 1)) (b_ ++ [v3]))
 else r1 0 b_
def Q53.s1 (N : Nat) (p_ : TPos) (r0 : Int → LInt → Option ByteArray) (r1 : Int → LInt → Option ByteArray) (r2 : Int → LInt → Int → Int → LInt → Option ByteArray) (t30_ : Int) (b_ : LInt) : Option ByteArray :=
 bif (ltI t30_ 2) then (bif (eqI t30_ 0) then (r2 t30_ p_.2.1.1 (p_.2.1.1.length : Int) 0 b_)
  else bif (eqI t30_ 1) then (r2 t30_ p_.2.1.2 (p_.2.1.2.length : Int) 0 b_)
  else none)
 else let v4 : Int := (IntKind.wrap .u8 p_.2.2.1)
 chk (capOk 1 (b_.length + ([v4] : List Int).length)) <|
 some (strOfNums (b_ ++ [v4]))
def Q53.s2 (N : Nat) (p_ : TPos) (r0 : Int → LInt → Option ByteArray) (r1 : Int → LInt → Option ByteArray) (r2 : Int → LInt → Int → Int → LInt → Option ByteArray) (t30_ : Int) (t33_ : LInt) (t34_ t35_ : Int) (b_ : LInt) : Option ByteArray :=
 bif (ltI t35_ t34_) then (chk ((leI 0 t35_) && (ltI t35_ (t33_.length : Int))) <|
  let v7 : List Int := [(IntKind.wrap .u8 (gD (0 : Int) t33_ t35_)), (IntKind.wrap .u8 (Int.fdiv (gD (0 : Int) t33_ t35_) (2 ^ (min (8 : Int).toNat 64))))]
  chk (capOk 1 (b_.length + v7.length)) <|
  r2 t30_ t33_ t34_ (w64 (t35_ + 1)) (b_ ++ v7))
 else r1 (w64 (t30_ + 1)) b_
def Q53.L (N : Nat) (p_ : TPos) : Nat → (Int → LInt → Option ByteArray) × (Int → LInt → Option ByteArray) × (Int → LInt → Int → Int → LInt → Option ByteArray)
 | 0 => (fun _ _ => none, fun _ _ => none, fun _ _ _ _ _ => none)
 | n + 1 => (fun t18_ b_ => Q53.s0 N p_ (Q53.L N p_ n).1 (Q53.L N p_ n).2.1 (Q53.L N p_ n).2.2 t18_ b_, fun t30_ b_ => Q53.s1 N p_ (Q53.L N p_ n).1 (Q53.L N p_ n).2.1 (Q53.L N p_ n).2.2 t30_ b_, fun t30_ t33_ t34_ t35_ b_ => Q53.s2 N p_ (Q53.L N p_ n).1 (Q53.L N p_ n).2.1 (Q53.L N p_ n).2.2 t30_ t33_ t34_ t35_ b_)
def Q53.l0 (N : Nat) (p_ : TPos) (n : Nat) : Int → LInt → Option ByteArray := (Q53.L N p_ n).1
def Q53.l1 (N : Nat) (p_ : TPos) (n : Nat) : Int → LInt → Option ByteArray := (Q53.L N p_ n).2.1
def Q53.l2 (N : Nat) (p_ : TPos) (n : Nat) : Int → LInt → Int → Int → LInt → Option ByteArray := (Q53.L N p_ n).2.2
theorem Q53.l0_s (N : Nat) (p_ : TPos) (n : Nat) (t18_ : Int) (b_ : LInt) : Q53.l0 N p_ (n + 1) t18_ b_ = Q53.s0 N p_ (Q53.l0 N p_ n) (Q53.l1 N p_ n) (Q53.l2 N p_ n) t18_ b_ := rfl
theorem Q53.l1_s (N : Nat) (p_ : TPos) (n : Nat) (t30_ : Int) (b_ : LInt) : Q53.l1 N p_ (n + 1) t30_ b_ = Q53.s1 N p_ (Q53.l0 N p_ n) (Q53.l1 N p_ n) (Q53.l2 N p_ n) t30_ b_ := rfl
theorem Q53.l2_s (N : Nat) (p_ : TPos) (n : Nat) (t30_ : Int) (t33_ : LInt) (t34_ t35_ : Int) (b_ : LInt) : Q53.l2 N p_ (n + 1) t30_ t33_ t34_ t35_ b_ = Q53.s2 N p_ (Q53.l0 N p_ n) (Q53.l1 N p_ n) (Q53.l2 N p_ n) t30_ t33_ t34_ t35_ b_ := rfl
def Q53 (N : Nat) (p_ : TPos) : Option ByteArray := Q53.e N (Q53.l0 N p_ N) (Q53.l1 N p_ N) (Q53.l2 N p_ N) p_
def Q30.e (N : Nat) (t_ : TTab) (p_ : TPos) : Option (Int × TTab) :=
 (Q53 N (p_.1, (p_.2.1, (p_.2.2.1, 0)))).bind fun y1 =>
 chk (okDS y1) <|
 let v2 : Option Int := (mget eqDS t_.2.2.2.2.2 y1)
 bif v2.isSome then (some ((v2.getD (0 : Int)), t_))
 else chk (okDS y1) <|
 let v4 : List TPos := [(p_.1, (p_.2.1, (p_.2.2.1, 0)))]
 chk (capOk 88 (t_.2.1.length + v4.length)) <|
 some ((w64 (((t_.2.1 ++ v4).length : Int) - 1)), (t_.1, ((t_.2.1 ++ v4), (t_.2.2.1, (t_.2.2.2.1, (t_.2.2.2.2.1, (mput eqDS t_.2.2.2.2.2 y1 (t_.2.1.length : Int))))))))
def Q30 (N : Nat) (t_ : TTab) (p_ : TPos) : Option (Int × TTab) := Q30.e N t_ p_
def Q57.e (N : Nat) (c_ : Int) : Option Int :=
 bif (eqI c_ 0) then (some (-1))
 else some (Int.tmod (w64 (c_ - 1)) 2)
def Q57 (N : Nat) (c_ : Int) : Option Int := Q57.e N c_
def Q76.e (N : Nat) (r0 : Int → Option Bool) (r1 : Int → Int → Int → Option Bool) (r2 : Int → Int → Int → Int → Int → Int → Int → Int → Option Bool) (r_ : TRules) (p_ : TPos) (player count : Int) : Option Bool :=
 r0 0
def Q76.s0 (N : Nat) (r_ : TRules) (p_ : TPos) (player count : Int) (r0 : Int → Option Bool) (r1 : Int → Int → Int → Option Bool) (r2 : Int → Int → Int → Int → Int → Int → Int → Int → Option Bool) (t18_ : Int) : Option Bool :=
 bif (ltI t18_ (p_.1.length : Int)) then r1 t18_ t18_ 0
 else some false
def Q76.s1 (N : Nat) (r_ : TRules) (p_ : TPos) (player count : Int) (r0 : Int → Option Bool) (r1 : Int → Int → Int → Option Bool) (r2 : Int → Int → Int → Int → Int → Int → Int → Int → Option Bool) (s_ t18_ t26_ : Int) : Option Bool :=
 bif (ltI t26_ 4) then (bif (eqI t26_ 0) then (bif (eqI r_.2.1 0) then none
   else bif (eqI r_.2.1 0) then none
   else r2 s_ (Int.tmod s_ r_.2.1) (w64 (Int.tdiv s_ r_.2.1)) 0 t18_ t26_ 1 0)
  else bif (eqI t26_ 1) then (bif (eqI r_.2.1 0) then none
   else bif (eqI r_.2.1 0) then none
   else r2 s_ (Int.tmod s_ r_.2.1) (w64 (Int.tdiv s_ r_.2.1)) 0 t18_ t26_ 0 1)
  else bif (eqI t26_ 2) then (bif (eqI r_.2.1 0) then none
   else bif (eqI r_.2.1 0) then none
   else r2 s_ (Int.tmod s_ r_.2.1) (w64 (Int.tdiv s_ r_.2.1)) 0 t18_ t26_ 1 1)
  else bif (eqI t26_ 3) then (bif (eqI r_.2.1 0) then none
   else bif (eqI r_.2.1 0) then none
   else r2 s_ (Int.tmod s_ r_.2.1) (w64 (Int.tdiv s_ r_.2.1)) 0 t18_ t26_ 1 (-1))
  else none)
 else r0 (w64 (t18_ + 1))
def Q76.s2 (N : Nat) (r_ : TRules) (p_ : TPos) (player count : Int) (r0 : Int → Option Bool) (r1 : Int → Int → Int → Option Bool) (r2 : Int → Int → Int → Int → Int → Int → Int → Int → Option Bool) (s_ x_ y_ n_ t18_ t26_ d_ d_2 : Int) : Option Bool :=
 bif (leI 0 x_) then (bif (ltI x_ r_.2.1) then (bif (leI 0 y_) then (bif (ltI y_ r_.2.2.1) then (bif (ltI n_ count) then (let v6 : Int := (w64 ((w64 (y_ * r_.2.1)) + x_))
      chk ((leI 0 v6) && (ltI v6 (p_.1.length : Int))) <|
      (Q57 N (gD (0 : Int) p_.1 v6)).bind fun y7 =>
      bif (eqI y7 player) then (r2 s_ (w64 (x_ + d_)) (w64 (y_ + d_2)) (w64 (n_ + 1)) t18_ t26_ d_ d_2)
      else bif (eqI n_ count) then some true
      else r1 s_ t18_ (w64 (t26_ + 1)))
     else bif (eqI n_ count) then some true
     else r1 s_ t18_ (w64 (t26_ + 1)))
    else bif (eqI n_ count) then some true
    else r1 s_ t18_ (w64 (t26_ + 1)))
   else bif (eqI n_ count) then some true
   else r1 s_ t18_ (w64 (t26_ + 1)))
  else bif (eqI n_ count) then some true
  else r1 s_ t18_ (w64 (t26_ + 1)))
 else bif (eqI n_ count) then some true
 else r1 s_ t18_ (w64 (t26_ + 1))
def Q76.L (N : Nat) (r_ : TRules) (p_ : TPos) (player count : Int) : Nat → (Int → Option Bool) × (Int → Int → Int → Option Bool) × (Int → Int → Int → Int → Int → Int → Int → Int → Option Bool)
 | 0 => (fun _ => none, fun _ _ _ => none, fun _ _ _ _ _ _ _ _ => none)
 | n + 1 => (fun t18_ => Q76.s0 N r_ p_ player count (Q76.L N r_ p_ player count n).1 (Q76.L N r_ p_ player count n).2.1 (Q76.L N r_ p_ player count n).2.2 t18_, fun s_ t18_ t26_ => Q76.s1 N r_ p_ player count (Q76.L N r_ p_ player count n).1 (Q76.L N r_ p_ player count n).2.1 (Q76.L N r_ p_ player count n).2.2 s_ t18_ t26_, fun s_ x_ y_ n_ t18_ t26_ d_ d_2 => Q76.s2 N r_ p_ player count (Q76.L N r_ p_ player count n).1 (Q76.L N r_ p_ player count n).2.1 (Q76.L N r_ p_ player count n).2.2 s_ x_ y_ n_ t18_ t26_ d_ d_2)
def Q76.l0 (N : Nat) (r_ : TRules) (p_ : TPos) (player count : Int) (n : Nat) : Int → Option Bool := (Q76.L N r_ p_ player count n).1
def Q76.l1 (N : Nat) (r_ : TRules) (p_ : TPos) (player count : Int) (n : Nat) : Int → Int → Int → Option Bool := (Q76.L N r_ p_ player count n).2.1
def Q76.l2 (N : Nat) (r_ : TRules) (p_ : TPos) (player count : Int) (n : Nat) : Int → Int → Int → Int → Int → Int → Int → Int → Option Bool := (Q76.L N r_ p_ player count n).2.2
theorem Q76.l0_s (N : Nat) (r_ : TRules) (p_ : TPos) (player count : Int) (n : Nat) (t18_ : Int) : Q76.l0 N r_ p_ player count (n + 1) t18_ = Q76.s0 N r_ p_ player count (Q76.l0 N r_ p_ player count n) (Q76.l1 N r_ p_ player count n) (Q76.l2 N r_ p_ player count n) t18_ := rfl
theorem Q76.l1_s (N : Nat) (r_ : TRules) (p_ : TPos) (player count : Int) (n : Nat) (s_ t18_ t26_ : Int) : Q76.l1 N r_ p_ player count (n + 1) s_ t18_ t26_ = Q76.s1 N r_ p_ player count (Q76.l0 N r_ p_ player count n) (Q76.l1 N r_ p_ player count n) (Q76.l2 N r_ p_ player count n) s_ t18_ t26_ := rfl
theorem Q76.l2_s (N : Nat) (r_ : TRules) (p_ : TPos) (player count : Int) (n : Nat) (s_ x_ y_ n_ t18_ t26_ d_ d_2 : Int) : Q76.l2 N r_ p_ player count (n + 1) s_ x_ y_ n_ t18_ t26_ d_ d_2 = Q76.s2 N r_ p_ player count (Q76.l0 N r_ p_ player count n) (Q76.l1 N r_ p_ player count n) (Q76.l2 N r_ p_ player count n) s_ x_ y_ n_ t18_ t26_ d_ d_2 := rfl
def Q76 (N : Nat) (r_ : TRules) (p_ : TPos) (player count : Int) : Option Bool := Q76.e N (Q76.l0 N r_ p_ player count N) (Q76.l1 N r_ p_ player count N) (Q76.l2 N r_ p_ player count N) r_ p_ player count
def Q45.e (N : Nat) (kind player : Int) : Option Int :=
 some (w64 ((w64 ((w64 (2 * kind)) + player)) + 1))
def Q45 (N : Nat) (kind player : Int) : Option Int := Q45.e N kind player
def Q77.e (N : Nat) (r_ : TRules) (player square : Int) : Option Bool :=
 bif (eqI player 0) then (bif (eqI r_.2.1 0) then none
  else some (eqI (w64 (Int.tdiv square r_.2.1)) (w64 (r_.2.2.1 - 1))))
 else bif (eqI r_.2.1 0) then none
 else some (eqI (w64 (Int.tdiv square r_.2.1)) 0)
def Q77 (N : Nat) (r_ : TRules) (player square : Int) : Option Bool := Q77.e N r_ player square
def Q54.e (N : Nat) (r0 : Int → Option Bool) (r1 : Int → Int → Option Bool) (r_ : TRules) (p_ : TPos) (x_ : TEnd) : Option Bool :=
 bif (eqI x_.1 0) then ((Q76 N r_ p_ (w64 (1 - p_.2.2.1)) x_.2.2.1).bind fun y1 =>
  some y1)
 else bif (eqI x_.1 1) then r0 0
 else r1 0 0
def Q54.s0 (N : Nat) (r_ : TRules) (p_ : TPos) (x_ : TEnd) (r0 : Int → Option Bool) (r1 : Int → Int → Option Bool) (t31_ : Int) : Option Bool :=
 bif (ltI t31_ (p_.1.length : Int)) then (chk ((leI 0 t31_) && (ltI t31_ (p_.1.length : Int))) <|
  (Q45 N x_.2.1 (w64 (1 - p_.2.2.1))).bind fun y6 =>
  bif (eqI (gD (0 : Int) p_.1 t31_) y6) then ((Q77 N r_ (w64 (1 - p_.2.2.1)) t31_).bind fun y8 =>
   bif y8 then some true
   else r0 (w64 (t31_ + 1)))
  else r0 (w64 (t31_ + 1)))
 else some false
def Q54.s1 (N : Nat) (r_ : TRules) (p_ : TPos) (x_ : TEnd) (r0 : Int → Option Bool) (r1 : Int → Int → Option Bool) (n_ t52_ : Int) : Option Bool :=
 bif (ltI t52_ (p_.1.length : Int)) then (chk ((leI 0 t52_) && (ltI t52_ (p_.1.length : Int))) <|
  (Q45 N x_.2.1 p_.2.2.1).bind fun y3 =>
  bif (eqI (gD (0 : Int) p_.1 t52_) y3) then (r1 (w64 (n_ + 1)) (w64 (t52_ + 1)))
  else r1 n_ (w64 (t52_ + 1)))
 else some (ltI n_ x_.2.2.1)
def Q54.L (N : Nat) (r_ : TRules) (p_ : TPos) (x_ : TEnd) : Nat → (Int → Option Bool) × (Int → Int → Option Bool)
 | 0 => (fun _ => none, fun _ _ => none)
 | n + 1 => (fun t31_ => Q54.s0 N r_ p_ x_ (Q54.L N r_ p_ x_ n).1 (Q54.L N r_ p_ x_ n).2 t31_, fun n_ t52_ => Q54.s1 N r_ p_ x_ (Q54.L N r_ p_ x_ n).1 (Q54.L N r_ p_ x_ n).2 n_ t52_)
def Q54.l0 (N : Nat) (r_ : TRules) (p_ : TPos) (x_ : TEnd) (n : Nat) : Int → Option Bool := (Q54.L N r_ p_ x_ n).1
def Q54.l1 (N : Nat) (r_ : TRules) (p_ : TPos) (x_ : TEnd) (n : Nat) : Int → Int → Option Bool := (Q54.L N r_ p_ x_ n).2
theorem Q54.l0_s (N : Nat) (r_ : TRules) (p_ : TPos) (x_ : TEnd) (n : Nat) (t31_ : Int) : Q54.l0 N r_ p_ x_ (n + 1) t31_ = Q54.s0 N r_ p_ x_ (Q54.l0 N r_ p_ x_ n) (Q54.l1 N r_ p_ x_ n) t31_ := rfl
theorem Q54.l1_s (N : Nat) (r_ : TRules) (p_ : TPos) (x_ : TEnd) (n : Nat) (n_ t52_ : Int) : Q54.l1 N r_ p_ x_ (n + 1) n_ t52_ = Q54.s1 N r_ p_ x_ (Q54.l0 N r_ p_ x_ n) (Q54.l1 N r_ p_ x_ n) n_ t52_ := rfl
def Q54 (N : Nat) (r_ : TRules) (p_ : TPos) (x_ : TEnd) : Option Bool := Q54.e N (Q54.l0 N r_ p_ x_ N) (Q54.l1 N r_ p_ x_ N) r_ p_ x_
def Q55.e (N : Nat) (player : Int) : Option Int :=
 some (w64 (1 + player))
def Q55 (N : Nat) (player : Int) : Option Int := Q55.e N player
def Q44.e (N : Nat) (c_ : Int) : Option Int :=
 some (w64 (Int.tdiv (w64 (c_ - 1)) 2))
def Q44 (N : Nat) (c_ : Int) : Option Int := Q44.e N c_
def Q101.e (N : Nat) (x_ : Int) : Option Int :=
 bif (leI 4294967296 x_) then (let v1 : Int := (Int.fdiv x_ (2 ^ (min (32 : Int).toNat 64)))
  bif (leI 65536 v1) then (let v2 : Int := (Int.fdiv v1 (2 ^ (min (16 : Int).toNat 64)))
   bif (leI 256 v2) then (let v3 : Int := (Int.fdiv v2 (2 ^ (min (8 : Int).toNat 64)))
    chk ((leI 0 (IntKind.wrap .u8 v3)) && ltI (IntKind.wrap .u8 v3) (nT0.size : Int)) <|
    some (w64 (56 + (w64 (bt nT0 (IntKind.wrap .u8 v3))))))
   else chk ((leI 0 (IntKind.wrap .u8 v2)) && ltI (IntKind.wrap .u8 v2) (nT0.size : Int)) <|
   some (w64 (48 + (w64 (bt nT0 (IntKind.wrap .u8 v2))))))
  else bif (leI 256 v1) then (let v6 : Int := (Int.fdiv v1 (2 ^ (min (8 : Int).toNat 64)))
   chk ((leI 0 (IntKind.wrap .u8 v6)) && ltI (IntKind.wrap .u8 v6) (nT0.size : Int)) <|
   some (w64 (40 + (w64 (bt nT0 (IntKind.wrap .u8 v6))))))
  else chk ((leI 0 (IntKind.wrap .u8 v1)) && ltI (IntKind.wrap .u8 v1) (nT0.size : Int)) <|
  some (w64 (32 + (w64 (bt nT0 (IntKind.wrap .u8 v1))))))
 else bif (leI 65536 x_) then (let v9 : Int := (Int.fdiv x_ (2 ^ (min (16 : Int).toNat 64)))
  bif (leI 256 v9) then (let v10 : Int := (Int.fdiv v9 (2 ^ (min (8 : Int).toNat 64)))
   chk ((leI 0 (IntKind.wrap .u8 v10)) && ltI (IntKind.wrap .u8 v10) (nT0.size : Int)) <|
   some (w64 (24 + (w64 (bt nT0 (IntKind.wrap .u8 v10))))))
  else chk ((leI 0 (IntKind.wrap .u8 v9)) && ltI (IntKind.wrap .u8 v9) (nT0.size : Int)) <|
  some (w64 (16 + (w64 (bt nT0 (IntKind.wrap .u8 v9))))))
 else bif (leI 256 x_) then (let v13 : Int := (Int.fdiv x_ (2 ^ (min (8 : Int).toNat 64)))
  chk ((leI 0 (IntKind.wrap .u8 v13)) && ltI (IntKind.wrap .u8 v13) (nT0.size : Int)) <|
  some (w64 (8 + (w64 (bt nT0 (IntKind.wrap .u8 v13))))))
 else chk ((leI 0 (IntKind.wrap .u8 x_)) && ltI (IntKind.wrap .u8 x_) (nT0.size : Int)) <|
 some (w64 (0 + (w64 (bt nT0 (IntKind.wrap .u8 x_)))))
def Q101 (N : Nat) (x_ : Int) : Option Int := Q101.e N x_
def Q80.e (N : Nat) (x_ : Int) : Option Int :=
 (Q101 N x_).bind fun y1 =>
 some y1
def Q80 (N : Nat) (x_ : Int) : Option Int := Q80.e N x_
def Q102.e (N : Nat) (x_ : Int) : Option Bool :=
 some (!(eqI x_ x_))
def Q102 (N : Nat) (x_ : Int) : Option Bool := Q102.e N x_
def Q82.e (N : Nat) (x_ y_ : Int) : Option Int :=
 (Q102 N x_).bind fun y1 =>
 (Q102 N y_).bind fun y2 =>
 bif y1 then (bif y2 then some 0
  else some (-1))
 else bif y2 then some 1
 else bif (ltI x_ y_) then (some (-1))
 else bif (ltI y_ x_) then some 1
 else some 0
def Q82 (N : Nat) (x_ y_ : Int) : Option Int := Q82.e N x_ y_
def Q81.e (N : Nat) (r0 : Int → Option Int) (vals : LInt) : Option Int :=
 r0 0
def Q81.s0 (N : Nat) (vals : LInt) (r0 : Int → Option Int) (t8_ : Int) : Option Int :=
 bif (ltI t8_ (vals.length : Int)) then (chk ((leI 0 t8_) && (ltI t8_ (vals.length : Int))) <|
  bif (!(eqI (gD (0 : Int) vals t8_) 0)) then (some (gD (0 : Int) vals t8_))
  else r0 (w64 (t8_ + 1)))
 else some 0
def Q81.L (N : Nat) (vals : LInt) : Nat → (Int → Option Int)
 | 0 => fun _ => none
 | n + 1 => fun t8_ => Q81.s0 N vals (Q81.L N vals n) t8_
def Q81.l0 (N : Nat) (vals : LInt) (n : Nat) : Int → Option Int := (Q81.L N vals n)
theorem Q81.l0_s (N : Nat) (vals : LInt) (n : Nat) (t8_ : Int) : Q81.l0 N vals (n + 1) t8_ = Q81.s0 N vals (Q81.l0 N vals n) t8_ := rfl
def Q81 (N : Nat) (vals : LInt) : Option Int := Q81.e N (Q81.l0 N vals N) vals
def Q60.e (N : Nat) (a_ b_ : TMv) : Option Int :=
 (Q82 N a_.1 b_.1).bind fun y1 =>
 (Q82 N a_.2.1 b_.2.1).bind fun y2 =>
 (Q82 N a_.2.2 b_.2.2).bind fun y3 =>
 (Q81 N [y1, y2, y3]).bind fun y4 =>
 some y4
def Q60 (N : Nat) (a_ b_ : TMv) : Option Int := Q60.e N a_ b_
def Q92.e (N : Nat) (r0 : Int → LMv → Option LMv) (r1 : Int → Int → LMv → Option LMv) (data : LMv) (a_ b_ : Int) : Option LMv :=
 r0 (w64 (a_ + 1)) data
def Q92.s0 (N : Nat) (data : LMv) (a_ b_ : Int) (r0 : Int → LMv → Option LMv) (r1 : Int → Int → LMv → Option LMv) (i_ : Int) (data2 : LMv) : Option LMv :=
 bif (ltI i_ b_) then r1 i_ i_ data2
 else some data2
def Q92.s1 (N : Nat) (data : LMv) (a_ b_ : Int) (r0 : Int → LMv → Option LMv) (r1 : Int → Int → LMv → Option LMv) (i_ j_ : Int) (data2 : LMv) : Option LMv :=
 bif (ltI a_ j_) then (chk ((leI 0 j_) && (ltI j_ (data2.length : Int))) <|
  chk ((leI 0 (w64 (j_ - 1))) && (ltI (w64 (j_ - 1)) (data2.length : Int))) <|
  (Q60 N (gD dM data2 j_) (gD dM data2 (w64 (j_ - 1)))).bind fun y1 =>
  bif (ltI y1 0) then (chk ((leI 0 (w64 (j_ - 1))) && (ltI (w64 (j_ - 1)) (data2.length : Int))) <|
   chk ((leI 0 j_) && (ltI j_ (data2.length : Int))) <|
   chk ((leI 0 j_) && (ltI j_ (data2.length : Int))) <|
   let v2 : List TMv := (data2.set j_.toNat (gD dM data2 (w64 (j_ - 1))))
   chk ((leI 0 (w64 (j_ - 1))) && (ltI (w64 (j_ - 1)) (v2.length : Int))) <|
   r1 i_ (w64 (j_ - 1)) (v2.set (w64 (j_ - 1)).toNat (gD dM data2 j_)))
  else r0 (w64 (i_ + 1)) data2)
 else r0 (w64 (i_ + 1)) data2
def Q92.L (N : Nat) (data : LMv) (a_ b_ : Int) : Nat → (Int → LMv → Option LMv) × (Int → Int → LMv → Option LMv)
 | 0 => (fun _ _ => none, fun _ _ _ => none)
 | n + 1 => (fun i_ data2 => Q92.s0 N data a_ b_ (Q92.L N data a_ b_ n).1 (Q92.L N data a_ b_ n).2 i_ data2, fun i_ j_ data2 => Q92.s1 N data a_ b_ (Q92.L N data a_ b_ n).1 (Q92.L N data a_ b_ n).2 i_ j_ data2)
def Q92.l0 (N : Nat) (data : LMv) (a_ b_ : Int) (n : Nat) : Int → LMv → Option LMv := (Q92.L N data a_ b_ n).1
def Q92.l1 (N : Nat) (data : LMv) (a_ b_ : Int) (n : Nat) : Int → Int → LMv → Option LMv := (Q92.L N data a_ b_ n).2
theorem Q92.l0_s (N : Nat) (data : LMv) (a_ b_ : Int) (n : Nat) (i_ : Int) (data2 : LMv) : Q92.l0 N data a_ b_ (n + 1) i_ data2 = Q92.s0 N data a_ b_ (Q92.l0 N data a_ b_ n) (Q92.l1 N data a_ b_ n) i_ data2 := rfl
theorem Q92.l1_s (N : Nat) (data : LMv) (a_ b_ : Int) (n : Nat) (i_ j_ : Int) (data2 : LMv) : Q92.l1 N data a_ b_ (n + 1) i_ j_ data2 = Q92.s1 N data a_ b_ (Q92.l0 N data a_ b_ n) (Q92.l1 N data a_ b_ n) i_ j_ data2 := rfl
def Q92 (N : Nat) (data : LMv) (a_ b_ : Int) : Option LMv := Q92.e N (Q92.l0 N data a_ b_ N) (Q92.l1 N data a_ b_ N) data a_ b_
def Q105.e (N : Nat) (r0 : Int → LMv → Option LMv) (data : LMv) (lo hi first : Int) : Option LMv :=
 r0 lo data
def Q105.s0 (N : Nat) (data : LMv) (lo hi first : Int) (r0 : Int → LMv → Option LMv) (root : Int) (data2 : LMv) : Option LMv :=
 let v1 : Int := (w64 ((w64 (2 * root)) + 1))
 bif (leI hi v1) then some data2
 else bif (ltI (w64 (v1 + 1)) hi) then (chk ((leI 0 (w64 (first + v1))) && (ltI (w64 (first + v1)) (data2.length : Int))) <|
  let v2 : Int := (w64 ((w64 (first + v1)) + 1))
  chk ((leI 0 v2) && (ltI v2 (data2.length : Int))) <|
  (Q60 N (gD dM data2 (w64 (first + v1))) (gD dM data2 v2)).bind fun y3 =>
  bif (ltI y3 0) then (chk ((leI 0 (w64 (first + root))) && (ltI (w64 (first + root)) (data2.length : Int))) <|
   let v4 : Int := (w64 (first + (w64 (v1 + 1))))
   chk ((leI 0 v4) && (ltI v4 (data2.length : Int))) <|
   (Q60 N (gD dM data2 (w64 (first + root))) (gD dM data2 v4)).bind fun y5 =>
   bif (!(ltI y5 0)) then some data2
   else let v6 : Int := (w64 (first + (w64 (v1 + 1))))
   let v7 : Int := (w64 (first + (w64 (v1 + 1))))
   chk ((leI 0 v7) && (ltI v7 (data2.length : Int))) <|
   chk ((leI 0 (w64 (first + root))) && (ltI (w64 (first + root)) (data2.length : Int))) <|
   chk ((leI 0 (w64 (first + root))) && (ltI (w64 (first + root)) (data2.length : Int))) <|
   let v8 : List TMv := (data2.set (w64 (first + root)).toNat (gD dM data2 v7))
   chk ((leI 0 v6) && (ltI v6 (v8.length : Int))) <|
   r0 (w64 (v1 + 1)) (v8.set v6.toNat (gD dM data2 (w64 (first + root)))))
  else chk ((leI 0 (w64 (first + root))) && (ltI (w64 (first + root)) (data2.length : Int))) <|
  chk ((leI 0 (w64 (first + v1))) && (ltI (w64 (first + v1)) (data2.length : Int))) <|
  (Q60 N (gD dM data2 (w64 (first + root))) (gD dM data2 (w64 (first + v1)))).bind fun y10 =>
  bif (!(ltI y10 0)) then some data2
  else chk ((leI 0 (w64 (first + v1))) && (ltI (w64 (first + v1)) (data2.length : Int))) <|
  chk ((leI 0 (w64 (first + root))) && (ltI (w64 (first + root)) (data2.length : Int))) <|
  chk ((leI 0 (w64 (first + root))) && (ltI (w64 (first + root)) (data2.length : Int))) <|
  let v11 : List TMv := (data2.set (w64 (first + root)).toNat (gD dM data2 (w64 (first + v1))))
  chk ((leI 0 (w64 (first + v1))) && (ltI (w64 (first + v1)) (v11.length : Int))) <|
  r0 v1 (v11.set (w64 (first + v1)).toNat (gD dM data2 (w64 (first + root)))))
 else chk ((leI 0 (w64 (first + root))) && (ltI (w64 (first + root)) (data2.length : Int))) <|
 chk ((leI 0 (w64 (first + v1))) && (ltI (w64 (first + v1)) (data2.length : Int))) <|
 (Q60 N (gD dM data2 (w64 (first + root))) (gD dM data2 (w64 (first + v1)))).bind fun y13 =>
 bif (!(ltI y13 0)) then some data2
 else chk ((leI 0 (w64 (first + v1))) && (ltI (w64 (first + v1)) (data2.length : Int))) <|
 chk ((leI 0 (w64 (first + root))) && (ltI (w64 (first + root)) (data2.length : Int))) <|
 chk ((leI 0 (w64 (first + root))) && (ltI (w64 (first + root)) (data2.length : Int))) <|
 let v14 : List TMv := (data2.set (w64 (first + root)).toNat (gD dM data2 (w64 (first + v1))))
 chk ((leI 0 (w64 (first + v1))) && (ltI (w64 (first + v1)) (v14.length : Int))) <|
 r0 v1 (v14.set (w64 (first + v1)).toNat (gD dM data2 (w64 (first + root))))
def Q105.L (N : Nat) (data : LMv) (lo hi first : Int) : Nat → (Int → LMv → Option LMv)
 | 0 => fun _ _ => none
 | n + 1 => fun root data2 => Q105.s0 N data lo hi first (Q105.L N data lo hi first n) root data2
def Q105.l0 (N : Nat) (data : LMv) (lo hi first : Int) (n : Nat) : Int → LMv → Option LMv := (Q105.L N data lo hi first n)
theorem Q105.l0_s (N : Nat) (data : LMv) (lo hi first : Int) (n : Nat) (root : Int) (data2 : LMv) : Q105.l0 N data lo hi first (n + 1) root data2 = Q105.s0 N data lo hi first (Q105.l0 N data lo hi first n) root data2 := rfl
def Q105 (N : Nat) (data : LMv) (lo hi first : Int) : Option LMv := Q105.e N (Q105.l0 N data lo hi first N) data lo hi first
def Q93.e (N : Nat) (r0 : Int → LMv → Option LMv) (r1 : Int → LMv → Option LMv) (data : LMv) (a_ b_ : Int) : Option LMv :=
 r0 (w64 (Int.tdiv (w64 ((w64 (b_ - a_)) - 1)) 2)) data
def Q93.s0 (N : Nat) (data : LMv) (a_ b_ : Int) (r0 : Int → LMv → Option LMv) (r1 : Int → LMv → Option LMv) (i_ : Int) (data2 : LMv) : Option LMv :=
 bif (leI 0 i_) then ((Q105 N data2 i_ (w64 (b_ - a_)) a_).bind fun y2 =>
  r0 (w64 (i_ - 1)) y2)
 else r1 (w64 ((w64 (b_ - a_)) - 1)) data2
def Q93.s1 (N : Nat) (data : LMv) (a_ b_ : Int) (r0 : Int → LMv → Option LMv) (r1 : Int → LMv → Option LMv) (i_ : Int) (data2 : LMv) : Option LMv :=
 bif (leI 0 i_) then (chk ((leI 0 (w64 (a_ + i_))) && (ltI (w64 (a_ + i_)) (data2.length : Int))) <|
  chk ((leI 0 a_) && (ltI a_ (data2.length : Int))) <|
  chk ((leI 0 a_) && (ltI a_ (data2.length : Int))) <|
  let v4 : List TMv := (data2.set a_.toNat (gD dM data2 (w64 (a_ + i_))))
  chk ((leI 0 (w64 (a_ + i_))) && (ltI (w64 (a_ + i_)) (v4.length : Int))) <|
  (Q105 N (v4.set (w64 (a_ + i_)).toNat (gD dM data2 a_)) 0 i_ a_).bind fun y6 =>
  r1 (w64 (i_ - 1)) y6)
 else some data2
def Q93.L (N : Nat) (data : LMv) (a_ b_ : Int) : Nat → (Int → LMv → Option LMv) × (Int → LMv → Option LMv)
 | 0 => (fun _ _ => none, fun _ _ => none)
 | n + 1 => (fun i_ data2 => Q93.s0 N data a_ b_ (Q93.L N data a_ b_ n).1 (Q93.L N data a_ b_ n).2 i_ data2, fun i_ data2 => Q93.s1 N data a_ b_ (Q93.L N data a_ b_ n).1 (Q93.L N data a_ b_ n).2 i_ data2)
def Q93.l0 (N : Nat) (data : LMv) (a_ b_ : Int) (n : Nat) : Int → LMv → Option LMv := (Q93.L N data a_ b_ n).1
def Q93.l1 (N : Nat) (data : LMv) (a_ b_ : Int) (n : Nat) : Int → LMv → Option LMv := (Q93.L N data a_ b_ n).2
theorem Q93.l0_s (N : Nat) (data : LMv) (a_ b_ : Int) (n : Nat) (i_ : Int) (data2 : LMv) : Q93.l0 N data a_ b_ (n + 1) i_ data2 = Q93.s0 N data a_ b_ (Q93.l0 N data a_ b_ n) (Q93.l1 N data a_ b_ n) i_ data2 := rfl
theorem Q93.l1_s (N : Nat) (data : LMv) (a_ b_ : Int) (n : Nat) (i_ : Int) (data2 : LMv) : Q93.l1 N data a_ b_ (n + 1) i_ data2 = Q93.s1 N data a_ b_ (Q93.l0 N data a_ b_ n) (Q93.l1 N data a_ b_ n) i_ data2 := rfl
def Q93 (N : Nat) (data : LMv) (a_ b_ : Int) : Option LMv := Q93.e N (Q93.l0 N data a_ b_ N) (Q93.l1 N data a_ b_ N) data a_ b_
def Q110.e (N : Nat) (data : LMv) (a_ b_ swaps : Int) : Option (Int × Int × Int) :=
 chk ((leI 0 b_) && (ltI b_ (data.length : Int))) <|
 chk ((leI 0 a_) && (ltI a_ (data.length : Int))) <|
 (Q60 N (gD dM data b_) (gD dM data a_)).bind fun y1 =>
 bif (ltI y1 0) then (some (b_, (a_, (w64 (swaps + 1)))))
 else some (a_, (b_, swaps))
def Q110 (N : Nat) (data : LMv) (a_ b_ swaps : Int) : Option (Int × Int × Int) := Q110.e N data a_ b_ swaps
def Q109.e (N : Nat) (data : LMv) (a_ b_ c_ swaps : Int) : Option (Int × Int) :=
 (Q110 N data a_ b_ swaps).bind fun y1 =>
 (Q110 N data y1.2.1 c_ y1.2.2).bind fun y2 =>
 (Q110 N data y1.1 y2.1 y2.2.2).bind fun y3 =>
 some y3.2
def Q109 (N : Nat) (data : LMv) (a_ b_ c_ swaps : Int) : Option (Int × Int) := Q109.e N data a_ b_ c_ swaps
def Q108.e (N : Nat) (data : LMv) (a_ swaps : Int) : Option (Int × Int) :=
 (Q109 N data (w64 (a_ - 1)) a_ (w64 (a_ + 1)) swaps).bind fun y1 =>
 some y1
def Q108 (N : Nat) (data : LMv) (a_ swaps : Int) : Option (Int × Int) := Q108.e N data a_ swaps
def Q95.e (N : Nat) (data : LMv) (a_ b_ : Int) : Option (Int × Int) :=
 let v2 : Int := (w64 (a_ + (w64 ((w64 (Int.tdiv (w64 (b_ - a_)) 4)) * 1))))
 let v4 : Int := (w64 (a_ + (w64 ((w64 (Int.tdiv (w64 (b_ - a_)) 4)) * 2))))
 let v6 : Int := (w64 (a_ + (w64 ((w64 (Int.tdiv (w64 (b_ - a_)) 4)) * 3))))
 bif (leI 8 (w64 (b_ - a_))) then (bif (leI 50 (w64 (b_ - a_))) then ((Q108 N data v2 0).bind fun y7 =>
   (Q108 N data v4 y7.2).bind fun y8 =>
   (Q108 N data v6 y8.2).bind fun y9 =>
   (Q109 N data y7.1 y8.1 y9.1 y9.2).bind fun y10 =>
   bif (eqI y10.2 0) then (some (y10.1, 1))
   else bif (eqI y10.2 12) then (some (y10.1, 2))
   else some (y10.1, 0))
  else (Q109 N data v2 v4 v6 0).bind fun y11 =>
  bif (eqI y11.2 0) then (some (y11.1, 1))
  else bif (eqI y11.2 12) then (some (y11.1, 2))
  else some (y11.1, 0))
 else some (v4, 1)
def Q95 (N : Nat) (data : LMv) (a_ b_ : Int) : Option (Int × Int) := Q95.e N data a_ b_
def Q96.e (N : Nat) (r0 : Int → Int → LMv → Option LMv) (data : LMv) (a_ b_ : Int) : Option LMv :=
 r0 a_ (w64 (b_ - 1)) data
def Q96.s0 (N : Nat) (data : LMv) (a_ b_ : Int) (r0 : Int → Int → LMv → Option LMv) (i_ j_ : Int) (data2 : LMv) : Option LMv :=
 bif (ltI i_ j_) then (chk ((leI 0 j_) && (ltI j_ (data2.length : Int))) <|
  chk ((leI 0 i_) && (ltI i_ (data2.length : Int))) <|
  chk ((leI 0 i_) && (ltI i_ (data2.length : Int))) <|
  let v1 : List TMv := (data2.set i_.toNat (gD dM data2 j_))
  chk ((leI 0 j_) && (ltI j_ (v1.length : Int))) <|
  r0 (w64 (i_ + 1)) (w64 (j_ - 1)) (v1.set j_.toNat (gD dM data2 i_)))
 else some data2
def Q96.L (N : Nat) (data : LMv) (a_ b_ : Int) : Nat → (Int → Int → LMv → Option LMv)
 | 0 => fun _ _ _ => none
 | n + 1 => fun i_ j_ data2 => Q96.s0 N data a_ b_ (Q96.L N data a_ b_ n) i_ j_ data2
def Q96.l0 (N : Nat) (data : LMv) (a_ b_ : Int) (n : Nat) : Int → Int → LMv → Option LMv := (Q96.L N data a_ b_ n)
theorem Q96.l0_s (N : Nat) (data : LMv) (a_ b_ : Int) (n : Nat) (i_ j_ : Int) (data2 : LMv) : Q96.l0 N data a_ b_ (n + 1) i_ j_ data2 = Q96.s0 N data a_ b_ (Q96.l0 N data a_ b_ n) i_ j_ data2 := rfl
def Q96 (N : Nat) (data : LMv) (a_ b_ : Int) : Option LMv := Q96.e N (Q96.l0 N data a_ b_ N) data a_ b_
def Q97.e (N : Nat) (r0 : Int → Int → LMv → Option (Bool × LMv)) (r1 : Int → Int → LMv → Option (Bool × LMv)) (r2 : Int → Int → Int → LMv → Option (Bool × LMv)) (r3 : Int → Int → Int → LMv → Option (Bool × LMv)) (data : LMv) (a_ b_ : Int) : Option (Bool × LMv) :=
 r0 (w64 (a_ + 1)) 0 data
def Q97.s0 (N : Nat) (data : LMv) (a_ b_ : Int) (r0 : Int → Int → LMv → Option (Bool × LMv)) (r1 : Int → Int → LMv → Option (Bool × LMv)) (r2 : Int → Int → Int → LMv → Option (Bool × LMv)) (r3 : Int → Int → Int → LMv → Option (Bool × LMv)) (i_ j_ : Int) (data2 : LMv) : Option (Bool × LMv) :=
 bif (ltI j_ 5) then r1 i_ j_ data2
 else some (false, data2)
def Q97.s1 (N : Nat) (data : LMv) (a_ b_ : Int) (r0 : Int → Int → LMv → Option (Bool × LMv)) (r1 : Int → Int → LMv → Option (Bool × LMv)) (r2 : Int → Int → Int → LMv → Option (Bool × LMv)) (r3 : Int → Int → Int → LMv → Option (Bool × LMv)) (i_ j_ : Int) (data2 : LMv) : Option (Bool × LMv) :=
 bif (ltI i_ b_) then (chk ((leI 0 i_) && (ltI i_ (data2.length : Int))) <|
  chk ((leI 0 (w64 (i_ - 1))) && (ltI (w64 (i_ - 1)) (data2.length : Int))) <|
  (Q60 N (gD dM data2 i_) (gD dM data2 (w64 (i_ - 1)))).bind fun y1 =>
  bif (!(ltI y1 0)) then (r1 (w64 (i_ + 1)) j_ data2)
  else bif (eqI i_ b_) then (some (true, data2))
  else bif (ltI (w64 (b_ - a_)) 50) then (some (false, data2))
  else chk ((leI 0 (w64 (i_ - 1))) && (ltI (w64 (i_ - 1)) (data2.length : Int))) <|
  chk ((leI 0 i_) && (ltI i_ (data2.length : Int))) <|
  chk ((leI 0 i_) && (ltI i_ (data2.length : Int))) <|
  let v2 : List TMv := (data2.set i_.toNat (gD dM data2 (w64 (i_ - 1))))
  chk ((leI 0 (w64 (i_ - 1))) && (ltI (w64 (i_ - 1)) (v2.length : Int))) <|
  let v3 : List TMv := (v2.set (w64 (i_ - 1)).toNat (gD dM data2 i_))
  bif (leI 2 (w64 (i_ - a_))) then (r2 i_ j_ (w64 (i_ - 1)) v3)
  else bif (leI 2 (w64 (b_ - i_))) then (r3 i_ j_ (w64 (i_ + 1)) v3)
  else r0 i_ (w64 (j_ + 1)) v3)
 else bif (eqI i_ b_) then (some (true, data2))
 else bif (ltI (w64 (b_ - a_)) 50) then (some (false, data2))
 else chk ((leI 0 (w64 (i_ - 1))) && (ltI (w64 (i_ - 1)) (data2.length : Int))) <|
 chk ((leI 0 i_) && (ltI i_ (data2.length : Int))) <|
 chk ((leI 0 i_) && (ltI i_ (data2.length : Int))) <|
 let v4 : List TMv := (data2.set i_.toNat (gD dM data2 (w64 (i_ - 1))))
 chk ((leI 0 (w64 (i_ - 1))) && (ltI (w64 (i_ - 1)) (v4.length : Int))) <|
 let v5 : List TMv := (v4.set (w64 (i_ - 1)).toNat (gD dM data2 i_))
 bif (leI 2 (w64 (i_ - a_))) then (r2 i_ j_ (w64 (i_ - 1)) v5)
 else bif (leI 2 (w64 (b_ - i_))) then (r3 i_ j_ (w64 (i_ + 1)) v5)
 else r0 i_ (w64 (j_ + 1)) v5
def Q97.s2 (N : Nat) (data : LMv) (a_ b_ : Int) (r0 : Int → Int → LMv → Option (Bool × LMv)) (r1 : Int → Int → LMv → Option (Bool × LMv)) (r2 : Int → Int → Int → LMv → Option (Bool × LMv)) (r3 : Int → Int → Int → LMv → Option (Bool × LMv)) (i_ j_ j_2 : Int) (data2 : LMv) : Option (Bool × LMv) :=
 bif (leI 1 j_2) then (chk ((leI 0 j_2) && (ltI j_2 (data2.length : Int))) <|
  chk ((leI 0 (w64 (j_2 - 1))) && (ltI (w64 (j_2 - 1)) (data2.length : Int))) <|
  (Q60 N (gD dM data2 j_2) (gD dM data2 (w64 (j_2 - 1)))).bind fun y9 =>
  bif (!(ltI y9 0)) then (bif (leI 2 (w64 (b_ - i_))) then (r3 i_ j_ (w64 (i_ + 1)) data2)
   else r0 i_ (w64 (j_ + 1)) data2)
  else chk ((leI 0 (w64 (j_2 - 1))) && (ltI (w64 (j_2 - 1)) (data2.length : Int))) <|
  chk ((leI 0 j_2) && (ltI j_2 (data2.length : Int))) <|
  chk ((leI 0 j_2) && (ltI j_2 (data2.length : Int))) <|
  let v10 : List TMv := (data2.set j_2.toNat (gD dM data2 (w64 (j_2 - 1))))
  chk ((leI 0 (w64 (j_2 - 1))) && (ltI (w64 (j_2 - 1)) (v10.length : Int))) <|
  r2 i_ j_ (w64 (j_2 - 1)) (v10.set (w64 (j_2 - 1)).toNat (gD dM data2 j_2)))
 else bif (leI 2 (w64 (b_ - i_))) then (r3 i_ j_ (w64 (i_ + 1)) data2)
 else r0 i_ (w64 (j_ + 1)) data2
def Q97.s3 (N : Nat) (data : LMv) (a_ b_ : Int) (r0 : Int → Int → LMv → Option (Bool × LMv)) (r1 : Int → Int → LMv → Option (Bool × LMv)) (r2 : Int → Int → Int → LMv → Option (Bool × LMv)) (r3 : Int → Int → Int → LMv → Option (Bool × LMv)) (i_ j_ j_2 : Int) (data2 : LMv) : Option (Bool × LMv) :=
 bif (ltI j_2 b_) then (chk ((leI 0 j_2) && (ltI j_2 (data2.length : Int))) <|
  chk ((leI 0 (w64 (j_2 - 1))) && (ltI (w64 (j_2 - 1)) (data2.length : Int))) <|
  (Q60 N (gD dM data2 j_2) (gD dM data2 (w64 (j_2 - 1)))).bind fun y6 =>
  bif (!(ltI y6 0)) then (r0 i_ (w64 (j_ + 1)) data2)
  else chk ((leI 0 (w64 (j_2 - 1))) && (ltI (w64 (j_2 - 1)) (data2.length : Int))) <|
  chk ((leI 0 j_2) && (ltI j_2 (data2.length : Int))) <|
  chk ((leI 0 j_2) && (ltI j_2 (data2.length : Int))) <|
  let v7 : List TMv := (data2.set j_2.toNat (gD dM data2 (w64 (j_2 - 1))))
  chk ((leI 0 (w64 (j_2 - 1))) && (ltI (w64 (j_2 - 1)) (v7.length : Int))) <|
  r3 i_ j_ (w64 (j_2 + 1)) (v7.set (w64 (j_2 - 1)).toNat (gD dM data2 j_2)))
 else r0 i_ (w64 (j_ + 1)) data2
def Q97.L (N : Nat) (data : LMv) (a_ b_ : Int) : Nat → (Int → Int → LMv → Option (Bool × LMv)) × (Int → Int → LMv → Option (Bool × LMv)) × (Int → Int → Int → LMv → Option (Bool × LMv)) × (Int → Int → Int → LMv → Option (Bool × LMv))
 | 0 => (fun _ _ _ => none, fun _ _ _ => none, fun _ _ _ _ => none, fun _ _ _ _ => none)
 | n + 1 => (fun i_ j_ data2 => Q97.s0 N data a_ b_ (Q97.L N data a_ b_ n).1 (Q97.L N data a_ b_ n).2.1 (Q97.L N data a_ b_ n).2.2.1 (Q97.L N data a_ b_ n).2.2.2 i_ j_ data2, fun i_ j_ data2 => Q97.s1 N data a_ b_ (Q97.L N data a_ b_ n).1 (Q97.L N data a_ b_ n).2.1 (Q97.L N data a_ b_ n).2.2.1 (Q97.L N data a_ b_ n).2.2.2 i_ j_ data2, fun i_ j_ j_2 data2 => Q97.s2 N data a_ b_ (Q97.L N data a_ b_ n).1 (Q97.L N data a_ b_ n).2.1 (Q97.L N data a_ b_ n).2.2.1 (Q97.L N data a_ b_ n).2.2.2 i_ j_ j_2 data2, fun i_ j_ j_2 data2 => Q97.s3 N data a_ b_ (Q97.L N data a_ b_ n).1 (Q97.L N data a_ b_ n).2.1 (Q97.L N data a_ b_ n).2.2.1 (Q97.L N data a_ b_ n).2.2.2 i_ j_ j_2 data2)
def Q97.l0 (N : Nat) (data : LMv) (a_ b_ : Int) (n : Nat) : Int → Int → LMv → Option (Bool × LMv) := (Q97.L N data a_ b_ n).1
def Q97.l1 (N : Nat) (data : LMv) (a_ b_ : Int) (n : Nat) : Int → Int → LMv → Option (Bool × LMv) := (Q97.L N data a_ b_ n).2.1
def Q97.l2 (N : Nat) (data : LMv) (a_ b_ : Int) (n : Nat) : Int → Int → Int → LMv → Option (Bool × LMv) := (Q97.L N data a_ b_ n).2.2.1
def Q97.l3 (N : Nat) (data : LMv) (a_ b_ : Int) (n : Nat) : Int → Int → Int → LMv → Option (Bool × LMv) := (Q97.L N data a_ b_ n).2.2.2
theorem Q97.l0_s (N : Nat) (data : LMv) (a_ b_ : Int) (n : Nat) (i_ j_ : Int) (data2 : LMv) : Q97.l0 N data a_ b_ (n + 1) i_ j_ data2 = Q97.s0 N data a_ b_ (Q97.l0 N data a_ b_ n) (Q97.l1 N data a_ b_ n) (Q97.l2 N data a_ b_ n) (Q97.l3 N data a_ b_ n) i_ j_ data2 := rfl
theorem Q97.l1_s (N : Nat) (data : LMv) (a_ b_ : Int) (n : Nat) (i_ j_ : Int) (data2 : LMv) : Q97.l1 N data a_ b_ (n + 1) i_ j_ data2 = Q97.s1 N data a_ b_ (Q97.l0 N data a_ b_ n) (Q97.l1 N data a_ b_ n) (Q97.l2 N data a_ b_ n) (Q97.l3 N data a_ b_ n) i_ j_ data2 := rfl
theorem Q97.l2_s (N : Nat) (data : LMv) (a_ b_ : Int) (n : Nat) (i_ j_ j_2 : Int) (data2 : LMv) : Q97.l2 N data a_ b_ (n + 1) i_ j_ j_2 data2 = Q97.s2 N data a_ b_ (Q97.l0 N data a_ b_ n) (Q97.l1 N data a_ b_ n) (Q97.l2 N data a_ b_ n) (Q97.l3 N data a_ b_ n) i_ j_ j_2 data2 := rfl
theorem Q97.l3_s (N : Nat) (data : LMv) (a_ b_ : Int) (n : Nat) (i_ j_ j_2 : Int) (data2 : LMv) : Q97.l3 N data a_ b_ (n + 1) i_ j_ j_2 data2 = Q97.s3 N data a_ b_ (Q97.l0 N data a_ b_ n) (Q97.l1 N data a_ b_ n) (Q97.l2 N data a_ b_ n) (Q97.l3 N data a_ b_ n) i_ j_ j_2 data2 := rfl
def Q97 (N : Nat) (data : LMv) (a_ b_ : Int) : Option (Bool × LMv) := Q97.e N (Q97.l0 N data a_ b_ N) (Q97.l1 N data a_ b_ N) (Q97.l2 N data a_ b_ N) (Q97.l3 N data a_ b_ N) data a_ b_
def Q98.e (N : Nat) (r0 : Int → Int → LMv → Option (Int × LMv)) (r1 : Int → Int → LMv → Option (Int × LMv)) (r2 : Int → Int → LMv → Option (Int × LMv)) (data : LMv) (a_ b_ pivot : Int) : Option (Int × LMv) :=
 chk ((leI 0 pivot) && (ltI pivot (data.length : Int))) <|
 chk ((leI 0 a_) && (ltI a_ (data.length : Int))) <|
 chk ((leI 0 a_) && (ltI a_ (data.length : Int))) <|
 let v1 : List TMv := (data.set a_.toNat (gD dM data pivot))
 chk ((leI 0 pivot) && (ltI pivot (v1.length : Int))) <|
 r0 (w64 (a_ + 1)) (w64 (b_ - 1)) (v1.set pivot.toNat (gD dM data a_))
def Q98.s0 (N : Nat) (data : LMv) (a_ b_ pivot : Int) (r0 : Int → Int → LMv → Option (Int × LMv)) (r1 : Int → Int → LMv → Option (Int × LMv)) (r2 : Int → Int → LMv → Option (Int × LMv)) (i_ j_ : Int) (data2 : LMv) : Option (Int × LMv) :=
 r1 i_ j_ data2
def Q98.s1 (N : Nat) (data : LMv) (a_ b_ pivot : Int) (r0 : Int → Int → LMv → Option (Int × LMv)) (r1 : Int → Int → LMv → Option (Int × LMv)) (r2 : Int → Int → LMv → Option (Int × LMv)) (i_ j_ : Int) (data2 : LMv) : Option (Int × LMv) :=
 bif (leI i_ j_) then (chk ((leI 0 a_) && (ltI a_ (data2.length : Int))) <|
  chk ((leI 0 i_) && (ltI i_ (data2.length : Int))) <|
  (Q60 N (gD dM data2 a_) (gD dM data2 i_)).bind fun y3 =>
  bif (!(ltI y3 0)) then (r1 (w64 (i_ + 1)) j_ data2)
  else r2 i_ j_ data2)
 else r2 i_ j_ data2
def Q98.s2 (N : Nat) (data : LMv) (a_ b_ pivot : Int) (r0 : Int → Int → LMv → Option (Int × LMv)) (r1 : Int → Int → LMv → Option (Int × LMv)) (r2 : Int → Int → LMv → Option (Int × LMv)) (i_ j_ : Int) (data2 : LMv) : Option (Int × LMv) :=
 bif (leI i_ j_) then (chk ((leI 0 a_) && (ltI a_ (data2.length : Int))) <|
  chk ((leI 0 j_) && (ltI j_ (data2.length : Int))) <|
  (Q60 N (gD dM data2 a_) (gD dM data2 j_)).bind fun y4 =>
  bif (ltI y4 0) then (r2 i_ (w64 (j_ - 1)) data2)
  else bif (ltI j_ i_) then (some (i_, data2))
  else chk ((leI 0 j_) && (ltI j_ (data2.length : Int))) <|
  chk ((leI 0 i_) && (ltI i_ (data2.length : Int))) <|
  chk ((leI 0 i_) && (ltI i_ (data2.length : Int))) <|
  let v5 : List TMv := (data2.set i_.toNat (gD dM data2 j_))
  chk ((leI 0 j_) && (ltI j_ (v5.length : Int))) <|
  r0 (w64 (i_ + 1)) (w64 (j_ - 1)) (v5.set j_.toNat (gD dM data2 i_)))
 else bif (ltI j_ i_) then (some (i_, data2))
 else chk ((leI 0 j_) && (ltI j_ (data2.length : Int))) <|
 chk ((leI 0 i_) && (ltI i_ (data2.length : Int))) <|
 chk ((leI 0 i_) && (ltI i_ (data2.length : Int))) <|
 let v7 : List TMv := (data2.set i_.toNat (gD dM data2 j_))
 chk ((leI 0 j_) && (ltI j_ (v7.length : Int))) <|
 r0 (w64 (i_ + 1)) (w64 (j_ - 1)) (v7.set j_.toNat (gD dM data2 i_))
def Q98.L (N : Nat) (data : LMv) (a_ b_ pivot : Int) : Nat → (Int → Int → LMv → Option (Int × LMv)) × (Int → Int → LMv → Option (Int × LMv)) × (Int → Int → LMv → Option (Int × LMv))
 | 0 => (fun _ _ _ => none, fun _ _ _ => none, fun _ _ _ => none)
 | n + 1 => (fun i_ j_ data2 => Q98.s0 N data a_ b_ pivot (Q98.L N data a_ b_ pivot n).1 (Q98.L N data a_ b_ pivot n).2.1 (Q98.L N data a_ b_ pivot n).2.2 i_ j_ data2, fun i_ j_ data2 => Q98.s1 N data a_ b_ pivot (Q98.L N data a_ b_ pivot n).1 (Q98.L N data a_ b_ pivot n).2.1 (Q98.L N data a_ b_ pivot n).2.2 i_ j_ data2, fun i_ j_ data2 => Q98.s2 N data a_ b_ pivot (Q98.L N data a_ b_ pivot n).1 (Q98.L N data a_ b_ pivot n).2.1 (Q98.L N data a_ b_ pivot n).2.2 i_ j_ data2)
def Q98.l0 (N : Nat) (data : LMv) (a_ b_ pivot : Int) (n : Nat) : Int → Int → LMv → Option (Int × LMv) := (Q98.L N data a_ b_ pivot n).1
def Q98.l1 (N : Nat) (data : LMv) (a_ b_ pivot : Int) (n : Nat) : Int → Int → LMv → Option (Int × LMv) := (Q98.L N data a_ b_ pivot n).2.1
def Q98.l2 (N : Nat) (data : LMv) (a_ b_ pivot : Int) (n : Nat) : Int → Int → LMv → Option (Int × LMv) := (Q98.L N data a_ b_ pivot n).2.2
theorem Q98.l0_s (N : Nat) (data : LMv) (a_ b_ pivot : Int) (n : Nat) (i_ j_ : Int) (data2 : LMv) : Q98.l0 N data a_ b_ pivot (n + 1) i_ j_ data2 = Q98.s0 N data a_ b_ pivot (Q98.l0 N data a_ b_ pivot n) (Q98.l1 N data a_ b_ pivot n) (Q98.l2 N data a_ b_ pivot n) i_ j_ data2 := rfl
theorem Q98.l1_s (N : Nat) (data : LMv) (a_ b_ pivot : Int) (n : Nat) (i_ j_ : Int) (data2 : LMv) : Q98.l1 N data a_ b_ pivot (n + 1) i_ j_ data2 = Q98.s1 N data a_ b_ pivot (Q98.l0 N data a_ b_ pivot n) (Q98.l1 N data a_ b_ pivot n) (Q98.l2 N data a_ b_ pivot n) i_ j_ data2 := rfl
theorem Q98.l2_s (N : Nat) (data : LMv) (a_ b_ pivot : Int) (n : Nat) (i_ j_ : Int) (data2 : LMv) : Q98.l2 N data a_ b_ pivot (n + 1) i_ j_ data2 = Q98.s2 N data a_ b_ pivot (Q98.l0 N data a_ b_ pivot n) (Q98.l1 N data a_ b_ pivot n) (Q98.l2 N data a_ b_ pivot n) i_ j_ data2 := rfl
def Q98 (N : Nat) (data : LMv) (a_ b_ pivot : Int) : Option (Int × LMv) := Q98.e N (Q98.l0 N data a_ b_ pivot N) (Q98.l1 N data a_ b_ pivot N) (Q98.l2 N data a_ b_ pivot N) data a_ b_ pivot
def Q99.e (N : Nat) (r0 : Int → LMv → Option (Int × Bool × LMv)) (r1 : Int → Int → LMv → Option (Int × Bool × LMv)) (r2 : Int → Int → LMv → Option (Int × Bool × LMv)) (r3 : Int → Int → LMv → Option (Int × Bool × LMv)) (r4 : Int → Int → LMv → Option (Int × Bool × LMv)) (data : LMv) (a_ b_ pivot : Int) : Option (Int × Bool × LMv) :=
 chk ((leI 0 pivot) && (ltI pivot (data.length : Int))) <|
 chk ((leI 0 a_) && (ltI a_ (data.length : Int))) <|
 chk ((leI 0 a_) && (ltI a_ (data.length : Int))) <|
 let v1 : List TMv := (data.set a_.toNat (gD dM data pivot))
 chk ((leI 0 pivot) && (ltI pivot (v1.length : Int))) <|
 r0 (w64 (a_ + 1)) (v1.set pivot.toNat (gD dM data a_))
def Q99.s0 (N : Nat) (data : LMv) (a_ b_ pivot : Int) (r0 : Int → LMv → Option (Int × Bool × LMv)) (r1 : Int → Int → LMv → Option (Int × Bool × LMv)) (r2 : Int → Int → LMv → Option (Int × Bool × LMv)) (r3 : Int → Int → LMv → Option (Int × Bool × LMv)) (r4 : Int → Int → LMv → Option (Int × Bool × LMv)) (i_ : Int) (data2 : LMv) : Option (Int × Bool × LMv) :=
 bif (leI i_ (w64 (b_ - 1))) then (chk ((leI 0 i_) && (ltI i_ (data2.length : Int))) <|
  chk ((leI 0 a_) && (ltI a_ (data2.length : Int))) <|
  (Q60 N (gD dM data2 i_) (gD dM data2 a_)).bind fun y3 =>
  bif (ltI y3 0) then (r0 (w64 (i_ + 1)) data2)
  else r1 i_ (w64 (b_ - 1)) data2)
 else r1 i_ (w64 (b_ - 1)) data2
def Q99.s1 (N : Nat) (data : LMv) (a_ b_ pivot : Int) (r0 : Int → LMv → Option (Int × Bool × LMv)) (r1 : Int → Int → LMv → Option (Int × Bool × LMv)) (r2 : Int → Int → LMv → Option (Int × Bool × LMv)) (r3 : Int → Int → LMv → Option (Int × Bool × LMv)) (r4 : Int → Int → LMv → Option (Int × Bool × LMv)) (i_ j_ : Int) (data2 : LMv) : Option (Int × Bool × LMv) :=
 bif (leI i_ j_) then (chk ((leI 0 j_) && (ltI j_ (data2.length : Int))) <|
  chk ((leI 0 a_) && (ltI a_ (data2.length : Int))) <|
  (Q60 N (gD dM data2 j_) (gD dM data2 a_)).bind fun y4 =>
  bif (!(ltI y4 0)) then (r1 i_ (w64 (j_ - 1)) data2)
  else bif (ltI j_ i_) then (chk ((leI 0 a_) && (ltI a_ (data2.length : Int))) <|
   chk ((leI 0 j_) && (ltI j_ (data2.length : Int))) <|
   chk ((leI 0 j_) && (ltI j_ (data2.length : Int))) <|
   let v5 : List TMv := (data2.set j_.toNat (gD dM data2 a_))
   chk ((leI 0 a_) && (ltI a_ (v5.length : Int))) <|
   some (j_, (true, (v5.set a_.toNat (gD dM data2 j_)))))
  else chk ((leI 0 j_) && (ltI j_ (data2.length : Int))) <|
  chk ((leI 0 i_) && (ltI i_ (data2.length : Int))) <|
  chk ((leI 0 i_) && (ltI i_ (data2.length : Int))) <|
  let v7 : List TMv := (data2.set i_.toNat (gD dM data2 j_))
  chk ((leI 0 j_) && (ltI j_ (v7.length : Int))) <|
  r2 (w64 (i_ + 1)) (w64 (j_ - 1)) (v7.set j_.toNat (gD dM data2 i_)))
 else bif (ltI j_ i_) then (chk ((leI 0 a_) && (ltI a_ (data2.length : Int))) <|
  chk ((leI 0 j_) && (ltI j_ (data2.length : Int))) <|
  chk ((leI 0 j_) && (ltI j_ (data2.length : Int))) <|
  let v9 : List TMv := (data2.set j_.toNat (gD dM data2 a_))
  chk ((leI 0 a_) && (ltI a_ (v9.length : Int))) <|
  some (j_, (true, (v9.set a_.toNat (gD dM data2 j_)))))
 else chk ((leI 0 j_) && (ltI j_ (data2.length : Int))) <|
 chk ((leI 0 i_) && (ltI i_ (data2.length : Int))) <|
 chk ((leI 0 i_) && (ltI i_ (data2.length : Int))) <|
 let v11 : List TMv := (data2.set i_.toNat (gD dM data2 j_))
 chk ((leI 0 j_) && (ltI j_ (v11.length : Int))) <|
 r2 (w64 (i_ + 1)) (w64 (j_ - 1)) (v11.set j_.toNat (gD dM data2 i_))
def Q99.s2 (N : Nat) (data : LMv) (a_ b_ pivot : Int) (r0 : Int → LMv → Option (Int × Bool × LMv)) (r1 : Int → Int → LMv → Option (Int × Bool × LMv)) (r2 : Int → Int → LMv → Option (Int × Bool × LMv)) (r3 : Int → Int → LMv → Option (Int × Bool × LMv)) (r4 : Int → Int → LMv → Option (Int × Bool × LMv)) (i_ j_ : Int) (data2 : LMv) : Option (Int × Bool × LMv) :=
 r3 i_ j_ data2
def Q99.s3 (N : Nat) (data : LMv) (a_ b_ pivot : Int) (r0 : Int → LMv → Option (Int × Bool × LMv)) (r1 : Int → Int → LMv → Option (Int × Bool × LMv)) (r2 : Int → Int → LMv → Option (Int × Bool × LMv)) (r3 : Int → Int → LMv → Option (Int × Bool × LMv)) (r4 : Int → Int → LMv → Option (Int × Bool × LMv)) (i_ j_ : Int) (data2 : LMv) : Option (Int × Bool × LMv) :=
 bif (leI i_ j_) then (chk ((leI 0 i_) && (ltI i_ (data2.length : Int))) <|
  chk ((leI 0 a_) && (ltI a_ (data2.length : Int))) <|
  (Q60 N (gD dM data2 i_) (gD dM data2 a_)).bind fun y13 =>
  bif (ltI y13 0) then (r3 (w64 (i_ + 1)) j_ data2)
  else r4 i_ j_ data2)
 else r4 i_ j_ data2
def Q99.s4 (N : Nat) (data : LMv) (a_ b_ pivot : Int) (r0 : Int → LMv → Option (Int × Bool × LMv)) (r1 : Int → Int → LMv → Option (Int × Bool × LMv)) (r2 : Int → Int → LMv → Option (Int × Bool × LMv)) (r3 : Int → Int → LMv → Option (Int × Bool × LMv)) (r4 : Int → Int → LMv → Option (Int × Bool × LMv)) (i_ j_ : Int) (data2 : LMv) : Option (Int × Bool × LMv) :=
 bif (leI i_ j_) then (chk ((leI 0 j_) && (ltI j_ (data2.length : Int))) <|
  chk ((leI 0 a_) && (ltI a_ (data2.length : Int))) <|
  (Q60 N (gD dM data2 j_) (gD dM data2 a_)).bind fun y14 =>
  bif (!(ltI y14 0)) then (r4 i_ (w64 (j_ - 1)) data2)
  else bif (ltI j_ i_) then (chk ((leI 0 a_) && (ltI a_ (data2.length : Int))) <|
   chk ((leI 0 j_) && (ltI j_ (data2.length : Int))) <|
   chk ((leI 0 j_) && (ltI j_ (data2.length : Int))) <|
   let v15 : List TMv := (data2.set j_.toNat (gD dM data2 a_))
   chk ((leI 0 a_) && (ltI a_ (v15.length : Int))) <|
   some (j_, (false, (v15.set a_.toNat (gD dM data2 j_)))))
  else chk ((leI 0 j_) && (ltI j_ (data2.length : Int))) <|
  chk ((leI 0 i_) && (ltI i_ (data2.length : Int))) <|
  chk ((leI 0 i_) && (ltI i_ (data2.length : Int))) <|
  let v17 : List TMv := (data2.set i_.toNat (gD dM data2 j_))
  chk ((leI 0 j_) && (ltI j_ (v17.length : Int))) <|
  r2 (w64 (i_ + 1)) (w64 (j_ - 1)) (v17.set j_.toNat (gD dM data2 i_)))
 else bif (ltI j_ i_) then (chk ((leI 0 a_) && (ltI a_ (data2.length : Int))) <|
  chk ((leI 0 j_) && (ltI j_ (data2.length : Int))) <|
  chk ((leI 0 j_) && (ltI j_ (data2.length : Int))) <|
  let v19 : List TMv := (data2.set j_.toNat (gD dM data2 a_))
  chk ((leI 0 a_) && (ltI a_ (v19.length : Int))) <|
  some (j_, (false, (v19.set a_.toNat (gD dM data2 j_)))))
 else chk ((leI 0 j_) && (ltI j_ (data2.length : Int))) <|
 chk ((leI 0 i_) && (ltI i_ (data2.length : Int))) <|
 chk ((leI 0 i_) && (ltI i_ (data2.length : Int))) <|
 let v21 : List TMv := (data2.set i_.toNat (gD dM data2 j_))
 chk ((leI 0 j_) && (ltI j_ (v21.length : Int))) <|
 r2 (w64 (i_ + 1)) (w64 (j_ - 1)) (v21.set j_.toNat (gD dM data2 i_))
def Q99.L (N : Nat) (data : LMv) (a_ b_ pivot : Int) : Nat → (Int → LMv → Option (Int × Bool × LMv)) × (Int → Int → LMv → Option (Int × Bool × LMv)) × (Int → Int → LMv → Option (Int × Bool × LMv)) × (Int → Int → LMv → Option (Int × Bool × LMv)) × (Int → Int → LMv → Option (Int × Bool × LMv))
 | 0 => (fun _ _ => none, fun _ _ _ => none, fun _ _ _ => none, fun _ _ _ => none, fun _ _ _ => none)
 | n + 1 => (fun i_ data2 => Q99.s0 N data a_ b_ pivot (Q99.L N data a_ b_ pivot n).1 (Q99.L N data a_ b_ pivot n).2.1 (Q99.L N data a_ b_ pivot n).2.2.1 (Q99.L N data a_ b_ pivot n).2.2.2.1 (Q99.L N data a_ b_ pivot n).2.2.2.2 i_ data2, fun i_ j_ data2 => Q99.s1 N data a_ b_ pivot (Q99.L N data a_ b_ pivot n).1 (Q99.L N data a_ b_ pivot n).2.1 (Q99.L N data a_ b_ pivot n).2.2.1 (Q99.L N data a_ b_ pivot n).2.2.2.1 (Q99.L N data a_ b_ pivot n).2.2.2.2 i_ j_ data2, fun i_ j_ data2 => Q99.s2 N data a_ b_ pivot (Q99.L N data a_ b_ pivot n).1 (Q99.L N data a_ b_ pivot n).2.1 (Q99.L N data a_ b_ pivot n).2.2.1 (Q99.L N data a_ b_ pivot n).2.2.2.1 (Q99.L N data a_ b_ pivot n).2.2.2.2 i_ j_ data2, fun i_ j_ data2 => Q99.s3 N data a_ b_ pivot (Q99.L N data a_ b_ pivot n).1 (Q99.L N data a_ b_ pivot n).2.1 (Q99.L N data a_ b_ pivot n).2.2.1 (Q99.L N data a_ b_ pivot n).2.2.2.1 (Q99.L N data a_ b_ pivot n).2.2.2.2 i_ j_ data2, fun i_ j_ data2 => Q99.s4 N data a_ b_ pivot (Q99.L N data a_ b_ pivot n).1 (Q99.L N data a_ b_ pivot n).2.1 (Q99.L N data a_ b_ pivot n).2.2.1 (Q99.L N data a_ b_ pivot n).2.2.2.1 (Q99.L N data a_ b_ pivot n).2.2.2.2 i_ j_ data2)
def Q99.l0 (N : Nat) (data : LMv) (a_ b_ pivot : Int) (n : Nat) : Int → LMv → Option (Int × Bool × LMv) := (Q99.L N data a_ b_ pivot n).1
def Q99.l1 (N : Nat) (data : LMv) (a_ b_ pivot : Int) (n : Nat) : Int → Int → LMv → Option (Int × Bool × LMv) := (Q99.L N data a_ b_ pivot n).2.1
def Q99.l2 (N : Nat) (data : LMv) (a_ b_ pivot : Int) (n : Nat) : Int → Int → LMv → Option (Int × Bool × LMv) := (Q99.L N data a_ b_ pivot n).2.2.1
def Q99.l3 (N : Nat) (data : LMv) (a_ b_ pivot : Int) (n : Nat) : Int → Int → LMv → Option (Int × Bool × LMv) := (Q99.L N data a_ b_ pivot n).2.2.2.1
def Q99.l4 (N : Nat) (data : LMv) (a_ b_ pivot : Int) (n : Nat) : Int → Int → LMv → Option (Int × Bool × LMv) := (Q99.L N data a_ b_ pivot n).2.2.2.2
theorem Q99.l0_s (N : Nat) (data : LMv) (a_ b_ pivot : Int) (n : Nat) (i_ : Int) (data2 : LMv) : Q99.l0 N data a_ b_ pivot (n + 1) i_ data2 = Q99.s0 N data a_ b_ pivot (Q99.l0 N data a_ b_ pivot n) (Q99.l1 N data a_ b_ pivot n) (Q99.l2 N data a_ b_ pivot n) (Q99.l3 N data a_ b_ pivot n) (Q99.l4 N data a_ b_ pivot n) i_ data2 := rfl
theorem Q99.l1_s (N : Nat) (data : LMv) (a_ b_ pivot : Int) (n : Nat) (i_ j_ : Int) (data2 : LMv) : Q99.l1 N data a_ b_ pivot (n + 1) i_ j_ data2 = Q99.s1 N data a_ b_ pivot (Q99.l0 N data a_ b_ pivot n) (Q99.l1 N data a_ b_ pivot n) (Q99.l2 N data a_ b_ pivot n) (Q99.l3 N data a_ b_ pivot n) (Q99.l4 N data a_ b_ pivot n) i_ j_ data2 := rfl
theorem Q99.l2_s (N : Nat) (data : LMv) (a_ b_ pivot : Int) (n : Nat) (i_ j_ : Int) (data2 : LMv) : Q99.l2 N data a_ b_ pivot (n + 1) i_ j_ data2 = Q99.s2 N data a_ b_ pivot (Q99.l0 N data a_ b_ pivot n) (Q99.l1 N data a_ b_ pivot n) (Q99.l2 N data a_ b_ pivot n) (Q99.l3 N data a_ b_ pivot n) (Q99.l4 N data a_ b_ pivot n) i_ j_ data2 := rfl
theorem Q99.l3_s (N : Nat) (data : LMv) (a_ b_ pivot : Int) (n : Nat) (i_ j_ : Int) (data2 : LMv) : Q99.l3 N data a_ b_ pivot (n + 1) i_ j_ data2 = Q99.s3 N data a_ b_ pivot (Q99.l0 N data a_ b_ pivot n) (Q99.l1 N data a_ b_ pivot n) (Q99.l2 N data a_ b_ pivot n) (Q99.l3 N data a_ b_ pivot n) (Q99.l4 N data a_ b_ pivot n) i_ j_ data2 := rfl
theorem Q99.l4_s (N : Nat) (data : LMv) (a_ b_ pivot : Int) (n : Nat) (i_ j_ : Int) (data2 : LMv) : Q99.l4 N data a_ b_ pivot (n + 1) i_ j_ data2 = Q99.s4 N data a_ b_ pivot (Q99.l0 N data a_ b_ pivot n) (Q99.l1 N data a_ b_ pivot n) (Q99.l2 N data a_ b_ pivot n) (Q99.l3 N data a_ b_ pivot n) (Q99.l4 N data a_ b_ pivot n) i_ j_ data2 := rfl
def Q99 (N : Nat) (data : LMv) (a_ b_ pivot : Int) : Option (Int × Bool × LMv) := Q99.e N (Q99.l0 N data a_ b_ pivot N) (Q99.l1 N data a_ b_ pivot N) (Q99.l2 N data a_ b_ pivot N) (Q99.l3 N data a_ b_ pivot N) (Q99.l4 N data a_ b_ pivot N) data a_ b_ pivot
def Q106.e (N : Nat) (length : Int) : Option Int :=
 (Q80 N (IntKind.wrap .u64 length)).bind fun y2 =>
 bif (ltI y2 0) then none
 else some (IntKind.wrap .u64 (1 * 2 ^ (min (y2 : Int).toNat 64)))
def Q106 (N : Nat) (length : Int) : Option Int := Q106.e N length
def Q107.e (N : Nat) (r_ : Int) : Option (Int × Int) :=
 let v2 : Int := (Go.bits .xor .u64 r_ (IntKind.wrap .u64 (r_ * 2 ^ (min (13 : Int).toNat 64))))
 let v4 : Int := (Go.bits .xor .u64 v2 (Int.fdiv v2 (2 ^ (min (7 : Int).toNat 64))))
 let v6 : Int := (Go.bits .xor .u64 v4 (IntKind.wrap .u64 (v4 * 2 ^ (min (17 : Int).toNat 64))))
 some (v6, v6)
def Q107 (N : Nat) (r_ : Int) : Option (Int × Int) := Q107.e N r_
def Q94.e (N : Nat) (r0 : Int → Int → LMv → Int → Option LMv) (data : LMv) (a_ b_ : Int) : Option LMv :=
 bif (leI 8 (w64 (b_ - a_))) then ((Q106 N (w64 (b_ - a_))).bind fun y2 =>
  r0 y2 (w64 ((w64 (a_ + (w64 ((w64 (Int.tdiv (w64 (b_ - a_)) 4)) * 2)))) - 1)) data (IntKind.wrap .u64 (w64 (b_ - a_))))
 else some data
def Q94.s0 (N : Nat) (data : LMv) (a_ b_ : Int) (r0 : Int → Int → LMv → Int → Option LMv) (modulus idx : Int) (data2 : LMv) (random : Int) : Option LMv :=
 bif (leI idx (w64 ((w64 (a_ + (w64 ((w64 (Int.tdiv (w64 (b_ - a_)) 4)) * 2)))) + 1))) then ((Q107 N random).bind fun y7 =>
  let v9 : Int := (Go.bits .and .u64 y7.1 (IntKind.wrap .u64 (modulus - 1)))
  bif (leI (w64 (b_ - a_)) (w64 v9)) then (let v11 : Int := (w64 ((w64 v9) - (w64 (b_ - a_))))
   chk ((leI 0 (w64 (a_ + v11))) && (ltI (w64 (a_ + v11)) (data2.length : Int))) <|
   chk ((leI 0 idx) && (ltI idx (data2.length : Int))) <|
   chk ((leI 0 idx) && (ltI idx (data2.length : Int))) <|
   let v12 : List TMv := (data2.set idx.toNat (gD dM data2 (w64 (a_ + v11))))
   chk ((leI 0 (w64 (a_ + v11))) && (ltI (w64 (a_ + v11)) (v12.length : Int))) <|
   r0 modulus (w64 (idx + 1)) (v12.set (w64 (a_ + v11)).toNat (gD dM data2 idx)) y7.2)
  else chk ((leI 0 (w64 (a_ + (w64 v9)))) && (ltI (w64 (a_ + (w64 v9))) (data2.length : Int))) <|
  chk ((leI 0 idx) && (ltI idx (data2.length : Int))) <|
  chk ((leI 0 idx) && (ltI idx (data2.length : Int))) <|
  let v14 : List TMv := (data2.set idx.toNat (gD dM data2 (w64 (a_ + (w64 v9)))))
  chk ((leI 0 (w64 (a_ + (w64 v9)))) && (ltI (w64 (a_ + (w64 v9))) (v14.length : Int))) <|
  r0 modulus (w64 (idx + 1)) (v14.set (w64 (a_ + (w64 v9))).toNat (gD dM data2 idx)) y7.2)
 else some data2
def Q94.L (N : Nat) (data : LMv) (a_ b_ : Int) : Nat → (Int → Int → LMv → Int → Option LMv)
 | 0 => fun _ _ _ _ => none
 | n + 1 => fun modulus idx data2 random => Q94.s0 N data a_ b_ (Q94.L N data a_ b_ n) modulus idx data2 random
def Q94.l0 (N : Nat) (data : LMv) (a_ b_ : Int) (n : Nat) : Int → Int → LMv → Int → Option LMv := (Q94.L N data a_ b_ n)
theorem Q94.l0_s (N : Nat) (data : LMv) (a_ b_ : Int) (n : Nat) (modulus idx : Int) (data2 : LMv) (random : Int) : Q94.l0 N data a_ b_ (n + 1) modulus idx data2 random = Q94.s0 N data a_ b_ (Q94.l0 N data a_ b_ n) modulus idx data2 random := rfl
def Q94 (N : Nat) (data : LMv) (a_ b_ : Int) : Option LMv := Q94.e N (Q94.l0 N data a_ b_ N) data a_ b_
def Q79.e (N : Nat) (self : LMv → Int → Int → Int → Option LMv) (r0 : Int → Int → Int → Bool → Bool → LMv → Option LMv) (data : LMv) (a_ b_ limit : Int) : Option LMv :=
 r0 a_ b_ limit true true data
def Q79.s0 (N : Nat) (self : LMv → Int → Int → Int → Option LMv) (data : LMv) (a_ b_ limit : Int) (r0 : Int → Int → Int → Bool → Bool → LMv → Option LMv) (a_2 b_2 limit2 : Int) (wasBalanced wasPartitioned : Bool) (data2 : LMv) : Option LMv :=
 bif (leI (w64 (b_2 - a_2)) 12) then ((Q92 N data2 a_2 b_2).bind fun y2 =>
  some y2)
 else bif (eqI limit2 0) then ((Q93 N data2 a_2 b_2).bind fun y3 =>
  some y3)
 else bif (!wasBalanced) then ((Q94 N data2 a_2 b_2).bind fun y4 =>
  (Q95 N y4 a_2 b_2).bind fun y5 =>
  bif (eqI y5.2 2) then ((Q96 N y4 a_2 b_2).bind fun y6 =>
   let v7 : Int := (w64 ((w64 (b_2 - 1)) - (w64 (y5.1 - a_2))))
   bif wasBalanced then (bif wasPartitioned then ((Q97 N y6 a_2 b_2).bind fun y8 =>
     bif y8.1 then some y8.2
     else bif (ltI 0 a_2) then (chk ((leI 0 (w64 (a_2 - 1))) && (ltI (w64 (a_2 - 1)) (y8.2.length : Int))) <|
      chk ((leI 0 v7) && (ltI v7 (y8.2.length : Int))) <|
      (Q60 N (gD dM y8.2 (w64 (a_2 - 1))) (gD dM y8.2 v7)).bind fun y9 =>
      bif (!(ltI y9 0)) then ((Q98 N y8.2 a_2 b_2 v7).bind fun y10 =>
       r0 y10.1 b_2 (w64 (limit2 - 1)) wasBalanced wasPartitioned y10.2)
      else (Q99 N y8.2 a_2 b_2 v7).bind fun y11 =>
      let v12 : Int := (w64 (Int.tdiv (w64 (b_2 - a_2)) 8))
      bif (ltI (w64 (y11.1 - a_2)) (w64 (b_2 - y11.1))) then ((self y11.2.2 a_2 y11.1 (w64 (limit2 - 1))).bind fun y15 =>
       r0 (w64 (y11.1 + 1)) b_2 (w64 (limit2 - 1)) (leI v12 (w64 (y11.1 - a_2))) y11.2.1 y15)
      else (self y11.2.2 (w64 (y11.1 + 1)) b_2 (w64 (limit2 - 1))).bind fun y17 =>
      r0 a_2 y11.1 (w64 (limit2 - 1)) (leI v12 (w64 (b_2 - y11.1))) y11.2.1 y17)
     else (Q99 N y8.2 a_2 b_2 v7).bind fun y18 =>
     let v19 : Int := (w64 (Int.tdiv (w64 (b_2 - a_2)) 8))
     bif (ltI (w64 (y18.1 - a_2)) (w64 (b_2 - y18.1))) then ((self y18.2.2 a_2 y18.1 (w64 (limit2 - 1))).bind fun y22 =>
      r0 (w64 (y18.1 + 1)) b_2 (w64 (limit2 - 1)) (leI v19 (w64 (y18.1 - a_2))) y18.2.1 y22)
     else (self y18.2.2 (w64 (y18.1 + 1)) b_2 (w64 (limit2 - 1))).bind fun y24 =>
     r0 a_2 y18.1 (w64 (limit2 - 1)) (leI v19 (w64 (b_2 - y18.1))) y18.2.1 y24)
    else bif (ltI 0 a_2) then (chk ((leI 0 (w64 (a_2 - 1))) && (ltI (w64 (a_2 - 1)) (y6.length : Int))) <|
     chk ((leI 0 v7) && (ltI v7 (y6.length : Int))) <|
     (Q60 N (gD dM y6 (w64 (a_2 - 1))) (gD dM y6 v7)).bind fun y25 =>
     bif (!(ltI y25 0)) then ((Q98 N y6 a_2 b_2 v7).bind fun y26 =>
      r0 y26.1 b_2 (w64 (limit2 - 1)) wasBalanced wasPartitioned y26.2)
     else (Q99 N y6 a_2 b_2 v7).bind fun y27 =>
     let v28 : Int := (w64 (Int.tdiv (w64 (b_2 - a_2)) 8))
     bif (ltI (w64 (y27.1 - a_2)) (w64 (b_2 - y27.1))) then ((self y27.2.2 a_2 y27.1 (w64 (limit2 - 1))).bind fun y31 =>
      r0 (w64 (y27.1 + 1)) b_2 (w64 (limit2 - 1)) (leI v28 (w64 (y27.1 - a_2))) y27.2.1 y31)
     else (self y27.2.2 (w64 (y27.1 + 1)) b_2 (w64 (limit2 - 1))).bind fun y33 =>
     r0 a_2 y27.1 (w64 (limit2 - 1)) (leI v28 (w64 (b_2 - y27.1))) y27.2.1 y33)
    else (Q99 N y6 a_2 b_2 v7).bind fun y34 =>
    let v35 : Int := (w64 (Int.tdiv (w64 (b_2 - a_2)) 8))
    bif (ltI (w64 (y34.1 - a_2)) (w64 (b_2 - y34.1))) then ((self y34.2.2 a_2 y34.1 (w64 (limit2 - 1))).bind fun y38 =>
     r0 (w64 (y34.1 + 1)) b_2 (w64 (limit2 - 1)) (leI v35 (w64 (y34.1 - a_2))) y34.2.1 y38)
    else (self y34.2.2 (w64 (y34.1 + 1)) b_2 (w64 (limit2 - 1))).bind fun y40 =>
    r0 a_2 y34.1 (w64 (limit2 - 1)) (leI v35 (w64 (b_2 - y34.1))) y34.2.1 y40)
   else bif (ltI 0 a_2) then (chk ((leI 0 (w64 (a_2 - 1))) && (ltI (w64 (a_2 - 1)) (y6.length : Int))) <|
    chk ((leI 0 v7) && (ltI v7 (y6.length : Int))) <|
    (Q60 N (gD dM y6 (w64 (a_2 - 1))) (gD dM y6 v7)).bind fun y41 =>
    bif (!(ltI y41 0)) then ((Q98 N y6 a_2 b_2 v7).bind fun y42 =>
     r0 y42.1 b_2 (w64 (limit2 - 1)) wasBalanced wasPartitioned y42.2)
    else (Q99 N y6 a_2 b_2 v7).bind fun y43 =>
    let v44 : Int := (w64 (Int.tdiv (w64 (b_2 - a_2)) 8))
    bif (ltI (w64 (y43.1 - a_2)) (w64 (b_2 - y43.1))) then ((self y43.2.2 a_2 y43.1 (w64 (limit2 - 1))).bind fun y47 =>
     r0 (w64 (y43.1 + 1)) b_2 (w64 (limit2 - 1)) (leI v44 (w64 (y43.1 - a_2))) y43.2.1 y47)
    else (self y43.2.2 (w64 (y43.1 + 1)) b_2 (w64 (limit2 - 1))).bind fun y49 =>
    r0 a_2 y43.1 (w64 (limit2 - 1)) (leI v44 (w64 (b_2 - y43.1))) y43.2.1 y49)
   else (Q99 N y6 a_2 b_2 v7).bind fun y50 =>
   let v51 : Int := (w64 (Int.tdiv (w64 (b_2 - a_2)) 8))
   bif (ltI (w64 (y50.1 - a_2)) (w64 (b_2 - y50.1))) then ((self y50.2.2 a_2 y50.1 (w64 (limit2 - 1))).bind fun y54 =>
    r0 (w64 (y50.1 + 1)) b_2 (w64 (limit2 - 1)) (leI v51 (w64 (y50.1 - a_2))) y50.2.1 y54)
   else (self y50.2.2 (w64 (y50.1 + 1)) b_2 (w64 (limit2 - 1))).bind fun y56 =>
   r0 a_2 y50.1 (w64 (limit2 - 1)) (leI v51 (w64 (b_2 - y50.1))) y50.2.1 y56)
  else bif wasBalanced then (bif wasPartitioned then (bif (eqI y5.2 1) then ((Q97 N y4 a_2 b_2).bind fun y57 =>
     bif y57.1 then some y57.2
     else bif (ltI 0 a_2) then (chk ((leI 0 (w64 (a_2 - 1))) && (ltI (w64 (a_2 - 1)) (y57.2.length : Int))) <|
      chk ((leI 0 y5.1) && (ltI y5.1 (y57.2.length : Int))) <|
      (Q60 N (gD dM y57.2 (w64 (a_2 - 1))) (gD dM y57.2 y5.1)).bind fun y58 =>
      bif (!(ltI y58 0)) then ((Q98 N y57.2 a_2 b_2 y5.1).bind fun y59 =>
       r0 y59.1 b_2 (w64 (limit2 - 1)) wasBalanced wasPartitioned y59.2)
      else (Q99 N y57.2 a_2 b_2 y5.1).bind fun y60 =>
      let v61 : Int := (w64 (Int.tdiv (w64 (b_2 - a_2)) 8))
      bif (ltI (w64 (y60.1 - a_2)) (w64 (b_2 - y60.1))) then ((self y60.2.2 a_2 y60.1 (w64 (limit2 - 1))).bind fun y64 =>
       r0 (w64 (y60.1 + 1)) b_2 (w64 (limit2 - 1)) (leI v61 (w64 (y60.1 - a_2))) y60.2.1 y64)
      else (self y60.2.2 (w64 (y60.1 + 1)) b_2 (w64 (limit2 - 1))).bind fun y66 =>
      r0 a_2 y60.1 (w64 (limit2 - 1)) (leI v61 (w64 (b_2 - y60.1))) y60.2.1 y66)
     else (Q99 N y57.2 a_2 b_2 y5.1).bind fun y67 =>
     let v68 : Int := (w64 (Int.tdiv (w64 (b_2 - a_2)) 8))
     bif (ltI (w64 (y67.1 - a_2)) (w64 (b_2 - y67.1))) then ((self y67.2.2 a_2 y67.1 (w64 (limit2 - 1))).bind fun y71 =>
      r0 (w64 (y67.1 + 1)) b_2 (w64 (limit2 - 1)) (leI v68 (w64 (y67.1 - a_2))) y67.2.1 y71)
     else (self y67.2.2 (w64 (y67.1 + 1)) b_2 (w64 (limit2 - 1))).bind fun y73 =>
     r0 a_2 y67.1 (w64 (limit2 - 1)) (leI v68 (w64 (b_2 - y67.1))) y67.2.1 y73)
    else bif (ltI 0 a_2) then (chk ((leI 0 (w64 (a_2 - 1))) && (ltI (w64 (a_2 - 1)) (y4.length : Int))) <|
     chk ((leI 0 y5.1) && (ltI y5.1 (y4.length : Int))) <|
     (Q60 N (gD dM y4 (w64 (a_2 - 1))) (gD dM y4 y5.1)).bind fun y74 =>
     bif (!(ltI y74 0)) then ((Q98 N y4 a_2 b_2 y5.1).bind fun y75 =>
      r0 y75.1 b_2 (w64 (limit2 - 1)) wasBalanced wasPartitioned y75.2)
     else (Q99 N y4 a_2 b_2 y5.1).bind fun y76 =>
     let v77 : Int := (w64 (Int.tdiv (w64 (b_2 - a_2)) 8))
     bif (ltI (w64 (y76.1 - a_2)) (w64 (b_2 - y76.1))) then ((self y76.2.2 a_2 y76.1 (w64 (limit2 - 1))).bind fun y80 =>
      r0 (w64 (y76.1 + 1)) b_2 (w64 (limit2 - 1)) (leI v77 (w64 (y76.1 - a_2))) y76.2.1 y80)
     else (self y76.2.2 (w64 (y76.1 + 1)) b_2 (w64 (limit2 - 1))).bind fun y82 =>
     r0 a_2 y76.1 (w64 (limit2 - 1)) (leI v77 (w64 (b_2 - y76.1))) y76.2.1 y82)
    else (Q99 N y4 a_2 b_2 y5.1).bind fun y83 =>
    let v84 : Int := (w64 (Int.tdiv (w64 (b_2 - a_2)) 8))
    bif (ltI (w64 (y83.1 - a_2)) (w64 (b_2 - y83.1))) then ((self y83.2.2 a_2 y83.1 (w64 (limit2 - 1))).bind fun y87 =>
     r0 (w64 (y83.1 + 1)) b_2 (w64 (limit2 - 1)) (leI v84 (w64 (y83.1 - a_2))) y83.2.1 y87)
    else (self y83.2.2 (w64 (y83.1 + 1)) b_2 (w64 (limit2 - 1))).bind fun y89 =>
    r0 a_2 y83.1 (w64 (limit2 - 1)) (leI v84 (w64 (b_2 - y83.1))) y83.2.1 y89)
   else bif (ltI 0 a_2) then (chk ((leI 0 (w64 (a_2 - 1))) && (ltI (w64 (a_2 - 1)) (y4.length : Int))) <|
    chk ((leI 0 y5.1) && (ltI y5.1 (y4.length : Int))) <|
    (Q60 N (gD dM y4 (w64 (a_2 - 1))) (gD dM y4 y5.1)).bind fun y90 =>
    bif (!(ltI y90 0)) then ((Q98 N y4 a_2 b_2 y5.1).bind fun y91 =>
     r0 y91.1 b_2 (w64 (limit2 - 1)) wasBalanced wasPartitioned y91.2)
    else (Q99 N y4 a_2 b_2 y5.1).bind fun y92 =>
    let v93 : Int := (w64 (Int.tdiv (w64 (b_2 - a_2)) 8))
    bif (ltI (w64 (y92.1 - a_2)) (w64 (b_2 - y92.1))) then ((self y92.2.2 a_2 y92.1 (w64 (limit2 - 1))).bind fun y96 =>
     r0 (w64 (y92.1 + 1)) b_2 (w64 (limit2 - 1)) (leI v93 (w64 (y92.1 - a_2))) y92.2.1 y96)
    else (self y92.2.2 (w64 (y92.1 + 1)) b_2 (w64 (limit2 - 1))).bind fun y98 =>
    r0 a_2 y92.1 (w64 (limit2 - 1)) (leI v93 (w64 (b_2 - y92.1))) y92.2.1 y98)
   else (Q99 N y4 a_2 b_2 y5.1).bind fun y99 =>
   let v100 : Int := (w64 (Int.tdiv (w64 (b_2 - a_2)) 8))
   bif (ltI (w64 (y99.1 - a_2)) (w64 (b_2 - y99.1))) then ((self y99.2.2 a_2 y99.1 (w64 (limit2 - 1))).bind fun y103 =>
    r0 (w64 (y99.1 + 1)) b_2 (w64 (limit2 - 1)) (leI v100 (w64 (y99.1 - a_2))) y99.2.1 y103)
   else (self y99.2.2 (w64 (y99.1 + 1)) b_2 (w64 (limit2 - 1))).bind fun y105 =>
   r0 a_2 y99.1 (w64 (limit2 - 1)) (leI v100 (w64 (b_2 - y99.1))) y99.2.1 y105)
  else bif (ltI 0 a_2) then (chk ((leI 0 (w64 (a_2 - 1))) && (ltI (w64 (a_2 - 1)) (y4.length : Int))) <|
   chk ((leI 0 y5.1) && (ltI y5.1 (y4.length : Int))) <|
   (Q60 N (gD dM y4 (w64 (a_2 - 1))) (gD dM y4 y5.1)).bind fun y106 =>
   bif (!(ltI y106 0)) then ((Q98 N y4 a_2 b_2 y5.1).bind fun y107 =>
    r0 y107.1 b_2 (w64 (limit2 - 1)) wasBalanced wasPartitioned y107.2)
   else (Q99 N y4 a_2 b_2 y5.1).bind fun y108 =>
   let v109 : Int := (w64 (Int.tdiv (w64 (b_2 - a_2)) 8))
   bif (ltI (w64 (y108.1 - a_2)) (w64 (b_2 - y108.1))) then ((self y108.2.2 a_2 y108.1 (w64 (limit2 - 1))).bind fun y112 =>
    r0 (w64 (y108.1 + 1)) b_2 (w64 (limit2 - 1)) (leI v109 (w64 (y108.1 - a_2))) y108.2.1 y112)
   else (self y108.2.2 (w64 (y108.1 + 1)) b_2 (w64 (limit2 - 1))).bind fun y114 =>
   r0 a_2 y108.1 (w64 (limit2 - 1)) (leI v109 (w64 (b_2 - y108.1))) y108.2.1 y114)
  else (Q99 N y4 a_2 b_2 y5.1).bind fun y115 =>
  let v116 : Int := (w64 (Int.tdiv (w64 (b_2 - a_2)) 8))
  bif (ltI (w64 (y115.1 - a_2)) (w64 (b_2 - y115.1))) then ((self y115.2.2 a_2 y115.1 (w64 (limit2 - 1))).bind fun y119 =>
   r0 (w64 (y115.1 + 1)) b_2 (w64 (limit2 - 1)) (leI v116 (w64 (y115.1 - a_2))) y115.2.1 y119)
  else (self y115.2.2 (w64 (y115.1 + 1)) b_2 (w64 (limit2 - 1))).bind fun y121 =>
  r0 a_2 y115.1 (w64 (limit2 - 1)) (leI v116 (w64 (b_2 - y115.1))) y115.2.1 y121)
 else (Q95 N data2 a_2 b_2).bind fun y122 =>
 bif (eqI y122.2 2) then ((Q96 N data2 a_2 b_2).bind fun y123 =>
  let v124 : Int := (w64 ((w64 (b_2 - 1)) - (w64 (y122.1 - a_2))))
  bif wasBalanced then (bif wasPartitioned then ((Q97 N y123 a_2 b_2).bind fun y125 =>
    bif y125.1 then some y125.2
    else bif (ltI 0 a_2) then (chk ((leI 0 (w64 (a_2 - 1))) && (ltI (w64 (a_2 - 1)) (y125.2.length : Int))) <|
     chk ((leI 0 v124) && (ltI v124 (y125.2.length : Int))) <|
     (Q60 N (gD dM y125.2 (w64 (a_2 - 1))) (gD dM y125.2 v124)).bind fun y126 =>
     bif (!(ltI y126 0)) then ((Q98 N y125.2 a_2 b_2 v124).bind fun y127 =>
      r0 y127.1 b_2 limit2 wasBalanced wasPartitioned y127.2)
     else (Q99 N y125.2 a_2 b_2 v124).bind fun y128 =>
     let v129 : Int := (w64 (Int.tdiv (w64 (b_2 - a_2)) 8))
     bif (ltI (w64 (y128.1 - a_2)) (w64 (b_2 - y128.1))) then ((self y128.2.2 a_2 y128.1 limit2).bind fun y132 =>
      r0 (w64 (y128.1 + 1)) b_2 limit2 (leI v129 (w64 (y128.1 - a_2))) y128.2.1 y132)
     else (self y128.2.2 (w64 (y128.1 + 1)) b_2 limit2).bind fun y134 =>
     r0 a_2 y128.1 limit2 (leI v129 (w64 (b_2 - y128.1))) y128.2.1 y134)
    else (Q99 N y125.2 a_2 b_2 v124).bind fun y135 =>
    let v136 : Int := (w64 (Int.tdiv (w64 (b_2 - a_2)) 8))
    bif (ltI (w64 (y135.1 - a_2)) (w64 (b_2 - y135.1))) then ((self y135.2.2 a_2 y135.1 limit2).bind fun y139 =>
     r0 (w64 (y135.1 + 1)) b_2 limit2 (leI v136 (w64 (y135.1 - a_2))) y135.2.1 y139)
    else (self y135.2.2 (w64 (y135.1 + 1)) b_2 limit2).bind fun y141 =>
    r0 a_2 y135.1 limit2 (leI v136 (w64 (b_2 - y135.1))) y135.2.1 y141)
   else bif (ltI 0 a_2) then (chk ((leI 0 (w64 (a_2 - 1))) && (ltI (w64 (a_2 - 1)) (y123.length : Int))) <|
    chk ((leI 0 v124) && (ltI v124 (y123.length : Int))) <|
    (Q60 N (gD dM y123 (w64 (a_2 - 1))) (gD dM y123 v124)).bind fun y142 =>
    bif (!(ltI y142 0)) then ((Q98 N y123 a_2 b_2 v124).bind fun y143 =>
     r0 y143.1 b_2 limit2 wasBalanced wasPartitioned y143.2)
    else (Q99 N y123 a_2 b_2 v124).bind fun y144 =>
    let v145 : Int := (w64 (Int.tdiv (w64 (b_2 - a_2)) 8))
    bif (ltI (w64 (y144.1 - a_2)) (w64 (b_2 - y144.1))) then ((self y144.2.2 a_2 y144.1 limit2).bind fun y148 =>
     r0 (w64 (y144.1 + 1)) b_2 limit2 (leI v145 (w64 (y144.1 - a_2))) y144.2.1 y148)
    else (self y144.2.2 (w64 (y144.1 + 1)) b_2 limit2).bind fun y150 =>
    r0 a_2 y144.1 limit2 (leI v145 (w64 (b_2 - y144.1))) y144.2.1 y150)
   else (Q99 N y123 a_2 b_2 v124).bind fun y151 =>
   let v152 : Int := (w64 (Int.tdiv (w64 (b_2 - a_2)) 8))
   bif (ltI (w64 (y151.1 - a_2)) (w64 (b_2 - y151.1))) then ((self y151.2.2 a_2 y151.1 limit2).bind fun y155 =>
    r0 (w64 (y151.1 + 1)) b_2 limit2 (leI v152 (w64 (y151.1 - a_2))) y151.2.1 y155)
   else (self y151.2.2 (w64 (y151.1 + 1)) b_2 limit2).bind fun y157 =>
   r0 a_2 y151.1 limit2 (leI v152 (w64 (b_2 - y151.1))) y151.2.1 y157)
  else bif (ltI 0 a_2) then (chk ((leI 0 (w64 (a_2 - 1))) && (ltI (w64 (a_2 - 1)) (y123.length : Int))) <|
   chk ((leI 0 v124) && (ltI v124 (y123.length : Int))) <|
   (Q60 N (gD dM y123 (w64 (a_2 - 1))) (gD dM y123 v124)).bind fun y158 =>
   bif (!(ltI y158 0)) then ((Q98 N y123 a_2 b_2 v124).bind fun y159 =>
    r0 y159.1 b_2 limit2 wasBalanced wasPartitioned y159.2)
   else (Q99 N y123 a_2 b_2 v124).bind fun y160 =>
   let v161 : Int := (w64 (Int.tdiv (w64 (b_2 - a_2)) 8))
   bif (ltI (w64 (y160.1 - a_2)) (w64 (b_2 - y160.1))) then ((self y160.2.2 a_2 y160.1 limit2).bind fun y164 =>
    r0 (w64 (y160.1 + 1)) b_2 limit2 (leI v161 (w64 (y160.1 - a_2))) y160.2.1 y164)
   else (self y160.2.2 (w64 (y160.1 + 1)) b_2 limit2).bind fun y166 =>
   r0 a_2 y160.1 limit2 (leI v161 (w64 (b_2 - y160.1))) y160.2.1 y166)
  else (Q99 N y123 a_2 b_2 v124).bind fun y167 =>
  let v168 : Int := (w64 (Int.tdiv (w64 (b_2 - a_2)) 8))
  bif (ltI (w64 (y167.1 - a_2)) (w64 (b_2 - y167.1))) then ((self y167.2.2 a_2 y167.1 limit2).bind fun y171 =>
   r0 (w64 (y167.1 + 1)) b_2 limit2 (leI v168 (w64 (y167.1 - a_2))) y167.2.1 y171)
  else (self y167.2.2 (w64 (y167.1 + 1)) b_2 limit2).bind fun y173 =>
  r0 a_2 y167.1 limit2 (leI v168 (w64 (b_2 - y167.1))) y167.2.1 y173)
 else bif wasBalanced then (bif wasPartitioned then (bif (eqI y122.2 1) then ((Q97 N data2 a_2 b_2).bind fun y174 =>
    bif y174.1 then some y174.2
    else bif (ltI 0 a_2) then (chk ((leI 0 (w64 (a_2 - 1))) && (ltI (w64 (a_2 - 1)) (y174.2.length : Int))) <|
     chk ((leI 0 y122.1) && (ltI y122.1 (y174.2.length : Int))) <|
     (Q60 N (gD dM y174.2 (w64 (a_2 - 1))) (gD dM y174.2 y122.1)).bind fun y175 =>
     bif (!(ltI y175 0)) then ((Q98 N y174.2 a_2 b_2 y122.1).bind fun y176 =>
      r0 y176.1 b_2 limit2 wasBalanced wasPartitioned y176.2)
     else (Q99 N y174.2 a_2 b_2 y122.1).bind fun y177 =>
     let v178 : Int := (w64 (Int.tdiv (w64 (b_2 - a_2)) 8))
     bif (ltI (w64 (y177.1 - a_2)) (w64 (b_2 - y177.1))) then ((self y177.2.2 a_2 y177.1 limit2).bind fun y181 =>
      r0 (w64 (y177.1 + 1)) b_2 limit2 (leI v178 (w64 (y177.1 - a_2))) y177.2.1 y181)
     else (self y177.2.2 (w64 (y177.1 + 1)) b_2 limit2).bind fun y183 =>
     r0 a_2 y177.1 limit2 (leI v178 (w64 (b_2 - y177.1))) y177.2.1 y183)
    else (Q99 N y174.2 a_2 b_2 y122.1).bind fun y184 =>
    let v185 : Int := (w64 (Int.tdiv (w64 (b_2 - a_2)) 8))
    bif (ltI (w64 (y184.1 - a_2)) (w64 (b_2 - y184.1))) then ((self y184.2.2 a_2 y184.1 limit2).bind fun y188 =>
     r0 (w64 (y184.1 + 1)) b_2 limit2 (leI v185 (w64 (y184.1 - a_2))) y184.2.1 y188)
    else (self y184.2.2 (w64 (y184.1 + 1)) b_2 limit2).bind fun y190 =>
    r0 a_2 y184.1 limit2 (leI v185 (w64 (b_2 - y184.1))) y184.2.1 y190)
   else bif (ltI 0 a_2) then (chk ((leI 0 (w64 (a_2 - 1))) && (ltI (w64 (a_2 - 1)) (data2.length : Int))) <|
    chk ((leI 0 y122.1) && (ltI y122.1 (data2.length : Int))) <|
    (Q60 N (gD dM data2 (w64 (a_2 - 1))) (gD dM data2 y122.1)).bind fun y191 =>
    bif (!(ltI y191 0)) then ((Q98 N data2 a_2 b_2 y122.1).bind fun y192 =>
     r0 y192.1 b_2 limit2 wasBalanced wasPartitioned y192.2)
    else (Q99 N data2 a_2 b_2 y122.1).bind fun y193 =>
    let v194 : Int := (w64 (Int.tdiv (w64 (b_2 - a_2)) 8))
    bif (ltI (w64 (y193.1 - a_2)) (w64 (b_2 - y193.1))) then ((self y193.2.2 a_2 y193.1 limit2).bind fun y197 =>
     r0 (w64 (y193.1 + 1)) b_2 limit2 (leI v194 (w64 (y193.1 - a_2))) y193.2.1 y197)
    else (self y193.2.2 (w64 (y193.1 + 1)) b_2 limit2).bind fun y199 =>
    r0 a_2 y193.1 limit2 (leI v194 (w64 (b_2 - y193.1))) y193.2.1 y199)
   else (Q99 N data2 a_2 b_2 y122.1).bind fun y200 =>
   let v201 : Int := (w64 (Int.tdiv (w64 (b_2 - a_2)) 8))
   bif (ltI (w64 (y200.1 - a_2)) (w64 (b_2 - y200.1))) then ((self y200.2.2 a_2 y200.1 limit2).bind fun y204 =>
    r0 (w64 (y200.1 + 1)) b_2 limit2 (leI v201 (w64 (y200.1 - a_2))) y200.2.1 y204)
   else (self y200.2.2 (w64 (y200.1 + 1)) b_2 limit2).bind fun y206 =>
   r0 a_2 y200.1 limit2 (leI v201 (w64 (b_2 - y200.1))) y200.2.1 y206)
  else bif (ltI 0 a_2) then (chk ((leI 0 (w64 (a_2 - 1))) && (ltI (w64 (a_2 - 1)) (data2.length : Int))) <|
   chk ((leI 0 y122.1) && (ltI y122.1 (data2.length : Int))) <|
   (Q60 N (gD dM data2 (w64 (a_2 - 1))) (gD dM data2 y122.1)).bind fun y207 =>
   bif (!(ltI y207 0)) then ((Q98 N data2 a_2 b_2 y122.1).bind fun y208 =>
    r0 y208.1 b_2 limit2 wasBalanced wasPartitioned y208.2)
   else (Q99 N data2 a_2 b_2 y122.1).bind fun y209 =>
   let v210 : Int := (w64 (Int.tdiv (w64 (b_2 - a_2)) 8))
   bif (ltI (w64 (y209.1 - a_2)) (w64 (b_2 - y209.1))) then ((self y209.2.2 a_2 y209.1 limit2).bind fun y213 =>
    r0 (w64 (y209.1 + 1)) b_2 limit2 (leI v210 (w64 (y209.1 - a_2))) y209.2.1 y213)
   else (self y209.2.2 (w64 (y209.1 + 1)) b_2 limit2).bind fun y215 =>
   r0 a_2 y209.1 limit2 (leI v210 (w64 (b_2 - y209.1))) y209.2.1 y215)
  else (Q99 N data2 a_2 b_2 y122.1).bind fun y216 =>
  let v217 : Int := (w64 (Int.tdiv (w64 (b_2 - a_2)) 8))
  bif (ltI (w64 (y216.1 - a_2)) (w64 (b_2 - y216.1))) then ((self y216.2.2 a_2 y216.1 limit2).bind fun y220 =>
   r0 (w64 (y216.1 + 1)) b_2 limit2 (leI v217 (w64 (y216.1 - a_2))) y216.2.1 y220)
  else (self y216.2.2 (w64 (y216.1 + 1)) b_2 limit2).bind fun y222 =>
  r0 a_2 y216.1 limit2 (leI v217 (w64 (b_2 - y216.1))) y216.2.1 y222)
 else bif (ltI 0 a_2) then (chk ((leI 0 (w64 (a_2 - 1))) && (ltI (w64 (a_2 - 1)) (data2.length : Int))) <|
  chk ((leI 0 y122.1) && (ltI y122.1 (data2.length : Int))) <|
  (Q60 N (gD dM data2 (w64 (a_2 - 1))) (gD dM data2 y122.1)).bind fun y223 =>
  bif (!(ltI y223 0)) then ((Q98 N data2 a_2 b_2 y122.1).bind fun y224 =>
   r0 y224.1 b_2 limit2 wasBalanced wasPartitioned y224.2)
  else (Q99 N data2 a_2 b_2 y122.1).bind fun y225 =>
  let v226 : Int := (w64 (Int.tdiv (w64 (b_2 - a_2)) 8))
  bif (ltI (w64 (y225.1 - a_2)) (w64 (b_2 - y225.1))) then ((self y225.2.2 a_2 y225.1 limit2).bind fun y229 =>
   r0 (w64 (y225.1 + 1)) b_2 limit2 (leI v226 (w64 (y225.1 - a_2))) y225.2.1 y229)
  else (self y225.2.2 (w64 (y225.1 + 1)) b_2 limit2).bind fun y231 =>
  r0 a_2 y225.1 limit2 (leI v226 (w64 (b_2 - y225.1))) y225.2.1 y231)
 else (Q99 N data2 a_2 b_2 y122.1).bind fun y232 =>
 let v233 : Int := (w64 (Int.tdiv (w64 (b_2 - a_2)) 8))
 bif (ltI (w64 (y232.1 - a_2)) (w64 (b_2 - y232.1))) then ((self y232.2.2 a_2 y232.1 limit2).bind fun y236 =>
  r0 (w64 (y232.1 + 1)) b_2 limit2 (leI v233 (w64 (y232.1 - a_2))) y232.2.1 y236)
 else (self y232.2.2 (w64 (y232.1 + 1)) b_2 limit2).bind fun y238 =>
 r0 a_2 y232.1 limit2 (leI v233 (w64 (b_2 - y232.1))) y232.2.1 y238
def Q79.L (N : Nat) (self : LMv → Int → Int → Int → Option LMv) (data : LMv) (a_ b_ limit : Int) : Nat → (Int → Int → Int → Bool → Bool → LMv → Option LMv)
 | 0 => fun _ _ _ _ _ _ => none
 | n + 1 => fun a_2 b_2 limit2 wasBalanced wasPartitioned data2 => Q79.s0 N self data a_ b_ limit (Q79.L N self data a_ b_ limit n) a_2 b_2 limit2 wasBalanced wasPartitioned data2
def Q79.l0 (N : Nat) (self : LMv → Int → Int → Int → Option LMv) (data : LMv) (a_ b_ limit : Int) (n : Nat) : Int → Int → Int → Bool → Bool → LMv → Option LMv := (Q79.L N self data a_ b_ limit n)
theorem Q79.l0_s (N : Nat) (self : LMv → Int → Int → Int → Option LMv) (data : LMv) (a_ b_ limit : Int) (n : Nat) (a_2 b_2 limit2 : Int) (wasBalanced wasPartitioned : Bool) (data2 : LMv) : Q79.l0 N self data a_ b_ limit (n + 1) a_2 b_2 limit2 wasBalanced wasPartitioned data2 = Q79.s0 N self data a_ b_ limit (Q79.l0 N self data a_ b_ limit n) a_2 b_2 limit2 wasBalanced wasPartitioned data2 := rfl
def Q79 : Nat → LMv → Int → Int → Int → Option LMv
 | 0 => fun _ _ _ _ => none
 | N + 1 => fun data a_ b_ limit => Q79.e N (Q79 N) (Q79.l0 N (Q79 N) data a_ b_ limit N) data a_ b_ limit
theorem Q79_s (N : Nat) (data : LMv) (a_ b_ limit : Int) : Q79 (N + 1) data a_ b_ limit = Q79.e N (Q79 N) (Q79.l0 N (Q79 N) data a_ b_ limit N) data a_ b_ limit := rfl
def Q59.e (N : Nat) (x_ : LMv) : Option LMv :=
 (Q80 N (IntKind.wrap .u64 (x_.length : Int))).bind fun y2 =>
 (Q79 N x_ 0 (x_.length : Int) y2).bind fun y3 =>
 some y3
def Q59 (N : Nat) (x_ : LMv) : Option LMv := Q59.e N x_
def Q61.e (N : Nat) (r0 : Int → Option LMv) (r1 : Int → Int → Int → LMv → Option LMv) (s_ : LMv) : Option LMv :=
 bif (ltI (s_.length : Int) 2) then some s_
 else r0 1
def Q61.s0 (N : Nat) (s_ : LMv) (r0 : Int → Option LMv) (r1 : Int → Int → Int → LMv → Option LMv) (k_ : Int) : Option LMv :=
 bif (ltI k_ (s_.length : Int)) then (chk ((leI 0 k_) && (ltI k_ (s_.length : Int))) <|
  chk ((leI 0 (w64 (k_ - 1))) && (ltI (w64 (k_ - 1)) (s_.length : Int))) <|
  bif ((eqI (gD dM s_ k_).1 (gD dM s_ (w64 (k_ - 1))).1) && ((eqI (gD dM s_ k_).2.1 (gD dM s_ (w64 (k_ - 1))).2.1) && ((eqI (gD dM s_ k_).2.2 (gD dM s_ (w64 (k_ - 1))).2.2) && true))) then (chk ((leI 0 k_) && (leI k_ (s_.length : Int))) <|
   r1 k_ k_ 1 s_)
  else r0 (w64 (k_ + 1)))
 else some s_
def Q61.s1 (N : Nat) (s_ : LMv) (r0 : Int → Option LMv) (r1 : Int → Int → Int → LMv → Option LMv) (k_ s2_ k2_ : Int) (s_2 : LMv) : Option LMv :=
 bif (ltI k2_ ((s_2.length : Int) - s2_)) then (chk ((leI 0 k2_) && (ltI (s2_ + k2_) (s_2.length : Int))) <|
  chk ((leI 0 (w64 (k2_ - 1))) && (ltI (s2_ + (w64 (k2_ - 1))) (s_2.length : Int))) <|
  bif (!((eqI (gD dM s_2 (s2_ + k2_)).1 (gD dM s_2 (s2_ + (w64 (k2_ - 1)))).1) && ((eqI (gD dM s_2 (s2_ + k2_)).2.1 (gD dM s_2 (s2_ + (w64 (k2_ - 1)))).2.1) && ((eqI (gD dM s_2 (s2_ + k2_)).2.2 (gD dM s_2 (s2_ + (w64 (k2_ - 1)))).2.2) && true)))) then (chk ((leI 0 k2_) && (ltI (s2_ + k2_) (s_2.length : Int))) <|
   chk ((leI 0 k_) && (ltI k_ (s_2.length : Int))) <|
   r1 (w64 (k_ + 1)) s2_ (w64 (k2_ + 1)) (s_2.set k_.toNat (gD dM s_2 (s2_ + k2_))))
  else r1 k_ s2_ (w64 (k2_ + 1)) s_2)
 else chk ((leI 0 k_) && (leI k_ (s_2.length : Int))) <|
 let v7 : List TMv := (s_2.take k_.toNat ++ List.replicate (s_2.length - k_.toNat) dM)
 chk ((leI 0 k_) && (leI k_ (v7.length : Int))) <|
 some (v7.take k_.toNat)
def Q61.L (N : Nat) (s_ : LMv) : Nat → (Int → Option LMv) × (Int → Int → Int → LMv → Option LMv)
 | 0 => (fun _ => none, fun _ _ _ _ => none)
 | n + 1 => (fun k_ => Q61.s0 N s_ (Q61.L N s_ n).1 (Q61.L N s_ n).2 k_, fun k_ s2_ k2_ s_2 => Q61.s1 N s_ (Q61.L N s_ n).1 (Q61.L N s_ n).2 k_ s2_ k2_ s_2)
def Q61.l0 (N : Nat) (s_ : LMv) (n : Nat) : Int → Option LMv := (Q61.L N s_ n).1
def Q61.l1 (N : Nat) (s_ : LMv) (n : Nat) : Int → Int → Int → LMv → Option LMv := (Q61.L N s_ n).2
theorem Q61.l0_s (N : Nat) (s_ : LMv) (n : Nat) (k_ : Int) : Q61.l0 N s_ (n + 1) k_ = Q61.s0 N s_ (Q61.l0 N s_ n) (Q61.l1 N s_ n) k_ := rfl
theorem Q61.l1_s (N : Nat) (s_ : LMv) (n : Nat) (k_ s2_ k2_ : Int) (s_2 : LMv) : Q61.l1 N s_ (n + 1) k_ s2_ k2_ s_2 = Q61.s1 N s_ (Q61.l0 N s_ n) (Q61.l1 N s_ n) k_ s2_ k2_ s_2 := rfl
def Q61 (N : Nat) (s_ : LMv) : Option LMv := Q61.e N (Q61.l0 N s_ N) (Q61.l1 N s_ N) s_
def Q78.e (N : Nat) (r_ : TRules) (player kind to : Int) : Option Int :=
 chk ((leI 0 kind) && (ltI kind (r_.2.2.2.1.length : Int))) <|
 bif (ltI 0 (gD ((0 : Int), ((0 : Int), ((0 : Int), ([] : (List TWay))))) r_.2.2.2.1 kind).2.2.1) then ((Q77 N r_ player to).bind fun y2 =>
  bif y2 then (some (w64 ((gD ((0 : Int), ((0 : Int), ((0 : Int), ([] : (List TWay))))) r_.2.2.2.1 kind).2.2.1 - 1)))
  else some kind)
 else some kind
def Q78 (N : Nat) (r_ : TRules) (player kind to : Int) : Option Int := Q78.e N r_ player kind to
def Q58.e (N : Nat) (r0 : Int → Int → Int → Int → Int → LMv → Option LMv) (out : LMv) (r_ : TRules) (p_ : TPos) (from_ : Int) (w_ : TWay) : Option LMv :=
 chk ((leI 0 from_) && (ltI from_ (p_.1.length : Int))) <|
 (Q44 N (gD (0 : Int) p_.1 from_)).bind fun y1 =>
 bif (eqI p_.2.2.1 1) then (bif (eqI r_.2.1 0) then none
  else bif (eqI r_.2.1 0) then none
  else r0 y1 (w64 (0 - w_.2.1)) (Int.tmod from_ r_.2.1) (w64 (Int.tdiv from_ r_.2.1)) 0 out)
 else bif (eqI r_.2.1 0) then none
 else bif (eqI r_.2.1 0) then none
 else r0 y1 w_.2.1 (Int.tmod from_ r_.2.1) (w64 (Int.tdiv from_ r_.2.1)) 0 out
def Q58.s0 (N : Nat) (out : LMv) (r_ : TRules) (p_ : TPos) (from_ : Int) (w_ : TWay) (r0 : Int → Int → Int → Int → Int → LMv → Option LMv) (kind dy x_ y_ t40_ : Int) (out2 : LMv) : Option LMv :=
 bif (ltI t40_ w_.2.2.1) then (bif (ltI (w64 (x_ + w_.1)) 0) then some out2
  else bif (leI r_.2.1 (w64 (x_ + w_.1))) then some out2
  else bif (ltI (w64 (y_ + dy)) 0) then some out2
  else bif (leI r_.2.2.1 (w64 (y_ + dy))) then some out2
  else let v8 : Int := (w64 ((w64 ((w64 (y_ + dy)) * r_.2.1)) + (w64 (x_ + w_.1))))
  chk ((leI 0 v8) && (ltI v8 (p_.1.length : Int))) <|
  (Q57 N (gD (0 : Int) p_.1 v8)).bind fun y9 =>
  bif (ltI y9 0) then (bif (!(eqI w_.2.2.2 2)) then ((Q78 N r_ p_.2.2.1 kind v8).bind fun y10 =>
    chk (capOk 24 (out2.length + ([(from_, (v8, y10))] : List TMv).length)) <|
    let v11 : List TMv := (out2 ++ [(from_, (v8, y10))])
    bif (leI 0 y9) then some v11
    else r0 kind dy (w64 (x_ + w_.1)) (w64 (y_ + dy)) (w64 (t40_ + 1)) v11)
   else bif (eqI y9 (w64 (1 - p_.2.2.1))) then (bif (!(eqI w_.2.2.2 0)) then ((Q78 N r_ p_.2.2.1 kind v8).bind fun y13 =>
     chk (capOk 24 (out2.length + ([(from_, (v8, y13))] : List TMv).length)) <|
     let v14 : List TMv := (out2 ++ [(from_, (v8, y13))])
     bif (leI 0 y9) then some v14
     else r0 kind dy (w64 (x_ + w_.1)) (w64 (y_ + dy)) (w64 (t40_ + 1)) v14)
    else bif (leI 0 y9) then some out2
    else r0 kind dy (w64 (x_ + w_.1)) (w64 (y_ + dy)) (w64 (t40_ + 1)) out2)
   else bif (leI 0 y9) then some out2
   else r0 kind dy (w64 (x_ + w_.1)) (w64 (y_ + dy)) (w64 (t40_ + 1)) out2)
  else bif (eqI y9 (w64 (1 - p_.2.2.1))) then (bif (!(eqI w_.2.2.2 0)) then ((Q78 N r_ p_.2.2.1 kind v8).bind fun y16 =>
    chk (capOk 24 (out2.length + ([(from_, (v8, y16))] : List TMv).length)) <|
    let v17 : List TMv := (out2 ++ [(from_, (v8, y16))])
    bif (leI 0 y9) then some v17
    else r0 kind dy (w64 (x_ + w_.1)) (w64 (y_ + dy)) (w64 (t40_ + 1)) v17)
   else bif (leI 0 y9) then some out2
   else r0 kind dy (w64 (x_ + w_.1)) (w64 (y_ + dy)) (w64 (t40_ + 1)) out2)
  else bif (leI 0 y9) then some out2
  else r0 kind dy (w64 (x_ + w_.1)) (w64 (y_ + dy)) (w64 (t40_ + 1)) out2)
 else some out2
def Q58.L (N : Nat) (out : LMv) (r_ : TRules) (p_ : TPos) (from_ : Int) (w_ : TWay) : Nat → (Int → Int → Int → Int → Int → LMv → Option LMv)
 | 0 => fun _ _ _ _ _ _ => none
 | n + 1 => fun kind dy x_ y_ t40_ out2 => Q58.s0 N out r_ p_ from_ w_ (Q58.L N out r_ p_ from_ w_ n) kind dy x_ y_ t40_ out2
def Q58.l0 (N : Nat) (out : LMv) (r_ : TRules) (p_ : TPos) (from_ : Int) (w_ : TWay) (n : Nat) : Int → Int → Int → Int → Int → LMv → Option LMv := (Q58.L N out r_ p_ from_ w_ n)
theorem Q58.l0_s (N : Nat) (out : LMv) (r_ : TRules) (p_ : TPos) (from_ : Int) (w_ : TWay) (n : Nat) (kind dy x_ y_ t40_ : Int) (out2 : LMv) : Q58.l0 N out r_ p_ from_ w_ (n + 1) kind dy x_ y_ t40_ out2 = Q58.s0 N out r_ p_ from_ w_ (Q58.l0 N out r_ p_ from_ w_ n) kind dy x_ y_ t40_ out2 := rfl
def Q58 (N : Nat) (out : LMv) (r_ : TRules) (p_ : TPos) (from_ : Int) (w_ : TWay) : Option LMv := Q58.e N (Q58.l0 N out r_ p_ from_ w_ N) out r_ p_ from_ w_
def Q56.e (N : Nat) (r0 : Int → Option Bool) (r_ : TRules) (p_ : TPos) (s_ : Int) : Option Bool :=
 chk ((leI 0 s_) && (ltI s_ (p_.1.length : Int))) <|
 bif (!(eqI (gD (0 : Int) p_.1 s_) 0)) then some false
 else bif r_.2.2.2.2.2.1 then (r0 (w64 (s_ - r_.2.1)))
 else some true
def Q56.s0 (N : Nat) (r_ : TRules) (p_ : TPos) (s_ : Int) (r0 : Int → Option Bool) (low : Int) : Option Bool :=
 bif (leI 0 low) then (chk ((leI 0 low) && (ltI low (p_.1.length : Int))) <|
  bif (eqI (gD (0 : Int) p_.1 low) 0) then some false
  else r0 (w64 (low - r_.2.1)))
 else some true
def Q56.L (N : Nat) (r_ : TRules) (p_ : TPos) (s_ : Int) : Nat → (Int → Option Bool)
 | 0 => fun _ => none
 | n + 1 => fun low => Q56.s0 N r_ p_ s_ (Q56.L N r_ p_ s_ n) low
def Q56.l0 (N : Nat) (r_ : TRules) (p_ : TPos) (s_ : Int) (n : Nat) : Int → Option Bool := (Q56.L N r_ p_ s_ n)
theorem Q56.l0_s (N : Nat) (r_ : TRules) (p_ : TPos) (s_ : Int) (n : Nat) (low : Int) : Q56.l0 N r_ p_ s_ (n + 1) low = Q56.s0 N r_ p_ s_ (Q56.l0 N r_ p_ s_ n) low := rfl
def Q56 (N : Nat) (r_ : TRules) (p_ : TPos) (s_ : Int) : Option Bool := Q56.e N (Q56.l0 N r_ p_ s_ N) r_ p_ s_
def Q33.e (N : Nat) (r0 : LInt → Int → Int → LMv → Option LMv) (r1 : Int → Int → LInt → Int → Int → Int → LMv → Option LMv) (r2 : Int → LMv → Option LMv) (r3 : Int → Int → (List TWay) → Int → Int → LMv → Option LMv) (r_ : TRules) (p_ : TPos) : Option LMv :=
 bif (eqI p_.2.2.1 0) then (r0 p_.2.1.1 (p_.2.1.1.length : Int) 0 [])
 else bif (eqI p_.2.2.1 1) then (r0 p_.2.1.2 (p_.2.1.2.length : Int) 0 [])
 else none
def Q33.s0 (N : Nat) (r_ : TRules) (p_ : TPos) (r0 : LInt → Int → Int → LMv → Option LMv) (r1 : Int → Int → LInt → Int → Int → Int → LMv → Option LMv) (r2 : Int → LMv → Option LMv) (r3 : Int → Int → (List TWay) → Int → Int → LMv → Option LMv) (t17_ : LInt) (t18_ t19_ : Int) (out : LMv) : Option LMv :=
 bif (ltI t19_ t18_) then (chk ((leI 0 t19_) && (ltI t19_ (t17_.length : Int))) <|
  r1 t19_ (gD (0 : Int) t17_ t19_) t17_ t18_ t19_ 0 out)
 else r2 0 out
def Q33.s1 (N : Nat) (r_ : TRules) (p_ : TPos) (r0 : LInt → Int → Int → LMv → Option LMv) (r1 : Int → Int → LInt → Int → Int → Int → LMv → Option LMv) (r2 : Int → LMv → Option LMv) (r3 : Int → Int → (List TWay) → Int → Int → LMv → Option LMv) (t_ n_ : Int) (t17_ : LInt) (t18_ t19_ t27_ : Int) (out : LMv) : Option LMv :=
 bif (ltI t27_ (p_.1.length : Int)) then (bif (ltI 0 n_) then ((Q56 N r_ p_ t27_).bind fun y9 =>
   bif y9 then (chk (capOk 24 (out.length + ([((-1), (t27_, t_))] : List TMv).length)) <|
    r1 t_ n_ t17_ t18_ t19_ (w64 (t27_ + 1)) (out ++ [((-1), (t27_, t_))]))
   else r1 t_ n_ t17_ t18_ t19_ (w64 (t27_ + 1)) out)
  else r1 t_ n_ t17_ t18_ t19_ (w64 (t27_ + 1)) out)
 else r0 t17_ t18_ (w64 (t19_ + 1)) out
def Q33.s2 (N : Nat) (r_ : TRules) (p_ : TPos) (r0 : LInt → Int → Int → LMv → Option LMv) (r1 : Int → Int → LInt → Int → Int → Int → LMv → Option LMv) (r2 : Int → LMv → Option LMv) (r3 : Int → Int → (List TWay) → Int → Int → LMv → Option LMv) (t49_ : Int) (out : LMv) : Option LMv :=
 bif (ltI t49_ (p_.1.length : Int)) then (chk ((leI 0 t49_) && (ltI t49_ (p_.1.length : Int))) <|
  (Q57 N (gD (0 : Int) p_.1 t49_)).bind fun y2 =>
  bif (eqI y2 p_.2.2.1) then ((Q44 N (gD (0 : Int) p_.1 t49_)).bind fun y3 =>
   chk ((leI 0 y3) && (ltI y3 (r_.2.2.2.1.length : Int))) <|
   r3 t49_ t49_ (gD ((0 : Int), ((0 : Int), ((0 : Int), ([] : (List TWay))))) r_.2.2.2.1 y3).2.2.2 ((gD ((0 : Int), ((0 : Int), ((0 : Int), ([] : (List TWay))))) r_.2.2.2.1 y3).2.2.2.length : Int) 0 out)
  else r2 (w64 (t49_ + 1)) out)
 else (Q59 N out).bind fun y5 =>
 (Q61 N y5).bind fun y6 =>
 some y6
def Q33.s3 (N : Nat) (r_ : TRules) (p_ : TPos) (r0 : LInt → Int → Int → LMv → Option LMv) (r1 : Int → Int → LInt → Int → Int → Int → LMv → Option LMv) (r2 : Int → LMv → Option LMv) (r3 : Int → Int → (List TWay) → Int → Int → LMv → Option LMv) (s_ t49_ : Int) (t65_ : (List TWay)) (t66_ t67_ : Int) (out : LMv) : Option LMv :=
 bif (ltI t67_ t66_) then (chk ((leI 0 t67_) && (ltI t67_ (t65_.length : Int))) <|
  (Q58 N out r_ p_ s_ (gD ((0 : Int), dM) t65_ t67_)).bind fun y7 =>
  r3 s_ t49_ t65_ t66_ (w64 (t67_ + 1)) y7)
 else r2 (w64 (t49_ + 1)) out
def Q33.L (N : Nat) (r_ : TRules) (p_ : TPos) : Nat → (LInt → Int → Int → LMv → Option LMv) × (Int → Int → LInt → Int → Int → Int → LMv → Option LMv) × (Int → LMv → Option LMv) × (Int → Int → (List TWay) → Int → Int → LMv → Option LMv)
 | 0 => (fun _ _ _ _ => none, fun _ _ _ _ _ _ _ => none, fun _ _ => none, fun _ _ _ _ _ _ => none)
 | n + 1 => (fun t17_ t18_ t19_ out => Q33.s0 N r_ p_ (Q33.L N r_ p_ n).1 (Q33.L N r_ p_ n).2.1 (Q33.L N r_ p_ n).2.2.1 (Q33.L N r_ p_ n).2.2.2 t17_ t18_ t19_ out, fun t_ n_ t17_ t18_ t19_ t27_ out => Q33.s1 N r_ p_ (Q33.L N r_ p_ n).1 (Q33.L N r_ p_ n).2.1 (Q33.L N r_ p_ n).2.2.1 (Q33.L N r_ p_ n).2.2.2 t_ n_ t17_ t18_ t19_ t27_ out, fun t49_ out => Q33.s2 N r_ p_ (Q33.L N r_ p_ n).1 (Q33.L N r_ p_ n).2.1 (Q33.L N r_ p_ n).2.2.1 (Q33.L N r_ p_ n).2.2.2 t49_ out, fun s_ t49_ t65_ t66_ t67_ out => Q33.s3 N r_ p_ (Q33.L N r_ p_ n).1 (Q33.L N r_ p_ n).2.1 (Q33.L N r_ p_ n).2.2.1 (Q33.L N r_ p_ n).2.2.2 s_ t49_ t65_ t66_ t67_ out)
def Q33.l0 (N : Nat) (r_ : TRules) (p_ : TPos) (n : Nat) : LInt → Int → Int → LMv → Option LMv := (Q33.L N r_ p_ n).1
def Q33.l1 (N : Nat) (r_ : TRules) (p_ : TPos) (n : Nat) : Int → Int → LInt → Int → Int → Int → LMv → Option LMv := (Q33.L N r_ p_ n).2.1
def Q33.l2 (N : Nat) (r_ : TRules) (p_ : TPos) (n : Nat) : Int → LMv → Option LMv := (Q33.L N r_ p_ n).2.2.1
def Q33.l3 (N : Nat) (r_ : TRules) (p_ : TPos) (n : Nat) : Int → Int → (List TWay) → Int → Int → LMv → Option LMv := (Q33.L N r_ p_ n).2.2.2
theorem Q33.l0_s (N : Nat) (r_ : TRules) (p_ : TPos) (n : Nat) (t17_ : LInt) (t18_ t19_ : Int) (out : LMv) : Q33.l0 N r_ p_ (n + 1) t17_ t18_ t19_ out = Q33.s0 N r_ p_ (Q33.l0 N r_ p_ n) (Q33.l1 N r_ p_ n) (Q33.l2 N r_ p_ n) (Q33.l3 N r_ p_ n) t17_ t18_ t19_ out := rfl
theorem Q33.l1_s (N : Nat) (r_ : TRules) (p_ : TPos) (n : Nat) (t_ n_ : Int) (t17_ : LInt) (t18_ t19_ t27_ : Int) (out : LMv) : Q33.l1 N r_ p_ (n + 1) t_ n_ t17_ t18_ t19_ t27_ out = Q33.s1 N r_ p_ (Q33.l0 N r_ p_ n) (Q33.l1 N r_ p_ n) (Q33.l2 N r_ p_ n) (Q33.l3 N r_ p_ n) t_ n_ t17_ t18_ t19_ t27_ out := rfl
theorem Q33.l2_s (N : Nat) (r_ : TRules) (p_ : TPos) (n : Nat) (t49_ : Int) (out : LMv) : Q33.l2 N r_ p_ (n + 1) t49_ out = Q33.s2 N r_ p_ (Q33.l0 N r_ p_ n) (Q33.l1 N r_ p_ n) (Q33.l2 N r_ p_ n) (Q33.l3 N r_ p_ n) t49_ out := rfl
theorem Q33.l3_s (N : Nat) (r_ : TRules) (p_ : TPos) (n : Nat) (s_ t49_ : Int) (t65_ : (List TWay)) (t66_ t67_ : Int) (out : LMv) : Q33.l3 N r_ p_ (n + 1) s_ t49_ t65_ t66_ t67_ out = Q33.s3 N r_ p_ (Q33.l0 N r_ p_ n) (Q33.l1 N r_ p_ n) (Q33.l2 N r_ p_ n) (Q33.l3 N r_ p_ n) s_ t49_ t65_ t66_ t67_ out := rfl
def Q33 (N : Nat) (r_ : TRules) (p_ : TPos) : Option LMv := Q33.e N (Q33.l0 N r_ p_ N) (Q33.l1 N r_ p_ N) (Q33.l2 N r_ p_ N) (Q33.l3 N r_ p_ N) r_ p_
def Q32.e (N : Nat) (r0 : Int → Int → Option Int) (r_ : TRules) (p_ : TPos) : Option Int :=
 r0 (r_.2.2.2.2.2.2.2.1.length : Int) 0
def Q32.s0 (N : Nat) (r_ : TRules) (p_ : TPos) (r0 : Int → Int → Option Int) (t13_ t14_ : Int) : Option Int :=
 bif (ltI t14_ t13_) then (chk ((leI 0 t14_) && (ltI t14_ (r_.2.2.2.2.2.2.2.1.length : Int))) <|
  (Q54 N r_ p_ (gD ((0 : Int), ((0 : Int), ((0 : Int), false))) r_.2.2.2.2.2.2.2.1 t14_)).bind fun y2 =>
  bif y2 then (bif (gD ((0 : Int), ((0 : Int), ((0 : Int), false))) r_.2.2.2.2.2.2.2.1 t14_).2.2.2 then ((Q55 N p_.2.2.1).bind fun y3 =>
    some y3)
   else (Q55 N (w64 (1 - p_.2.2.1))).bind fun y4 =>
   some y4)
  else r0 t13_ (w64 (t14_ + 1)))
 else bif (ltI 0 r_.2.2.2.2.2.2.2.2.2.1) then (bif (leI r_.2.2.2.2.2.2.2.2.2.1 p_.2.2.2) then some 3
  else (Q33 N r_ p_).bind fun y7 =>
  bif (ltI 0 (y7.length : Int)) then some 0
  else bif (eqI r_.2.2.2.2.2.2.2.2.1 0) then ((Q55 N (w64 (1 - p_.2.2.1))).bind fun y10 =>
   some y10)
  else bif (eqI r_.2.2.2.2.2.2.2.2.1 1) then ((Q55 N p_.2.2.1).bind fun y12 =>
   some y12)
  else some 3)
 else (Q33 N r_ p_).bind fun y13 =>
 bif (ltI 0 (y13.length : Int)) then some 0
 else bif (eqI r_.2.2.2.2.2.2.2.2.1 0) then ((Q55 N (w64 (1 - p_.2.2.1))).bind fun y16 =>
  some y16)
 else bif (eqI r_.2.2.2.2.2.2.2.2.1 1) then ((Q55 N p_.2.2.1).bind fun y18 =>
  some y18)
 else some 3
def Q32.L (N : Nat) (r_ : TRules) (p_ : TPos) : Nat → (Int → Int → Option Int)
 | 0 => fun _ _ => none
 | n + 1 => fun t13_ t14_ => Q32.s0 N r_ p_ (Q32.L N r_ p_ n) t13_ t14_
def Q32.l0 (N : Nat) (r_ : TRules) (p_ : TPos) (n : Nat) : Int → Int → Option Int := (Q32.L N r_ p_ n)
theorem Q32.l0_s (N : Nat) (r_ : TRules) (p_ : TPos) (n : Nat) (t13_ t14_ : Int) : Q32.l0 N r_ p_ (n + 1) t13_ t14_ = Q32.s0 N r_ p_ (Q32.l0 N r_ p_ n) t13_ t14_ := rfl
def Q32 (N : Nat) (r_ : TRules) (p_ : TPos) : Option Int := Q32.e N (Q32.l0 N r_ p_ N) r_ p_
def Q62.e (N : Nat) (player : Int) : Option Int :=
 bif (eqI player 0) then some 1
 else some 2
def Q62 (N : Nat) (player : Int) : Option Int := Q62.e N player
def Q34.e (N : Nat) (r0 : Int → Int → LInt → LInt → Option (Bool × TTab)) (r1 : Int → Int → Int → Bool → Bool → Int → Int → LInt → Int → Int → LInt → LInt → Option (Bool × TTab)) (r2 : Int → Int → (List (Int × Int)) → LInt → LInt → Option (Bool × TTab)) (t_ : TTab) (n_ : Int) : Option (Bool × TTab) :=
 r0 (t_.2.2.2.2.1.length : Int) 0 [] []
def Q34.s0 (N : Nat) (t_ : TTab) (n_ : Int) (r0 : Int → Int → LInt → LInt → Option (Bool × TTab)) (r1 : Int → Int → Int → Bool → Bool → Int → Int → LInt → Int → Int → LInt → LInt → Option (Bool × TTab)) (r2 : Int → Int → (List (Int × Int)) → LInt → LInt → Option (Bool × TTab)) (t22_ t23_ : Int) (found results : LInt) : Option (Bool × TTab) :=
 bif (ltI t23_ t22_) then (chk ((leI 0 t23_) && (ltI t23_ (t_.2.2.2.2.1.length : Int))) <|
  bif (!(eqI (gD ((0 : Int), (0 : Int)) t_.2.2.2.2.1 t23_).1 0)) then (r0 t22_ (w64 (t23_ + 1)) found results)
  else chk ((leI 0 t23_) && (ltI t23_ (t_.2.1.length : Int))) <|
  chk ((leI 0 t23_) && (ltI t23_ (t_.2.1.length : Int))) <|
  (Q62 N (gD (([] : LInt), ((([] : LInt), ([] : LInt)), ((0 : Int), (0 : Int)))) t_.2.1 t23_).2.2.1).bind fun y4 =>
  (Q62 N (w64 (1 - (gD (([] : LInt), ((([] : LInt), ([] : LInt)), ((0 : Int), (0 : Int)))) t_.2.1 t23_).2.2.1))).bind fun y5 =>
  chk ((leI 0 t23_) && (ltI t23_ (t_.2.2.1.length : Int))) <|
  r1 t23_ y4 y5 false true t22_ t23_ (gD ([] : LInt) t_.2.2.1 t23_) ((gD ([] : LInt) t_.2.2.1 t23_).length : Int) 0 found results)
 else r2 (found.length : Int) 0 t_.2.2.2.2.1 found results
def Q34.s1 (N : Nat) (t_ : TTab) (n_ : Int) (r0 : Int → Int → LInt → LInt → Option (Bool × TTab)) (r1 : Int → Int → Int → Bool → Bool → Int → Int → LInt → Int → Int → LInt → LInt → Option (Bool × TTab)) (r2 : Int → Int → (List (Int × Int)) → LInt → LInt → Option (Bool × TTab)) (i_ mine other : Int) (win loss : Bool) (t22_ t23_ : Int) (t56_ : LInt) (t57_ t58_ : Int) (found results : LInt) : Option (Bool × TTab) :=
 bif (ltI t58_ t57_) then (chk ((leI 0 t58_) && (ltI t58_ (t56_.length : Int))) <|
  chk ((leI 0 (gD (0 : Int) t56_ t58_)) && (ltI (gD (0 : Int) t56_ t58_) (t_.2.2.2.2.1.length : Int))) <|
  bif win then (bif loss then (r1 i_ mine other true (eqI (gD ((0 : Int), (0 : Int)) t_.2.2.2.2.1 (gD (0 : Int) t56_ t58_)).1 other) t22_ t23_ t56_ t57_ (w64 (t58_ + 1)) found results)
   else r1 i_ mine other true false t22_ t23_ t56_ t57_ (w64 (t58_ + 1)) found results)
  else bif (eqI (gD ((0 : Int), (0 : Int)) t_.2.2.2.2.1 (gD (0 : Int) t56_ t58_)).1 mine) then (let v11 : Bool := (eqI (gD ((0 : Int), (0 : Int)) t_.2.2.2.2.1 (gD (0 : Int) t56_ t58_)).2 (w64 (n_ - 1)))
   bif loss then (r1 i_ mine other v11 (eqI (gD ((0 : Int), (0 : Int)) t_.2.2.2.2.1 (gD (0 : Int) t56_ t58_)).1 other) t22_ t23_ t56_ t57_ (w64 (t58_ + 1)) found results)
   else r1 i_ mine other v11 false t22_ t23_ t56_ t57_ (w64 (t58_ + 1)) found results)
  else bif loss then (r1 i_ mine other false (eqI (gD ((0 : Int), (0 : Int)) t_.2.2.2.2.1 (gD (0 : Int) t56_ t58_)).1 other) t22_ t23_ t56_ t57_ (w64 (t58_ + 1)) found results)
  else r1 i_ mine other false false t22_ t23_ t56_ t57_ (w64 (t58_ + 1)) found results)
 else bif win then (chk (capOk 8 (found.length + ([i_] : List Int).length)) <|
  chk (capOk 8 (results.length + ([mine] : List Int).length)) <|
  r0 t22_ (w64 (t23_ + 1)) (found ++ [i_]) (results ++ [mine]))
 else bif loss then (chk (capOk 8 (found.length + ([i_] : List Int).length)) <|
  chk (capOk 8 (results.length + ([other] : List Int).length)) <|
  r0 t22_ (w64 (t23_ + 1)) (found ++ [i_]) (results ++ [other]))
 else r0 t22_ (w64 (t23_ + 1)) found results
def Q34.s2 (N : Nat) (t_ : TTab) (n_ : Int) (r0 : Int → Int → LInt → LInt → Option (Bool × TTab)) (r1 : Int → Int → Int → Bool → Bool → Int → Int → LInt → Int → Int → LInt → LInt → Option (Bool × TTab)) (r2 : Int → Int → (List (Int × Int)) → LInt → LInt → Option (Bool × TTab)) (t111_ t112_ : Int) (m7_ : (List (Int × Int))) (found results : LInt) : Option (Bool × TTab) :=
 bif (ltI t112_ t111_) then (chk ((leI 0 t112_) && (ltI t112_ (found.length : Int))) <|
  chk ((leI 0 t112_) && (ltI t112_ (results.length : Int))) <|
  chk ((leI 0 (gD (0 : Int) found t112_)) && (ltI (gD (0 : Int) found t112_) (m7_.length : Int))) <|
  r2 t111_ (w64 (t112_ + 1)) (m7_.set (gD (0 : Int) found t112_).toNat ((gD (0 : Int) results t112_), n_)) found results)
 else some ((ltI 0 (found.length : Int)), (t_.1, (t_.2.1, (t_.2.2.1, (t_.2.2.2.1, (m7_, t_.2.2.2.2.2))))))
def Q34.L (N : Nat) (t_ : TTab) (n_ : Int) : Nat → (Int → Int → LInt → LInt → Option (Bool × TTab)) × (Int → Int → Int → Bool → Bool → Int → Int → LInt → Int → Int → LInt → LInt → Option (Bool × TTab)) × (Int → Int → (List (Int × Int)) → LInt → LInt → Option (Bool × TTab))
 | 0 => (fun _ _ _ _ => none, fun _ _ _ _ _ _ _ _ _ _ _ _ => none, fun _ _ _ _ _ => none)
 | n + 1 => (fun t22_ t23_ found results => Q34.s0 N t_ n_ (Q34.L N t_ n_ n).1 (Q34.L N t_ n_ n).2.1 (Q34.L N t_ n_ n).2.2 t22_ t23_ found results, fun i_ mine other win loss t22_ t23_ t56_ t57_ t58_ found results => Q34.s1 N t_ n_ (Q34.L N t_ n_ n).1 (Q34.L N t_ n_ n).2.1 (Q34.L N t_ n_ n).2.2 i_ mine other win loss t22_ t23_ t56_ t57_ t58_ found results, fun t111_ t112_ m7_ found results => Q34.s2 N t_ n_ (Q34.L N t_ n_ n).1 (Q34.L N t_ n_ n).2.1 (Q34.L N t_ n_ n).2.2 t111_ t112_ m7_ found results)
def Q34.l0 (N : Nat) (t_ : TTab) (n_ : Int) (n : Nat) : Int → Int → LInt → LInt → Option (Bool × TTab) := (Q34.L N t_ n_ n).1
def Q34.l1 (N : Nat) (t_ : TTab) (n_ : Int) (n : Nat) : Int → Int → Int → Bool → Bool → Int → Int → LInt → Int → Int → LInt → LInt → Option (Bool × TTab) := (Q34.L N t_ n_ n).2.1
def Q34.l2 (N : Nat) (t_ : TTab) (n_ : Int) (n : Nat) : Int → Int → (List (Int × Int)) → LInt → LInt → Option (Bool × TTab) := (Q34.L N t_ n_ n).2.2
theorem Q34.l0_s (N : Nat) (t_ : TTab) (n_ : Int) (n : Nat) (t22_ t23_ : Int) (found results : LInt) : Q34.l0 N t_ n_ (n + 1) t22_ t23_ found results = Q34.s0 N t_ n_ (Q34.l0 N t_ n_ n) (Q34.l1 N t_ n_ n) (Q34.l2 N t_ n_ n) t22_ t23_ found results := rfl
theorem Q34.l1_s (N : Nat) (t_ : TTab) (n_ : Int) (n : Nat) (i_ mine other : Int) (win loss : Bool) (t22_ t23_ : Int) (t56_ : LInt) (t57_ t58_ : Int) (found results : LInt) : Q34.l1 N t_ n_ (n + 1) i_ mine other win loss t22_ t23_ t56_ t57_ t58_ found results = Q34.s1 N t_ n_ (Q34.l0 N t_ n_ n) (Q34.l1 N t_ n_ n) (Q34.l2 N t_ n_ n) i_ mine other win loss t22_ t23_ t56_ t57_ t58_ found results := rfl
theorem Q34.l2_s (N : Nat) (t_ : TTab) (n_ : Int) (n : Nat) (t111_ t112_ : Int) (m7_ : (List (Int × Int))) (found results : LInt) : Q34.l2 N t_ n_ (n + 1) t111_ t112_ m7_ found results = Q34.s2 N t_ n_ (Q34.l0 N t_ n_ n) (Q34.l1 N t_ n_ n) (Q34.l2 N t_ n_ n) t111_ t112_ m7_ found results := rfl
def Q34 (N : Nat) (t_ : TTab) (n_ : Int) : Option (Bool × TTab) := Q34.e N (Q34.l0 N t_ n_ N) (Q34.l1 N t_ n_ N) (Q34.l2 N t_ n_ N) t_ n_
def Q18.e (N : Nat) (p_ : TPos) : Option TPos :=
 (Q41 N p_.1).bind fun y1 =>
 (Q41 N p_.2.1.1).bind fun y2 =>
 (Q41 N p_.2.1.2).bind fun y3 =>
 some (y1, ((y2, y3), p_.2.2))
def Q18 (N : Nat) (p_ : TPos) : Option TPos := Q18.e N p_
def Q24.e (N : Nat) (r_ : TRules) (p_ : TPos) (m_ : TMv) : Option TPos :=
 (Q18 N p_).bind fun y1 =>
 bif (ltI m_.1 0) then (bif (eqI p_.2.2.1 0) then (chk ((leI 0 m_.2.2) && (ltI m_.2.2 (y1.2.1.1.length : Int))) <|
   chk ((leI 0 m_.2.2) && (ltI m_.2.2 (y1.2.1.1.length : Int))) <|
   let v4 : List Int := (y1.2.1.1.set m_.2.2.toNat (w64 ((gD (0 : Int) y1.2.1.1 m_.2.2) - 1)))
   chk ((leI 0 m_.2.1) && (ltI m_.2.1 (p_.1.length : Int))) <|
   bif (!(eqI (gD (0 : Int) p_.1 m_.2.1) 0)) then (bif (eqI p_.2.2.1 0) then (bif r_.2.2.2.2.2.2.1 then ((Q44 N (gD (0 : Int) p_.1 m_.2.1)).bind fun y6 =>
      (Q44 N (gD (0 : Int) p_.1 m_.2.1)).bind fun y7 =>
      chk ((leI 0 y7) && (ltI y7 (v4.length : Int))) <|
      let v8 : Int := (w64 ((gD (0 : Int) v4 y7) + 1))
      chk ((leI 0 y6) && (ltI y6 (v4.length : Int))) <|
      (Q45 N m_.2.2 p_.2.2.1).bind fun y10 =>
      chk ((leI 0 m_.2.1) && (ltI m_.2.1 (y1.1.length : Int))) <|
      some ((y1.1.set m_.2.1.toNat y10), (((v4.set y6.toNat (bif (ltI 1000 v8) then 1000 else v8)), y1.2.1.2), ((w64 (1 - p_.2.2.1)), 0))))
     else (Q45 N m_.2.2 p_.2.2.1).bind fun y12 =>
     chk ((leI 0 m_.2.1) && (ltI m_.2.1 (y1.1.length : Int))) <|
     some ((y1.1.set m_.2.1.toNat y12), ((v4, y1.2.1.2), ((w64 (1 - p_.2.2.1)), 0))))
    else bif (eqI p_.2.2.1 1) then (bif r_.2.2.2.2.2.2.1 then ((Q44 N (gD (0 : Int) p_.1 m_.2.1)).bind fun y14 =>
      (Q44 N (gD (0 : Int) p_.1 m_.2.1)).bind fun y15 =>
      chk ((leI 0 y15) && (ltI y15 (y1.2.1.2.length : Int))) <|
      let v16 : Int := (w64 ((gD (0 : Int) y1.2.1.2 y15) + 1))
      chk ((leI 0 y14) && (ltI y14 (y1.2.1.2.length : Int))) <|
      (Q45 N m_.2.2 p_.2.2.1).bind fun y19 =>
      chk ((leI 0 m_.2.1) && (ltI m_.2.1 (y1.1.length : Int))) <|
      some ((y1.1.set m_.2.1.toNat y19), ((v4, (y1.2.1.2.set y14.toNat (bif (ltI 1000 v16) then 1000 else v16))), ((w64 (1 - p_.2.2.1)), 0))))
     else (Q45 N m_.2.2 p_.2.2.1).bind fun y21 =>
     chk ((leI 0 m_.2.1) && (ltI m_.2.1 (y1.1.length : Int))) <|
     some ((y1.1.set m_.2.1.toNat y21), ((v4, y1.2.1.2), ((w64 (1 - p_.2.2.1)), 0))))
    else none)
   else (Q45 N m_.2.2 p_.2.2.1).bind fun y23 =>
   chk ((leI 0 m_.2.1) && (ltI m_.2.1 (y1.1.length : Int))) <|
   some ((y1.1.set m_.2.1.toNat y23), ((v4, y1.2.1.2), ((w64 (1 - p_.2.2.1)), 0))))
  else bif (eqI p_.2.2.1 1) then (chk ((leI 0 m_.2.2) && (ltI m_.2.2 (y1.2.1.2.length : Int))) <|
   chk ((leI 0 m_.2.2) && (ltI m_.2.2 (y1.2.1.2.length : Int))) <|
   let v26 : List Int := (y1.2.1.2.set m_.2.2.toNat (w64 ((gD (0 : Int) y1.2.1.2 m_.2.2) - 1)))
   chk ((leI 0 m_.2.1) && (ltI m_.2.1 (p_.1.length : Int))) <|
   bif (!(eqI (gD (0 : Int) p_.1 m_.2.1) 0)) then (bif (eqI p_.2.2.1 0) then (bif r_.2.2.2.2.2.2.1 then ((Q44 N (gD (0 : Int) p_.1 m_.2.1)).bind fun y28 =>
      (Q44 N (gD (0 : Int) p_.1 m_.2.1)).bind fun y29 =>
      chk ((leI 0 y29) && (ltI y29 (y1.2.1.1.length : Int))) <|
      let v30 : Int := (w64 ((gD (0 : Int) y1.2.1.1 y29) + 1))
      chk ((leI 0 y28) && (ltI y28 (y1.2.1.1.length : Int))) <|
      (Q45 N m_.2.2 p_.2.2.1).bind fun y33 =>
      chk ((leI 0 m_.2.1) && (ltI m_.2.1 (y1.1.length : Int))) <|
      some ((y1.1.set m_.2.1.toNat y33), (((y1.2.1.1.set y28.toNat (bif (ltI 1000 v30) then 1000 else v30)), v26), ((w64 (1 - p_.2.2.1)), 0))))
     else (Q45 N m_.2.2 p_.2.2.1).bind fun y35 =>
     chk ((leI 0 m_.2.1) && (ltI m_.2.1 (y1.1.length : Int))) <|
     some ((y1.1.set m_.2.1.toNat y35), ((y1.2.1.1, v26), ((w64 (1 - p_.2.2.1)), 0))))
    else bif (eqI p_.2.2.1 1) then (bif r_.2.2.2.2.2.2.1 then ((Q44 N (gD (0 : Int) p_.1 m_.2.1)).bind fun y37 =>
      (Q44 N (gD (0 : Int) p_.1 m_.2.1)).bind fun y38 =>
      chk ((leI 0 y38) && (ltI y38 (v26.length : Int))) <|
      let v39 : Int := (w64 ((gD (0 : Int) v26 y38) + 1))
      chk ((leI 0 y37) && (ltI y37 (v26.length : Int))) <|
      (Q45 N m_.2.2 p_.2.2.1).bind fun y41 =>
      chk ((leI 0 m_.2.1) && (ltI m_.2.1 (y1.1.length : Int))) <|
      some ((y1.1.set m_.2.1.toNat y41), ((y1.2.1.1, (v26.set y37.toNat (bif (ltI 1000 v39) then 1000 else v39))), ((w64 (1 - p_.2.2.1)), 0))))
     else (Q45 N m_.2.2 p_.2.2.1).bind fun y43 =>
     chk ((leI 0 m_.2.1) && (ltI m_.2.1 (y1.1.length : Int))) <|
     some ((y1.1.set m_.2.1.toNat y43), ((y1.2.1.1, v26), ((w64 (1 - p_.2.2.1)), 0))))
    else none)
   else (Q45 N m_.2.2 p_.2.2.1).bind fun y45 =>
   chk ((leI 0 m_.2.1) && (ltI m_.2.1 (y1.1.length : Int))) <|
   some ((y1.1.set m_.2.1.toNat y45), ((y1.2.1.1, v26), ((w64 (1 - p_.2.2.1)), 0))))
  else none)
 else chk ((leI 0 m_.1) && (ltI m_.1 (y1.1.length : Int))) <|
 chk ((leI 0 m_.2.1) && (ltI m_.2.1 (p_.1.length : Int))) <|
 bif (!(eqI (gD (0 : Int) p_.1 m_.2.1) 0)) then (bif (eqI p_.2.2.1 0) then (bif r_.2.2.2.2.2.2.1 then ((Q44 N (gD (0 : Int) p_.1 m_.2.1)).bind fun y48 =>
    (Q44 N (gD (0 : Int) p_.1 m_.2.1)).bind fun y49 =>
    chk ((leI 0 y49) && (ltI y49 (y1.2.1.1.length : Int))) <|
    let v50 : Int := (w64 ((gD (0 : Int) y1.2.1.1 y49) + 1))
    chk ((leI 0 y48) && (ltI y48 (y1.2.1.1.length : Int))) <|
    (Q45 N m_.2.2 p_.2.2.1).bind fun y53 =>
    chk ((leI 0 m_.2.1) && (ltI m_.2.1 ((y1.1.set m_.1.toNat 0).length : Int))) <|
    some (((y1.1.set m_.1.toNat 0).set m_.2.1.toNat y53), (((y1.2.1.1.set y48.toNat (bif (ltI 1000 v50) then 1000 else v50)), y1.2.1.2), ((w64 (1 - p_.2.2.1)), 0))))
   else (Q45 N m_.2.2 p_.2.2.1).bind fun y55 =>
   chk ((leI 0 m_.2.1) && (ltI m_.2.1 ((y1.1.set m_.1.toNat 0).length : Int))) <|
   some (((y1.1.set m_.1.toNat 0).set m_.2.1.toNat y55), (y1.2.1, ((w64 (1 - p_.2.2.1)), 0))))
  else bif (eqI p_.2.2.1 1) then (bif r_.2.2.2.2.2.2.1 then ((Q44 N (gD (0 : Int) p_.1 m_.2.1)).bind fun y57 =>
    (Q44 N (gD (0 : Int) p_.1 m_.2.1)).bind fun y58 =>
    chk ((leI 0 y58) && (ltI y58 (y1.2.1.2.length : Int))) <|
    let v59 : Int := (w64 ((gD (0 : Int) y1.2.1.2 y58) + 1))
    chk ((leI 0 y57) && (ltI y57 (y1.2.1.2.length : Int))) <|
    (Q45 N m_.2.2 p_.2.2.1).bind fun y62 =>
    chk ((leI 0 m_.2.1) && (ltI m_.2.1 ((y1.1.set m_.1.toNat 0).length : Int))) <|
    some (((y1.1.set m_.1.toNat 0).set m_.2.1.toNat y62), ((y1.2.1.1, (y1.2.1.2.set y57.toNat (bif (ltI 1000 v59) then 1000 else v59))), ((w64 (1 - p_.2.2.1)), 0))))
   else (Q45 N m_.2.2 p_.2.2.1).bind fun y64 =>
   chk ((leI 0 m_.2.1) && (ltI m_.2.1 ((y1.1.set m_.1.toNat 0).length : Int))) <|
   some (((y1.1.set m_.1.toNat 0).set m_.2.1.toNat y64), (y1.2.1, ((w64 (1 - p_.2.2.1)), 0))))
  else none)
 else (Q45 N m_.2.2 p_.2.2.1).bind fun y66 =>
 chk ((leI 0 m_.2.1) && (ltI m_.2.1 ((y1.1.set m_.1.toNat 0).length : Int))) <|
 some (((y1.1.set m_.1.toNat 0).set m_.2.1.toNat y66), (y1.2.1, ((w64 (1 - p_.2.2.1)), (bif (ltI 200 (w64 (p_.2.2.2 + 1))) then 200 else (w64 (p_.2.2.2 + 1))))))
def Q24 (N : Nat) (r_ : TRules) (p_ : TPos) (m_ : TMv) : Option TPos := Q24.e N r_ p_ m_
end Go.Proofs.YtfihdjjilofklaaGreat.Am
