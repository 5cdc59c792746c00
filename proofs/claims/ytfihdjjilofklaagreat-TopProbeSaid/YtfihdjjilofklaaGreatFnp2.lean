/- PRINTED by gen.py: what the functions compute, as plain Lean functions with fuel. -/
import Derived.Test.YtfihdjjilofklaaGreatFnp1
set_option linter.unusedVariables false
set_option linter.unusedSimpArgs false
namespace Go.Proofs.YtfihdjjilofklaaGreat.Am
open Go
noncomputable section
def Q39.e (N : Nat) (self : TRules → TPos → Int → Option Bool) (r0 : Int → Int → LMv → Option Bool) (r_ : TRules) (p_ : TPos) (n_ : Int) : Option Bool :=
 (Q33 N r_ p_).bind fun y1 =>
 r0 (y1.length : Int) 0 y1
def Q39.s0 (N : Nat) (self : TRules → TPos → Int → Option Bool) (r_ : TRules) (p_ : TPos) (n_ : Int) (r0 : Int → Int → LMv → Option Bool) (t12_ t13_ : Int) (m2_ : LMv) : Option Bool :=
 bif (ltI t13_ t12_) then (chk ((leI 0 t13_) && (ltI t13_ (m2_.length : Int))) <|
  (Q72 N self r_ p_ (gD dM m2_ t13_) n_).bind fun y2 =>
  bif y2 then some true
  else r0 t12_ (w64 (t13_ + 1)) m2_)
 else some false
def Q39.L (N : Nat) (self : TRules → TPos → Int → Option Bool) (r_ : TRules) (p_ : TPos) (n_ : Int) : Nat → (Int → Int → LMv → Option Bool)
 | 0 => fun _ _ _ => none
 | n + 1 => fun t12_ t13_ m2_ => Q39.s0 N self r_ p_ n_ (Q39.L N self r_ p_ n_ n) t12_ t13_ m2_
def Q39.l0 (N : Nat) (self : TRules → TPos → Int → Option Bool) (r_ : TRules) (p_ : TPos) (n_ : Int) (n : Nat) : Int → Int → LMv → Option Bool := (Q39.L N self r_ p_ n_ n)
theorem Q39.l0_s (N : Nat) (self : TRules → TPos → Int → Option Bool) (r_ : TRules) (p_ : TPos) (n_ : Int) (n : Nat) (t12_ t13_ : Int) (m2_ : LMv) : Q39.l0 N self r_ p_ n_ (n + 1) t12_ t13_ m2_ = Q39.s0 N self r_ p_ n_ (Q39.l0 N self r_ p_ n_ n) t12_ t13_ m2_ := rfl
def Q39 : Nat → TRules → TPos → Int → Option Bool
 | 0 => fun _ _ _ => none
 | N + 1 => fun r_ p_ n_ => Q39.e N (Q39 N) (Q39.l0 N (Q39 N) r_ p_ n_ N) r_ p_ n_
def Q14.e (N : Nat) (r0 : Int → Option (Int × Int)) (r_ : TRules) (p_ : TPos) : Option (Int × Int) :=
 r0 1
def Q14.s0 (N : Nat) (r_ : TRules) (p_ : TPos) (r0 : Int → Option (Int × Int)) (n_ : Int) : Option (Int × Int) :=
 bif (leI n_ 5) then ((Q38 N r_ p_ n_).bind fun y1 =>
  bif (!(eqI y1 0)) then (some (0, y1))
  else (Q39 N r_ p_ n_).bind fun y2 =>
  bif y2 then (some (n_, 0))
  else r0 (w64 (n_ + 2)))
 else some (0, 8)
def Q14.L (N : Nat) (r_ : TRules) (p_ : TPos) : Nat → (Int → Option (Int × Int))
 | 0 => fun _ => none
 | n + 1 => fun n_ => Q14.s0 N r_ p_ (Q14.L N r_ p_ n) n_
def Q14.l0 (N : Nat) (r_ : TRules) (p_ : TPos) (n : Nat) : Int → Option (Int × Int) := (Q14.L N r_ p_ n)
theorem Q14.l0_s (N : Nat) (r_ : TRules) (p_ : TPos) (n : Nat) (n_ : Int) : Q14.l0 N r_ p_ (n + 1) n_ = Q14.s0 N r_ p_ (Q14.l0 N r_ p_ n) n_ := rfl
def Q14 (N : Nat) (r_ : TRules) (p_ : TPos) : Option (Int × Int) := Q14.e N (Q14.l0 N r_ p_ N) r_ p_
def Q15.e (N : Nat) (r_ : TRules) (p_ : TPos) : Option (Int × Int) :=
 (Q40 N r_ p_).bind fun y1 =>
 bif (!(eqI y1 0)) then (some (0, y1))
 else (Q32 N r_ p_).bind fun y2 =>
 some (y2, 0)
def Q15 (N : Nat) (r_ : TRules) (p_ : TPos) : Option (Int × Int) := Q15.e N r_ p_
def Q16.e (N : Nat) (r_ : TRules) (p_ : TPos) : Option (LMv × Int) :=
 (Q40 N r_ p_).bind fun y1 =>
 bif (!(eqI y1 0)) then (some ([], y1))
 else (Q33 N r_ p_).bind fun y2 =>
 some (y2, 0)
def Q16 (N : Nat) (r_ : TRules) (p_ : TPos) : Option (LMv × Int) := Q16.e N r_ p_
def Q4.e (N : Nat) : Option Bool :=
 (Q11 N).bind fun y1 =>
 (Q7 N y1).bind fun y2 =>
 oCase y2.1 ((Q11 N).bind fun y4 =>
  (Q12 N y4).bind fun y5 =>
  oCase y5.1 ((Q8 N [y2.2, y5.2]).bind fun y7 =>
   bif (!y7) then some false
   else some false) fun b6 =>
  (Q8 N [y2.2, y5.2]).bind fun y8 =>
  bif (!y8) then some false
  else some false) fun b3 =>
 (Q11 N).bind fun y9 =>
 (Q12 N y9).bind fun y10 =>
 oCase y10.1 ((Q8 N [y2.2, y10.2]).bind fun y12 =>
  bif (!y12) then some false
  else some false) fun b11 =>
 (Q8 N [y2.2, y10.2]).bind fun y13 =>
 bif (!y13) then some false
 else (Q6 N b11 0).bind fun y14 =>
 (Q11 N).bind fun y15 =>
 (Q13 N y15 y14.1 2).bind fun y16 =>
 (Q9 N (b3.1, (b3.2.1, ((), ((), b3.2.2.2.2)))) y14.1 9).bind fun y17 =>
 (Q11 N).bind fun y18 =>
 (Q10 N y18 y17.1).bind fun y19 =>
 (Q11 N).bind fun y20 =>
 (Q14 N y20 y14.1).bind fun y21 =>
 (Q11 N).bind fun y22 =>
 (Q15 N y22 y14.1).bind fun y23 =>
 (Q11 N).bind fun y24 =>
 (Q16 N y24 y14.1).bind fun y25 =>
 (Q8 N [y14.2.2.1, y16.2, y17.2.1, y19.2.2, y23.2, y25.2]).bind fun y27 =>
 bif y27 then (bif (eqI y21.2 8) then (bif (eqI y21.1 0) then (bif (eqI y14.2.1.2 2) then (bif (eqI y16.1 (-998)) then (bif (eqI (y17.1.length : Int) 2) then (bif (eqI y19.2.1 2) then (bif (eqI y23.1 0) then (some (eqI (y25.1.length : Int) 2))
        else some false)
       else some false)
      else some false)
     else some false)
    else some false)
   else some false)
  else some false)
 else some false
def Q4 (N : Nat) : Option Bool := Q4.e N
def Q17.e (N : Nat) (t_ : TTab) : Option (Int × TTab) :=
 some ((t_.2.1.length : Int), t_)
def Q17 (N : Nat) (t_ : TTab) : Option (Int × TTab) := Q17.e N t_
def Q5.e (N : Nat) (r_ : TRules) : Option ((Option TTab) × Bool) :=
 bif (ltI 9 (w64 (r_.2.1 * r_.2.2.1))) then (some (none, false))
 else bif (ltI 3 (r_.2.2.2.1.length : Int)) then (some (none, false))
 else (Q12 N r_).bind fun y3 =>
 oCase y3.1 (bif (!(eqI y3.2 0)) then (some (none, false))
  else some (none, false)) fun b4 =>
 bif (!(eqI y3.2 0)) then (some (none, false))
 else (Q17 N b4).bind fun y5 =>
 bif (eqI y5.1 0) then (some (none, false))
 else (Q17 N y5.2).bind fun y6 =>
 bif (ltI 500 y6.1) then (some (none, false))
 else some ((some y6.2), true)
def Q5 (N : Nat) (r_ : TRules) : Option ((Option TTab) × Bool) := Q5.e N r_
def Q3.e (N : Nat) (r_ : TRules) : Option Bool :=
 (Q4 N).bind fun y1 =>
 bif (!y1) then some false
 else (Q5 N (r_.1, (r_.2.1, (r_.2.2.1, (r_.2.2.2.1, (r_.2.2.2.2.1, (r_.2.2.2.2.2.1, (r_.2.2.2.2.2.2.1, (r_.2.2.2.2.2.2.2.1, (r_.2.2.2.2.2.2.2.2.1, (r_.2.2.2.2.2.2.2.2.2.1, 0))))))))))).bind fun y2 =>
 oCase y2.1 (bif (!y2.2) then some true
  else none) fun b3 =>
 bif (!y2.2) then some true
 else (Q6 N b3 0).bind fun y4 =>
 (Q7 N (r_.1, (r_.2.1, (r_.2.2.1, (r_.2.2.2.1, (r_.2.2.2.2.1, (r_.2.2.2.2.2.1, (r_.2.2.2.2.2.2.1, (r_.2.2.2.2.2.2.2.1, (r_.2.2.2.2.2.2.2.2.1, (r_.2.2.2.2.2.2.2.2.2.1, 0))))))))))).bind fun y5 =>
 oCase y5.1 ((Q8 N [y4.2.2.1, y5.2]).bind fun y7 =>
  bif (!y7) then some false
  else some false) fun b6 =>
 (Q8 N [y4.2.2.1, y5.2]).bind fun y8 =>
 bif (!y8) then some false
 else (Q9 N (b6.1, (b6.2.1, ((), ((), b6.2.2.2.2)))) y4.1 60).bind fun y9 =>
 (Q10 N (r_.1, (r_.2.1, (r_.2.2.1, (r_.2.2.2.1, (r_.2.2.2.2.1, (r_.2.2.2.2.2.1, (r_.2.2.2.2.2.2.1, (r_.2.2.2.2.2.2.2.1, (r_.2.2.2.2.2.2.2.2.1, (r_.2.2.2.2.2.2.2.2.2.1, 0)))))))))) y9.1).bind fun y10 =>
 (Q8 N [y9.2.1, y10.2.2]).bind fun y11 =>
 bif (!y11) then some false
 else bif (eqI y4.2.1.1 3) then (bif (eqI y10.2.1 0) then some true
  else some (eqI y10.2.1 3))
 else bif (ltI 60 y4.2.1.2) then some true
 else bif (eqI (y9.1.length : Int) y4.2.1.2) then (some (eqI y10.2.1 y4.2.1.1))
 else some false
def Q3 (N : Nat) (r_ : TRules) : Option Bool := Q3.e N r_
end
end Go.Proofs.YtfihdjjilofklaaGreat.Am
