/- PRINTED by gen.py: what the functions compute, as plain Lean functions with fuel. -/
import Derived.Test.YtjmcjiklfhmdlaaAm14
set_option linter.unusedVariables false
set_option linter.unusedSimpArgs false
namespace Go.Proofs.Ytjmcjiklfhmdlaa.Am
open Go
/-! ### f22: gamehall/gamehallkeep1.three -/
def gamehallkeep1_three.e (N : Nat) : Option (ByteArray × (Int × (Int × ((List (Int × (Int × (Int × (List (Int × (Int × (Int × Int)))))))) × ((List Int) × (Bool × (Bool × ((List (Int × (Int × (Int × Bool)))) × (Int × (Int × Int)))))))))) :=
  chk (leI 0 9 && (decide (9 < 9223372036854775808) && capOk 8 (9 : Int).toNat)) <|
  some ((⟨#[84, 73, 67]⟩ : ByteArray), (3, (3, ([(65, (5, (0, [])))], ((List.replicate (9 : Int).toNat (0 : Int)), (false, (false, ([(0, (0, (3, false)))], (2, (0, 0))))))))))
def gamehallkeep1_three (N : Nat) : Option (ByteArray × (Int × (Int × ((List (Int × (Int × (Int × (List (Int × (Int × (Int × Int)))))))) × ((List Int) × (Bool × (Bool × ((List (Int × (Int × (Int × Bool)))) × (Int × (Int × Int)))))))))) := gamehallkeep1_three.e N
/-! ### f23: gamehall/gamehallkeep1.near -/
def gamehallkeep1_near.e (N : Nat) : Option ((List Int) × (((List Int) × (List Int)) × (Int × Int))) :=
  some ([1, 1, 0, 2, 2, 0, 0, 0, 0], (([3], [3]), (0, 0)))
def gamehallkeep1_near (N : Nat) : Option ((List Int) × (((List Int) × (List Int)) × (Int × Int))) := gamehallkeep1_near.e N
/-! ### f91: gamehall/rules.Name -/
def rules_Name.e (N : Nat) (r0 : Int → Option Bool) (s_ : ByteArray) : Option Bool :=
  bif (s_.toList == (⟨#[]⟩ : ByteArray).toList) then some false
  else bif (ltI 8 (s_.size : Int)) then some false
  else chk (true && ltI 0 (s_.size : Int)) <|
  bif (leI 48 (bt s_ 0)) then (chk (true && ltI 0 (s_.size : Int)) <|
    bif (leI (bt s_ 0) 57) then some false
    else r0 0)
  else r0 0
def rules_Name.s0 (N : Nat) (s_ : ByteArray) (r0 : Int → Option Bool) (t23_ : Int) : Option Bool :=
  bif (ltI t23_ (s_.size : Int)) then (chk ((leI 0 t23_) && ltI t23_ (s_.size : Int)) <|
    bif (ltI (bt s_ t23_) 65) then (chk ((leI 0 t23_) && ltI t23_ (s_.size : Int)) <|
      bif (ltI (bt s_ t23_) 48) then some false
      else chk ((leI 0 t23_) && ltI t23_ (s_.size : Int)) <|
      bif (ltI 57 (bt s_ t23_)) then some false
      else r0 (w64 (t23_ + 1)))
    else chk ((leI 0 t23_) && ltI t23_ (s_.size : Int)) <|
    bif (ltI 90 (bt s_ t23_)) then (chk ((leI 0 t23_) && ltI t23_ (s_.size : Int)) <|
      bif (ltI (bt s_ t23_) 48) then some false
      else chk ((leI 0 t23_) && ltI t23_ (s_.size : Int)) <|
      bif (ltI 57 (bt s_ t23_)) then some false
      else r0 (w64 (t23_ + 1)))
    else r0 (w64 (t23_ + 1)))
  else some true
def rules_Name.L (N : Nat) (s_ : ByteArray) : Nat → (Int → Option Bool)
  | 0 => fun _ => none
  | n + 1 => fun t23_ => rules_Name.s0 N s_ (rules_Name.L N s_ n) t23_
def rules_Name.l0 (N : Nat) (s_ : ByteArray) (n : Nat) : Int → Option Bool := (rules_Name.L N s_ n)
theorem rules_Name.l0_s (N : Nat) (s_ : ByteArray) (n : Nat) (t23_ : Int) : rules_Name.l0 N s_ (n + 1) t23_ = rules_Name.s0 N s_ (rules_Name.l0 N s_ n) t23_ := rfl
def rules_Name (N : Nat) (s_ : ByteArray) : Option Bool := rules_Name.e N (rules_Name.l0 N s_ N) s_
/-! ### f120: gamehall/rules.way -/
def rules_way.e (N : Nat) (w_ : (Int × (Int × (Int × Int)))) : Option Int :=
  bif (ltI w_.1 (-7)) then some 4
  else bif (ltI 7 w_.1) then some 4
  else bif (ltI w_.2.1 (-7)) then some 4
  else bif (ltI 7 w_.2.1) then some 4
  else bif (eqI w_.1 0) then (bif (eqI w_.2.1 0) then some 4
    else bif (ltI w_.2.2.1 1) then some 4
    else bif (ltI 7 w_.2.2.1) then some 4
    else bif (ltI w_.2.2.2 0) then some 4
    else bif (ltI 2 w_.2.2.2) then some 4
    else some 0)
  else bif (ltI w_.2.2.1 1) then some 4
  else bif (ltI 7 w_.2.2.1) then some 4
  else bif (ltI w_.2.2.2 0) then some 4
  else bif (ltI 2 w_.2.2.2) then some 4
  else some 0
def rules_way (N : Nat) (w_ : (Int × (Int × (Int × Int)))) : Option Int := rules_way.e N w_
/-! ### f92: gamehall/rules.pieces -/
def rules_pieces.e (N : Nat) (r0 : Int → Option Int) (r1 : Int → (List (Int × (Int × (Int × (List (Int × (Int × (Int × Int)))))))) → Int → Int → Int → Int → Int → (List (Int × (Int × (Int × Int)))) → Option Int) (r2 : Int → (List (Int × (Int × (Int × Int)))) → Int → Int → Option Int) (l_ : (List (Int × (Int × (Int × (List (Int × (Int × (Int × Int))))))))) : Option Int :=
  bif (eqI (l_.length : Int) 0) then some 8
  else bif (ltI 6 (l_.length : Int)) then some 2
  else r0 0
def rules_pieces.s0 (N : Nat) (l_ : (List (Int × (Int × (Int × (List (Int × (Int × (Int × Int))))))))) (r0 : Int → Option Int) (r1 : Int → (List (Int × (Int × (Int × (List (Int × (Int × (Int × Int)))))))) → Int → Int → Int → Int → Int → (List (Int × (Int × (Int × Int)))) → Option Int) (r2 : Int → (List (Int × (Int × (Int × Int)))) → Int → Int → Option Int) (t20_ : Int) : Option Int :=
  bif (ltI t20_ (l_.length : Int)) then (chk ((leI 0 t20_) && (ltI t20_ (l_.length : Int))) <|
    bif (ltI (gD ((0 : Int), ((0 : Int), ((0 : Int), ([] : (List (Int × (Int × (Int × Int)))))))) l_ t20_).1 65) then some 6
    else bif (ltI 90 (gD ((0 : Int), ((0 : Int), ((0 : Int), ([] : (List (Int × (Int × (Int × Int)))))))) l_ t20_).1) then some 6
    else chk (true && ((leI 0 t20_) && (leI t20_ (l_.length : Int)))) <|
    r1 t20_ ((l_.take t20_.toNat).drop (0 : Int).toNat) (((l_.take t20_.toNat).drop (0 : Int).toNat).length : Int) 0 (gD ((0 : Int), ((0 : Int), ((0 : Int), ([] : (List (Int × (Int × (Int × Int)))))))) l_ t20_).1 (gD ((0 : Int), ((0 : Int), ((0 : Int), ([] : (List (Int × (Int × (Int × Int)))))))) l_ t20_).2.1 (gD ((0 : Int), ((0 : Int), ((0 : Int), ([] : (List (Int × (Int × (Int × Int)))))))) l_ t20_).2.2.1 (gD ((0 : Int), ((0 : Int), ((0 : Int), ([] : (List (Int × (Int × (Int × Int)))))))) l_ t20_).2.2.2)
  else some 0
def rules_pieces.s1 (N : Nat) (l_ : (List (Int × (Int × (Int × (List (Int × (Int × (Int × Int))))))))) (r0 : Int → Option Int) (r1 : Int → (List (Int × (Int × (Int × (List (Int × (Int × (Int × Int)))))))) → Int → Int → Int → Int → Int → (List (Int × (Int × (Int × Int)))) → Option Int) (r2 : Int → (List (Int × (Int × (Int × Int)))) → Int → Int → Option Int) (t20_ : Int) (t35_ : (List (Int × (Int × (Int × (List (Int × (Int × (Int × Int))))))))) (t36_ : Int) (t37_ : Int) (p_ : Int) (p_2 : Int) (p_3 : Int) (p_4 : (List (Int × (Int × (Int × Int))))) : Option Int :=
  bif (ltI t37_ t36_) then (chk ((leI 0 t37_) && (ltI t37_ (t35_.length : Int))) <|
    bif (eqI (gD ((0 : Int), ((0 : Int), ((0 : Int), ([] : (List (Int × (Int × (Int × Int)))))))) t35_ t37_).1 p_) then some 7
    else r1 t20_ t35_ t36_ (w64 (t37_ + 1)) p_ p_2 p_3 p_4)
  else bif (ltI p_2 0) then some 4
  else bif (ltI 64 p_2) then some 4
  else bif (ltI p_3 0) then some 4
  else bif (ltI (l_.length : Int) p_3) then some 4
  else bif (ltI 16 (p_4.length : Int)) then some 2
  else r2 t20_ p_4 (p_4.length : Int) 0
def rules_pieces.s2 (N : Nat) (l_ : (List (Int × (Int × (Int × (List (Int × (Int × (Int × Int))))))))) (r0 : Int → Option Int) (r1 : Int → (List (Int × (Int × (Int × (List (Int × (Int × (Int × Int)))))))) → Int → Int → Int → Int → Int → (List (Int × (Int × (Int × Int)))) → Option Int) (r2 : Int → (List (Int × (Int × (Int × Int)))) → Int → Int → Option Int) (t20_ : Int) (t72_ : (List (Int × (Int × (Int × Int))))) (t73_ : Int) (t74_ : Int) : Option Int :=
  bif (ltI t74_ t73_) then (chk ((leI 0 t74_) && (ltI t74_ (t72_.length : Int))) <|
    (rules_way N (gD ((0 : Int), ((0 : Int), ((0 : Int), (0 : Int)))) t72_ t74_)).bind fun y10 =>
    bif (!(eqI y10 0)) then some y10
    else r2 t20_ t72_ t73_ (w64 (t74_ + 1)))
  else r0 (w64 (t20_ + 1))
def rules_pieces.L (N : Nat) (l_ : (List (Int × (Int × (Int × (List (Int × (Int × (Int × Int))))))))) : Nat → (Int → Option Int) × (Int → (List (Int × (Int × (Int × (List (Int × (Int × (Int × Int)))))))) → Int → Int → Int → Int → Int → (List (Int × (Int × (Int × Int)))) → Option Int) × (Int → (List (Int × (Int × (Int × Int)))) → Int → Int → Option Int)
  | 0 => (fun _ => none, fun _ _ _ _ _ _ _ _ => none, fun _ _ _ _ => none)
  | n + 1 => (fun t20_ => rules_pieces.s0 N l_ (rules_pieces.L N l_ n).1 (rules_pieces.L N l_ n).2.1 (rules_pieces.L N l_ n).2.2 t20_, fun t20_ t35_ t36_ t37_ p_ p_2 p_3 p_4 => rules_pieces.s1 N l_ (rules_pieces.L N l_ n).1 (rules_pieces.L N l_ n).2.1 (rules_pieces.L N l_ n).2.2 t20_ t35_ t36_ t37_ p_ p_2 p_3 p_4, fun t20_ t72_ t73_ t74_ => rules_pieces.s2 N l_ (rules_pieces.L N l_ n).1 (rules_pieces.L N l_ n).2.1 (rules_pieces.L N l_ n).2.2 t20_ t72_ t73_ t74_)
def rules_pieces.l0 (N : Nat) (l_ : (List (Int × (Int × (Int × (List (Int × (Int × (Int × Int))))))))) (n : Nat) : Int → Option Int := (rules_pieces.L N l_ n).1
def rules_pieces.l1 (N : Nat) (l_ : (List (Int × (Int × (Int × (List (Int × (Int × (Int × Int))))))))) (n : Nat) : Int → (List (Int × (Int × (Int × (List (Int × (Int × (Int × Int)))))))) → Int → Int → Int → Int → Int → (List (Int × (Int × (Int × Int)))) → Option Int := (rules_pieces.L N l_ n).2.1
def rules_pieces.l2 (N : Nat) (l_ : (List (Int × (Int × (Int × (List (Int × (Int × (Int × Int))))))))) (n : Nat) : Int → (List (Int × (Int × (Int × Int)))) → Int → Int → Option Int := (rules_pieces.L N l_ n).2.2
theorem rules_pieces.l0_s (N : Nat) (l_ : (List (Int × (Int × (Int × (List (Int × (Int × (Int × Int))))))))) (n : Nat) (t20_ : Int) : rules_pieces.l0 N l_ (n + 1) t20_ = rules_pieces.s0 N l_ (rules_pieces.l0 N l_ n) (rules_pieces.l1 N l_ n) (rules_pieces.l2 N l_ n) t20_ := rfl
theorem rules_pieces.l1_s (N : Nat) (l_ : (List (Int × (Int × (Int × (List (Int × (Int × (Int × Int))))))))) (n : Nat) (t20_ : Int) (t35_ : (List (Int × (Int × (Int × (List (Int × (Int × (Int × Int))))))))) (t36_ : Int) (t37_ : Int) (p_ : Int) (p_2 : Int) (p_3 : Int) (p_4 : (List (Int × (Int × (Int × Int))))) : rules_pieces.l1 N l_ (n + 1) t20_ t35_ t36_ t37_ p_ p_2 p_3 p_4 = rules_pieces.s1 N l_ (rules_pieces.l0 N l_ n) (rules_pieces.l1 N l_ n) (rules_pieces.l2 N l_ n) t20_ t35_ t36_ t37_ p_ p_2 p_3 p_4 := rfl
theorem rules_pieces.l2_s (N : Nat) (l_ : (List (Int × (Int × (Int × (List (Int × (Int × (Int × Int))))))))) (n : Nat) (t20_ : Int) (t72_ : (List (Int × (Int × (Int × Int))))) (t73_ : Int) (t74_ : Int) : rules_pieces.l2 N l_ (n + 1) t20_ t72_ t73_ t74_ = rules_pieces.s2 N l_ (rules_pieces.l0 N l_ n) (rules_pieces.l1 N l_ n) (rules_pieces.l2 N l_ n) t20_ t72_ t73_ t74_ := rfl
def rules_pieces (N : Nat) (l_ : (List (Int × (Int × (Int × (List (Int × (Int × (Int × Int))))))))) : Option Int := rules_pieces.e N (rules_pieces.l0 N l_ N) (rules_pieces.l1 N l_ N) (rules_pieces.l2 N l_ N) l_
/-! ### f93: gamehall/rules.end -/
def rules_end.e (N : Nat) (x_ : (Int × (Int × (Int × Bool)))) (types : Int) : Option Int :=
  bif (eqI x_.1 0) then (bif (!(eqI x_.2.1 0)) then some 4
    else bif (ltI x_.2.2.1 1) then some 4
    else bif (ltI 64 x_.2.2.1) then some 4
    else some 0)
  else bif (eqI x_.1 1) then (bif (ltI x_.2.1 0) then some 4
    else bif (leI types x_.2.1) then some 4
    else bif (!(eqI x_.2.2.1 0)) then some 4
    else some 0)
  else bif (eqI x_.1 2) then (bif (ltI x_.2.1 0) then some 4
    else bif (leI types x_.2.1) then some 4
    else bif (ltI x_.2.2.1 1) then some 4
    else bif (ltI 64 x_.2.2.1) then some 4
    else some 0)
  else some 1
def rules_end (N : Nat) (x_ : (Int × (Int × (Int × Bool)))) (types : Int) : Option Int := rules_end.e N x_ types
/-! ### f66: gamehall/rules.Check -/
def rules_Check.e (N : Nat) (r0 : Int → Int → Option Int) (r1 : Int → Int → Option Int) (r_ : (ByteArray × (Int × (Int × ((List (Int × (Int × (Int × (List (Int × (Int × (Int × Int)))))))) × ((List Int) × (Bool × (Bool × ((List (Int × (Int × (Int × Bool)))) × (Int × (Int × Int))))))))))) : Option Int :=
  (rules_Name N r_.1).bind fun y1 =>
  bif (!y1) then some 6
  else bif (ltI r_.2.1 1) then some 4
  else bif (ltI 8 r_.2.1) then some 4
  else bif (ltI r_.2.2.1 1) then some 4
  else bif (ltI 8 r_.2.2.1) then some 4
  else (rules_pieces N r_.2.2.2.1).bind fun y2 =>
  bif (!(eqI y2 0)) then some y2
  else bif (!(eqI (r_.2.2.2.2.1.length : Int) (w64 (r_.2.1 * r_.2.2.1)))) then some 3
  else r0 (r_.2.2.2.2.1.length : Int) 0
def rules_Check.s0 (N : Nat) (r_ : (ByteArray × (Int × (Int × ((List (Int × (Int × (Int × (List (Int × (Int × (Int × Int)))))))) × ((List Int) × (Bool × (Bool × ((List (Int × (Int × (Int × Bool)))) × (Int × (Int × Int))))))))))) (r0 : Int → Int → Option Int) (r1 : Int → Int → Option Int) (t50_ : Int) (t51_ : Int) : Option Int :=
  bif (ltI t51_ t50_) then (chk ((leI 0 t51_) && (ltI t51_ (r_.2.2.2.2.1.length : Int))) <|
    bif (ltI (gD (0 : Int) r_.2.2.2.2.1 t51_) 0) then some 4
    else bif (ltI (w64 (2 * (r_.2.2.2.1.length : Int))) (gD (0 : Int) r_.2.2.2.2.1 t51_)) then some 4
    else r0 t50_ (w64 (t51_ + 1)))
  else bif (ltI 6 (r_.2.2.2.2.2.2.2.1.length : Int)) then some 2
  else r1 (r_.2.2.2.2.2.2.2.1.length : Int) 0
def rules_Check.s1 (N : Nat) (r_ : (ByteArray × (Int × (Int × ((List (Int × (Int × (Int × (List (Int × (Int × (Int × Int)))))))) × ((List Int) × (Bool × (Bool × ((List (Int × (Int × (Int × Bool)))) × (Int × (Int × Int))))))))))) (r0 : Int → Int → Option Int) (r1 : Int → Int → Option Int) (t72_ : Int) (t73_ : Int) : Option Int :=
  bif (ltI t73_ t72_) then (chk ((leI 0 t73_) && (ltI t73_ (r_.2.2.2.2.2.2.2.1.length : Int))) <|
    (rules_end N (gD ((0 : Int), ((0 : Int), ((0 : Int), false))) r_.2.2.2.2.2.2.2.1 t73_) (r_.2.2.2.1.length : Int)).bind fun y12 =>
    bif (!(eqI y12 0)) then some y12
    else r1 t72_ (w64 (t73_ + 1)))
  else bif (ltI r_.2.2.2.2.2.2.2.2.1 0) then some 4
  else bif (ltI 2 r_.2.2.2.2.2.2.2.2.1) then some 4
  else bif (ltI r_.2.2.2.2.2.2.2.2.2.1 0) then some 4
  else bif (ltI 200 r_.2.2.2.2.2.2.2.2.2.1) then some 4
  else bif (ltI r_.2.2.2.2.2.2.2.2.2.2 0) then some 4
  else bif (eqI r_.2.2.2.2.2.2.2.2.2.2 1) then some 4
  else bif (ltI 5 r_.2.2.2.2.2.2.2.2.2.2) then some 4
  else some 0
def rules_Check.L (N : Nat) (r_ : (ByteArray × (Int × (Int × ((List (Int × (Int × (Int × (List (Int × (Int × (Int × Int)))))))) × ((List Int) × (Bool × (Bool × ((List (Int × (Int × (Int × Bool)))) × (Int × (Int × Int))))))))))) : Nat → (Int → Int → Option Int) × (Int → Int → Option Int)
  | 0 => (fun _ _ => none, fun _ _ => none)
  | n + 1 => (fun t50_ t51_ => rules_Check.s0 N r_ (rules_Check.L N r_ n).1 (rules_Check.L N r_ n).2 t50_ t51_, fun t72_ t73_ => rules_Check.s1 N r_ (rules_Check.L N r_ n).1 (rules_Check.L N r_ n).2 t72_ t73_)
def rules_Check.l0 (N : Nat) (r_ : (ByteArray × (Int × (Int × ((List (Int × (Int × (Int × (List (Int × (Int × (Int × Int)))))))) × ((List Int) × (Bool × (Bool × ((List (Int × (Int × (Int × Bool)))) × (Int × (Int × Int))))))))))) (n : Nat) : Int → Int → Option Int := (rules_Check.L N r_ n).1
def rules_Check.l1 (N : Nat) (r_ : (ByteArray × (Int × (Int × ((List (Int × (Int × (Int × (List (Int × (Int × (Int × Int)))))))) × ((List Int) × (Bool × (Bool × ((List (Int × (Int × (Int × Bool)))) × (Int × (Int × Int))))))))))) (n : Nat) : Int → Int → Option Int := (rules_Check.L N r_ n).2
theorem rules_Check.l0_s (N : Nat) (r_ : (ByteArray × (Int × (Int × ((List (Int × (Int × (Int × (List (Int × (Int × (Int × Int)))))))) × ((List Int) × (Bool × (Bool × ((List (Int × (Int × (Int × Bool)))) × (Int × (Int × Int))))))))))) (n : Nat) (t50_ : Int) (t51_ : Int) : rules_Check.l0 N r_ (n + 1) t50_ t51_ = rules_Check.s0 N r_ (rules_Check.l0 N r_ n) (rules_Check.l1 N r_ n) t50_ t51_ := rfl
theorem rules_Check.l1_s (N : Nat) (r_ : (ByteArray × (Int × (Int × ((List (Int × (Int × (Int × (List (Int × (Int × (Int × Int)))))))) × ((List Int) × (Bool × (Bool × ((List (Int × (Int × (Int × Bool)))) × (Int × (Int × Int))))))))))) (n : Nat) (t72_ : Int) (t73_ : Int) : rules_Check.l1 N r_ (n + 1) t72_ t73_ = rules_Check.s1 N r_ (rules_Check.l0 N r_ n) (rules_Check.l1 N r_ n) t72_ t73_ := rfl
def rules_Check (N : Nat) (r_ : (ByteArray × (Int × (Int × ((List (Int × (Int × (Int × (List (Int × (Int × (Int × Int)))))))) × ((List Int) × (Bool × (Bool × ((List (Int × (Int × (Int × Bool)))) × (Int × (Int × Int))))))))))) : Option Int := rules_Check.e N (rules_Check.l0 N r_ N) (rules_Check.l1 N r_ N) r_
/-! ### f27: gamehall/place.Check -/
def place_Check.e (N : Nat) (r0 : Int → Option Int) (r1 : Int → Option Int) (r2 : Int → (List Int) → Int → Int → Option Int) (r_ : (ByteArray × (Int × (Int × ((List (Int × (Int × (Int × (List (Int × (Int × (Int × Int)))))))) × ((List Int) × (Bool × (Bool × ((List (Int × (Int × (Int × Bool)))) × (Int × (Int × Int))))))))))) (p_ : ((List Int) × (((List Int) × (List Int)) × (Int × Int)))) : Option Int :=
  (rules_Check N r_).bind fun y1 =>
  bif (!(eqI y1 0)) then some y1
  else bif (!(eqI (p_.1.length : Int) (w64 (r_.2.1 * r_.2.2.1)))) then some 3
  else bif (!(eqI (p_.2.1.1.length : Int) (r_.2.2.2.1.length : Int))) then some 3
  else bif (!(eqI (p_.2.1.2.length : Int) (r_.2.2.2.1.length : Int))) then some 3
  else r0 0
def place_Check.s0 (N : Nat) (r_ : (ByteArray × (Int × (Int × ((List (Int × (Int × (Int × (List (Int × (Int × (Int × Int)))))))) × ((List Int) × (Bool × (Bool × ((List (Int × (Int × (Int × Bool)))) × (Int × (Int × Int))))))))))) (p_ : ((List Int) × (((List Int) × (List Int)) × (Int × Int)))) (r0 : Int → Option Int) (r1 : Int → Option Int) (r2 : Int → (List Int) → Int → Int → Option Int) (t49_ : Int) : Option Int :=
  bif (ltI t49_ (p_.1.length : Int)) then (chk ((leI 0 t49_) && (ltI t49_ (p_.1.length : Int))) <|
    bif (ltI (gD (0 : Int) p_.1 t49_) 0) then some 4
    else bif (ltI (w64 (2 * (r_.2.2.2.1.length : Int))) (gD (0 : Int) p_.1 t49_)) then some 4
    else r0 (w64 (t49_ + 1)))
  else r1 0
def place_Check.s1 (N : Nat) (r_ : (ByteArray × (Int × (Int × ((List (Int × (Int × (Int × (List (Int × (Int × (Int × Int)))))))) × ((List Int) × (Bool × (Bool × ((List (Int × (Int × (Int × Bool)))) × (Int × (Int × Int))))))))))) (p_ : ((List Int) × (((List Int) × (List Int)) × (Int × Int)))) (r0 : Int → Option Int) (r1 : Int → Option Int) (r2 : Int → (List Int) → Int → Int → Option Int) (t66_ : Int) : Option Int :=
  bif (ltI t66_ 2) then (bif (eqI t66_ 0) then (r2 t66_ p_.2.1.1 (p_.2.1.1.length : Int) 0)
    else bif (eqI t66_ 1) then (r2 t66_ p_.2.1.2 (p_.2.1.2.length : Int) 0)
    else none)
  else bif (!(eqI p_.2.2.1 0)) then (bif (!(eqI p_.2.2.1 1)) then some 4
    else bif (ltI p_.2.2.2 0) then some 4
    else bif (ltI 200 p_.2.2.2) then some 4
    else some 0)
  else bif (ltI p_.2.2.2 0) then some 4
  else bif (ltI 200 p_.2.2.2) then some 4
  else some 0
def place_Check.s2 (N : Nat) (r_ : (ByteArray × (Int × (Int × ((List (Int × (Int × (Int × (List (Int × (Int × (Int × Int)))))))) × ((List Int) × (Bool × (Bool × ((List (Int × (Int × (Int × Bool)))) × (Int × (Int × Int))))))))))) (p_ : ((List Int) × (((List Int) × (List Int)) × (Int × Int)))) (r0 : Int → Option Int) (r1 : Int → Option Int) (r2 : Int → (List Int) → Int → Int → Option Int) (t66_ : Int) (t69_ : (List Int)) (t70_ : Int) (t71_ : Int) : Option Int :=
  bif (ltI t71_ t70_) then (chk ((leI 0 t71_) && (ltI t71_ (t69_.length : Int))) <|
    bif (ltI (gD (0 : Int) t69_ t71_) 0) then some 4
    else bif (ltI 1000 (gD (0 : Int) t69_ t71_)) then some 4
    else r2 t66_ t69_ t70_ (w64 (t71_ + 1)))
  else r1 (w64 (t66_ + 1))
def place_Check.L (N : Nat) (r_ : (ByteArray × (Int × (Int × ((List (Int × (Int × (Int × (List (Int × (Int × (Int × Int)))))))) × ((List Int) × (Bool × (Bool × ((List (Int × (Int × (Int × Bool)))) × (Int × (Int × Int))))))))))) (p_ : ((List Int) × (((List Int) × (List Int)) × (Int × Int)))) : Nat → (Int → Option Int) × (Int → Option Int) × (Int → (List Int) → Int → Int → Option Int)
  | 0 => (fun _ => none, fun _ => none, fun _ _ _ _ => none)
  | n + 1 => (fun t49_ => place_Check.s0 N r_ p_ (place_Check.L N r_ p_ n).1 (place_Check.L N r_ p_ n).2.1 (place_Check.L N r_ p_ n).2.2 t49_, fun t66_ => place_Check.s1 N r_ p_ (place_Check.L N r_ p_ n).1 (place_Check.L N r_ p_ n).2.1 (place_Check.L N r_ p_ n).2.2 t66_, fun t66_ t69_ t70_ t71_ => place_Check.s2 N r_ p_ (place_Check.L N r_ p_ n).1 (place_Check.L N r_ p_ n).2.1 (place_Check.L N r_ p_ n).2.2 t66_ t69_ t70_ t71_)
def place_Check.l0 (N : Nat) (r_ : (ByteArray × (Int × (Int × ((List (Int × (Int × (Int × (List (Int × (Int × (Int × Int)))))))) × ((List Int) × (Bool × (Bool × ((List (Int × (Int × (Int × Bool)))) × (Int × (Int × Int))))))))))) (p_ : ((List Int) × (((List Int) × (List Int)) × (Int × Int)))) (n : Nat) : Int → Option Int := (place_Check.L N r_ p_ n).1
def place_Check.l1 (N : Nat) (r_ : (ByteArray × (Int × (Int × ((List (Int × (Int × (Int × (List (Int × (Int × (Int × Int)))))))) × ((List Int) × (Bool × (Bool × ((List (Int × (Int × (Int × Bool)))) × (Int × (Int × Int))))))))))) (p_ : ((List Int) × (((List Int) × (List Int)) × (Int × Int)))) (n : Nat) : Int → Option Int := (place_Check.L N r_ p_ n).2.1
def place_Check.l2 (N : Nat) (r_ : (ByteArray × (Int × (Int × ((List (Int × (Int × (Int × (List (Int × (Int × (Int × Int)))))))) × ((List Int) × (Bool × (Bool × ((List (Int × (Int × (Int × Bool)))) × (Int × (Int × Int))))))))))) (p_ : ((List Int) × (((List Int) × (List Int)) × (Int × Int)))) (n : Nat) : Int → (List Int) → Int → Int → Option Int := (place_Check.L N r_ p_ n).2.2
theorem place_Check.l0_s (N : Nat) (r_ : (ByteArray × (Int × (Int × ((List (Int × (Int × (Int × (List (Int × (Int × (Int × Int)))))))) × ((List Int) × (Bool × (Bool × ((List (Int × (Int × (Int × Bool)))) × (Int × (Int × Int))))))))))) (p_ : ((List Int) × (((List Int) × (List Int)) × (Int × Int)))) (n : Nat) (t49_ : Int) : place_Check.l0 N r_ p_ (n + 1) t49_ = place_Check.s0 N r_ p_ (place_Check.l0 N r_ p_ n) (place_Check.l1 N r_ p_ n) (place_Check.l2 N r_ p_ n) t49_ := rfl
theorem place_Check.l1_s (N : Nat) (r_ : (ByteArray × (Int × (Int × ((List (Int × (Int × (Int × (List (Int × (Int × (Int × Int)))))))) × ((List Int) × (Bool × (Bool × ((List (Int × (Int × (Int × Bool)))) × (Int × (Int × Int))))))))))) (p_ : ((List Int) × (((List Int) × (List Int)) × (Int × Int)))) (n : Nat) (t66_ : Int) : place_Check.l1 N r_ p_ (n + 1) t66_ = place_Check.s1 N r_ p_ (place_Check.l0 N r_ p_ n) (place_Check.l1 N r_ p_ n) (place_Check.l2 N r_ p_ n) t66_ := rfl
theorem place_Check.l2_s (N : Nat) (r_ : (ByteArray × (Int × (Int × ((List (Int × (Int × (Int × (List (Int × (Int × (Int × Int)))))))) × ((List Int) × (Bool × (Bool × ((List (Int × (Int × (Int × Bool)))) × (Int × (Int × Int))))))))))) (p_ : ((List Int) × (((List Int) × (List Int)) × (Int × Int)))) (n : Nat) (t66_ : Int) (t69_ : (List Int)) (t70_ : Int) (t71_ : Int) : place_Check.l2 N r_ p_ (n + 1) t66_ t69_ t70_ t71_ = place_Check.s2 N r_ p_ (place_Check.l0 N r_ p_ n) (place_Check.l1 N r_ p_ n) (place_Check.l2 N r_ p_ n) t66_ t69_ t70_ t71_ := rfl
def place_Check (N : Nat) (r_ : (ByteArray × (Int × (Int × ((List (Int × (Int × (Int × (List (Int × (Int × (Int × Int)))))))) × ((List Int) × (Bool × (Bool × ((List (Int × (Int × (Int × Bool)))) × (Int × (Int × Int))))))))))) (p_ : ((List Int) × (((List Int) × (List Int)) × (Int × Int)))) : Option Int := place_Check.e N (place_Check.l0 N r_ p_ N) (place_Check.l1 N r_ p_ N) (place_Check.l2 N r_ p_ N) r_ p_
/-! ### f90: slices.Clone[[]int,int] -/
def slices_Clone_int_int.e (N : Nat) (s_ : (List Int)) : Option (List Int) :=
  chk (capOk 8 (([] : List Int).length + s_.length)) <|
  some ([] ++ s_)
def slices_Clone_int_int (N : Nat) (s_ : (List Int)) : Option (List Int) := slices_Clone_int_int.e N s_
/-! ### f63: gamehall/place.Copy -/
def place_Copy.e (N : Nat) (p_ : ((List Int) × (((List Int) × (List Int)) × (Int × Int)))) : Option ((List Int) × (((List Int) × (List Int)) × (Int × Int))) :=
  (slices_Clone_int_int N p_.1).bind fun y1 =>
  (slices_Clone_int_int N p_.2.1.1).bind fun y2 =>
  (slices_Clone_int_int N p_.2.1.2).bind fun y3 =>
  some (y1, ((y2, y3), p_.2.2))
def place_Copy (N : Nat) (p_ : ((List Int) × (((List Int) × (List Int)) × (Int × Int)))) : Option ((List Int) × (((List Int) × (List Int)) × (Int × Int))) := place_Copy.e N p_
/-! ### f65: gamehall/rules.Turned -/
def rules_Turned.e (N : Nat) (r_ : (ByteArray × (Int × (Int × ((List (Int × (Int × (Int × (List (Int × (Int × (Int × Int)))))))) × ((List Int) × (Bool × (Bool × ((List (Int × (Int × (Int × Bool)))) × (Int × (Int × Int))))))))))) (square : Int) : Option Int :=
  bif (eqI r_.2.1 0) then none
  else bif (eqI r_.2.1 0) then none
  else some (w64 ((w64 ((w64 ((w64 (r_.2.2.1 - 1)) - (w64 (Int.tdiv square r_.2.1)))) * r_.2.1)) + (Int.tmod square r_.2.1)))
def rules_Turned (N : Nat) (r_ : (ByteArray × (Int × (Int × ((List (Int × (Int × (Int × (List (Int × (Int × (Int × Int)))))))) × ((List Int) × (Bool × (Bool × ((List (Int × (Int × (Int × Bool)))) × (Int × (Int × Int))))))))))) (square : Int) : Option Int := rules_Turned.e N r_ square
/-! ### f64: gamehall/rules.Swapped -/
def rules_Swapped.e (N : Nat) (c_ : Int) : Option Int :=
  bif (eqI c_ 0) then some 0
  else some (w64 ((Go.bits .xor .i64 (w64 (c_ - 1)) 1) + 1))
def rules_Swapped (N : Nat) (c_ : Int) : Option Int := rules_Swapped.e N c_
/-! ### f21: gamehall/place.Other -/
def place_Other.e (N : Nat) (r0 : Int → (List Int) → (List Int) → (List Int) → Int → Int → Option (((List Int) × (((List Int) × (List Int)) × (Int × Int))) × Int)) (r_ : (ByteArray × (Int × (Int × ((List (Int × (Int × (Int × (List (Int × (Int × (Int × Int)))))))) × ((List Int) × (Bool × (Bool × ((List (Int × (Int × (Int × Bool)))) × (Int × (Int × Int))))))))))) (p_ : ((List Int) × (((List Int) × (List Int)) × (Int × Int)))) : Option (((List Int) × (((List Int) × (List Int)) × (Int × Int))) × Int) :=
  (place_Check N r_ p_).bind fun y1 =>
  bif (!(eqI y1 0)) then (some (([], (([], []), (0, 0))), y1))
  else (place_Copy N p_).bind fun y2 =>
  r0 0 y2.1 y2.2.1.1 y2.2.1.2 y2.2.2.1 y2.2.2.2
def place_Other.s0 (N : Nat) (r_ : (ByteArray × (Int × (Int × ((List (Int × (Int × (Int × (List (Int × (Int × (Int × Int)))))))) × ((List Int) × (Bool × (Bool × ((List (Int × (Int × (Int × Bool)))) × (Int × (Int × Int))))))))))) (p_ : ((List Int) × (((List Int) × (List Int)) × (Int × Int)))) (r0 : Int → (List Int) → (List Int) → (List Int) → Int → Int → Option (((List Int) × (((List Int) × (List Int)) × (Int × Int))) × Int)) (t22_ : Int) (m3_ : (List Int)) (m4_ : (List Int)) (m5_ : (List Int)) (out : Int) (out2 : Int) : Option (((List Int) × (((List Int) × (List Int)) × (Int × Int))) × Int) :=
  bif (ltI t22_ (p_.1.length : Int)) then (chk ((leI 0 t22_) && (ltI t22_ (p_.1.length : Int))) <|
    (rules_Turned N r_ t22_).bind fun y4 =>
    (rules_Swapped N (gD (0 : Int) p_.1 t22_)).bind fun y5 =>
    chk ((leI 0 y4) && (ltI y4 (m3_.length : Int))) <|
    r0 (w64 (t22_ + 1)) (m3_.set y4.toNat y5) m4_ m5_ out out2)
  else some ((m3_, ((m5_, m4_), ((w64 (1 - p_.2.2.1)), out2))), 0)
def place_Other.L (N : Nat) (r_ : (ByteArray × (Int × (Int × ((List (Int × (Int × (Int × (List (Int × (Int × (Int × Int)))))))) × ((List Int) × (Bool × (Bool × ((List (Int × (Int × (Int × Bool)))) × (Int × (Int × Int))))))))))) (p_ : ((List Int) × (((List Int) × (List Int)) × (Int × Int)))) : Nat → (Int → (List Int) → (List Int) → (List Int) → Int → Int → Option (((List Int) × (((List Int) × (List Int)) × (Int × Int))) × Int))
  | 0 => fun _ _ _ _ _ _ => none
  | n + 1 => fun t22_ m3_ m4_ m5_ out out2 => place_Other.s0 N r_ p_ (place_Other.L N r_ p_ n) t22_ m3_ m4_ m5_ out out2
def place_Other.l0 (N : Nat) (r_ : (ByteArray × (Int × (Int × ((List (Int × (Int × (Int × (List (Int × (Int × (Int × Int)))))))) × ((List Int) × (Bool × (Bool × ((List (Int × (Int × (Int × Bool)))) × (Int × (Int × Int))))))))))) (p_ : ((List Int) × (((List Int) × (List Int)) × (Int × Int)))) (n : Nat) : Int → (List Int) → (List Int) → (List Int) → Int → Int → Option (((List Int) × (((List Int) × (List Int)) × (Int × Int))) × Int) := (place_Other.L N r_ p_ n)
theorem place_Other.l0_s (N : Nat) (r_ : (ByteArray × (Int × (Int × ((List (Int × (Int × (Int × (List (Int × (Int × (Int × Int)))))))) × ((List Int) × (Bool × (Bool × ((List (Int × (Int × (Int × Bool)))) × (Int × (Int × Int))))))))))) (p_ : ((List Int) × (((List Int) × (List Int)) × (Int × Int)))) (n : Nat) (t22_ : Int) (m3_ : (List Int)) (m4_ : (List Int)) (m5_ : (List Int)) (out : Int) (out2 : Int) : place_Other.l0 N r_ p_ (n + 1) t22_ m3_ m4_ m5_ out out2 = place_Other.s0 N r_ p_ (place_Other.l0 N r_ p_ n) t22_ m3_ m4_ m5_ out out2 := rfl
def place_Other (N : Nat) (r_ : (ByteArray × (Int × (Int × ((List (Int × (Int × (Int × (List (Int × (Int × (Int × Int)))))))) × ((List Int) × (Bool × (Bool × ((List (Int × (Int × (Int × Bool)))) × (Int × (Int × Int))))))))))) (p_ : ((List Int) × (((List Int) × (List Int)) × (Int × Int)))) : Option (((List Int) × (((List Int) × (List Int)) × (Int × Int))) × Int) := place_Other.e N (place_Other.l0 N r_ p_ N) r_ p_
/-! ### f24: slices.Equal[[]int,int] -/
def slices_Equal_int_int.e (N : Nat) (r0 : Int → Option Bool) (s1_ : (List Int)) (s2_ : (List Int)) : Option Bool :=
  bif (!(eqI (s1_.length : Int) (s2_.length : Int))) then some false
  else r0 0
def slices_Equal_int_int.s0 (N : Nat) (s1_ : (List Int)) (s2_ : (List Int)) (r0 : Int → Option Bool) (t13_ : Int) : Option Bool :=
  bif (ltI t13_ (s1_.length : Int)) then (chk ((leI 0 t13_) && (ltI t13_ (s1_.length : Int))) <|
    chk ((leI 0 t13_) && (ltI t13_ (s2_.length : Int))) <|
    bif (!(eqI (gD (0 : Int) s1_ t13_) (gD (0 : Int) s2_ t13_))) then some false
    else r0 (w64 (t13_ + 1)))
  else some true
def slices_Equal_int_int.L (N : Nat) (s1_ : (List Int)) (s2_ : (List Int)) : Nat → (Int → Option Bool)
  | 0 => fun _ => none
  | n + 1 => fun t13_ => slices_Equal_int_int.s0 N s1_ s2_ (slices_Equal_int_int.L N s1_ s2_ n) t13_
def slices_Equal_int_int.l0 (N : Nat) (s1_ : (List Int)) (s2_ : (List Int)) (n : Nat) : Int → Option Bool := (slices_Equal_int_int.L N s1_ s2_ n)
theorem slices_Equal_int_int.l0_s (N : Nat) (s1_ : (List Int)) (s2_ : (List Int)) (n : Nat) (t13_ : Int) : slices_Equal_int_int.l0 N s1_ s2_ (n + 1) t13_ = slices_Equal_int_int.s0 N s1_ s2_ (slices_Equal_int_int.l0 N s1_ s2_ n) t13_ := rfl
def slices_Equal_int_int (N : Nat) (s1_ : (List Int)) (s2_ : (List Int)) : Option Bool := slices_Equal_int_int.e N (slices_Equal_int_int.l0 N s1_ s2_ N) s1_ s2_
/-! ### f25: gamehall/place.Same -/
def place_Same.e (N : Nat) (p_ : ((List Int) × (((List Int) × (List Int)) × (Int × Int)))) (q_ : ((List Int) × (((List Int) × (List Int)) × (Int × Int)))) : Option Bool :=
  bif (eqI p_.2.2.1 q_.2.2.1) then ((slices_Equal_int_int N p_.1 q_.1).bind fun y1 =>
    bif y1 then ((slices_Equal_int_int N p_.2.1.1 q_.2.1.1).bind fun y2 =>
      bif y2 then ((slices_Equal_int_int N p_.2.1.2 q_.2.1.2).bind fun y3 =>
        some y3)
      else some false)
    else some false)
  else some false
def place_Same (N : Nat) (p_ : ((List Int) × (((List Int) × (List Int)) × (Int × Int)))) (q_ : ((List Int) × (((List Int) × (List Int)) × (Int × Int)))) : Option Bool := place_Same.e N p_ q_
/-! ### f67: gamehall/rules.Copy -/
def rules_Copy.e (N : Nat) (r0 : Int → Int → (List (Int × (Int × (Int × (List (Int × (Int × (Int × Int)))))))) → Option (ByteArray × (Int × (Int × ((List (Int × (Int × (Int × (List (Int × (Int × (Int × Int)))))))) × ((List Int) × (Bool × (Bool × ((List (Int × (Int × (Int × Bool)))) × (Int × (Int × Int))))))))))) (r_ : (ByteArray × (Int × (Int × ((List (Int × (Int × (Int × (List (Int × (Int × (Int × Int)))))))) × ((List Int) × (Bool × (Bool × ((List (Int × (Int × (Int × Bool)))) × (Int × (Int × Int))))))))))) : Option (ByteArray × (Int × (Int × ((List (Int × (Int × (Int × (List (Int × (Int × (Int × Int)))))))) × ((List Int) × (Bool × (Bool × ((List (Int × (Int × (Int × Bool)))) × (Int × (Int × Int)))))))))) :=
  let v1 : Int := (r_.2.2.2.1.length : Int)
  chk (leI 0 v1 && (decide (v1 < 9223372036854775808) && capOk 48 v1.toNat)) <|
  r0 (r_.2.2.2.1.length : Int) 0 (List.replicate v1.toNat ((0 : Int), ((0 : Int), ((0 : Int), ([] : (List (Int × (Int × (Int × Int)))))))))
def rules_Copy.s0 (N : Nat) (r_ : (ByteArray × (Int × (Int × ((List (Int × (Int × (Int × (List (Int × (Int × (Int × Int)))))))) × ((List Int) × (Bool × (Bool × ((List (Int × (Int × (Int × Bool)))) × (Int × (Int × Int))))))))))) (r0 : Int → Int → (List (Int × (Int × (Int × (List (Int × (Int × (Int × Int)))))))) → Option (ByteArray × (Int × (Int × ((List (Int × (Int × (Int × (List (Int × (Int × (Int × Int)))))))) × ((List Int) × (Bool × (Bool × ((List (Int × (Int × (Int × Bool)))) × (Int × (Int × Int))))))))))) (t14_ : Int) (t15_ : Int) (m3_ : (List (Int × (Int × (Int × (List (Int × (Int × (Int × Int))))))))) : Option (ByteArray × (Int × (Int × ((List (Int × (Int × (Int × (List (Int × (Int × (Int × Int)))))))) × ((List Int) × (Bool × (Bool × ((List (Int × (Int × (Int × Bool)))) × (Int × (Int × Int)))))))))) :=
  bif (ltI t15_ t14_) then (chk ((leI 0 t15_) && (ltI t15_ (r_.2.2.2.1.length : Int))) <|
    chk (capOk 32 (gD ((0 : Int), ((0 : Int), ((0 : Int), ([] : (List (Int × (Int × (Int × Int)))))))) r_.2.2.2.1 t15_).2.2.2.length) <|
    chk ((leI 0 t15_) && (ltI t15_ (m3_.length : Int))) <|
    r0 t14_ (w64 (t15_ + 1)) (m3_.set t15_.toNat (gD ((0 : Int), ((0 : Int), ((0 : Int), ([] : (List (Int × (Int × (Int × Int)))))))) r_.2.2.2.1 t15_)))
  else chk (capOk 8 r_.2.2.2.2.1.length) <|
  chk (capOk 32 r_.2.2.2.2.2.2.2.1.length) <|
  some (r_.1, (r_.2.1, (r_.2.2.1, (m3_, r_.2.2.2.2))))
def rules_Copy.L (N : Nat) (r_ : (ByteArray × (Int × (Int × ((List (Int × (Int × (Int × (List (Int × (Int × (Int × Int)))))))) × ((List Int) × (Bool × (Bool × ((List (Int × (Int × (Int × Bool)))) × (Int × (Int × Int))))))))))) : Nat → (Int → Int → (List (Int × (Int × (Int × (List (Int × (Int × (Int × Int)))))))) → Option (ByteArray × (Int × (Int × ((List (Int × (Int × (Int × (List (Int × (Int × (Int × Int)))))))) × ((List Int) × (Bool × (Bool × ((List (Int × (Int × (Int × Bool)))) × (Int × (Int × Int)))))))))))
  | 0 => fun _ _ _ => none
  | n + 1 => fun t14_ t15_ m3_ => rules_Copy.s0 N r_ (rules_Copy.L N r_ n) t14_ t15_ m3_
def rules_Copy.l0 (N : Nat) (r_ : (ByteArray × (Int × (Int × ((List (Int × (Int × (Int × (List (Int × (Int × (Int × Int)))))))) × ((List Int) × (Bool × (Bool × ((List (Int × (Int × (Int × Bool)))) × (Int × (Int × Int))))))))))) (n : Nat) : Int → Int → (List (Int × (Int × (Int × (List (Int × (Int × (Int × Int)))))))) → Option (ByteArray × (Int × (Int × ((List (Int × (Int × (Int × (List (Int × (Int × (Int × Int)))))))) × ((List Int) × (Bool × (Bool × ((List (Int × (Int × (Int × Bool)))) × (Int × (Int × Int)))))))))) := (rules_Copy.L N r_ n)
theorem rules_Copy.l0_s (N : Nat) (r_ : (ByteArray × (Int × (Int × ((List (Int × (Int × (Int × (List (Int × (Int × (Int × Int)))))))) × ((List Int) × (Bool × (Bool × ((List (Int × (Int × (Int × Bool)))) × (Int × (Int × Int))))))))))) (n : Nat) (t14_ : Int) (t15_ : Int) (m3_ : (List (Int × (Int × (Int × (List (Int × (Int × (Int × Int))))))))) : rules_Copy.l0 N r_ (n + 1) t14_ t15_ m3_ = rules_Copy.s0 N r_ (rules_Copy.l0 N r_ n) t14_ t15_ m3_ := rfl
def rules_Copy (N : Nat) (r_ : (ByteArray × (Int × (Int × ((List (Int × (Int × (Int × (List (Int × (Int × (Int × Int)))))))) × ((List Int) × (Bool × (Bool × ((List (Int × (Int × (Int × Bool)))) × (Int × (Int × Int))))))))))) : Option (ByteArray × (Int × (Int × ((List (Int × (Int × (Int × (List (Int × (Int × (Int × Int)))))))) × ((List Int) × (Bool × (Bool × ((List (Int × (Int × (Int × Bool)))) × (Int × (Int × Int)))))))))) := rules_Copy.e N (rules_Copy.l0 N r_ N) r_
/-! ### f26: gamehall/rules.Mirror -/
def rules_Mirror.e (N : Nat) (r0 : Int → Int → (List (Int × (Int × (Int × (List (Int × (Int × (Int × Int)))))))) → (List Int) → (List (Int × (Int × (Int × Bool)))) → ByteArray → Int → Int → Bool → Bool → Int → Int → Int → Option ((ByteArray × (Int × (Int × ((List (Int × (Int × (Int × (List (Int × (Int × (Int × Int)))))))) × ((List Int) × (Bool × (Bool × ((List (Int × (Int × (Int × Bool)))) × (Int × (Int × Int)))))))))) × Int)) (r_ : (ByteArray × (Int × (Int × ((List (Int × (Int × (Int × (List (Int × (Int × (Int × Int)))))))) × ((List Int) × (Bool × (Bool × ((List (Int × (Int × (Int × Bool)))) × (Int × (Int × Int))))))))))) : Option ((ByteArray × (Int × (Int × ((List (Int × (Int × (Int × (List (Int × (Int × (Int × Int)))))))) × ((List Int) × (Bool × (Bool × ((List (Int × (Int × (Int × Bool)))) × (Int × (Int × Int)))))))))) × Int) :=
  (rules_Check N r_).bind fun y1 =>
  bif (!(eqI y1 0)) then (some (((⟨#[]⟩ : ByteArray), (0, (0, ([], ([], (false, (false, ([], (0, (0, 0)))))))))), y1))
  else (rules_Copy N r_).bind fun y2 =>
  r0 (r_.2.2.2.2.1.length : Int) 0 y2.2.2.2.1 y2.2.2.2.2.1 y2.2.2.2.2.2.2.2.1 y2.1 y2.2.1 y2.2.2.1 y2.2.2.2.2.2.1 y2.2.2.2.2.2.2.1 y2.2.2.2.2.2.2.2.2.1 y2.2.2.2.2.2.2.2.2.2.1 y2.2.2.2.2.2.2.2.2.2.2
def rules_Mirror.s0 (N : Nat) (r_ : (ByteArray × (Int × (Int × ((List (Int × (Int × (Int × (List (Int × (Int × (Int × Int)))))))) × ((List Int) × (Bool × (Bool × ((List (Int × (Int × (Int × Bool)))) × (Int × (Int × Int))))))))))) (r0 : Int → Int → (List (Int × (Int × (Int × (List (Int × (Int × (Int × Int)))))))) → (List Int) → (List (Int × (Int × (Int × Bool)))) → ByteArray → Int → Int → Bool → Bool → Int → Int → Int → Option ((ByteArray × (Int × (Int × ((List (Int × (Int × (Int × (List (Int × (Int × (Int × Int)))))))) × ((List Int) × (Bool × (Bool × ((List (Int × (Int × (Int × Bool)))) × (Int × (Int × Int)))))))))) × Int)) (t18_ : Int) (t19_ : Int) (m2_ : (List (Int × (Int × (Int × (List (Int × (Int × (Int × Int))))))))) (m3_ : (List Int)) (m4_ : (List (Int × (Int × (Int × Bool))))) (out : ByteArray) (out2 : Int) (out3 : Int) (out4 : Bool) (out5 : Bool) (out6 : Int) (out7 : Int) (out8 : Int) : Option ((ByteArray × (Int × (Int × ((List (Int × (Int × (Int × (List (Int × (Int × (Int × Int)))))))) × ((List Int) × (Bool × (Bool × ((List (Int × (Int × (Int × Bool)))) × (Int × (Int × Int)))))))))) × Int) :=
  bif (ltI t19_ t18_) then (chk ((leI 0 t19_) && (ltI t19_ (r_.2.2.2.2.1.length : Int))) <|
    (rules_Turned N r_ t19_).bind fun y4 =>
    (rules_Swapped N (gD (0 : Int) r_.2.2.2.2.1 t19_)).bind fun y5 =>
    chk ((leI 0 y4) && (ltI y4 (m3_.length : Int))) <|
    r0 t18_ (w64 (t19_ + 1)) m2_ (m3_.set y4.toNat y5) m4_ out out2 out3 out4 out5 out6 out7 out8)
  else some ((out, (out2, (out3, (m2_, (m3_, (out4, (out5, (m4_, (out6, (out7, out8)))))))))), 0)
def rules_Mirror.L (N : Nat) (r_ : (ByteArray × (Int × (Int × ((List (Int × (Int × (Int × (List (Int × (Int × (Int × Int)))))))) × ((List Int) × (Bool × (Bool × ((List (Int × (Int × (Int × Bool)))) × (Int × (Int × Int))))))))))) : Nat → (Int → Int → (List (Int × (Int × (Int × (List (Int × (Int × (Int × Int)))))))) → (List Int) → (List (Int × (Int × (Int × Bool)))) → ByteArray → Int → Int → Bool → Bool → Int → Int → Int → Option ((ByteArray × (Int × (Int × ((List (Int × (Int × (Int × (List (Int × (Int × (Int × Int)))))))) × ((List Int) × (Bool × (Bool × ((List (Int × (Int × (Int × Bool)))) × (Int × (Int × Int)))))))))) × Int))
  | 0 => fun _ _ _ _ _ _ _ _ _ _ _ _ _ => none
  | n + 1 => fun t18_ t19_ m2_ m3_ m4_ out out2 out3 out4 out5 out6 out7 out8 => rules_Mirror.s0 N r_ (rules_Mirror.L N r_ n) t18_ t19_ m2_ m3_ m4_ out out2 out3 out4 out5 out6 out7 out8
def rules_Mirror.l0 (N : Nat) (r_ : (ByteArray × (Int × (Int × ((List (Int × (Int × (Int × (List (Int × (Int × (Int × Int)))))))) × ((List Int) × (Bool × (Bool × ((List (Int × (Int × (Int × Bool)))) × (Int × (Int × Int))))))))))) (n : Nat) : Int → Int → (List (Int × (Int × (Int × (List (Int × (Int × (Int × Int)))))))) → (List Int) → (List (Int × (Int × (Int × Bool)))) → ByteArray → Int → Int → Bool → Bool → Int → Int → Int → Option ((ByteArray × (Int × (Int × ((List (Int × (Int × (Int × (List (Int × (Int × (Int × Int)))))))) × ((List Int) × (Bool × (Bool × ((List (Int × (Int × (Int × Bool)))) × (Int × (Int × Int)))))))))) × Int) := (rules_Mirror.L N r_ n)
theorem rules_Mirror.l0_s (N : Nat) (r_ : (ByteArray × (Int × (Int × ((List (Int × (Int × (Int × (List (Int × (Int × (Int × Int)))))))) × ((List Int) × (Bool × (Bool × ((List (Int × (Int × (Int × Bool)))) × (Int × (Int × Int))))))))))) (n : Nat) (t18_ : Int) (t19_ : Int) (m2_ : (List (Int × (Int × (Int × (List (Int × (Int × (Int × Int))))))))) (m3_ : (List Int)) (m4_ : (List (Int × (Int × (Int × Bool))))) (out : ByteArray) (out2 : Int) (out3 : Int) (out4 : Bool) (out5 : Bool) (out6 : Int) (out7 : Int) (out8 : Int) : rules_Mirror.l0 N r_ (n + 1) t18_ t19_ m2_ m3_ m4_ out out2 out3 out4 out5 out6 out7 out8 = rules_Mirror.s0 N r_ (rules_Mirror.l0 N r_ n) t18_ t19_ m2_ m3_ m4_ out out2 out3 out4 out5 out6 out7 out8 := rfl
def rules_Mirror (N : Nat) (r_ : (ByteArray × (Int × (Int × ((List (Int × (Int × (Int × (List (Int × (Int × (Int × Int)))))))) × ((List Int) × (Bool × (Bool × ((List (Int × (Int × (Int × Bool)))) × (Int × (Int × Int))))))))))) : Option ((ByteArray × (Int × (Int × ((List (Int × (Int × (Int × (List (Int × (Int × (Int × Int)))))))) × ((List Int) × (Bool × (Bool × ((List (Int × (Int × (Int × Bool)))) × (Int × (Int × Int)))))))))) × Int) := rules_Mirror.e N (rules_Mirror.l0 N r_ N) r_
/-! ### f61: gamehall/gamehallkeep1.fine$1 -/
def gamehallkeep1_fine_1.e (N : Nat) (e_ : Int) : Option Bool :=
  some (!(eqI e_ 0))
def gamehallkeep1_fine_1 (N : Nat) (e_ : Int) : Option Bool := gamehallkeep1_fine_1.e N e_
/-! ### f89: slices.IndexFunc[[]gamehall/api.Errno,gamehall/api.Errno] -/
def slices_IndexFunc_api_Errno_api_Errno.e (N : Nat) (r0 : Int → Option Int) (s_ : (List Int)) : Option Int :=
  r0 0
def slices_IndexFunc_api_Errno_api_Errno.s0 (N : Nat) (s_ : (List Int)) (r0 : Int → Option Int) (t8_ : Int) : Option Int :=
  bif (ltI t8_ (s_.length : Int)) then (chk ((leI 0 t8_) && (ltI t8_ (s_.length : Int))) <|
    (gamehallkeep1_fine_1 N (gD (0 : Int) s_ t8_)).bind fun y2 =>
    bif y2 then some t8_
    else r0 (w64 (t8_ + 1)))
  else some (-1)
def slices_IndexFunc_api_Errno_api_Errno.L (N : Nat) (s_ : (List Int)) : Nat → (Int → Option Int)
  | 0 => fun _ => none
  | n + 1 => fun t8_ => slices_IndexFunc_api_Errno_api_Errno.s0 N s_ (slices_IndexFunc_api_Errno_api_Errno.L N s_ n) t8_
def slices_IndexFunc_api_Errno_api_Errno.l0 (N : Nat) (s_ : (List Int)) (n : Nat) : Int → Option Int := (slices_IndexFunc_api_Errno_api_Errno.L N s_ n)
theorem slices_IndexFunc_api_Errno_api_Errno.l0_s (N : Nat) (s_ : (List Int)) (n : Nat) (t8_ : Int) : slices_IndexFunc_api_Errno_api_Errno.l0 N s_ (n + 1) t8_ = slices_IndexFunc_api_Errno_api_Errno.s0 N s_ (slices_IndexFunc_api_Errno_api_Errno.l0 N s_ n) t8_ := rfl
def slices_IndexFunc_api_Errno_api_Errno (N : Nat) (s_ : (List Int)) : Option Int := slices_IndexFunc_api_Errno_api_Errno.e N (slices_IndexFunc_api_Errno_api_Errno.l0 N s_ N) s_
/-! ### f60: slices.ContainsFunc[[]gamehall/api.Errno,gamehall/api.Errno] -/
def slices_ContainsFunc_api_Errno_api_Errno.e (N : Nat) (s_ : (List Int)) : Option Bool :=
  (slices_IndexFunc_api_Errno_api_Errno N s_).bind fun y1 =>
  some (leI 0 y1)
def slices_ContainsFunc_api_Errno_api_Errno (N : Nat) (s_ : (List Int)) : Option Bool := slices_ContainsFunc_api_Errno_api_Errno.e N s_
/-! ### f18: gamehall/gamehallkeep1.fine -/
def gamehallkeep1_fine.e (N : Nat) (l_ : (List Int)) : Option Bool :=
  (slices_ContainsFunc_api_Errno_api_Errno N l_).bind fun y1 =>
  some (!y1)
def gamehallkeep1_fine (N : Nat) (l_ : (List Int)) : Option Bool := gamehallkeep1_fine.e N l_
/-! ### f28: gamehall/gamehallkeep1.same -/
def gamehallkeep1_same.e (N : Nat) (p_ : ((List Int) × (((List Int) × (List Int)) × (Int × Int)))) (q_ : ((List Int) × (((List Int) × (List Int)) × (Int × Int)))) : Option Bool :=
  bif (eqI p_.2.2.1 q_.2.2.1) then (bif (eqI p_.2.2.2 q_.2.2.2) then ((slices_Equal_int_int N p_.1 q_.1).bind fun y1 =>
      bif y1 then ((slices_Equal_int_int N p_.2.1.1 q_.2.1.1).bind fun y2 =>
        bif y2 then ((slices_Equal_int_int N p_.2.1.2 q_.2.1.2).bind fun y3 =>
          some y3)
        else some false)
      else some false)
    else some false)
  else some false
def gamehallkeep1_same (N : Nat) (p_ : ((List Int) × (((List Int) × (List Int)) × (Int × Int)))) (q_ : ((List Int) × (((List Int) × (List Int)) × (Int × Int)))) : Option Bool := gamehallkeep1_same.e N p_ q_
/-! ### f4: gamehall/gamehallkeep1.PlaceOther -/
def gamehallkeep1_PlaceOther.e (N : Nat) (r_ : (ByteArray × (Int × (Int × ((List (Int × (Int × (Int × (List (Int × (Int × (Int × Int)))))))) × ((List Int) × (Bool × (Bool × ((List (Int × (Int × (Int × Bool)))) × (Int × (Int × Int))))))))))) (p_ : ((List Int) × (((List Int) × (List Int)) × (Int × Int)))) : Option Bool :=
  (gamehallkeep1_three N).bind fun y1 =>
  (gamehallkeep1_near N).bind fun y2 =>
  (place_Other N y1 y2).bind fun y3 =>
  bif (!(eqI y3.2 0)) then some false
  else (slices_Equal_int_int N y3.1.1 [0, 0, 0, 1, 1, 0, 2, 2, 0]).bind fun y5 =>
  bif (!y5) then some false
  else bif (!(eqI y3.1.2.2.1 1)) then some false
  else (place_Same N y3.1 y3.1).bind fun y6 =>
  bif (!y6) then some false
  else (gamehallkeep1_three N).bind fun y7 =>
  (rules_Mirror N y7).bind fun y8 =>
  bif (!(eqI y8.2 0)) then some false
  else bif (!(eqI (y8.1.2.2.2.2.1.length : Int) 9)) then some false
  else (place_Other N r_ p_).bind fun y10 =>
  (rules_Mirror N r_).bind fun y11 =>
  bif (!(eqI y10.2 0)) then (some (eqI (y10.1.1.length : Int) 0))
  else (place_Other N y11.1 y10.1).bind fun y13 =>
  (gamehallkeep1_fine N [y11.2, y13.2]).bind fun y14 =>
  bif y14 then ((place_Check N y11.1 y10.1).bind fun y15 =>
    bif (eqI y15 0) then ((gamehallkeep1_same N y13.1 p_).bind fun y16 =>
      bif y16 then ((place_Same N y13.1 p_).bind fun y17 =>
        some y17)
      else some false)
    else some false)
  else some false
def gamehallkeep1_PlaceOther (N : Nat) (r_ : (ByteArray × (Int × (Int × ((List (Int × (Int × (Int × (List (Int × (Int × (Int × Int)))))))) × ((List Int) × (Bool × (Bool × ((List (Int × (Int × (Int × Bool)))) × (Int × (Int × Int))))))))))) (p_ : ((List Int) × (((List Int) × (List Int)) × (Int × Int)))) : Option Bool := gamehallkeep1_PlaceOther.e N r_ p_
end Go.Proofs.Ytjmcjiklfhmdlaa.Am
