/- PRINTED by gen.py: what the functions compute, as plain Lean functions with fuel. -/
import Derived.Test.YtiacnffpgdikoaaAm14
set_option linter.unusedVariables false
set_option linter.unusedSimpArgs false
namespace Go.Proofs.Ytiacnffpgdikoaa.Am
open Go
noncomputable section
abbrev TWay := Int × (Int × (Int × Int))
abbrev TPiece := Int × (Int × (Int × (List TWay)))
abbrev TEnd := Int × (Int × (Int × Bool))
abbrev TMv := Int × (Int × Int)
abbrev LMv := List TMv
abbrev LInt := List Int
abbrev TRules := ByteArray × (Int × (Int × ((List TPiece) × (LInt × (Bool × (Bool × ((List TEnd) × (Int × (Int × Int)))))))))
abbrev TPos := LInt × ((LInt × LInt) × (Int × Int))
abbrev TUndo := TMv × (Int × (Int × (Bool × (Int × Int))))
abbrev TBoard := TRules × (TPos × (Int × (List TUndo)))
/-! ### f8: gamehall/gamehallkeep1.three -/
def gamehallkeep1_three.e (N : Nat) : Option TRules :=
  chk (leI 0 9 && (decide ((9 : Int).toNat ≤ 140737488355328) && capOk 8 (9 : Int).toNat)) <|
  some ((⟨#[84, 73, 67]⟩ : ByteArray), (3, (3, ([(65, (5, (0, [])))], ((List.replicate (9 : Int).toNat (0 : Int)), (false, (false, ([(0, (0, (3, false)))], (2, (0, 0))))))))))
def gamehallkeep1_three (N : Nat) : Option TRules := gamehallkeep1_three.e N
/-! ### f9: gamehall/gamehallkeep1.near -/
def gamehallkeep1_near.e (N : Nat) : Option TPos :=
  some ([1, 1, 0, 2, 2, 0, 0, 0, 0], (([3], [3]), (0, 0)))
def gamehallkeep1_near (N : Nat) : Option TPos := gamehallkeep1_near.e N
/-! ### f80: gamehall/rules.Name -/
def rules_Name.e (N : Nat) (r0 : Int → Option Bool) (s_ : ByteArray) : Option Bool :=
  bif (s_.toList == (⟨#[]⟩ : ByteArray).toList) then some false
  else bif (ltI 8 (s_.size : Int)) then some false
  else chk (true && ltI 0 (s_.size : Int)) <|
  bif (leI 48 (bt s_ 0)) then (chk (true && ltI 0 (s_.size : Int)) <|
    bif (leI (bt s_ 0) 57) then some false
    else r0 0)
  else r0 0
def rules_Name.s0 (N : Nat) (s_ : ByteArray) (r0 : Int → Option Bool) (t23_ : Int) : Option Bool :=
  bif (ltI t23_ (s_.size : Int)) then (chk ((leI 0 t23_) && ltI t23_ (s_.size : Int)) <|
    bif (ltI (bt s_ t23_) 65) then (chk ((leI 0 t23_) && ltI t23_ (s_.size : Int)) <|
      bif (ltI (bt s_ t23_) 48) then some false
      else chk ((leI 0 t23_) && ltI t23_ (s_.size : Int)) <|
      bif (ltI 57 (bt s_ t23_)) then some false
      else r0 (w64 (t23_ + 1)))
    else chk ((leI 0 t23_) && ltI t23_ (s_.size : Int)) <|
    bif (ltI 90 (bt s_ t23_)) then (chk ((leI 0 t23_) && ltI t23_ (s_.size : Int)) <|
      bif (ltI (bt s_ t23_) 48) then some false
      else chk ((leI 0 t23_) && ltI t23_ (s_.size : Int)) <|
      bif (ltI 57 (bt s_ t23_)) then some false
      else r0 (w64 (t23_ + 1)))
    else r0 (w64 (t23_ + 1)))
  else some true
def rules_Name.L (N : Nat) (s_ : ByteArray) : Nat → (Int → Option Bool)
  | 0 => fun _ => none
  | n + 1 => fun t23_ => rules_Name.s0 N s_ (rules_Name.L N s_ n) t23_
def rules_Name.l0 (N : Nat) (s_ : ByteArray) (n : Nat) : Int → Option Bool := (rules_Name.L N s_ n)
theorem rules_Name.l0_s (N : Nat) (s_ : ByteArray) (n : Nat) (t23_ : Int) : rules_Name.l0 N s_ (n + 1) t23_ = rules_Name.s0 N s_ (rules_Name.l0 N s_ n) t23_ := rfl
def rules_Name (N : Nat) (s_ : ByteArray) : Option Bool := rules_Name.e N (rules_Name.l0 N s_ N) s_
/-! ### f93: gamehall/rules.way -/
def rules_way.e (N : Nat) (w_ : TWay) : Option Int :=
  bif (ltI w_.1 (-7)) then some 4
  else bif (ltI 7 w_.1) then some 4
  else bif (ltI w_.2.1 (-7)) then some 4
  else bif (ltI 7 w_.2.1) then some 4
  else bif (eqI w_.1 0) then (bif (eqI w_.2.1 0) then some 4
    else bif (ltI w_.2.2.1 1) then some 4
    else bif (ltI 7 w_.2.2.1) then some 4
    else bif (ltI w_.2.2.2 0) then some 4
    else bif (ltI 2 w_.2.2.2) then some 4
    else some 0)
  else bif (ltI w_.2.2.1 1) then some 4
  else bif (ltI 7 w_.2.2.1) then some 4
  else bif (ltI w_.2.2.2 0) then some 4
  else bif (ltI 2 w_.2.2.2) then some 4
  else some 0
def rules_way (N : Nat) (w_ : TWay) : Option Int := rules_way.e N w_
/-! ### f81: gamehall/rules.pieces -/
def rules_pieces.e (N : Nat) (r0 : Int → Option Int) (r1 : Int → (List TPiece) → Int → Int → Int → Int → Int → (List TWay) → Option Int) (r2 : Int → (List TWay) → Int → Int → Option Int) (l_ : (List TPiece)) : Option Int :=
  bif (eqI (l_.length : Int) 0) then some 8
  else bif (ltI 6 (l_.length : Int)) then some 2
  else r0 0
def rules_pieces.s0 (N : Nat) (l_ : (List TPiece)) (r0 : Int → Option Int) (r1 : Int → (List TPiece) → Int → Int → Int → Int → Int → (List TWay) → Option Int) (r2 : Int → (List TWay) → Int → Int → Option Int) (t20_ : Int) : Option Int :=
  bif (ltI t20_ (l_.length : Int)) then (chk ((leI 0 t20_) && (ltI t20_ (l_.length : Int))) <|
    bif (ltI (gD ((0 : Int), ((0 : Int), ((0 : Int), ([] : (List TWay))))) l_ t20_).1 65) then some 6
    else bif (ltI 90 (gD ((0 : Int), ((0 : Int), ((0 : Int), ([] : (List TWay))))) l_ t20_).1) then some 6
    else chk (true && ((leI 0 t20_) && (leI t20_ (l_.length : Int)))) <|
    r1 t20_ ((l_.take t20_.toNat).drop (0 : Int).toNat) (((l_.take t20_.toNat).drop (0 : Int).toNat).length : Int) 0 (gD ((0 : Int), ((0 : Int), ((0 : Int), ([] : (List TWay))))) l_ t20_).1 (gD ((0 : Int), ((0 : Int), ((0 : Int), ([] : (List TWay))))) l_ t20_).2.1 (gD ((0 : Int), ((0 : Int), ((0 : Int), ([] : (List TWay))))) l_ t20_).2.2.1 (gD ((0 : Int), ((0 : Int), ((0 : Int), ([] : (List TWay))))) l_ t20_).2.2.2)
  else some 0
def rules_pieces.s1 (N : Nat) (l_ : (List TPiece)) (r0 : Int → Option Int) (r1 : Int → (List TPiece) → Int → Int → Int → Int → Int → (List TWay) → Option Int) (r2 : Int → (List TWay) → Int → Int → Option Int) (t20_ : Int) (t35_ : (List TPiece)) (t36_ : Int) (t37_ : Int) (p_ : Int) (p_2 : Int) (p_3 : Int) (p_4 : (List TWay)) : Option Int :=
  bif (ltI t37_ t36_) then (chk ((leI 0 t37_) && (ltI t37_ (t35_.length : Int))) <|
    bif (eqI (gD ((0 : Int), ((0 : Int), ((0 : Int), ([] : (List TWay))))) t35_ t37_).1 p_) then some 7
    else r1 t20_ t35_ t36_ (w64 (t37_ + 1)) p_ p_2 p_3 p_4)
  else bif (ltI p_2 0) then some 4
  else bif (ltI 64 p_2) then some 4
  else bif (ltI p_3 0) then some 4
  else bif (ltI (l_.length : Int) p_3) then some 4
  else bif (ltI 16 (p_4.length : Int)) then some 2
  else r2 t20_ p_4 (p_4.length : Int) 0
def rules_pieces.s2 (N : Nat) (l_ : (List TPiece)) (r0 : Int → Option Int) (r1 : Int → (List TPiece) → Int → Int → Int → Int → Int → (List TWay) → Option Int) (r2 : Int → (List TWay) → Int → Int → Option Int) (t20_ : Int) (t72_ : (List TWay)) (t73_ : Int) (t74_ : Int) : Option Int :=
  bif (ltI t74_ t73_) then (chk ((leI 0 t74_) && (ltI t74_ (t72_.length : Int))) <|
    (rules_way N (gD ((0 : Int), ((0 : Int), ((0 : Int), (0 : Int)))) t72_ t74_)).bind fun y10 =>
    bif (!(eqI y10 0)) then some y10
    else r2 t20_ t72_ t73_ (w64 (t74_ + 1)))
  else r0 (w64 (t20_ + 1))
def rules_pieces.L (N : Nat) (l_ : (List TPiece)) : Nat → (Int → Option Int) × (Int → (List TPiece) → Int → Int → Int → Int → Int → (List TWay) → Option Int) × (Int → (List TWay) → Int → Int → Option Int)
  | 0 => (fun _ => none, fun _ _ _ _ _ _ _ _ => none, fun _ _ _ _ => none)
  | n + 1 => (fun t20_ => rules_pieces.s0 N l_ (rules_pieces.L N l_ n).1 (rules_pieces.L N l_ n).2.1 (rules_pieces.L N l_ n).2.2 t20_, fun t20_ t35_ t36_ t37_ p_ p_2 p_3 p_4 => rules_pieces.s1 N l_ (rules_pieces.L N l_ n).1 (rules_pieces.L N l_ n).2.1 (rules_pieces.L N l_ n).2.2 t20_ t35_ t36_ t37_ p_ p_2 p_3 p_4, fun t20_ t72_ t73_ t74_ => rules_pieces.s2 N l_ (rules_pieces.L N l_ n).1 (rules_pieces.L N l_ n).2.1 (rules_pieces.L N l_ n).2.2 t20_ t72_ t73_ t74_)
def rules_pieces.l0 (N : Nat) (l_ : (List TPiece)) (n : Nat) : Int → Option Int := (rules_pieces.L N l_ n).1
def rules_pieces.l1 (N : Nat) (l_ : (List TPiece)) (n : Nat) : Int → (List TPiece) → Int → Int → Int → Int → Int → (List TWay) → Option Int := (rules_pieces.L N l_ n).2.1
def rules_pieces.l2 (N : Nat) (l_ : (List TPiece)) (n : Nat) : Int → (List TWay) → Int → Int → Option Int := (rules_pieces.L N l_ n).2.2
theorem rules_pieces.l0_s (N : Nat) (l_ : (List TPiece)) (n : Nat) (t20_ : Int) : rules_pieces.l0 N l_ (n + 1) t20_ = rules_pieces.s0 N l_ (rules_pieces.l0 N l_ n) (rules_pieces.l1 N l_ n) (rules_pieces.l2 N l_ n) t20_ := rfl
theorem rules_pieces.l1_s (N : Nat) (l_ : (List TPiece)) (n : Nat) (t20_ : Int) (t35_ : (List TPiece)) (t36_ : Int) (t37_ : Int) (p_ : Int) (p_2 : Int) (p_3 : Int) (p_4 : (List TWay)) : rules_pieces.l1 N l_ (n + 1) t20_ t35_ t36_ t37_ p_ p_2 p_3 p_4 = rules_pieces.s1 N l_ (rules_pieces.l0 N l_ n) (rules_pieces.l1 N l_ n) (rules_pieces.l2 N l_ n) t20_ t35_ t36_ t37_ p_ p_2 p_3 p_4 := rfl
theorem rules_pieces.l2_s (N : Nat) (l_ : (List TPiece)) (n : Nat) (t20_ : Int) (t72_ : (List TWay)) (t73_ : Int) (t74_ : Int) : rules_pieces.l2 N l_ (n + 1) t20_ t72_ t73_ t74_ = rules_pieces.s2 N l_ (rules_pieces.l0 N l_ n) (rules_pieces.l1 N l_ n) (rules_pieces.l2 N l_ n) t20_ t72_ t73_ t74_ := rfl
def rules_pieces (N : Nat) (l_ : (List TPiece)) : Option Int := rules_pieces.e N (rules_pieces.l0 N l_ N) (rules_pieces.l1 N l_ N) (rules_pieces.l2 N l_ N) l_
/-! ### f82: gamehall/rules.end -/
def rules_end.e (N : Nat) (x_ : TEnd) (types : Int) : Option Int :=
  bif (eqI x_.1 0) then (bif (!(eqI x_.2.1 0)) then some 4
    else bif (ltI x_.2.2.1 1) then some 4
    else bif (ltI 64 x_.2.2.1) then some 4
    else some 0)
  else bif (eqI x_.1 1) then (bif (ltI x_.2.1 0) then some 4
    else bif (leI types x_.2.1) then some 4
    else bif (!(eqI x_.2.2.1 0)) then some 4
    else some 0)
  else bif (eqI x_.1 2) then (bif (ltI x_.2.1 0) then some 4
    else bif (leI types x_.2.1) then some 4
    else bif (ltI x_.2.2.1 1) then some 4
    else bif (ltI 64 x_.2.2.1) then some 4
    else some 0)
  else some 1
def rules_end (N : Nat) (x_ : TEnd) (types : Int) : Option Int := rules_end.e N x_ types
/-! ### f58: gamehall/rules.Check -/
def rules_Check.e (N : Nat) (r0 : Int → Int → Option Int) (r1 : Int → Int → Option Int) (r_ : TRules) : Option Int :=
  (rules_Name N r_.1).bind fun y1 =>
  bif (!y1) then some 6
  else bif (ltI r_.2.1 1) then some 4
  else bif (ltI 8 r_.2.1) then some 4
  else bif (ltI r_.2.2.1 1) then some 4
  else bif (ltI 8 r_.2.2.1) then some 4
  else (rules_pieces N r_.2.2.2.1).bind fun y2 =>
  bif (!(eqI y2 0)) then some y2
  else bif (!(eqI (r_.2.2.2.2.1.length : Int) (w64 (r_.2.1 * r_.2.2.1)))) then some 3
  else r0 (r_.2.2.2.2.1.length : Int) 0
def rules_Check.s0 (N : Nat) (r_ : TRules) (r0 : Int → Int → Option Int) (r1 : Int → Int → Option Int) (t50_ : Int) (t51_ : Int) : Option Int :=
  bif (ltI t51_ t50_) then (chk ((leI 0 t51_) && (ltI t51_ (r_.2.2.2.2.1.length : Int))) <|
    bif (ltI (gD (0 : Int) r_.2.2.2.2.1 t51_) 0) then some 4
    else bif (ltI (w64 (2 * (r_.2.2.2.1.length : Int))) (gD (0 : Int) r_.2.2.2.2.1 t51_)) then some 4
    else r0 t50_ (w64 (t51_ + 1)))
  else bif (ltI 6 (r_.2.2.2.2.2.2.2.1.length : Int)) then some 2
  else r1 (r_.2.2.2.2.2.2.2.1.length : Int) 0
def rules_Check.s1 (N : Nat) (r_ : TRules) (r0 : Int → Int → Option Int) (r1 : Int → Int → Option Int) (t72_ : Int) (t73_ : Int) : Option Int :=
  bif (ltI t73_ t72_) then (chk ((leI 0 t73_) && (ltI t73_ (r_.2.2.2.2.2.2.2.1.length : Int))) <|
    (rules_end N (gD ((0 : Int), ((0 : Int), ((0 : Int), false))) r_.2.2.2.2.2.2.2.1 t73_) (r_.2.2.2.1.length : Int)).bind fun y12 =>
    bif (!(eqI y12 0)) then some y12
    else r1 t72_ (w64 (t73_ + 1)))
  else bif (ltI r_.2.2.2.2.2.2.2.2.1 0) then some 4
  else bif (ltI 2 r_.2.2.2.2.2.2.2.2.1) then some 4
  else bif (ltI r_.2.2.2.2.2.2.2.2.2.1 0) then some 4
  else bif (ltI 200 r_.2.2.2.2.2.2.2.2.2.1) then some 4
  else bif (ltI r_.2.2.2.2.2.2.2.2.2.2 0) then some 4
  else bif (eqI r_.2.2.2.2.2.2.2.2.2.2 1) then some 4
  else bif (ltI 5 r_.2.2.2.2.2.2.2.2.2.2) then some 4
  else some 0
def rules_Check.L (N : Nat) (r_ : TRules) : Nat → (Int → Int → Option Int) × (Int → Int → Option Int)
  | 0 => (fun _ _ => none, fun _ _ => none)
  | n + 1 => (fun t50_ t51_ => rules_Check.s0 N r_ (rules_Check.L N r_ n).1 (rules_Check.L N r_ n).2 t50_ t51_, fun t72_ t73_ => rules_Check.s1 N r_ (rules_Check.L N r_ n).1 (rules_Check.L N r_ n).2 t72_ t73_)
def rules_Check.l0 (N : Nat) (r_ : TRules) (n : Nat) : Int → Int → Option Int := (rules_Check.L N r_ n).1
def rules_Check.l1 (N : Nat) (r_ : TRules) (n : Nat) : Int → Int → Option Int := (rules_Check.L N r_ n).2
theorem rules_Check.l0_s (N : Nat) (r_ : TRules) (n : Nat) (t50_ : Int) (t51_ : Int) : rules_Check.l0 N r_ (n + 1) t50_ t51_ = rules_Check.s0 N r_ (rules_Check.l0 N r_ n) (rules_Check.l1 N r_ n) t50_ t51_ := rfl
theorem rules_Check.l1_s (N : Nat) (r_ : TRules) (n : Nat) (t72_ : Int) (t73_ : Int) : rules_Check.l1 N r_ (n + 1) t72_ t73_ = rules_Check.s1 N r_ (rules_Check.l0 N r_ n) (rules_Check.l1 N r_ n) t72_ t73_ := rfl
def rules_Check (N : Nat) (r_ : TRules) : Option Int := rules_Check.e N (rules_Check.l0 N r_ N) (rules_Check.l1 N r_ N) r_
/-! ### f34: gamehall/place.Check -/
def place_Check.e (N : Nat) (r0 : Int → Option Int) (r1 : Int → Option Int) (r2 : Int → LInt → Int → Int → Option Int) (r_ : TRules) (p_ : TPos) : Option Int :=
  (rules_Check N r_).bind fun y1 =>
  bif (!(eqI y1 0)) then some y1
  else bif (!(eqI (p_.1.length : Int) (w64 (r_.2.1 * r_.2.2.1)))) then some 3
  else bif (!(eqI (p_.2.1.1.length : Int) (r_.2.2.2.1.length : Int))) then some 3
  else bif (!(eqI (p_.2.1.2.length : Int) (r_.2.2.2.1.length : Int))) then some 3
  else r0 0
def place_Check.s0 (N : Nat) (r_ : TRules) (p_ : TPos) (r0 : Int → Option Int) (r1 : Int → Option Int) (r2 : Int → LInt → Int → Int → Option Int) (t49_ : Int) : Option Int :=
  bif (ltI t49_ (p_.1.length : Int)) then (chk ((leI 0 t49_) && (ltI t49_ (p_.1.length : Int))) <|
    bif (ltI (gD (0 : Int) p_.1 t49_) 0) then some 4
    else bif (ltI (w64 (2 * (r_.2.2.2.1.length : Int))) (gD (0 : Int) p_.1 t49_)) then some 4
    else r0 (w64 (t49_ + 1)))
  else r1 0
def place_Check.s1 (N : Nat) (r_ : TRules) (p_ : TPos) (r0 : Int → Option Int) (r1 : Int → Option Int) (r2 : Int → LInt → Int → Int → Option Int) (t66_ : Int) : Option Int :=
  bif (ltI t66_ 2) then (bif (eqI t66_ 0) then (r2 t66_ p_.2.1.1 (p_.2.1.1.length : Int) 0)
    else bif (eqI t66_ 1) then (r2 t66_ p_.2.1.2 (p_.2.1.2.length : Int) 0)
    else none)
  else bif (!(eqI p_.2.2.1 0)) then (bif (!(eqI p_.2.2.1 1)) then some 4
    else bif (ltI p_.2.2.2 0) then some 4
    else bif (ltI 200 p_.2.2.2) then some 4
    else some 0)
  else bif (ltI p_.2.2.2 0) then some 4
  else bif (ltI 200 p_.2.2.2) then some 4
  else some 0
def place_Check.s2 (N : Nat) (r_ : TRules) (p_ : TPos) (r0 : Int → Option Int) (r1 : Int → Option Int) (r2 : Int → LInt → Int → Int → Option Int) (t66_ : Int) (t69_ : LInt) (t70_ : Int) (t71_ : Int) : Option Int :=
  bif (ltI t71_ t70_) then (chk ((leI 0 t71_) && (ltI t71_ (t69_.length : Int))) <|
    bif (ltI (gD (0 : Int) t69_ t71_) 0) then some 4
    else bif (ltI 1000 (gD (0 : Int) t69_ t71_)) then some 4
    else r2 t66_ t69_ t70_ (w64 (t71_ + 1)))
  else r1 (w64 (t66_ + 1))
def place_Check.L (N : Nat) (r_ : TRules) (p_ : TPos) : Nat → (Int → Option Int) × (Int → Option Int) × (Int → LInt → Int → Int → Option Int)
  | 0 => (fun _ => none, fun _ => none, fun _ _ _ _ => none)
  | n + 1 => (fun t49_ => place_Check.s0 N r_ p_ (place_Check.L N r_ p_ n).1 (place_Check.L N r_ p_ n).2.1 (place_Check.L N r_ p_ n).2.2 t49_, fun t66_ => place_Check.s1 N r_ p_ (place_Check.L N r_ p_ n).1 (place_Check.L N r_ p_ n).2.1 (place_Check.L N r_ p_ n).2.2 t66_, fun t66_ t69_ t70_ t71_ => place_Check.s2 N r_ p_ (place_Check.L N r_ p_ n).1 (place_Check.L N r_ p_ n).2.1 (place_Check.L N r_ p_ n).2.2 t66_ t69_ t70_ t71_)
def place_Check.l0 (N : Nat) (r_ : TRules) (p_ : TPos) (n : Nat) : Int → Option Int := (place_Check.L N r_ p_ n).1
def place_Check.l1 (N : Nat) (r_ : TRules) (p_ : TPos) (n : Nat) : Int → Option Int := (place_Check.L N r_ p_ n).2.1
def place_Check.l2 (N : Nat) (r_ : TRules) (p_ : TPos) (n : Nat) : Int → LInt → Int → Int → Option Int := (place_Check.L N r_ p_ n).2.2
theorem place_Check.l0_s (N : Nat) (r_ : TRules) (p_ : TPos) (n : Nat) (t49_ : Int) : place_Check.l0 N r_ p_ (n + 1) t49_ = place_Check.s0 N r_ p_ (place_Check.l0 N r_ p_ n) (place_Check.l1 N r_ p_ n) (place_Check.l2 N r_ p_ n) t49_ := rfl
theorem place_Check.l1_s (N : Nat) (r_ : TRules) (p_ : TPos) (n : Nat) (t66_ : Int) : place_Check.l1 N r_ p_ (n + 1) t66_ = place_Check.s1 N r_ p_ (place_Check.l0 N r_ p_ n) (place_Check.l1 N r_ p_ n) (place_Check.l2 N r_ p_ n) t66_ := rfl
theorem place_Check.l2_s (N : Nat) (r_ : TRules) (p_ : TPos) (n : Nat) (t66_ : Int) (t69_ : LInt) (t70_ : Int) (t71_ : Int) : place_Check.l2 N r_ p_ (n + 1) t66_ t69_ t70_ t71_ = place_Check.s2 N r_ p_ (place_Check.l0 N r_ p_ n) (place_Check.l1 N r_ p_ n) (place_Check.l2 N r_ p_ n) t66_ t69_ t70_ t71_ := rfl
def place_Check (N : Nat) (r_ : TRules) (p_ : TPos) : Option Int := place_Check.e N (place_Check.l0 N r_ p_ N) (place_Check.l1 N r_ p_ N) (place_Check.l2 N r_ p_ N) r_ p_
/-! ### f59: slices.Clone[[]int,int] -/
def slices_Clone_int_int.e (N : Nat) (s_ : LInt) : Option LInt :=
  chk (capOk 8 (([] : List Int).length + s_.length)) <|
  some ([] ++ s_)
def slices_Clone_int_int (N : Nat) (s_ : LInt) : Option LInt := slices_Clone_int_int.e N s_
/-! ### f35: gamehall/place.Copy -/
def place_Copy.e (N : Nat) (p_ : TPos) : Option TPos :=
  (slices_Clone_int_int N p_.1).bind fun y1 =>
  (slices_Clone_int_int N p_.2.1.1).bind fun y2 =>
  (slices_Clone_int_int N p_.2.1.2).bind fun y3 =>
  some (y1, ((y2, y3), p_.2.2))
def place_Copy (N : Nat) (p_ : TPos) : Option TPos := place_Copy.e N p_
/-! ### f37: gamehall/rules.Turned -/
def rules_Turned.e (N : Nat) (r_ : TRules) (square : Int) : Option Int :=
  bif (eqI r_.2.1 0) then none
  else bif (eqI r_.2.1 0) then none
  else some (w64 ((w64 ((w64 ((w64 (r_.2.2.1 - 1)) - (w64 (Int.tdiv square r_.2.1)))) * r_.2.1)) + (Int.tmod square r_.2.1)))
def rules_Turned (N : Nat) (r_ : TRules) (square : Int) : Option Int := rules_Turned.e N r_ square
/-! ### f36: gamehall/rules.Swapped -/
def rules_Swapped.e (N : Nat) (c_ : Int) : Option Int :=
  bif (eqI c_ 0) then some 0
  else some (w64 ((Go.bits .xor .i64 (w64 (c_ - 1)) 1) + 1))
def rules_Swapped (N : Nat) (c_ : Int) : Option Int := rules_Swapped.e N c_
/-! ### f7: gamehall/place.Other -/
def place_Other.e (N : Nat) (r0 : Int → LInt → LInt → LInt → Int → Int → Option (TPos × Int)) (r_ : TRules) (p_ : TPos) : Option (TPos × Int) :=
  (place_Check N r_ p_).bind fun y1 =>
  bif (!(eqI y1 0)) then (some (([], (([], []), (0, 0))), y1))
  else (place_Copy N p_).bind fun y2 =>
  r0 0 y2.1 y2.2.1.1 y2.2.1.2 y2.2.2.1 y2.2.2.2
def place_Other.s0 (N : Nat) (r_ : TRules) (p_ : TPos) (r0 : Int → LInt → LInt → LInt → Int → Int → Option (TPos × Int)) (t22_ : Int) (m3_ : LInt) (m4_ : LInt) (m5_ : LInt) (out : Int) (out2 : Int) : Option (TPos × Int) :=
  bif (ltI t22_ (p_.1.length : Int)) then (chk ((leI 0 t22_) && (ltI t22_ (p_.1.length : Int))) <|
    (rules_Turned N r_ t22_).bind fun y4 =>
    (rules_Swapped N (gD (0 : Int) p_.1 t22_)).bind fun y5 =>
    chk ((leI 0 y4) && (ltI y4 (m3_.length : Int))) <|
    r0 (w64 (t22_ + 1)) (m3_.set y4.toNat y5) m4_ m5_ out out2)
  else some ((m3_, ((m5_, m4_), ((w64 (1 - p_.2.2.1)), out2))), 0)
def place_Other.L (N : Nat) (r_ : TRules) (p_ : TPos) : Nat → (Int → LInt → LInt → LInt → Int → Int → Option (TPos × Int))
  | 0 => fun _ _ _ _ _ _ => none
  | n + 1 => fun t22_ m3_ m4_ m5_ out out2 => place_Other.s0 N r_ p_ (place_Other.L N r_ p_ n) t22_ m3_ m4_ m5_ out out2
def place_Other.l0 (N : Nat) (r_ : TRules) (p_ : TPos) (n : Nat) : Int → LInt → LInt → LInt → Int → Int → Option (TPos × Int) := (place_Other.L N r_ p_ n)
theorem place_Other.l0_s (N : Nat) (r_ : TRules) (p_ : TPos) (n : Nat) (t22_ : Int) (m3_ : LInt) (m4_ : LInt) (m5_ : LInt) (out : Int) (out2 : Int) : place_Other.l0 N r_ p_ (n + 1) t22_ m3_ m4_ m5_ out out2 = place_Other.s0 N r_ p_ (place_Other.l0 N r_ p_ n) t22_ m3_ m4_ m5_ out out2 := rfl
def place_Other (N : Nat) (r_ : TRules) (p_ : TPos) : Option (TPos × Int) := place_Other.e N (place_Other.l0 N r_ p_ N) r_ p_
/-! ### f60: gamehall/place.Fresh -/
def place_Fresh.e (N : Nat) (r0 : Int → LInt → LInt → LInt → Option TPos) (r1 : Int → Int → Int → Int → LInt → LInt → LInt → Option TPos) (r_ : TRules) : Option TPos :=
  (slices_Clone_int_int N r_.2.2.2.2.1).bind fun y1 =>
  r0 0 y1 [] []
def place_Fresh.s0 (N : Nat) (r_ : TRules) (r0 : Int → LInt → LInt → LInt → Option TPos) (r1 : Int → Int → Int → Int → LInt → LInt → LInt → Option TPos) (t11_ : Int) (m2_ : LInt) (m4_ : LInt) (m5_ : LInt) : Option TPos :=
  bif (ltI t11_ 2) then (r1 t11_ t11_ (r_.2.2.2.1.length : Int) 0 m2_ m4_ m5_)
  else some (m2_, ((m4_, m5_), (0, 0)))
def place_Fresh.s1 (N : Nat) (r_ : TRules) (r0 : Int → LInt → LInt → LInt → Option TPos) (r1 : Int → Int → Int → Int → LInt → LInt → LInt → Option TPos) (o_ : Int) (t11_ : Int) (t16_ : Int) (t17_ : Int) (m2_ : LInt) (m4_ : LInt) (m5_ : LInt) : Option TPos :=
  bif (ltI t17_ t16_) then (chk ((leI 0 t17_) && (ltI t17_ (r_.2.2.2.1.length : Int))) <|
    bif (eqI o_ 0) then (let v3 : List Int := [(gD ((0 : Int), ((0 : Int), ((0 : Int), ([] : (List TWay))))) r_.2.2.2.1 t17_).2.1]
      chk (capOk 8 (m4_.length + v3.length)) <|
      r1 0 t11_ t16_ (w64 (t17_ + 1)) m2_ (m4_ ++ v3) m5_)
    else bif (eqI o_ 1) then (let v4 : List Int := [(gD ((0 : Int), ((0 : Int), ((0 : Int), ([] : (List TWay))))) r_.2.2.2.1 t17_).2.1]
      chk (capOk 8 (m5_.length + v4.length)) <|
      r1 1 t11_ t16_ (w64 (t17_ + 1)) m2_ m4_ (m5_ ++ v4))
    else none)
  else r0 (w64 (t11_ + 1)) m2_ m4_ m5_
def place_Fresh.L (N : Nat) (r_ : TRules) : Nat → (Int → LInt → LInt → LInt → Option TPos) × (Int → Int → Int → Int → LInt → LInt → LInt → Option TPos)
  | 0 => (fun _ _ _ _ => none, fun _ _ _ _ _ _ _ => none)
  | n + 1 => (fun t11_ m2_ m4_ m5_ => place_Fresh.s0 N r_ (place_Fresh.L N r_ n).1 (place_Fresh.L N r_ n).2 t11_ m2_ m4_ m5_, fun o_ t11_ t16_ t17_ m2_ m4_ m5_ => place_Fresh.s1 N r_ (place_Fresh.L N r_ n).1 (place_Fresh.L N r_ n).2 o_ t11_ t16_ t17_ m2_ m4_ m5_)
def place_Fresh.l0 (N : Nat) (r_ : TRules) (n : Nat) : Int → LInt → LInt → LInt → Option TPos := (place_Fresh.L N r_ n).1
def place_Fresh.l1 (N : Nat) (r_ : TRules) (n : Nat) : Int → Int → Int → Int → LInt → LInt → LInt → Option TPos := (place_Fresh.L N r_ n).2
theorem place_Fresh.l0_s (N : Nat) (r_ : TRules) (n : Nat) (t11_ : Int) (m2_ : LInt) (m4_ : LInt) (m5_ : LInt) : place_Fresh.l0 N r_ (n + 1) t11_ m2_ m4_ m5_ = place_Fresh.s0 N r_ (place_Fresh.l0 N r_ n) (place_Fresh.l1 N r_ n) t11_ m2_ m4_ m5_ := rfl
theorem place_Fresh.l1_s (N : Nat) (r_ : TRules) (n : Nat) (o_ : Int) (t11_ : Int) (t16_ : Int) (t17_ : Int) (m2_ : LInt) (m4_ : LInt) (m5_ : LInt) : place_Fresh.l1 N r_ (n + 1) o_ t11_ t16_ t17_ m2_ m4_ m5_ = place_Fresh.s1 N r_ (place_Fresh.l0 N r_ n) (place_Fresh.l1 N r_ n) o_ t11_ t16_ t17_ m2_ m4_ m5_ := rfl
def place_Fresh (N : Nat) (r_ : TRules) : Option TPos := place_Fresh.e N (place_Fresh.l0 N r_ N) (place_Fresh.l1 N r_ N) r_
/-! ### f38: gamehall/place.Begin -/
def place_Begin.e (N : Nat) (r_ : TRules) : Option (TPos × Int) :=
  (rules_Check N r_).bind fun y1 =>
  bif (!(eqI y1 0)) then (some (([], (([], []), (0, 0))), y1))
  else (place_Fresh N r_).bind fun y2 =>
  some (y2, 0)
def place_Begin (N : Nat) (r_ : TRules) : Option (TPos × Int) := place_Begin.e N r_
/-! ### f62: gamehall/moves.Owner -/
def moves_Owner.e (N : Nat) (c_ : Int) : Option Int :=
  bif (eqI c_ 0) then (some (-1))
  else some (Int.tmod (w64 (c_ - 1)) 2)
def moves_Owner (N : Nat) (c_ : Int) : Option Int := moves_Owner.e N c_
/-! ### f63: gamehall/moves.Kind -/
def moves_Kind.e (N : Nat) (c_ : Int) : Option Int :=
  some (w64 (Int.tdiv (w64 (c_ - 1)) 2))
def moves_Kind (N : Nat) (c_ : Int) : Option Int := moves_Kind.e N c_
/-! ### f103: math/bits.Len64 -/
def math_bits_Len64.e (N : Nat) (x_ : Int) : Option Int :=
  bif (leI 4294967296 x_) then (let v1 : Int := (Int.fdiv x_ (2 ^ (min (32 : Int).toNat 64)))
    bif (leI 65536 v1) then (let v2 : Int := (Int.fdiv v1 (2 ^ (min (16 : Int).toNat 64)))
      bif (leI 256 v2) then (let v3 : Int := (Int.fdiv v2 (2 ^ (min (8 : Int).toNat 64)))
        chk ((leI 0 (IntKind.wrap .u8 v3)) && ltI (IntKind.wrap .u8 v3) ((⟨#[0, 1, 2, 2, 3, 3, 3, 3, 4, 4, 4, 4, 4, 4, 4, 4, 5, 5, 5, 5, 5, 5, 5, 5, 5, 5, 5, 5, 5, 5, 5, 5, 6, 6, 6, 6, 6, 6, 6, 6, 6, 6, 6, 6, 6, 6, 6, 6, 6, 6, 6, 6, 6, 6, 6, 6, 6, 6, 6, 6, 6, 6, 6, 6, 7, 7, 7, 7, 7, 7, 7, 7, 7, 7, 7, 7, 7, 7, 7, 7, 7, 7, 7, 7, 7, 7, 7, 7, 7, 7, 7, 7, 7, 7, 7, 7, 7, 7, 7, 7, 7, 7, 7, 7, 7, 7, 7, 7, 7, 7, 7, 7, 7, 7, 7, 7, 7, 7, 7, 7, 7, 7, 7, 7, 7, 7, 7, 7, 8, 8, 8, 8, 8, 8, 8, 8, 8, 8, 8, 8, 8, 8, 8, 8, 8, 8, 8, 8, 8, 8, 8, 8, 8, 8, 8, 8, 8, 8, 8, 8, 8, 8, 8, 8, 8, 8, 8, 8, 8, 8, 8, 8, 8, 8, 8, 8, 8, 8, 8, 8, 8, 8, 8, 8, 8, 8, 8, 8, 8, 8, 8, 8, 8, 8, 8, 8, 8, 8, 8, 8, 8, 8, 8, 8, 8, 8, 8, 8, 8, 8, 8, 8, 8, 8, 8, 8, 8, 8, 8, 8, 8, 8, 8, 8, 8, 8, 8, 8, 8, 8, 8, 8, 8, 8, 8, 8, 8, 8, 8, 8, 8, 8, 8, 8, 8, 8, 8, 8, 8, 8, 8, 8, 8, 8, 8, 8]⟩ : ByteArray).size : Int)) <|
        some (w64 (56 + (w64 (bt (⟨#[0, 1, 2, 2, 3, 3, 3, 3, 4, 4, 4, 4, 4, 4, 4, 4, 5, 5, 5, 5, 5, 5, 5, 5, 5, 5, 5, 5, 5, 5, 5, 5, 6, 6, 6, 6, 6, 6, 6, 6, 6, 6, 6, 6, 6, 6, 6, 6, 6, 6, 6, 6, 6, 6, 6, 6, 6, 6, 6, 6, 6, 6, 6, 6, 7, 7, 7, 7, 7, 7, 7, 7, 7, 7, 7, 7, 7, 7, 7, 7, 7, 7, 7, 7, 7, 7, 7, 7, 7, 7, 7, 7, 7, 7, 7, 7, 7, 7, 7, 7, 7, 7, 7, 7, 7, 7, 7, 7, 7, 7, 7, 7, 7, 7, 7, 7, 7, 7, 7, 7, 7, 7, 7, 7, 7, 7, 7, 7, 8, 8, 8, 8, 8, 8, 8, 8, 8, 8, 8, 8, 8, 8, 8, 8, 8, 8, 8, 8, 8, 8, 8, 8, 8, 8, 8, 8, 8, 8, 8, 8, 8, 8, 8, 8, 8, 8, 8, 8, 8, 8, 8, 8, 8, 8, 8, 8, 8, 8, 8, 8, 8, 8, 8, 8, 8, 8, 8, 8, 8, 8, 8, 8, 8, 8, 8, 8, 8, 8, 8, 8, 8, 8, 8, 8, 8, 8, 8, 8, 8, 8, 8, 8, 8, 8, 8, 8, 8, 8, 8, 8, 8, 8, 8, 8, 8, 8, 8, 8, 8, 8, 8, 8, 8, 8, 8, 8, 8, 8, 8, 8, 8, 8, 8, 8, 8, 8, 8, 8, 8, 8, 8, 8, 8, 8, 8, 8]⟩ : ByteArray) (IntKind.wrap .u8 v3))))))
      else chk ((leI 0 (IntKind.wrap .u8 v2)) && ltI (IntKind.wrap .u8 v2) ((⟨#[0, 1, 2, 2, 3, 3, 3, 3, 4, 4, 4, 4, 4, 4, 4, 4, 5, 5, 5, 5, 5, 5, 5, 5, 5, 5, 5, 5, 5, 5, 5, 5, 6, 6, 6, 6, 6, 6, 6, 6, 6, 6, 6, 6, 6, 6, 6, 6, 6, 6, 6, 6, 6, 6, 6, 6, 6, 6, 6, 6, 6, 6, 6, 6, 7, 7, 7, 7, 7, 7, 7, 7, 7, 7, 7, 7, 7, 7, 7, 7, 7, 7, 7, 7, 7, 7, 7, 7, 7, 7, 7, 7, 7, 7, 7, 7, 7, 7, 7, 7, 7, 7, 7, 7, 7, 7, 7, 7, 7, 7, 7, 7, 7, 7, 7, 7, 7, 7, 7, 7, 7, 7, 7, 7, 7, 7, 7, 7, 8, 8, 8, 8, 8, 8, 8, 8, 8, 8, 8, 8, 8, 8, 8, 8, 8, 8, 8, 8, 8, 8, 8, 8, 8, 8, 8, 8, 8, 8, 8, 8, 8, 8, 8, 8, 8, 8, 8, 8, 8, 8, 8, 8, 8, 8, 8, 8, 8, 8, 8, 8, 8, 8, 8, 8, 8, 8, 8, 8, 8, 8, 8, 8, 8, 8, 8, 8, 8, 8, 8, 8, 8, 8, 8, 8, 8, 8, 8, 8, 8, 8, 8, 8, 8, 8, 8, 8, 8, 8, 8, 8, 8, 8, 8, 8, 8, 8, 8, 8, 8, 8, 8, 8, 8, 8, 8, 8, 8, 8, 8, 8, 8, 8, 8, 8, 8, 8, 8, 8, 8, 8, 8, 8, 8, 8, 8, 8]⟩ : ByteArray).size : Int)) <|
      some (w64 (48 + (w64 (bt (⟨#[0, 1, 2, 2, 3, 3, 3, 3, 4, 4, 4, 4, 4, 4, 4, 4, 5, 5, 5, 5, 5, 5, 5, 5, 5, 5, 5, 5, 5, 5, 5, 5, 6, 6, 6, 6, 6, 6, 6, 6, 6, 6, 6, 6, 6, 6, 6, 6, 6, 6, 6, 6, 6, 6, 6, 6, 6, 6, 6, 6, 6, 6, 6, 6, 7, 7, 7, 7, 7, 7, 7, 7, 7, 7, 7, 7, 7, 7, 7, 7, 7, 7, 7, 7, 7, 7, 7, 7, 7, 7, 7, 7, 7, 7, 7, 7, 7, 7, 7, 7, 7, 7, 7, 7, 7, 7, 7, 7, 7, 7, 7, 7, 7, 7, 7, 7, 7, 7, 7, 7, 7, 7, 7, 7, 7, 7, 7, 7, 8, 8, 8, 8, 8, 8, 8, 8, 8, 8, 8, 8, 8, 8, 8, 8, 8, 8, 8, 8, 8, 8, 8, 8, 8, 8, 8, 8, 8, 8, 8, 8, 8, 8, 8, 8, 8, 8, 8, 8, 8, 8, 8, 8, 8, 8, 8, 8, 8, 8, 8, 8, 8, 8, 8, 8, 8, 8, 8, 8, 8, 8, 8, 8, 8, 8, 8, 8, 8, 8, 8, 8, 8, 8, 8, 8, 8, 8, 8, 8, 8, 8, 8, 8, 8, 8, 8, 8, 8, 8, 8, 8, 8, 8, 8, 8, 8, 8, 8, 8, 8, 8, 8, 8, 8, 8, 8, 8, 8, 8, 8, 8, 8, 8, 8, 8, 8, 8, 8, 8, 8, 8, 8, 8, 8, 8, 8, 8]⟩ : ByteArray) (IntKind.wrap .u8 v2))))))
    else bif (leI 256 v1) then (let v6 : Int := (Int.fdiv v1 (2 ^ (min (8 : Int).toNat 64)))
      chk ((leI 0 (IntKind.wrap .u8 v6)) && ltI (IntKind.wrap .u8 v6) ((⟨#[0, 1, 2, 2, 3, 3, 3, 3, 4, 4, 4, 4, 4, 4, 4, 4, 5, 5, 5, 5, 5, 5, 5, 5, 5, 5, 5, 5, 5, 5, 5, 5, 6, 6, 6, 6, 6, 6, 6, 6, 6, 6, 6, 6, 6, 6, 6, 6, 6, 6, 6, 6, 6, 6, 6, 6, 6, 6, 6, 6, 6, 6, 6, 6, 7, 7, 7, 7, 7, 7, 7, 7, 7, 7, 7, 7, 7, 7, 7, 7, 7, 7, 7, 7, 7, 7, 7, 7, 7, 7, 7, 7, 7, 7, 7, 7, 7, 7, 7, 7, 7, 7, 7, 7, 7, 7, 7, 7, 7, 7, 7, 7, 7, 7, 7, 7, 7, 7, 7, 7, 7, 7, 7, 7, 7, 7, 7, 7, 8, 8, 8, 8, 8, 8, 8, 8, 8, 8, 8, 8, 8, 8, 8, 8, 8, 8, 8, 8, 8, 8, 8, 8, 8, 8, 8, 8, 8, 8, 8, 8, 8, 8, 8, 8, 8, 8, 8, 8, 8, 8, 8, 8, 8, 8, 8, 8, 8, 8, 8, 8, 8, 8, 8, 8, 8, 8, 8, 8, 8, 8, 8, 8, 8, 8, 8, 8, 8, 8, 8, 8, 8, 8, 8, 8, 8, 8, 8, 8, 8, 8, 8, 8, 8, 8, 8, 8, 8, 8, 8, 8, 8, 8, 8, 8, 8, 8, 8, 8, 8, 8, 8, 8, 8, 8, 8, 8, 8, 8, 8, 8, 8, 8, 8, 8, 8, 8, 8, 8, 8, 8, 8, 8, 8, 8, 8, 8]⟩ : ByteArray).size : Int)) <|
      some (w64 (40 + (w64 (bt (⟨#[0, 1, 2, 2, 3, 3, 3, 3, 4, 4, 4, 4, 4, 4, 4, 4, 5, 5, 5, 5, 5, 5, 5, 5, 5, 5, 5, 5, 5, 5, 5, 5, 6, 6, 6, 6, 6, 6, 6, 6, 6, 6, 6, 6, 6, 6, 6, 6, 6, 6, 6, 6, 6, 6, 6, 6, 6, 6, 6, 6, 6, 6, 6, 6, 7, 7, 7, 7, 7, 7, 7, 7, 7, 7, 7, 7, 7, 7, 7, 7, 7, 7, 7, 7, 7, 7, 7, 7, 7, 7, 7, 7, 7, 7, 7, 7, 7, 7, 7, 7, 7, 7, 7, 7, 7, 7, 7, 7, 7, 7, 7, 7, 7, 7, 7, 7, 7, 7, 7, 7, 7, 7, 7, 7, 7, 7, 7, 7, 8, 8, 8, 8, 8, 8, 8, 8, 8, 8, 8, 8, 8, 8, 8, 8, 8, 8, 8, 8, 8, 8, 8, 8, 8, 8, 8, 8, 8, 8, 8, 8, 8, 8, 8, 8, 8, 8, 8, 8, 8, 8, 8, 8, 8, 8, 8, 8, 8, 8, 8, 8, 8, 8, 8, 8, 8, 8, 8, 8, 8, 8, 8, 8, 8, 8, 8, 8, 8, 8, 8, 8, 8, 8, 8, 8, 8, 8, 8, 8, 8, 8, 8, 8, 8, 8, 8, 8, 8, 8, 8, 8, 8, 8, 8, 8, 8, 8, 8, 8, 8, 8, 8, 8, 8, 8, 8, 8, 8, 8, 8, 8, 8, 8, 8, 8, 8, 8, 8, 8, 8, 8, 8, 8, 8, 8, 8, 8]⟩ : ByteArray) (IntKind.wrap .u8 v6))))))
    else chk ((leI 0 (IntKind.wrap .u8 v1)) && ltI (IntKind.wrap .u8 v1) ((⟨#[0, 1, 2, 2, 3, 3, 3, 3, 4, 4, 4, 4, 4, 4, 4, 4, 5, 5, 5, 5, 5, 5, 5, 5, 5, 5, 5, 5, 5, 5, 5, 5, 6, 6, 6, 6, 6, 6, 6, 6, 6, 6, 6, 6, 6, 6, 6, 6, 6, 6, 6, 6, 6, 6, 6, 6, 6, 6, 6, 6, 6, 6, 6, 6, 7, 7, 7, 7, 7, 7, 7, 7, 7, 7, 7, 7, 7, 7, 7, 7, 7, 7, 7, 7, 7, 7, 7, 7, 7, 7, 7, 7, 7, 7, 7, 7, 7, 7, 7, 7, 7, 7, 7, 7, 7, 7, 7, 7, 7, 7, 7, 7, 7, 7, 7, 7, 7, 7, 7, 7, 7, 7, 7, 7, 7, 7, 7, 7, 8, 8, 8, 8, 8, 8, 8, 8, 8, 8, 8, 8, 8, 8, 8, 8, 8, 8, 8, 8, 8, 8, 8, 8, 8, 8, 8, 8, 8, 8, 8, 8, 8, 8, 8, 8, 8, 8, 8, 8, 8, 8, 8, 8, 8, 8, 8, 8, 8, 8, 8, 8, 8, 8, 8, 8, 8, 8, 8, 8, 8, 8, 8, 8, 8, 8, 8, 8, 8, 8, 8, 8, 8, 8, 8, 8, 8, 8, 8, 8, 8, 8, 8, 8, 8, 8, 8, 8, 8, 8, 8, 8, 8, 8, 8, 8, 8, 8, 8, 8, 8, 8, 8, 8, 8, 8, 8, 8, 8, 8, 8, 8, 8, 8, 8, 8, 8, 8, 8, 8, 8, 8, 8, 8, 8, 8, 8, 8]⟩ : ByteArray).size : Int)) <|
    some (w64 (32 + (w64 (bt (⟨#[0, 1, 2, 2, 3, 3, 3, 3, 4, 4, 4, 4, 4, 4, 4, 4, 5, 5, 5, 5, 5, 5, 5, 5, 5, 5, 5, 5, 5, 5, 5, 5, 6, 6, 6, 6, 6, 6, 6, 6, 6, 6, 6, 6, 6, 6, 6, 6, 6, 6, 6, 6, 6, 6, 6, 6, 6, 6, 6, 6, 6, 6, 6, 6, 7, 7, 7, 7, 7, 7, 7, 7, 7, 7, 7, 7, 7, 7, 7, 7, 7, 7, 7, 7, 7, 7, 7, 7, 7, 7, 7, 7, 7, 7, 7, 7, 7, 7, 7, 7, 7, 7, 7, 7, 7, 7, 7, 7, 7, 7, 7, 7, 7, 7, 7, 7, 7, 7, 7, 7, 7, 7, 7, 7, 7, 7, 7, 7, 8, 8, 8, 8, 8, 8, 8, 8, 8, 8, 8, 8, 8, 8, 8, 8, 8, 8, 8, 8, 8, 8, 8, 8, 8, 8, 8, 8, 8, 8, 8, 8, 8, 8, 8, 8, 8, 8, 8, 8, 8, 8, 8, 8, 8, 8, 8, 8, 8, 8, 8, 8, 8, 8, 8, 8, 8, 8, 8, 8, 8, 8, 8, 8, 8, 8, 8, 8, 8, 8, 8, 8, 8, 8, 8, 8, 8, 8, 8, 8, 8, 8, 8, 8, 8, 8, 8, 8, 8, 8, 8, 8, 8, 8, 8, 8, 8, 8, 8, 8, 8, 8, 8, 8, 8, 8, 8, 8, 8, 8, 8, 8, 8, 8, 8, 8, 8, 8, 8, 8, 8, 8, 8, 8, 8, 8, 8, 8]⟩ : ByteArray) (IntKind.wrap .u8 v1))))))
  else bif (leI 65536 x_) then (let v9 : Int := (Int.fdiv x_ (2 ^ (min (16 : Int).toNat 64)))
    bif (leI 256 v9) then (let v10 : Int := (Int.fdiv v9 (2 ^ (min (8 : Int).toNat 64)))
      chk ((leI 0 (IntKind.wrap .u8 v10)) && ltI (IntKind.wrap .u8 v10) ((⟨#[0, 1, 2, 2, 3, 3, 3, 3, 4, 4, 4, 4, 4, 4, 4, 4, 5, 5, 5, 5, 5, 5, 5, 5, 5, 5, 5, 5, 5, 5, 5, 5, 6, 6, 6, 6, 6, 6, 6, 6, 6, 6, 6, 6, 6, 6, 6, 6, 6, 6, 6, 6, 6, 6, 6, 6, 6, 6, 6, 6, 6, 6, 6, 6, 7, 7, 7, 7, 7, 7, 7, 7, 7, 7, 7, 7, 7, 7, 7, 7, 7, 7, 7, 7, 7, 7, 7, 7, 7, 7, 7, 7, 7, 7, 7, 7, 7, 7, 7, 7, 7, 7, 7, 7, 7, 7, 7, 7, 7, 7, 7, 7, 7, 7, 7, 7, 7, 7, 7, 7, 7, 7, 7, 7, 7, 7, 7, 7, 8, 8, 8, 8, 8, 8, 8, 8, 8, 8, 8, 8, 8, 8, 8, 8, 8, 8, 8, 8, 8, 8, 8, 8, 8, 8, 8, 8, 8, 8, 8, 8, 8, 8, 8, 8, 8, 8, 8, 8, 8, 8, 8, 8, 8, 8, 8, 8, 8, 8, 8, 8, 8, 8, 8, 8, 8, 8, 8, 8, 8, 8, 8, 8, 8, 8, 8, 8, 8, 8, 8, 8, 8, 8, 8, 8, 8, 8, 8, 8, 8, 8, 8, 8, 8, 8, 8, 8, 8, 8, 8, 8, 8, 8, 8, 8, 8, 8, 8, 8, 8, 8, 8, 8, 8, 8, 8, 8, 8, 8, 8, 8, 8, 8, 8, 8, 8, 8, 8, 8, 8, 8, 8, 8, 8, 8, 8, 8]⟩ : ByteArray).size : Int)) <|
      some (w64 (24 + (w64 (bt (⟨#[0, 1, 2, 2, 3, 3, 3, 3, 4, 4, 4, 4, 4, 4, 4, 4, 5, 5, 5, 5, 5, 5, 5, 5, 5, 5, 5, 5, 5, 5, 5, 5, 6, 6, 6, 6, 6, 6, 6, 6, 6, 6, 6, 6, 6, 6, 6, 6, 6, 6, 6, 6, 6, 6, 6, 6, 6, 6, 6, 6, 6, 6, 6, 6, 7, 7, 7, 7, 7, 7, 7, 7, 7, 7, 7, 7, 7, 7, 7, 7, 7, 7, 7, 7, 7, 7, 7, 7, 7, 7, 7, 7, 7, 7, 7, 7, 7, 7, 7, 7, 7, 7, 7, 7, 7, 7, 7, 7, 7, 7, 7, 7, 7, 7, 7, 7, 7, 7, 7, 7, 7, 7, 7, 7, 7, 7, 7, 7, 8, 8, 8, 8, 8, 8, 8, 8, 8, 8, 8, 8, 8, 8, 8, 8, 8, 8, 8, 8, 8, 8, 8, 8, 8, 8, 8, 8, 8, 8, 8, 8, 8, 8, 8, 8, 8, 8, 8, 8, 8, 8, 8, 8, 8, 8, 8, 8, 8, 8, 8, 8, 8, 8, 8, 8, 8, 8, 8, 8, 8, 8, 8, 8, 8, 8, 8, 8, 8, 8, 8, 8, 8, 8, 8, 8, 8, 8, 8, 8, 8, 8, 8, 8, 8, 8, 8, 8, 8, 8, 8, 8, 8, 8, 8, 8, 8, 8, 8, 8, 8, 8, 8, 8, 8, 8, 8, 8, 8, 8, 8, 8, 8, 8, 8, 8, 8, 8, 8, 8, 8, 8, 8, 8, 8, 8, 8, 8]⟩ : ByteArray) (IntKind.wrap .u8 v10))))))
    else chk ((leI 0 (IntKind.wrap .u8 v9)) && ltI (IntKind.wrap .u8 v9) ((⟨#[0, 1, 2, 2, 3, 3, 3, 3, 4, 4, 4, 4, 4, 4, 4, 4, 5, 5, 5, 5, 5, 5, 5, 5, 5, 5, 5, 5, 5, 5, 5, 5, 6, 6, 6, 6, 6, 6, 6, 6, 6, 6, 6, 6, 6, 6, 6, 6, 6, 6, 6, 6, 6, 6, 6, 6, 6, 6, 6, 6, 6, 6, 6, 6, 7, 7, 7, 7, 7, 7, 7, 7, 7, 7, 7, 7, 7, 7, 7, 7, 7, 7, 7, 7, 7, 7, 7, 7, 7, 7, 7, 7, 7, 7, 7, 7, 7, 7, 7, 7, 7, 7, 7, 7, 7, 7, 7, 7, 7, 7, 7, 7, 7, 7, 7, 7, 7, 7, 7, 7, 7, 7, 7, 7, 7, 7, 7, 7, 8, 8, 8, 8, 8, 8, 8, 8, 8, 8, 8, 8, 8, 8, 8, 8, 8, 8, 8, 8, 8, 8, 8, 8, 8, 8, 8, 8, 8, 8, 8, 8, 8, 8, 8, 8, 8, 8, 8, 8, 8, 8, 8, 8, 8, 8, 8, 8, 8, 8, 8, 8, 8, 8, 8, 8, 8, 8, 8, 8, 8, 8, 8, 8, 8, 8, 8, 8, 8, 8, 8, 8, 8, 8, 8, 8, 8, 8, 8, 8, 8, 8, 8, 8, 8, 8, 8, 8, 8, 8, 8, 8, 8, 8, 8, 8, 8, 8, 8, 8, 8, 8, 8, 8, 8, 8, 8, 8, 8, 8, 8, 8, 8, 8, 8, 8, 8, 8, 8, 8, 8, 8, 8, 8, 8, 8, 8, 8]⟩ : ByteArray).size : Int)) <|
    some (w64 (16 + (w64 (bt (⟨#[0, 1, 2, 2, 3, 3, 3, 3, 4, 4, 4, 4, 4, 4, 4, 4, 5, 5, 5, 5, 5, 5, 5, 5, 5, 5, 5, 5, 5, 5, 5, 5, 6, 6, 6, 6, 6, 6, 6, 6, 6, 6, 6, 6, 6, 6, 6, 6, 6, 6, 6, 6, 6, 6, 6, 6, 6, 6, 6, 6, 6, 6, 6, 6, 7, 7, 7, 7, 7, 7, 7, 7, 7, 7, 7, 7, 7, 7, 7, 7, 7, 7, 7, 7, 7, 7, 7, 7, 7, 7, 7, 7, 7, 7, 7, 7, 7, 7, 7, 7, 7, 7, 7, 7, 7, 7, 7, 7, 7, 7, 7, 7, 7, 7, 7, 7, 7, 7, 7, 7, 7, 7, 7, 7, 7, 7, 7, 7, 8, 8, 8, 8, 8, 8, 8, 8, 8, 8, 8, 8, 8, 8, 8, 8, 8, 8, 8, 8, 8, 8, 8, 8, 8, 8, 8, 8, 8, 8, 8, 8, 8, 8, 8, 8, 8, 8, 8, 8, 8, 8, 8, 8, 8, 8, 8, 8, 8, 8, 8, 8, 8, 8, 8, 8, 8, 8, 8, 8, 8, 8, 8, 8, 8, 8, 8, 8, 8, 8, 8, 8, 8, 8, 8, 8, 8, 8, 8, 8, 8, 8, 8, 8, 8, 8, 8, 8, 8, 8, 8, 8, 8, 8, 8, 8, 8, 8, 8, 8, 8, 8, 8, 8, 8, 8, 8, 8, 8, 8, 8, 8, 8, 8, 8, 8, 8, 8, 8, 8, 8, 8, 8, 8, 8, 8, 8, 8]⟩ : ByteArray) (IntKind.wrap .u8 v9))))))
  else bif (leI 256 x_) then (let v13 : Int := (Int.fdiv x_ (2 ^ (min (8 : Int).toNat 64)))
    chk ((leI 0 (IntKind.wrap .u8 v13)) && ltI (IntKind.wrap .u8 v13) ((⟨#[0, 1, 2, 2, 3, 3, 3, 3, 4, 4, 4, 4, 4, 4, 4, 4, 5, 5, 5, 5, 5, 5, 5, 5, 5, 5, 5, 5, 5, 5, 5, 5, 6, 6, 6, 6, 6, 6, 6, 6, 6, 6, 6, 6, 6, 6, 6, 6, 6, 6, 6, 6, 6, 6, 6, 6, 6, 6, 6, 6, 6, 6, 6, 6, 7, 7, 7, 7, 7, 7, 7, 7, 7, 7, 7, 7, 7, 7, 7, 7, 7, 7, 7, 7, 7, 7, 7, 7, 7, 7, 7, 7, 7, 7, 7, 7, 7, 7, 7, 7, 7, 7, 7, 7, 7, 7, 7, 7, 7, 7, 7, 7, 7, 7, 7, 7, 7, 7, 7, 7, 7, 7, 7, 7, 7, 7, 7, 7, 8, 8, 8, 8, 8, 8, 8, 8, 8, 8, 8, 8, 8, 8, 8, 8, 8, 8, 8, 8, 8, 8, 8, 8, 8, 8, 8, 8, 8, 8, 8, 8, 8, 8, 8, 8, 8, 8, 8, 8, 8, 8, 8, 8, 8, 8, 8, 8, 8, 8, 8, 8, 8, 8, 8, 8, 8, 8, 8, 8, 8, 8, 8, 8, 8, 8, 8, 8, 8, 8, 8, 8, 8, 8, 8, 8, 8, 8, 8, 8, 8, 8, 8, 8, 8, 8, 8, 8, 8, 8, 8, 8, 8, 8, 8, 8, 8, 8, 8, 8, 8, 8, 8, 8, 8, 8, 8, 8, 8, 8, 8, 8, 8, 8, 8, 8, 8, 8, 8, 8, 8, 8, 8, 8, 8, 8, 8, 8]⟩ : ByteArray).size : Int)) <|
    some (w64 (8 + (w64 (bt (⟨#[0, 1, 2, 2, 3, 3, 3, 3, 4, 4, 4, 4, 4, 4, 4, 4, 5, 5, 5, 5, 5, 5, 5, 5, 5, 5, 5, 5, 5, 5, 5, 5, 6, 6, 6, 6, 6, 6, 6, 6, 6, 6, 6, 6, 6, 6, 6, 6, 6, 6, 6, 6, 6, 6, 6, 6, 6, 6, 6, 6, 6, 6, 6, 6, 7, 7, 7, 7, 7, 7, 7, 7, 7, 7, 7, 7, 7, 7, 7, 7, 7, 7, 7, 7, 7, 7, 7, 7, 7, 7, 7, 7, 7, 7, 7, 7, 7, 7, 7, 7, 7, 7, 7, 7, 7, 7, 7, 7, 7, 7, 7, 7, 7, 7, 7, 7, 7, 7, 7, 7, 7, 7, 7, 7, 7, 7, 7, 7, 8, 8, 8, 8, 8, 8, 8, 8, 8, 8, 8, 8, 8, 8, 8, 8, 8, 8, 8, 8, 8, 8, 8, 8, 8, 8, 8, 8, 8, 8, 8, 8, 8, 8, 8, 8, 8, 8, 8, 8, 8, 8, 8, 8, 8, 8, 8, 8, 8, 8, 8, 8, 8, 8, 8, 8, 8, 8, 8, 8, 8, 8, 8, 8, 8, 8, 8, 8, 8, 8, 8, 8, 8, 8, 8, 8, 8, 8, 8, 8, 8, 8, 8, 8, 8, 8, 8, 8, 8, 8, 8, 8, 8, 8, 8, 8, 8, 8, 8, 8, 8, 8, 8, 8, 8, 8, 8, 8, 8, 8, 8, 8, 8, 8, 8, 8, 8, 8, 8, 8, 8, 8, 8, 8, 8, 8, 8, 8]⟩ : ByteArray) (IntKind.wrap .u8 v13))))))
  else chk ((leI 0 (IntKind.wrap .u8 x_)) && ltI (IntKind.wrap .u8 x_) ((⟨#[0, 1, 2, 2, 3, 3, 3, 3, 4, 4, 4, 4, 4, 4, 4, 4, 5, 5, 5, 5, 5, 5, 5, 5, 5, 5, 5, 5, 5, 5, 5, 5, 6, 6, 6, 6, 6, 6, 6, 6, 6, 6, 6, 6, 6, 6, 6, 6, 6, 6, 6, 6, 6, 6, 6, 6, 6, 6, 6, 6, 6, 6, 6, 6, 7, 7, 7, 7, 7, 7, 7, 7, 7, 7, 7, 7, 7, 7, 7, 7, 7, 7, 7, 7, 7, 7, 7, 7, 7, 7, 7, 7, 7, 7, 7, 7, 7, 7, 7, 7, 7, 7, 7, 7, 7, 7, 7, 7, 7, 7, 7, 7, 7, 7, 7, 7, 7, 7, 7, 7, 7, 7, 7, 7, 7, 7, 7, 7, 8, 8, 8, 8, 8, 8, 8, 8, 8, 8, 8, 8, 8, 8, 8, 8, 8, 8, 8, 8, 8, 8, 8, 8, 8, 8, 8, 8, 8, 8, 8, 8, 8, 8, 8, 8, 8, 8, 8, 8, 8, 8, 8, 8, 8, 8, 8, 8, 8, 8, 8, 8, 8, 8, 8, 8, 8, 8, 8, 8, 8, 8, 8, 8, 8, 8, 8, 8, 8, 8, 8, 8, 8, 8, 8, 8, 8, 8, 8, 8, 8, 8, 8, 8, 8, 8, 8, 8, 8, 8, 8, 8, 8, 8, 8, 8, 8, 8, 8, 8, 8, 8, 8, 8, 8, 8, 8, 8, 8, 8, 8, 8, 8, 8, 8, 8, 8, 8, 8, 8, 8, 8, 8, 8, 8, 8, 8, 8]⟩ : ByteArray).size : Int)) <|
  some (w64 (0 + (w64 (bt (⟨#[0, 1, 2, 2, 3, 3, 3, 3, 4, 4, 4, 4, 4, 4, 4, 4, 5, 5, 5, 5, 5, 5, 5, 5, 5, 5, 5, 5, 5, 5, 5, 5, 6, 6, 6, 6, 6, 6, 6, 6, 6, 6, 6, 6, 6, 6, 6, 6, 6, 6, 6, 6, 6, 6, 6, 6, 6, 6, 6, 6, 6, 6, 6, 6, 7, 7, 7, 7, 7, 7, 7, 7, 7, 7, 7, 7, 7, 7, 7, 7, 7, 7, 7, 7, 7, 7, 7, 7, 7, 7, 7, 7, 7, 7, 7, 7, 7, 7, 7, 7, 7, 7, 7, 7, 7, 7, 7, 7, 7, 7, 7, 7, 7, 7, 7, 7, 7, 7, 7, 7, 7, 7, 7, 7, 7, 7, 7, 7, 8, 8, 8, 8, 8, 8, 8, 8, 8, 8, 8, 8, 8, 8, 8, 8, 8, 8, 8, 8, 8, 8, 8, 8, 8, 8, 8, 8, 8, 8, 8, 8, 8, 8, 8, 8, 8, 8, 8, 8, 8, 8, 8, 8, 8, 8, 8, 8, 8, 8, 8, 8, 8, 8, 8, 8, 8, 8, 8, 8, 8, 8, 8, 8, 8, 8, 8, 8, 8, 8, 8, 8, 8, 8, 8, 8, 8, 8, 8, 8, 8, 8, 8, 8, 8, 8, 8, 8, 8, 8, 8, 8, 8, 8, 8, 8, 8, 8, 8, 8, 8, 8, 8, 8, 8, 8, 8, 8, 8, 8, 8, 8, 8, 8, 8, 8, 8, 8, 8, 8, 8, 8, 8, 8, 8, 8, 8, 8]⟩ : ByteArray) (IntKind.wrap .u8 x_)))))
def math_bits_Len64 (N : Nat) (x_ : Int) : Option Int := math_bits_Len64.e N x_
/-! ### f85: math/bits.Len -/
def math_bits_Len.e (N : Nat) (x_ : Int) : Option Int :=
  (math_bits_Len64 N x_).bind fun y1 =>
  some y1
def math_bits_Len (N : Nat) (x_ : Int) : Option Int := math_bits_Len.e N x_
/-! ### f104: cmp.isNaN[int] -/
def cmp_isNaN_int.e (N : Nat) (x_ : Int) : Option Bool :=
  some (!(eqI x_ x_))
def cmp_isNaN_int (N : Nat) (x_ : Int) : Option Bool := cmp_isNaN_int.e N x_
/-! ### f87: cmp.Compare[int] -/
def cmp_Compare_int.e (N : Nat) (x_ : Int) (y_ : Int) : Option Int :=
  (cmp_isNaN_int N x_).bind fun y1 =>
  (cmp_isNaN_int N y_).bind fun y2 =>
  bif y1 then (bif y2 then some 0
    else some (-1))
  else bif y2 then some 1
  else bif (ltI x_ y_) then (some (-1))
  else bif (ltI y_ x_) then some 1
  else some 0
def cmp_Compare_int (N : Nat) (x_ : Int) (y_ : Int) : Option Int := cmp_Compare_int.e N x_ y_
/-! ### f86: cmp.Or[int] -/
def cmp_Or_int.e (N : Nat) (r0 : Int → Option Int) (vals : LInt) : Option Int :=
  r0 0
def cmp_Or_int.s0 (N : Nat) (vals : LInt) (r0 : Int → Option Int) (t8_ : Int) : Option Int :=
  bif (ltI t8_ (vals.length : Int)) then (chk ((leI 0 t8_) && (ltI t8_ (vals.length : Int))) <|
    bif (!(eqI (gD (0 : Int) vals t8_) 0)) then (some (gD (0 : Int) vals t8_))
    else r0 (w64 (t8_ + 1)))
  else some 0
def cmp_Or_int.L (N : Nat) (vals : LInt) : Nat → (Int → Option Int)
  | 0 => fun _ => none
  | n + 1 => fun t8_ => cmp_Or_int.s0 N vals (cmp_Or_int.L N vals n) t8_
def cmp_Or_int.l0 (N : Nat) (vals : LInt) (n : Nat) : Int → Option Int := (cmp_Or_int.L N vals n)
theorem cmp_Or_int.l0_s (N : Nat) (vals : LInt) (n : Nat) (t8_ : Int) : cmp_Or_int.l0 N vals (n + 1) t8_ = cmp_Or_int.s0 N vals (cmp_Or_int.l0 N vals n) t8_ := rfl
def cmp_Or_int (N : Nat) (vals : LInt) : Option Int := cmp_Or_int.e N (cmp_Or_int.l0 N vals N) vals
/-! ### f66: gamehall/moves.compare -/
def moves_compare.e (N : Nat) (a_ : TMv) (b_ : TMv) : Option Int :=
  (cmp_Compare_int N a_.1 b_.1).bind fun y1 =>
  (cmp_Compare_int N a_.2.1 b_.2.1).bind fun y2 =>
  (cmp_Compare_int N a_.2.2 b_.2.2).bind fun y3 =>
  (cmp_Or_int N [y1, y2, y3]).bind fun y4 =>
  some y4
def moves_compare (N : Nat) (a_ : TMv) (b_ : TMv) : Option Int := moves_compare.e N a_ b_
/-! ### f94: slices.insertionSortCmpFunc[gamehall/api.Move] -/
def slices_insertionSortCmpFunc_api_Move'.e (N : Nat) (r0 : Int → LMv → Option LMv) (r1 : Int → Int → LMv → Option LMv) (data : LMv) (a_ : Int) (b_ : Int) : Option LMv :=
  r0 (w64 (a_ + 1)) data
def slices_insertionSortCmpFunc_api_Move'.s0 (N : Nat) (data : LMv) (a_ : Int) (b_ : Int) (r0 : Int → LMv → Option LMv) (r1 : Int → Int → LMv → Option LMv) (i_ : Int) (data2 : LMv) : Option LMv :=
  bif (ltI i_ b_) then r1 i_ i_ data2
  else some data2
def slices_insertionSortCmpFunc_api_Move'.s1 (N : Nat) (data : LMv) (a_ : Int) (b_ : Int) (r0 : Int → LMv → Option LMv) (r1 : Int → Int → LMv → Option LMv) (i_ : Int) (j_ : Int) (data2 : LMv) : Option LMv :=
  bif (ltI a_ j_) then (chk ((leI 0 j_) && (ltI j_ (data2.length : Int))) <|
    chk ((leI 0 (w64 (j_ - 1))) && (ltI (w64 (j_ - 1)) (data2.length : Int))) <|
    (moves_compare N (gD ((0 : Int), ((0 : Int), (0 : Int))) data2 j_) (gD ((0 : Int), ((0 : Int), (0 : Int))) data2 (w64 (j_ - 1)))).bind fun y1 =>
    bif (ltI y1 0) then (chk ((leI 0 (w64 (j_ - 1))) && (ltI (w64 (j_ - 1)) (data2.length : Int))) <|
      chk ((leI 0 j_) && (ltI j_ (data2.length : Int))) <|
      chk ((leI 0 j_) && (ltI j_ (data2.length : Int))) <|
      let v2 : List TMv := (data2.set j_.toNat (gD ((0 : Int), ((0 : Int), (0 : Int))) data2 (w64 (j_ - 1))))
      chk ((leI 0 (w64 (j_ - 1))) && (ltI (w64 (j_ - 1)) (v2.length : Int))) <|
      r1 i_ (w64 (j_ - 1)) (v2.set (w64 (j_ - 1)).toNat (gD ((0 : Int), ((0 : Int), (0 : Int))) data2 j_)))
    else r0 (w64 (i_ + 1)) data2)
  else r0 (w64 (i_ + 1)) data2
def slices_insertionSortCmpFunc_api_Move'.L (N : Nat) (data : LMv) (a_ : Int) (b_ : Int) : Nat → (Int → LMv → Option LMv) × (Int → Int → LMv → Option LMv)
  | 0 => (fun _ _ => none, fun _ _ _ => none)
  | n + 1 => (fun i_ data2 => slices_insertionSortCmpFunc_api_Move'.s0 N data a_ b_ (slices_insertionSortCmpFunc_api_Move'.L N data a_ b_ n).1 (slices_insertionSortCmpFunc_api_Move'.L N data a_ b_ n).2 i_ data2, fun i_ j_ data2 => slices_insertionSortCmpFunc_api_Move'.s1 N data a_ b_ (slices_insertionSortCmpFunc_api_Move'.L N data a_ b_ n).1 (slices_insertionSortCmpFunc_api_Move'.L N data a_ b_ n).2 i_ j_ data2)
def slices_insertionSortCmpFunc_api_Move'.l0 (N : Nat) (data : LMv) (a_ : Int) (b_ : Int) (n : Nat) : Int → LMv → Option LMv := (slices_insertionSortCmpFunc_api_Move'.L N data a_ b_ n).1
def slices_insertionSortCmpFunc_api_Move'.l1 (N : Nat) (data : LMv) (a_ : Int) (b_ : Int) (n : Nat) : Int → Int → LMv → Option LMv := (slices_insertionSortCmpFunc_api_Move'.L N data a_ b_ n).2
theorem slices_insertionSortCmpFunc_api_Move'.l0_s (N : Nat) (data : LMv) (a_ : Int) (b_ : Int) (n : Nat) (i_ : Int) (data2 : LMv) : slices_insertionSortCmpFunc_api_Move'.l0 N data a_ b_ (n + 1) i_ data2 = slices_insertionSortCmpFunc_api_Move'.s0 N data a_ b_ (slices_insertionSortCmpFunc_api_Move'.l0 N data a_ b_ n) (slices_insertionSortCmpFunc_api_Move'.l1 N data a_ b_ n) i_ data2 := rfl
theorem slices_insertionSortCmpFunc_api_Move'.l1_s (N : Nat) (data : LMv) (a_ : Int) (b_ : Int) (n : Nat) (i_ : Int) (j_ : Int) (data2 : LMv) : slices_insertionSortCmpFunc_api_Move'.l1 N data a_ b_ (n + 1) i_ j_ data2 = slices_insertionSortCmpFunc_api_Move'.s1 N data a_ b_ (slices_insertionSortCmpFunc_api_Move'.l0 N data a_ b_ n) (slices_insertionSortCmpFunc_api_Move'.l1 N data a_ b_ n) i_ j_ data2 := rfl
def slices_insertionSortCmpFunc_api_Move' (N : Nat) (data : LMv) (a_ : Int) (b_ : Int) : Option LMv := slices_insertionSortCmpFunc_api_Move'.e N (slices_insertionSortCmpFunc_api_Move'.l0 N data a_ b_ N) (slices_insertionSortCmpFunc_api_Move'.l1 N data a_ b_ N) data a_ b_
/-! ### f106: slices.siftDownCmpFunc[gamehall/api.Move] -/
def slices_siftDownCmpFunc_api_Move'.e (N : Nat) (r0 : Int → LMv → Option LMv) (data : LMv) (lo : Int) (hi : Int) (first : Int) : Option LMv :=
  r0 lo data
def slices_siftDownCmpFunc_api_Move'.s0 (N : Nat) (data : LMv) (lo : Int) (hi : Int) (first : Int) (r0 : Int → LMv → Option LMv) (root : Int) (data2 : LMv) : Option LMv :=
  let v1 : Int := (w64 ((w64 (2 * root)) + 1))
  bif (leI hi v1) then some data2
  else bif (ltI (w64 (v1 + 1)) hi) then (chk ((leI 0 (w64 (first + v1))) && (ltI (w64 (first + v1)) (data2.length : Int))) <|
    let v2 : Int := (w64 ((w64 (first + v1)) + 1))
    chk ((leI 0 v2) && (ltI v2 (data2.length : Int))) <|
    (moves_compare N (gD ((0 : Int), ((0 : Int), (0 : Int))) data2 (w64 (first + v1))) (gD ((0 : Int), ((0 : Int), (0 : Int))) data2 v2)).bind fun y3 =>
    bif (ltI y3 0) then (chk ((leI 0 (w64 (first + root))) && (ltI (w64 (first + root)) (data2.length : Int))) <|
      let v4 : Int := (w64 (first + (w64 (v1 + 1))))
      chk ((leI 0 v4) && (ltI v4 (data2.length : Int))) <|
      (moves_compare N (gD ((0 : Int), ((0 : Int), (0 : Int))) data2 (w64 (first + root))) (gD ((0 : Int), ((0 : Int), (0 : Int))) data2 v4)).bind fun y5 =>
      bif (!(ltI y5 0)) then some data2
      else let v6 : Int := (w64 (first + (w64 (v1 + 1))))
      let v7 : Int := (w64 (first + (w64 (v1 + 1))))
      chk ((leI 0 v7) && (ltI v7 (data2.length : Int))) <|
      chk ((leI 0 (w64 (first + root))) && (ltI (w64 (first + root)) (data2.length : Int))) <|
      chk ((leI 0 (w64 (first + root))) && (ltI (w64 (first + root)) (data2.length : Int))) <|
      let v8 : List TMv := (data2.set (w64 (first + root)).toNat (gD ((0 : Int), ((0 : Int), (0 : Int))) data2 v7))
      chk ((leI 0 v6) && (ltI v6 (v8.length : Int))) <|
      r0 (w64 (v1 + 1)) (v8.set v6.toNat (gD ((0 : Int), ((0 : Int), (0 : Int))) data2 (w64 (first + root)))))
    else chk ((leI 0 (w64 (first + root))) && (ltI (w64 (first + root)) (data2.length : Int))) <|
    chk ((leI 0 (w64 (first + v1))) && (ltI (w64 (first + v1)) (data2.length : Int))) <|
    (moves_compare N (gD ((0 : Int), ((0 : Int), (0 : Int))) data2 (w64 (first + root))) (gD ((0 : Int), ((0 : Int), (0 : Int))) data2 (w64 (first + v1)))).bind fun y10 =>
    bif (!(ltI y10 0)) then some data2
    else chk ((leI 0 (w64 (first + v1))) && (ltI (w64 (first + v1)) (data2.length : Int))) <|
    chk ((leI 0 (w64 (first + root))) && (ltI (w64 (first + root)) (data2.length : Int))) <|
    chk ((leI 0 (w64 (first + root))) && (ltI (w64 (first + root)) (data2.length : Int))) <|
    let v11 : List TMv := (data2.set (w64 (first + root)).toNat (gD ((0 : Int), ((0 : Int), (0 : Int))) data2 (w64 (first + v1))))
    chk ((leI 0 (w64 (first + v1))) && (ltI (w64 (first + v1)) (v11.length : Int))) <|
    r0 v1 (v11.set (w64 (first + v1)).toNat (gD ((0 : Int), ((0 : Int), (0 : Int))) data2 (w64 (first + root)))))
  else chk ((leI 0 (w64 (first + root))) && (ltI (w64 (first + root)) (data2.length : Int))) <|
  chk ((leI 0 (w64 (first + v1))) && (ltI (w64 (first + v1)) (data2.length : Int))) <|
  (moves_compare N (gD ((0 : Int), ((0 : Int), (0 : Int))) data2 (w64 (first + root))) (gD ((0 : Int), ((0 : Int), (0 : Int))) data2 (w64 (first + v1)))).bind fun y13 =>
  bif (!(ltI y13 0)) then some data2
  else chk ((leI 0 (w64 (first + v1))) && (ltI (w64 (first + v1)) (data2.length : Int))) <|
  chk ((leI 0 (w64 (first + root))) && (ltI (w64 (first + root)) (data2.length : Int))) <|
  chk ((leI 0 (w64 (first + root))) && (ltI (w64 (first + root)) (data2.length : Int))) <|
  let v14 : List TMv := (data2.set (w64 (first + root)).toNat (gD ((0 : Int), ((0 : Int), (0 : Int))) data2 (w64 (first + v1))))
  chk ((leI 0 (w64 (first + v1))) && (ltI (w64 (first + v1)) (v14.length : Int))) <|
  r0 v1 (v14.set (w64 (first + v1)).toNat (gD ((0 : Int), ((0 : Int), (0 : Int))) data2 (w64 (first + root))))
def slices_siftDownCmpFunc_api_Move'.L (N : Nat) (data : LMv) (lo : Int) (hi : Int) (first : Int) : Nat → (Int → LMv → Option LMv)
  | 0 => fun _ _ => none
  | n + 1 => fun root data2 => slices_siftDownCmpFunc_api_Move'.s0 N data lo hi first (slices_siftDownCmpFunc_api_Move'.L N data lo hi first n) root data2
def slices_siftDownCmpFunc_api_Move'.l0 (N : Nat) (data : LMv) (lo : Int) (hi : Int) (first : Int) (n : Nat) : Int → LMv → Option LMv := (slices_siftDownCmpFunc_api_Move'.L N data lo hi first n)
theorem slices_siftDownCmpFunc_api_Move'.l0_s (N : Nat) (data : LMv) (lo : Int) (hi : Int) (first : Int) (n : Nat) (root : Int) (data2 : LMv) : slices_siftDownCmpFunc_api_Move'.l0 N data lo hi first (n + 1) root data2 = slices_siftDownCmpFunc_api_Move'.s0 N data lo hi first (slices_siftDownCmpFunc_api_Move'.l0 N data lo hi first n) root data2 := rfl
def slices_siftDownCmpFunc_api_Move' (N : Nat) (data : LMv) (lo : Int) (hi : Int) (first : Int) : Option LMv := slices_siftDownCmpFunc_api_Move'.e N (slices_siftDownCmpFunc_api_Move'.l0 N data lo hi first N) data lo hi first
/-! ### f95: slices.heapSortCmpFunc[gamehall/api.Move] -/
def slices_heapSortCmpFunc_api_Move'.e (N : Nat) (r0 : Int → LMv → Option LMv) (r1 : Int → LMv → Option LMv) (data : LMv) (a_ : Int) (b_ : Int) : Option LMv :=
  r0 (w64 (Int.tdiv (w64 ((w64 (b_ - a_)) - 1)) 2)) data
def slices_heapSortCmpFunc_api_Move'.s0 (N : Nat) (data : LMv) (a_ : Int) (b_ : Int) (r0 : Int → LMv → Option LMv) (r1 : Int → LMv → Option LMv) (i_ : Int) (data2 : LMv) : Option LMv :=
  bif (leI 0 i_) then ((slices_siftDownCmpFunc_api_Move' N data2 i_ (w64 (b_ - a_)) a_).bind fun y2 =>
    r0 (w64 (i_ - 1)) y2)
  else r1 (w64 ((w64 (b_ - a_)) - 1)) data2
def slices_heapSortCmpFunc_api_Move'.s1 (N : Nat) (data : LMv) (a_ : Int) (b_ : Int) (r0 : Int → LMv → Option LMv) (r1 : Int → LMv → Option LMv) (i_ : Int) (data2 : LMv) : Option LMv :=
  bif (leI 0 i_) then (chk ((leI 0 (w64 (a_ + i_))) && (ltI (w64 (a_ + i_)) (data2.length : Int))) <|
    chk ((leI 0 a_) && (ltI a_ (data2.length : Int))) <|
    chk ((leI 0 a_) && (ltI a_ (data2.length : Int))) <|
    let v4 : List TMv := (data2.set a_.toNat (gD ((0 : Int), ((0 : Int), (0 : Int))) data2 (w64 (a_ + i_))))
    chk ((leI 0 (w64 (a_ + i_))) && (ltI (w64 (a_ + i_)) (v4.length : Int))) <|
    (slices_siftDownCmpFunc_api_Move' N (v4.set (w64 (a_ + i_)).toNat (gD ((0 : Int), ((0 : Int), (0 : Int))) data2 a_)) 0 i_ a_).bind fun y6 =>
    r1 (w64 (i_ - 1)) y6)
  else some data2
def slices_heapSortCmpFunc_api_Move'.L (N : Nat) (data : LMv) (a_ : Int) (b_ : Int) : Nat → (Int → LMv → Option LMv) × (Int → LMv → Option LMv)
  | 0 => (fun _ _ => none, fun _ _ => none)
  | n + 1 => (fun i_ data2 => slices_heapSortCmpFunc_api_Move'.s0 N data a_ b_ (slices_heapSortCmpFunc_api_Move'.L N data a_ b_ n).1 (slices_heapSortCmpFunc_api_Move'.L N data a_ b_ n).2 i_ data2, fun i_ data2 => slices_heapSortCmpFunc_api_Move'.s1 N data a_ b_ (slices_heapSortCmpFunc_api_Move'.L N data a_ b_ n).1 (slices_heapSortCmpFunc_api_Move'.L N data a_ b_ n).2 i_ data2)
def slices_heapSortCmpFunc_api_Move'.l0 (N : Nat) (data : LMv) (a_ : Int) (b_ : Int) (n : Nat) : Int → LMv → Option LMv := (slices_heapSortCmpFunc_api_Move'.L N data a_ b_ n).1
def slices_heapSortCmpFunc_api_Move'.l1 (N : Nat) (data : LMv) (a_ : Int) (b_ : Int) (n : Nat) : Int → LMv → Option LMv := (slices_heapSortCmpFunc_api_Move'.L N data a_ b_ n).2
theorem slices_heapSortCmpFunc_api_Move'.l0_s (N : Nat) (data : LMv) (a_ : Int) (b_ : Int) (n : Nat) (i_ : Int) (data2 : LMv) : slices_heapSortCmpFunc_api_Move'.l0 N data a_ b_ (n + 1) i_ data2 = slices_heapSortCmpFunc_api_Move'.s0 N data a_ b_ (slices_heapSortCmpFunc_api_Move'.l0 N data a_ b_ n) (slices_heapSortCmpFunc_api_Move'.l1 N data a_ b_ n) i_ data2 := rfl
theorem slices_heapSortCmpFunc_api_Move'.l1_s (N : Nat) (data : LMv) (a_ : Int) (b_ : Int) (n : Nat) (i_ : Int) (data2 : LMv) : slices_heapSortCmpFunc_api_Move'.l1 N data a_ b_ (n + 1) i_ data2 = slices_heapSortCmpFunc_api_Move'.s1 N data a_ b_ (slices_heapSortCmpFunc_api_Move'.l0 N data a_ b_ n) (slices_heapSortCmpFunc_api_Move'.l1 N data a_ b_ n) i_ data2 := rfl
def slices_heapSortCmpFunc_api_Move' (N : Nat) (data : LMv) (a_ : Int) (b_ : Int) : Option LMv := slices_heapSortCmpFunc_api_Move'.e N (slices_heapSortCmpFunc_api_Move'.l0 N data a_ b_ N) (slices_heapSortCmpFunc_api_Move'.l1 N data a_ b_ N) data a_ b_
/-! ### f111: slices.order2CmpFunc[gamehall/api.Move] -/
def slices_order2CmpFunc_api_Move.e (N : Nat) (data : LMv) (a_ : Int) (b_ : Int) (swaps : Int) : Option (Int × Int × Int) :=
  chk ((leI 0 b_) && (ltI b_ (data.length : Int))) <|
  chk ((leI 0 a_) && (ltI a_ (data.length : Int))) <|
  (moves_compare N (gD ((0 : Int), ((0 : Int), (0 : Int))) data b_) (gD ((0 : Int), ((0 : Int), (0 : Int))) data a_)).bind fun y1 =>
  bif (ltI y1 0) then (some (b_, (a_, (w64 (swaps + 1)))))
  else some (a_, (b_, swaps))
def slices_order2CmpFunc_api_Move (N : Nat) (data : LMv) (a_ : Int) (b_ : Int) (swaps : Int) : Option (Int × Int × Int) := slices_order2CmpFunc_api_Move.e N data a_ b_ swaps
/-! ### f110: slices.medianCmpFunc[gamehall/api.Move] -/
def slices_medianCmpFunc_api_Move.e (N : Nat) (data : LMv) (a_ : Int) (b_ : Int) (c_ : Int) (swaps : Int) : Option (Int × Int) :=
  (slices_order2CmpFunc_api_Move N data a_ b_ swaps).bind fun y1 =>
  (slices_order2CmpFunc_api_Move N data y1.2.1 c_ y1.2.2).bind fun y2 =>
  (slices_order2CmpFunc_api_Move N data y1.1 y2.1 y2.2.2).bind fun y3 =>
  some y3.2
def slices_medianCmpFunc_api_Move (N : Nat) (data : LMv) (a_ : Int) (b_ : Int) (c_ : Int) (swaps : Int) : Option (Int × Int) := slices_medianCmpFunc_api_Move.e N data a_ b_ c_ swaps
/-! ### f109: slices.medianAdjacentCmpFunc[gamehall/api.Move] -/
def slices_medianAdjacentCmpFunc_api_Move.e (N : Nat) (data : LMv) (a_ : Int) (swaps : Int) : Option (Int × Int) :=
  (slices_medianCmpFunc_api_Move N data (w64 (a_ - 1)) a_ (w64 (a_ + 1)) swaps).bind fun y1 =>
  some y1
def slices_medianAdjacentCmpFunc_api_Move (N : Nat) (data : LMv) (a_ : Int) (swaps : Int) : Option (Int × Int) := slices_medianAdjacentCmpFunc_api_Move.e N data a_ swaps
/-! ### f97: slices.choosePivotCmpFunc[gamehall/api.Move] -/
def slices_choosePivotCmpFunc_api_Move.e (N : Nat) (data : LMv) (a_ : Int) (b_ : Int) : Option (Int × Int) :=
  let v2 : Int := (w64 (a_ + (w64 ((w64 (Int.tdiv (w64 (b_ - a_)) 4)) * 1))))
  let v4 : Int := (w64 (a_ + (w64 ((w64 (Int.tdiv (w64 (b_ - a_)) 4)) * 2))))
  let v6 : Int := (w64 (a_ + (w64 ((w64 (Int.tdiv (w64 (b_ - a_)) 4)) * 3))))
  bif (leI 8 (w64 (b_ - a_))) then (bif (leI 50 (w64 (b_ - a_))) then ((slices_medianAdjacentCmpFunc_api_Move N data v2 0).bind fun y7 =>
      (slices_medianAdjacentCmpFunc_api_Move N data v4 y7.2).bind fun y8 =>
      (slices_medianAdjacentCmpFunc_api_Move N data v6 y8.2).bind fun y9 =>
      (slices_medianCmpFunc_api_Move N data y7.1 y8.1 y9.1 y9.2).bind fun y10 =>
      bif (eqI y10.2 0) then (some (y10.1, 1))
      else bif (eqI y10.2 12) then (some (y10.1, 2))
      else some (y10.1, 0))
    else (slices_medianCmpFunc_api_Move N data v2 v4 v6 0).bind fun y11 =>
    bif (eqI y11.2 0) then (some (y11.1, 1))
    else bif (eqI y11.2 12) then (some (y11.1, 2))
    else some (y11.1, 0))
  else some (v4, 1)
def slices_choosePivotCmpFunc_api_Move (N : Nat) (data : LMv) (a_ : Int) (b_ : Int) : Option (Int × Int) := slices_choosePivotCmpFunc_api_Move.e N data a_ b_
/-! ### f98: slices.reverseRangeCmpFunc[gamehall/api.Move] -/
def slices_reverseRangeCmpFunc_api_Move'.e (N : Nat) (r0 : Int → Int → LMv → Option LMv) (data : LMv) (a_ : Int) (b_ : Int) : Option LMv :=
  r0 a_ (w64 (b_ - 1)) data
def slices_reverseRangeCmpFunc_api_Move'.s0 (N : Nat) (data : LMv) (a_ : Int) (b_ : Int) (r0 : Int → Int → LMv → Option LMv) (i_ : Int) (j_ : Int) (data2 : LMv) : Option LMv :=
  bif (ltI i_ j_) then (chk ((leI 0 j_) && (ltI j_ (data2.length : Int))) <|
    chk ((leI 0 i_) && (ltI i_ (data2.length : Int))) <|
    chk ((leI 0 i_) && (ltI i_ (data2.length : Int))) <|
    let v1 : List TMv := (data2.set i_.toNat (gD ((0 : Int), ((0 : Int), (0 : Int))) data2 j_))
    chk ((leI 0 j_) && (ltI j_ (v1.length : Int))) <|
    r0 (w64 (i_ + 1)) (w64 (j_ - 1)) (v1.set j_.toNat (gD ((0 : Int), ((0 : Int), (0 : Int))) data2 i_)))
  else some data2
def slices_reverseRangeCmpFunc_api_Move'.L (N : Nat) (data : LMv) (a_ : Int) (b_ : Int) : Nat → (Int → Int → LMv → Option LMv)
  | 0 => fun _ _ _ => none
  | n + 1 => fun i_ j_ data2 => slices_reverseRangeCmpFunc_api_Move'.s0 N data a_ b_ (slices_reverseRangeCmpFunc_api_Move'.L N data a_ b_ n) i_ j_ data2
def slices_reverseRangeCmpFunc_api_Move'.l0 (N : Nat) (data : LMv) (a_ : Int) (b_ : Int) (n : Nat) : Int → Int → LMv → Option LMv := (slices_reverseRangeCmpFunc_api_Move'.L N data a_ b_ n)
theorem slices_reverseRangeCmpFunc_api_Move'.l0_s (N : Nat) (data : LMv) (a_ : Int) (b_ : Int) (n : Nat) (i_ : Int) (j_ : Int) (data2 : LMv) : slices_reverseRangeCmpFunc_api_Move'.l0 N data a_ b_ (n + 1) i_ j_ data2 = slices_reverseRangeCmpFunc_api_Move'.s0 N data a_ b_ (slices_reverseRangeCmpFunc_api_Move'.l0 N data a_ b_ n) i_ j_ data2 := rfl
def slices_reverseRangeCmpFunc_api_Move' (N : Nat) (data : LMv) (a_ : Int) (b_ : Int) : Option LMv := slices_reverseRangeCmpFunc_api_Move'.e N (slices_reverseRangeCmpFunc_api_Move'.l0 N data a_ b_ N) data a_ b_
/-! ### f99: slices.partialInsertionSortCmpFunc[gamehall/api.Move] -/
def slices_partialInsertionSortCmpFunc_api_Move'.e (N : Nat) (r0 : Int → Int → LMv → Option (Bool × LMv)) (r1 : Int → Int → LMv → Option (Bool × LMv)) (r2 : Int → Int → Int → LMv → Option (Bool × LMv)) (r3 : Int → Int → Int → LMv → Option (Bool × LMv)) (data : LMv) (a_ : Int) (b_ : Int) : Option (Bool × LMv) :=
  r0 (w64 (a_ + 1)) 0 data
def slices_partialInsertionSortCmpFunc_api_Move'.s0 (N : Nat) (data : LMv) (a_ : Int) (b_ : Int) (r0 : Int → Int → LMv → Option (Bool × LMv)) (r1 : Int → Int → LMv → Option (Bool × LMv)) (r2 : Int → Int → Int → LMv → Option (Bool × LMv)) (r3 : Int → Int → Int → LMv → Option (Bool × LMv)) (i_ : Int) (j_ : Int) (data2 : LMv) : Option (Bool × LMv) :=
  bif (ltI j_ 5) then r1 i_ j_ data2
  else some (false, data2)
def slices_partialInsertionSortCmpFunc_api_Move'.s1 (N : Nat) (data : LMv) (a_ : Int) (b_ : Int) (r0 : Int → Int → LMv → Option (Bool × LMv)) (r1 : Int → Int → LMv → Option (Bool × LMv)) (r2 : Int → Int → Int → LMv → Option (Bool × LMv)) (r3 : Int → Int → Int → LMv → Option (Bool × LMv)) (i_ : Int) (j_ : Int) (data2 : LMv) : Option (Bool × LMv) :=
  bif (ltI i_ b_) then (chk ((leI 0 i_) && (ltI i_ (data2.length : Int))) <|
    chk ((leI 0 (w64 (i_ - 1))) && (ltI (w64 (i_ - 1)) (data2.length : Int))) <|
    (moves_compare N (gD ((0 : Int), ((0 : Int), (0 : Int))) data2 i_) (gD ((0 : Int), ((0 : Int), (0 : Int))) data2 (w64 (i_ - 1)))).bind fun y1 =>
    bif (!(ltI y1 0)) then (r1 (w64 (i_ + 1)) j_ data2)
    else bif (eqI i_ b_) then (some (true, data2))
    else bif (ltI (w64 (b_ - a_)) 50) then (some (false, data2))
    else chk ((leI 0 (w64 (i_ - 1))) && (ltI (w64 (i_ - 1)) (data2.length : Int))) <|
    chk ((leI 0 i_) && (ltI i_ (data2.length : Int))) <|
    chk ((leI 0 i_) && (ltI i_ (data2.length : Int))) <|
    let v2 : List TMv := (data2.set i_.toNat (gD ((0 : Int), ((0 : Int), (0 : Int))) data2 (w64 (i_ - 1))))
    chk ((leI 0 (w64 (i_ - 1))) && (ltI (w64 (i_ - 1)) (v2.length : Int))) <|
    let v3 : List TMv := (v2.set (w64 (i_ - 1)).toNat (gD ((0 : Int), ((0 : Int), (0 : Int))) data2 i_))
    bif (leI 2 (w64 (i_ - a_))) then (r2 i_ j_ (w64 (i_ - 1)) v3)
    else bif (leI 2 (w64 (b_ - i_))) then (r3 i_ j_ (w64 (i_ + 1)) v3)
    else r0 i_ (w64 (j_ + 1)) v3)
  else bif (eqI i_ b_) then (some (true, data2))
  else bif (ltI (w64 (b_ - a_)) 50) then (some (false, data2))
  else chk ((leI 0 (w64 (i_ - 1))) && (ltI (w64 (i_ - 1)) (data2.length : Int))) <|
  chk ((leI 0 i_) && (ltI i_ (data2.length : Int))) <|
  chk ((leI 0 i_) && (ltI i_ (data2.length : Int))) <|
  let v4 : List TMv := (data2.set i_.toNat (gD ((0 : Int), ((0 : Int), (0 : Int))) data2 (w64 (i_ - 1))))
  chk ((leI 0 (w64 (i_ - 1))) && (ltI (w64 (i_ - 1)) (v4.length : Int))) <|
  let v5 : List TMv := (v4.set (w64 (i_ - 1)).toNat (gD ((0 : Int), ((0 : Int), (0 : Int))) data2 i_))
  bif (leI 2 (w64 (i_ - a_))) then (r2 i_ j_ (w64 (i_ - 1)) v5)
  else bif (leI 2 (w64 (b_ - i_))) then (r3 i_ j_ (w64 (i_ + 1)) v5)
  else r0 i_ (w64 (j_ + 1)) v5
def slices_partialInsertionSortCmpFunc_api_Move'.s2 (N : Nat) (data : LMv) (a_ : Int) (b_ : Int) (r0 : Int → Int → LMv → Option (Bool × LMv)) (r1 : Int → Int → LMv → Option (Bool × LMv)) (r2 : Int → Int → Int → LMv → Option (Bool × LMv)) (r3 : Int → Int → Int → LMv → Option (Bool × LMv)) (i_ : Int) (j_ : Int) (j_2 : Int) (data2 : LMv) : Option (Bool × LMv) :=
  bif (leI 1 j_2) then (chk ((leI 0 j_2) && (ltI j_2 (data2.length : Int))) <|
    chk ((leI 0 (w64 (j_2 - 1))) && (ltI (w64 (j_2 - 1)) (data2.length : Int))) <|
    (moves_compare N (gD ((0 : Int), ((0 : Int), (0 : Int))) data2 j_2) (gD ((0 : Int), ((0 : Int), (0 : Int))) data2 (w64 (j_2 - 1)))).bind fun y9 =>
    bif (!(ltI y9 0)) then (bif (leI 2 (w64 (b_ - i_))) then (r3 i_ j_ (w64 (i_ + 1)) data2)
      else r0 i_ (w64 (j_ + 1)) data2)
    else chk ((leI 0 (w64 (j_2 - 1))) && (ltI (w64 (j_2 - 1)) (data2.length : Int))) <|
    chk ((leI 0 j_2) && (ltI j_2 (data2.length : Int))) <|
    chk ((leI 0 j_2) && (ltI j_2 (data2.length : Int))) <|
    let v10 : List TMv := (data2.set j_2.toNat (gD ((0 : Int), ((0 : Int), (0 : Int))) data2 (w64 (j_2 - 1))))
    chk ((leI 0 (w64 (j_2 - 1))) && (ltI (w64 (j_2 - 1)) (v10.length : Int))) <|
    r2 i_ j_ (w64 (j_2 - 1)) (v10.set (w64 (j_2 - 1)).toNat (gD ((0 : Int), ((0 : Int), (0 : Int))) data2 j_2)))
  else bif (leI 2 (w64 (b_ - i_))) then (r3 i_ j_ (w64 (i_ + 1)) data2)
  else r0 i_ (w64 (j_ + 1)) data2
def slices_partialInsertionSortCmpFunc_api_Move'.s3 (N : Nat) (data : LMv) (a_ : Int) (b_ : Int) (r0 : Int → Int → LMv → Option (Bool × LMv)) (r1 : Int → Int → LMv → Option (Bool × LMv)) (r2 : Int → Int → Int → LMv → Option (Bool × LMv)) (r3 : Int → Int → Int → LMv → Option (Bool × LMv)) (i_ : Int) (j_ : Int) (j_2 : Int) (data2 : LMv) : Option (Bool × LMv) :=
  bif (ltI j_2 b_) then (chk ((leI 0 j_2) && (ltI j_2 (data2.length : Int))) <|
    chk ((leI 0 (w64 (j_2 - 1))) && (ltI (w64 (j_2 - 1)) (data2.length : Int))) <|
    (moves_compare N (gD ((0 : Int), ((0 : Int), (0 : Int))) data2 j_2) (gD ((0 : Int), ((0 : Int), (0 : Int))) data2 (w64 (j_2 - 1)))).bind fun y6 =>
    bif (!(ltI y6 0)) then (r0 i_ (w64 (j_ + 1)) data2)
    else chk ((leI 0 (w64 (j_2 - 1))) && (ltI (w64 (j_2 - 1)) (data2.length : Int))) <|
    chk ((leI 0 j_2) && (ltI j_2 (data2.length : Int))) <|
    chk ((leI 0 j_2) && (ltI j_2 (data2.length : Int))) <|
    let v7 : List TMv := (data2.set j_2.toNat (gD ((0 : Int), ((0 : Int), (0 : Int))) data2 (w64 (j_2 - 1))))
    chk ((leI 0 (w64 (j_2 - 1))) && (ltI (w64 (j_2 - 1)) (v7.length : Int))) <|
    r3 i_ j_ (w64 (j_2 + 1)) (v7.set (w64 (j_2 - 1)).toNat (gD ((0 : Int), ((0 : Int), (0 : Int))) data2 j_2)))
  else r0 i_ (w64 (j_ + 1)) data2
def slices_partialInsertionSortCmpFunc_api_Move'.L (N : Nat) (data : LMv) (a_ : Int) (b_ : Int) : Nat → (Int → Int → LMv → Option (Bool × LMv)) × (Int → Int → LMv → Option (Bool × LMv)) × (Int → Int → Int → LMv → Option (Bool × LMv)) × (Int → Int → Int → LMv → Option (Bool × LMv))
  | 0 => (fun _ _ _ => none, fun _ _ _ => none, fun _ _ _ _ => none, fun _ _ _ _ => none)
  | n + 1 => (fun i_ j_ data2 => slices_partialInsertionSortCmpFunc_api_Move'.s0 N data a_ b_ (slices_partialInsertionSortCmpFunc_api_Move'.L N data a_ b_ n).1 (slices_partialInsertionSortCmpFunc_api_Move'.L N data a_ b_ n).2.1 (slices_partialInsertionSortCmpFunc_api_Move'.L N data a_ b_ n).2.2.1 (slices_partialInsertionSortCmpFunc_api_Move'.L N data a_ b_ n).2.2.2 i_ j_ data2, fun i_ j_ data2 => slices_partialInsertionSortCmpFunc_api_Move'.s1 N data a_ b_ (slices_partialInsertionSortCmpFunc_api_Move'.L N data a_ b_ n).1 (slices_partialInsertionSortCmpFunc_api_Move'.L N data a_ b_ n).2.1 (slices_partialInsertionSortCmpFunc_api_Move'.L N data a_ b_ n).2.2.1 (slices_partialInsertionSortCmpFunc_api_Move'.L N data a_ b_ n).2.2.2 i_ j_ data2, fun i_ j_ j_2 data2 => slices_partialInsertionSortCmpFunc_api_Move'.s2 N data a_ b_ (slices_partialInsertionSortCmpFunc_api_Move'.L N data a_ b_ n).1 (slices_partialInsertionSortCmpFunc_api_Move'.L N data a_ b_ n).2.1 (slices_partialInsertionSortCmpFunc_api_Move'.L N data a_ b_ n).2.2.1 (slices_partialInsertionSortCmpFunc_api_Move'.L N data a_ b_ n).2.2.2 i_ j_ j_2 data2, fun i_ j_ j_2 data2 => slices_partialInsertionSortCmpFunc_api_Move'.s3 N data a_ b_ (slices_partialInsertionSortCmpFunc_api_Move'.L N data a_ b_ n).1 (slices_partialInsertionSortCmpFunc_api_Move'.L N data a_ b_ n).2.1 (slices_partialInsertionSortCmpFunc_api_Move'.L N data a_ b_ n).2.2.1 (slices_partialInsertionSortCmpFunc_api_Move'.L N data a_ b_ n).2.2.2 i_ j_ j_2 data2)
def slices_partialInsertionSortCmpFunc_api_Move'.l0 (N : Nat) (data : LMv) (a_ : Int) (b_ : Int) (n : Nat) : Int → Int → LMv → Option (Bool × LMv) := (slices_partialInsertionSortCmpFunc_api_Move'.L N data a_ b_ n).1
def slices_partialInsertionSortCmpFunc_api_Move'.l1 (N : Nat) (data : LMv) (a_ : Int) (b_ : Int) (n : Nat) : Int → Int → LMv → Option (Bool × LMv) := (slices_partialInsertionSortCmpFunc_api_Move'.L N data a_ b_ n).2.1
def slices_partialInsertionSortCmpFunc_api_Move'.l2 (N : Nat) (data : LMv) (a_ : Int) (b_ : Int) (n : Nat) : Int → Int → Int → LMv → Option (Bool × LMv) := (slices_partialInsertionSortCmpFunc_api_Move'.L N data a_ b_ n).2.2.1
def slices_partialInsertionSortCmpFunc_api_Move'.l3 (N : Nat) (data : LMv) (a_ : Int) (b_ : Int) (n : Nat) : Int → Int → Int → LMv → Option (Bool × LMv) := (slices_partialInsertionSortCmpFunc_api_Move'.L N data a_ b_ n).2.2.2
theorem slices_partialInsertionSortCmpFunc_api_Move'.l0_s (N : Nat) (data : LMv) (a_ : Int) (b_ : Int) (n : Nat) (i_ : Int) (j_ : Int) (data2 : LMv) : slices_partialInsertionSortCmpFunc_api_Move'.l0 N data a_ b_ (n + 1) i_ j_ data2 = slices_partialInsertionSortCmpFunc_api_Move'.s0 N data a_ b_ (slices_partialInsertionSortCmpFunc_api_Move'.l0 N data a_ b_ n) (slices_partialInsertionSortCmpFunc_api_Move'.l1 N data a_ b_ n) (slices_partialInsertionSortCmpFunc_api_Move'.l2 N data a_ b_ n) (slices_partialInsertionSortCmpFunc_api_Move'.l3 N data a_ b_ n) i_ j_ data2 := rfl
theorem slices_partialInsertionSortCmpFunc_api_Move'.l1_s (N : Nat) (data : LMv) (a_ : Int) (b_ : Int) (n : Nat) (i_ : Int) (j_ : Int) (data2 : LMv) : slices_partialInsertionSortCmpFunc_api_Move'.l1 N data a_ b_ (n + 1) i_ j_ data2 = slices_partialInsertionSortCmpFunc_api_Move'.s1 N data a_ b_ (slices_partialInsertionSortCmpFunc_api_Move'.l0 N data a_ b_ n) (slices_partialInsertionSortCmpFunc_api_Move'.l1 N data a_ b_ n) (slices_partialInsertionSortCmpFunc_api_Move'.l2 N data a_ b_ n) (slices_partialInsertionSortCmpFunc_api_Move'.l3 N data a_ b_ n) i_ j_ data2 := rfl
theorem slices_partialInsertionSortCmpFunc_api_Move'.l2_s (N : Nat) (data : LMv) (a_ : Int) (b_ : Int) (n : Nat) (i_ : Int) (j_ : Int) (j_2 : Int) (data2 : LMv) : slices_partialInsertionSortCmpFunc_api_Move'.l2 N data a_ b_ (n + 1) i_ j_ j_2 data2 = slices_partialInsertionSortCmpFunc_api_Move'.s2 N data a_ b_ (slices_partialInsertionSortCmpFunc_api_Move'.l0 N data a_ b_ n) (slices_partialInsertionSortCmpFunc_api_Move'.l1 N data a_ b_ n) (slices_partialInsertionSortCmpFunc_api_Move'.l2 N data a_ b_ n) (slices_partialInsertionSortCmpFunc_api_Move'.l3 N data a_ b_ n) i_ j_ j_2 data2 := rfl
theorem slices_partialInsertionSortCmpFunc_api_Move'.l3_s (N : Nat) (data : LMv) (a_ : Int) (b_ : Int) (n : Nat) (i_ : Int) (j_ : Int) (j_2 : Int) (data2 : LMv) : slices_partialInsertionSortCmpFunc_api_Move'.l3 N data a_ b_ (n + 1) i_ j_ j_2 data2 = slices_partialInsertionSortCmpFunc_api_Move'.s3 N data a_ b_ (slices_partialInsertionSortCmpFunc_api_Move'.l0 N data a_ b_ n) (slices_partialInsertionSortCmpFunc_api_Move'.l1 N data a_ b_ n) (slices_partialInsertionSortCmpFunc_api_Move'.l2 N data a_ b_ n) (slices_partialInsertionSortCmpFunc_api_Move'.l3 N data a_ b_ n) i_ j_ j_2 data2 := rfl
def slices_partialInsertionSortCmpFunc_api_Move' (N : Nat) (data : LMv) (a_ : Int) (b_ : Int) : Option (Bool × LMv) := slices_partialInsertionSortCmpFunc_api_Move'.e N (slices_partialInsertionSortCmpFunc_api_Move'.l0 N data a_ b_ N) (slices_partialInsertionSortCmpFunc_api_Move'.l1 N data a_ b_ N) (slices_partialInsertionSortCmpFunc_api_Move'.l2 N data a_ b_ N) (slices_partialInsertionSortCmpFunc_api_Move'.l3 N data a_ b_ N) data a_ b_
/-! ### f100: slices.partitionEqualCmpFunc[gamehall/api.Move] -/
def slices_partitionEqualCmpFunc_api_Move'.e (N : Nat) (r0 : Int → Int → LMv → Option (Int × LMv)) (r1 : Int → Int → LMv → Option (Int × LMv)) (r2 : Int → Int → LMv → Option (Int × LMv)) (data : LMv) (a_ : Int) (b_ : Int) (pivot : Int) : Option (Int × LMv) :=
  chk ((leI 0 pivot) && (ltI pivot (data.length : Int))) <|
  chk ((leI 0 a_) && (ltI a_ (data.length : Int))) <|
  chk ((leI 0 a_) && (ltI a_ (data.length : Int))) <|
  let v1 : List TMv := (data.set a_.toNat (gD ((0 : Int), ((0 : Int), (0 : Int))) data pivot))
  chk ((leI 0 pivot) && (ltI pivot (v1.length : Int))) <|
  r0 (w64 (a_ + 1)) (w64 (b_ - 1)) (v1.set pivot.toNat (gD ((0 : Int), ((0 : Int), (0 : Int))) data a_))
def slices_partitionEqualCmpFunc_api_Move'.s0 (N : Nat) (data : LMv) (a_ : Int) (b_ : Int) (pivot : Int) (r0 : Int → Int → LMv → Option (Int × LMv)) (r1 : Int → Int → LMv → Option (Int × LMv)) (r2 : Int → Int → LMv → Option (Int × LMv)) (i_ : Int) (j_ : Int) (data2 : LMv) : Option (Int × LMv) :=
  r1 i_ j_ data2
def slices_partitionEqualCmpFunc_api_Move'.s1 (N : Nat) (data : LMv) (a_ : Int) (b_ : Int) (pivot : Int) (r0 : Int → Int → LMv → Option (Int × LMv)) (r1 : Int → Int → LMv → Option (Int × LMv)) (r2 : Int → Int → LMv → Option (Int × LMv)) (i_ : Int) (j_ : Int) (data2 : LMv) : Option (Int × LMv) :=
  bif (leI i_ j_) then (chk ((leI 0 a_) && (ltI a_ (data2.length : Int))) <|
    chk ((leI 0 i_) && (ltI i_ (data2.length : Int))) <|
    (moves_compare N (gD ((0 : Int), ((0 : Int), (0 : Int))) data2 a_) (gD ((0 : Int), ((0 : Int), (0 : Int))) data2 i_)).bind fun y3 =>
    bif (!(ltI y3 0)) then (r1 (w64 (i_ + 1)) j_ data2)
    else r2 i_ j_ data2)
  else r2 i_ j_ data2
def slices_partitionEqualCmpFunc_api_Move'.s2 (N : Nat) (data : LMv) (a_ : Int) (b_ : Int) (pivot : Int) (r0 : Int → Int → LMv → Option (Int × LMv)) (r1 : Int → Int → LMv → Option (Int × LMv)) (r2 : Int → Int → LMv → Option (Int × LMv)) (i_ : Int) (j_ : Int) (data2 : LMv) : Option (Int × LMv) :=
  bif (leI i_ j_) then (chk ((leI 0 a_) && (ltI a_ (data2.length : Int))) <|
    chk ((leI 0 j_) && (ltI j_ (data2.length : Int))) <|
    (moves_compare N (gD ((0 : Int), ((0 : Int), (0 : Int))) data2 a_) (gD ((0 : Int), ((0 : Int), (0 : Int))) data2 j_)).bind fun y4 =>
    bif (ltI y4 0) then (r2 i_ (w64 (j_ - 1)) data2)
    else bif (ltI j_ i_) then (some (i_, data2))
    else chk ((leI 0 j_) && (ltI j_ (data2.length : Int))) <|
    chk ((leI 0 i_) && (ltI i_ (data2.length : Int))) <|
    chk ((leI 0 i_) && (ltI i_ (data2.length : Int))) <|
    let v5 : List TMv := (data2.set i_.toNat (gD ((0 : Int), ((0 : Int), (0 : Int))) data2 j_))
    chk ((leI 0 j_) && (ltI j_ (v5.length : Int))) <|
    r0 (w64 (i_ + 1)) (w64 (j_ - 1)) (v5.set j_.toNat (gD ((0 : Int), ((0 : Int), (0 : Int))) data2 i_)))
  else bif (ltI j_ i_) then (some (i_, data2))
  else chk ((leI 0 j_) && (ltI j_ (data2.length : Int))) <|
  chk ((leI 0 i_) && (ltI i_ (data2.length : Int))) <|
  chk ((leI 0 i_) && (ltI i_ (data2.length : Int))) <|
  let v7 : List TMv := (data2.set i_.toNat (gD ((0 : Int), ((0 : Int), (0 : Int))) data2 j_))
  chk ((leI 0 j_) && (ltI j_ (v7.length : Int))) <|
  r0 (w64 (i_ + 1)) (w64 (j_ - 1)) (v7.set j_.toNat (gD ((0 : Int), ((0 : Int), (0 : Int))) data2 i_))
def slices_partitionEqualCmpFunc_api_Move'.L (N : Nat) (data : LMv) (a_ : Int) (b_ : Int) (pivot : Int) : Nat → (Int → Int → LMv → Option (Int × LMv)) × (Int → Int → LMv → Option (Int × LMv)) × (Int → Int → LMv → Option (Int × LMv))
  | 0 => (fun _ _ _ => none, fun _ _ _ => none, fun _ _ _ => none)
  | n + 1 => (fun i_ j_ data2 => slices_partitionEqualCmpFunc_api_Move'.s0 N data a_ b_ pivot (slices_partitionEqualCmpFunc_api_Move'.L N data a_ b_ pivot n).1 (slices_partitionEqualCmpFunc_api_Move'.L N data a_ b_ pivot n).2.1 (slices_partitionEqualCmpFunc_api_Move'.L N data a_ b_ pivot n).2.2 i_ j_ data2, fun i_ j_ data2 => slices_partitionEqualCmpFunc_api_Move'.s1 N data a_ b_ pivot (slices_partitionEqualCmpFunc_api_Move'.L N data a_ b_ pivot n).1 (slices_partitionEqualCmpFunc_api_Move'.L N data a_ b_ pivot n).2.1 (slices_partitionEqualCmpFunc_api_Move'.L N data a_ b_ pivot n).2.2 i_ j_ data2, fun i_ j_ data2 => slices_partitionEqualCmpFunc_api_Move'.s2 N data a_ b_ pivot (slices_partitionEqualCmpFunc_api_Move'.L N data a_ b_ pivot n).1 (slices_partitionEqualCmpFunc_api_Move'.L N data a_ b_ pivot n).2.1 (slices_partitionEqualCmpFunc_api_Move'.L N data a_ b_ pivot n).2.2 i_ j_ data2)
def slices_partitionEqualCmpFunc_api_Move'.l0 (N : Nat) (data : LMv) (a_ : Int) (b_ : Int) (pivot : Int) (n : Nat) : Int → Int → LMv → Option (Int × LMv) := (slices_partitionEqualCmpFunc_api_Move'.L N data a_ b_ pivot n).1
def slices_partitionEqualCmpFunc_api_Move'.l1 (N : Nat) (data : LMv) (a_ : Int) (b_ : Int) (pivot : Int) (n : Nat) : Int → Int → LMv → Option (Int × LMv) := (slices_partitionEqualCmpFunc_api_Move'.L N data a_ b_ pivot n).2.1
def slices_partitionEqualCmpFunc_api_Move'.l2 (N : Nat) (data : LMv) (a_ : Int) (b_ : Int) (pivot : Int) (n : Nat) : Int → Int → LMv → Option (Int × LMv) := (slices_partitionEqualCmpFunc_api_Move'.L N data a_ b_ pivot n).2.2
theorem slices_partitionEqualCmpFunc_api_Move'.l0_s (N : Nat) (data : LMv) (a_ : Int) (b_ : Int) (pivot : Int) (n : Nat) (i_ : Int) (j_ : Int) (data2 : LMv) : slices_partitionEqualCmpFunc_api_Move'.l0 N data a_ b_ pivot (n + 1) i_ j_ data2 = slices_partitionEqualCmpFunc_api_Move'.s0 N data a_ b_ pivot (slices_partitionEqualCmpFunc_api_Move'.l0 N data a_ b_ pivot n) (slices_partitionEqualCmpFunc_api_Move'.l1 N data a_ b_ pivot n) (slices_partitionEqualCmpFunc_api_Move'.l2 N data a_ b_ pivot n) i_ j_ data2 := rfl
theorem slices_partitionEqualCmpFunc_api_Move'.l1_s (N : Nat) (data : LMv) (a_ : Int) (b_ : Int) (pivot : Int) (n : Nat) (i_ : Int) (j_ : Int) (data2 : LMv) : slices_partitionEqualCmpFunc_api_Move'.l1 N data a_ b_ pivot (n + 1) i_ j_ data2 = slices_partitionEqualCmpFunc_api_Move'.s1 N data a_ b_ pivot (slices_partitionEqualCmpFunc_api_Move'.l0 N data a_ b_ pivot n) (slices_partitionEqualCmpFunc_api_Move'.l1 N data a_ b_ pivot n) (slices_partitionEqualCmpFunc_api_Move'.l2 N data a_ b_ pivot n) i_ j_ data2 := rfl
theorem slices_partitionEqualCmpFunc_api_Move'.l2_s (N : Nat) (data : LMv) (a_ : Int) (b_ : Int) (pivot : Int) (n : Nat) (i_ : Int) (j_ : Int) (data2 : LMv) : slices_partitionEqualCmpFunc_api_Move'.l2 N data a_ b_ pivot (n + 1) i_ j_ data2 = slices_partitionEqualCmpFunc_api_Move'.s2 N data a_ b_ pivot (slices_partitionEqualCmpFunc_api_Move'.l0 N data a_ b_ pivot n) (slices_partitionEqualCmpFunc_api_Move'.l1 N data a_ b_ pivot n) (slices_partitionEqualCmpFunc_api_Move'.l2 N data a_ b_ pivot n) i_ j_ data2 := rfl
def slices_partitionEqualCmpFunc_api_Move' (N : Nat) (data : LMv) (a_ : Int) (b_ : Int) (pivot : Int) : Option (Int × LMv) := slices_partitionEqualCmpFunc_api_Move'.e N (slices_partitionEqualCmpFunc_api_Move'.l0 N data a_ b_ pivot N) (slices_partitionEqualCmpFunc_api_Move'.l1 N data a_ b_ pivot N) (slices_partitionEqualCmpFunc_api_Move'.l2 N data a_ b_ pivot N) data a_ b_ pivot
/-! ### f101: slices.partitionCmpFunc[gamehall/api.Move] -/
def slices_partitionCmpFunc_api_Move'.e (N : Nat) (r0 : Int → LMv → Option (Int × Bool × LMv)) (r1 : Int → Int → LMv → Option (Int × Bool × LMv)) (r2 : Int → Int → LMv → Option (Int × Bool × LMv)) (r3 : Int → Int → LMv → Option (Int × Bool × LMv)) (r4 : Int → Int → LMv → Option (Int × Bool × LMv)) (data : LMv) (a_ : Int) (b_ : Int) (pivot : Int) : Option (Int × Bool × LMv) :=
  chk ((leI 0 pivot) && (ltI pivot (data.length : Int))) <|
  chk ((leI 0 a_) && (ltI a_ (data.length : Int))) <|
  chk ((leI 0 a_) && (ltI a_ (data.length : Int))) <|
  let v1 : List TMv := (data.set a_.toNat (gD ((0 : Int), ((0 : Int), (0 : Int))) data pivot))
  chk ((leI 0 pivot) && (ltI pivot (v1.length : Int))) <|
  r0 (w64 (a_ + 1)) (v1.set pivot.toNat (gD ((0 : Int), ((0 : Int), (0 : Int))) data a_))
def slices_partitionCmpFunc_api_Move'.s0 (N : Nat) (data : LMv) (a_ : Int) (b_ : Int) (pivot : Int) (r0 : Int → LMv → Option (Int × Bool × LMv)) (r1 : Int → Int → LMv → Option (Int × Bool × LMv)) (r2 : Int → Int → LMv → Option (Int × Bool × LMv)) (r3 : Int → Int → LMv → Option (Int × Bool × LMv)) (r4 : Int → Int → LMv → Option (Int × Bool × LMv)) (i_ : Int) (data2 : LMv) : Option (Int × Bool × LMv) :=
  bif (leI i_ (w64 (b_ - 1))) then (chk ((leI 0 i_) && (ltI i_ (data2.length : Int))) <|
    chk ((leI 0 a_) && (ltI a_ (data2.length : Int))) <|
    (moves_compare N (gD ((0 : Int), ((0 : Int), (0 : Int))) data2 i_) (gD ((0 : Int), ((0 : Int), (0 : Int))) data2 a_)).bind fun y3 =>
    bif (ltI y3 0) then (r0 (w64 (i_ + 1)) data2)
    else r1 i_ (w64 (b_ - 1)) data2)
  else r1 i_ (w64 (b_ - 1)) data2
def slices_partitionCmpFunc_api_Move'.s1 (N : Nat) (data : LMv) (a_ : Int) (b_ : Int) (pivot : Int) (r0 : Int → LMv → Option (Int × Bool × LMv)) (r1 : Int → Int → LMv → Option (Int × Bool × LMv)) (r2 : Int → Int → LMv → Option (Int × Bool × LMv)) (r3 : Int → Int → LMv → Option (Int × Bool × LMv)) (r4 : Int → Int → LMv → Option (Int × Bool × LMv)) (i_ : Int) (j_ : Int) (data2 : LMv) : Option (Int × Bool × LMv) :=
  bif (leI i_ j_) then (chk ((leI 0 j_) && (ltI j_ (data2.length : Int))) <|
    chk ((leI 0 a_) && (ltI a_ (data2.length : Int))) <|
    (moves_compare N (gD ((0 : Int), ((0 : Int), (0 : Int))) data2 j_) (gD ((0 : Int), ((0 : Int), (0 : Int))) data2 a_)).bind fun y4 =>
    bif (!(ltI y4 0)) then (r1 i_ (w64 (j_ - 1)) data2)
    else bif (ltI j_ i_) then (chk ((leI 0 a_) && (ltI a_ (data2.length : Int))) <|
      chk ((leI 0 j_) && (ltI j_ (data2.length : Int))) <|
      chk ((leI 0 j_) && (ltI j_ (data2.length : Int))) <|
      let v5 : List TMv := (data2.set j_.toNat (gD ((0 : Int), ((0 : Int), (0 : Int))) data2 a_))
      chk ((leI 0 a_) && (ltI a_ (v5.length : Int))) <|
      some (j_, (true, (v5.set a_.toNat (gD ((0 : Int), ((0 : Int), (0 : Int))) data2 j_)))))
    else chk ((leI 0 j_) && (ltI j_ (data2.length : Int))) <|
    chk ((leI 0 i_) && (ltI i_ (data2.length : Int))) <|
    chk ((leI 0 i_) && (ltI i_ (data2.length : Int))) <|
    let v7 : List TMv := (data2.set i_.toNat (gD ((0 : Int), ((0 : Int), (0 : Int))) data2 j_))
    chk ((leI 0 j_) && (ltI j_ (v7.length : Int))) <|
    r2 (w64 (i_ + 1)) (w64 (j_ - 1)) (v7.set j_.toNat (gD ((0 : Int), ((0 : Int), (0 : Int))) data2 i_)))
  else bif (ltI j_ i_) then (chk ((leI 0 a_) && (ltI a_ (data2.length : Int))) <|
    chk ((leI 0 j_) && (ltI j_ (data2.length : Int))) <|
    chk ((leI 0 j_) && (ltI j_ (data2.length : Int))) <|
    let v9 : List TMv := (data2.set j_.toNat (gD ((0 : Int), ((0 : Int), (0 : Int))) data2 a_))
    chk ((leI 0 a_) && (ltI a_ (v9.length : Int))) <|
    some (j_, (true, (v9.set a_.toNat (gD ((0 : Int), ((0 : Int), (0 : Int))) data2 j_)))))
  else chk ((leI 0 j_) && (ltI j_ (data2.length : Int))) <|
  chk ((leI 0 i_) && (ltI i_ (data2.length : Int))) <|
  chk ((leI 0 i_) && (ltI i_ (data2.length : Int))) <|
  let v11 : List TMv := (data2.set i_.toNat (gD ((0 : Int), ((0 : Int), (0 : Int))) data2 j_))
  chk ((leI 0 j_) && (ltI j_ (v11.length : Int))) <|
  r2 (w64 (i_ + 1)) (w64 (j_ - 1)) (v11.set j_.toNat (gD ((0 : Int), ((0 : Int), (0 : Int))) data2 i_))
def slices_partitionCmpFunc_api_Move'.s2 (N : Nat) (data : LMv) (a_ : Int) (b_ : Int) (pivot : Int) (r0 : Int → LMv → Option (Int × Bool × LMv)) (r1 : Int → Int → LMv → Option (Int × Bool × LMv)) (r2 : Int → Int → LMv → Option (Int × Bool × LMv)) (r3 : Int → Int → LMv → Option (Int × Bool × LMv)) (r4 : Int → Int → LMv → Option (Int × Bool × LMv)) (i_ : Int) (j_ : Int) (data2 : LMv) : Option (Int × Bool × LMv) :=
  r3 i_ j_ data2
def slices_partitionCmpFunc_api_Move'.s3 (N : Nat) (data : LMv) (a_ : Int) (b_ : Int) (pivot : Int) (r0 : Int → LMv → Option (Int × Bool × LMv)) (r1 : Int → Int → LMv → Option (Int × Bool × LMv)) (r2 : Int → Int → LMv → Option (Int × Bool × LMv)) (r3 : Int → Int → LMv → Option (Int × Bool × LMv)) (r4 : Int → Int → LMv → Option (Int × Bool × LMv)) (i_ : Int) (j_ : Int) (data2 : LMv) : Option (Int × Bool × LMv) :=
  bif (leI i_ j_) then (chk ((leI 0 i_) && (ltI i_ (data2.length : Int))) <|
    chk ((leI 0 a_) && (ltI a_ (data2.length : Int))) <|
    (moves_compare N (gD ((0 : Int), ((0 : Int), (0 : Int))) data2 i_) (gD ((0 : Int), ((0 : Int), (0 : Int))) data2 a_)).bind fun y13 =>
    bif (ltI y13 0) then (r3 (w64 (i_ + 1)) j_ data2)
    else r4 i_ j_ data2)
  else r4 i_ j_ data2
def slices_partitionCmpFunc_api_Move'.s4 (N : Nat) (data : LMv) (a_ : Int) (b_ : Int) (pivot : Int) (r0 : Int → LMv → Option (Int × Bool × LMv)) (r1 : Int → Int → LMv → Option (Int × Bool × LMv)) (r2 : Int → Int → LMv → Option (Int × Bool × LMv)) (r3 : Int → Int → LMv → Option (Int × Bool × LMv)) (r4 : Int → Int → LMv → Option (Int × Bool × LMv)) (i_ : Int) (j_ : Int) (data2 : LMv) : Option (Int × Bool × LMv) :=
  bif (leI i_ j_) then (chk ((leI 0 j_) && (ltI j_ (data2.length : Int))) <|
    chk ((leI 0 a_) && (ltI a_ (data2.length : Int))) <|
    (moves_compare N (gD ((0 : Int), ((0 : Int), (0 : Int))) data2 j_) (gD ((0 : Int), ((0 : Int), (0 : Int))) data2 a_)).bind fun y14 =>
    bif (!(ltI y14 0)) then (r4 i_ (w64 (j_ - 1)) data2)
    else bif (ltI j_ i_) then (chk ((leI 0 a_) && (ltI a_ (data2.length : Int))) <|
      chk ((leI 0 j_) && (ltI j_ (data2.length : Int))) <|
      chk ((leI 0 j_) && (ltI j_ (data2.length : Int))) <|
      let v15 : List TMv := (data2.set j_.toNat (gD ((0 : Int), ((0 : Int), (0 : Int))) data2 a_))
      chk ((leI 0 a_) && (ltI a_ (v15.length : Int))) <|
      some (j_, (false, (v15.set a_.toNat (gD ((0 : Int), ((0 : Int), (0 : Int))) data2 j_)))))
    else chk ((leI 0 j_) && (ltI j_ (data2.length : Int))) <|
    chk ((leI 0 i_) && (ltI i_ (data2.length : Int))) <|
    chk ((leI 0 i_) && (ltI i_ (data2.length : Int))) <|
    let v17 : List TMv := (data2.set i_.toNat (gD ((0 : Int), ((0 : Int), (0 : Int))) data2 j_))
    chk ((leI 0 j_) && (ltI j_ (v17.length : Int))) <|
    r2 (w64 (i_ + 1)) (w64 (j_ - 1)) (v17.set j_.toNat (gD ((0 : Int), ((0 : Int), (0 : Int))) data2 i_)))
  else bif (ltI j_ i_) then (chk ((leI 0 a_) && (ltI a_ (data2.length : Int))) <|
    chk ((leI 0 j_) && (ltI j_ (data2.length : Int))) <|
    chk ((leI 0 j_) && (ltI j_ (data2.length : Int))) <|
    let v19 : List TMv := (data2.set j_.toNat (gD ((0 : Int), ((0 : Int), (0 : Int))) data2 a_))
    chk ((leI 0 a_) && (ltI a_ (v19.length : Int))) <|
    some (j_, (false, (v19.set a_.toNat (gD ((0 : Int), ((0 : Int), (0 : Int))) data2 j_)))))
  else chk ((leI 0 j_) && (ltI j_ (data2.length : Int))) <|
  chk ((leI 0 i_) && (ltI i_ (data2.length : Int))) <|
  chk ((leI 0 i_) && (ltI i_ (data2.length : Int))) <|
  let v21 : List TMv := (data2.set i_.toNat (gD ((0 : Int), ((0 : Int), (0 : Int))) data2 j_))
  chk ((leI 0 j_) && (ltI j_ (v21.length : Int))) <|
  r2 (w64 (i_ + 1)) (w64 (j_ - 1)) (v21.set j_.toNat (gD ((0 : Int), ((0 : Int), (0 : Int))) data2 i_))
def slices_partitionCmpFunc_api_Move'.L (N : Nat) (data : LMv) (a_ : Int) (b_ : Int) (pivot : Int) : Nat → (Int → LMv → Option (Int × Bool × LMv)) × (Int → Int → LMv → Option (Int × Bool × LMv)) × (Int → Int → LMv → Option (Int × Bool × LMv)) × (Int → Int → LMv → Option (Int × Bool × LMv)) × (Int → Int → LMv → Option (Int × Bool × LMv))
  | 0 => (fun _ _ => none, fun _ _ _ => none, fun _ _ _ => none, fun _ _ _ => none, fun _ _ _ => none)
  | n + 1 => (fun i_ data2 => slices_partitionCmpFunc_api_Move'.s0 N data a_ b_ pivot (slices_partitionCmpFunc_api_Move'.L N data a_ b_ pivot n).1 (slices_partitionCmpFunc_api_Move'.L N data a_ b_ pivot n).2.1 (slices_partitionCmpFunc_api_Move'.L N data a_ b_ pivot n).2.2.1 (slices_partitionCmpFunc_api_Move'.L N data a_ b_ pivot n).2.2.2.1 (slices_partitionCmpFunc_api_Move'.L N data a_ b_ pivot n).2.2.2.2 i_ data2, fun i_ j_ data2 => slices_partitionCmpFunc_api_Move'.s1 N data a_ b_ pivot (slices_partitionCmpFunc_api_Move'.L N data a_ b_ pivot n).1 (slices_partitionCmpFunc_api_Move'.L N data a_ b_ pivot n).2.1 (slices_partitionCmpFunc_api_Move'.L N data a_ b_ pivot n).2.2.1 (slices_partitionCmpFunc_api_Move'.L N data a_ b_ pivot n).2.2.2.1 (slices_partitionCmpFunc_api_Move'.L N data a_ b_ pivot n).2.2.2.2 i_ j_ data2, fun i_ j_ data2 => slices_partitionCmpFunc_api_Move'.s2 N data a_ b_ pivot (slices_partitionCmpFunc_api_Move'.L N data a_ b_ pivot n).1 (slices_partitionCmpFunc_api_Move'.L N data a_ b_ pivot n).2.1 (slices_partitionCmpFunc_api_Move'.L N data a_ b_ pivot n).2.2.1 (slices_partitionCmpFunc_api_Move'.L N data a_ b_ pivot n).2.2.2.1 (slices_partitionCmpFunc_api_Move'.L N data a_ b_ pivot n).2.2.2.2 i_ j_ data2, fun i_ j_ data2 => slices_partitionCmpFunc_api_Move'.s3 N data a_ b_ pivot (slices_partitionCmpFunc_api_Move'.L N data a_ b_ pivot n).1 (slices_partitionCmpFunc_api_Move'.L N data a_ b_ pivot n).2.1 (slices_partitionCmpFunc_api_Move'.L N data a_ b_ pivot n).2.2.1 (slices_partitionCmpFunc_api_Move'.L N data a_ b_ pivot n).2.2.2.1 (slices_partitionCmpFunc_api_Move'.L N data a_ b_ pivot n).2.2.2.2 i_ j_ data2, fun i_ j_ data2 => slices_partitionCmpFunc_api_Move'.s4 N data a_ b_ pivot (slices_partitionCmpFunc_api_Move'.L N data a_ b_ pivot n).1 (slices_partitionCmpFunc_api_Move'.L N data a_ b_ pivot n).2.1 (slices_partitionCmpFunc_api_Move'.L N data a_ b_ pivot n).2.2.1 (slices_partitionCmpFunc_api_Move'.L N data a_ b_ pivot n).2.2.2.1 (slices_partitionCmpFunc_api_Move'.L N data a_ b_ pivot n).2.2.2.2 i_ j_ data2)
def slices_partitionCmpFunc_api_Move'.l0 (N : Nat) (data : LMv) (a_ : Int) (b_ : Int) (pivot : Int) (n : Nat) : Int → LMv → Option (Int × Bool × LMv) := (slices_partitionCmpFunc_api_Move'.L N data a_ b_ pivot n).1
def slices_partitionCmpFunc_api_Move'.l1 (N : Nat) (data : LMv) (a_ : Int) (b_ : Int) (pivot : Int) (n : Nat) : Int → Int → LMv → Option (Int × Bool × LMv) := (slices_partitionCmpFunc_api_Move'.L N data a_ b_ pivot n).2.1
def slices_partitionCmpFunc_api_Move'.l2 (N : Nat) (data : LMv) (a_ : Int) (b_ : Int) (pivot : Int) (n : Nat) : Int → Int → LMv → Option (Int × Bool × LMv) := (slices_partitionCmpFunc_api_Move'.L N data a_ b_ pivot n).2.2.1
def slices_partitionCmpFunc_api_Move'.l3 (N : Nat) (data : LMv) (a_ : Int) (b_ : Int) (pivot : Int) (n : Nat) : Int → Int → LMv → Option (Int × Bool × LMv) := (slices_partitionCmpFunc_api_Move'.L N data a_ b_ pivot n).2.2.2.1
def slices_partitionCmpFunc_api_Move'.l4 (N : Nat) (data : LMv) (a_ : Int) (b_ : Int) (pivot : Int) (n : Nat) : Int → Int → LMv → Option (Int × Bool × LMv) := (slices_partitionCmpFunc_api_Move'.L N data a_ b_ pivot n).2.2.2.2
theorem slices_partitionCmpFunc_api_Move'.l0_s (N : Nat) (data : LMv) (a_ : Int) (b_ : Int) (pivot : Int) (n : Nat) (i_ : Int) (data2 : LMv) : slices_partitionCmpFunc_api_Move'.l0 N data a_ b_ pivot (n + 1) i_ data2 = slices_partitionCmpFunc_api_Move'.s0 N data a_ b_ pivot (slices_partitionCmpFunc_api_Move'.l0 N data a_ b_ pivot n) (slices_partitionCmpFunc_api_Move'.l1 N data a_ b_ pivot n) (slices_partitionCmpFunc_api_Move'.l2 N data a_ b_ pivot n) (slices_partitionCmpFunc_api_Move'.l3 N data a_ b_ pivot n) (slices_partitionCmpFunc_api_Move'.l4 N data a_ b_ pivot n) i_ data2 := rfl
theorem slices_partitionCmpFunc_api_Move'.l1_s (N : Nat) (data : LMv) (a_ : Int) (b_ : Int) (pivot : Int) (n : Nat) (i_ : Int) (j_ : Int) (data2 : LMv) : slices_partitionCmpFunc_api_Move'.l1 N data a_ b_ pivot (n + 1) i_ j_ data2 = slices_partitionCmpFunc_api_Move'.s1 N data a_ b_ pivot (slices_partitionCmpFunc_api_Move'.l0 N data a_ b_ pivot n) (slices_partitionCmpFunc_api_Move'.l1 N data a_ b_ pivot n) (slices_partitionCmpFunc_api_Move'.l2 N data a_ b_ pivot n) (slices_partitionCmpFunc_api_Move'.l3 N data a_ b_ pivot n) (slices_partitionCmpFunc_api_Move'.l4 N data a_ b_ pivot n) i_ j_ data2 := rfl
theorem slices_partitionCmpFunc_api_Move'.l2_s (N : Nat) (data : LMv) (a_ : Int) (b_ : Int) (pivot : Int) (n : Nat) (i_ : Int) (j_ : Int) (data2 : LMv) : slices_partitionCmpFunc_api_Move'.l2 N data a_ b_ pivot (n + 1) i_ j_ data2 = slices_partitionCmpFunc_api_Move'.s2 N data a_ b_ pivot (slices_partitionCmpFunc_api_Move'.l0 N data a_ b_ pivot n) (slices_partitionCmpFunc_api_Move'.l1 N data a_ b_ pivot n) (slices_partitionCmpFunc_api_Move'.l2 N data a_ b_ pivot n) (slices_partitionCmpFunc_api_Move'.l3 N data a_ b_ pivot n) (slices_partitionCmpFunc_api_Move'.l4 N data a_ b_ pivot n) i_ j_ data2 := rfl
theorem slices_partitionCmpFunc_api_Move'.l3_s (N : Nat) (data : LMv) (a_ : Int) (b_ : Int) (pivot : Int) (n : Nat) (i_ : Int) (j_ : Int) (data2 : LMv) : slices_partitionCmpFunc_api_Move'.l3 N data a_ b_ pivot (n + 1) i_ j_ data2 = slices_partitionCmpFunc_api_Move'.s3 N data a_ b_ pivot (slices_partitionCmpFunc_api_Move'.l0 N data a_ b_ pivot n) (slices_partitionCmpFunc_api_Move'.l1 N data a_ b_ pivot n) (slices_partitionCmpFunc_api_Move'.l2 N data a_ b_ pivot n) (slices_partitionCmpFunc_api_Move'.l3 N data a_ b_ pivot n) (slices_partitionCmpFunc_api_Move'.l4 N data a_ b_ pivot n) i_ j_ data2 := rfl
theorem slices_partitionCmpFunc_api_Move'.l4_s (N : Nat) (data : LMv) (a_ : Int) (b_ : Int) (pivot : Int) (n : Nat) (i_ : Int) (j_ : Int) (data2 : LMv) : slices_partitionCmpFunc_api_Move'.l4 N data a_ b_ pivot (n + 1) i_ j_ data2 = slices_partitionCmpFunc_api_Move'.s4 N data a_ b_ pivot (slices_partitionCmpFunc_api_Move'.l0 N data a_ b_ pivot n) (slices_partitionCmpFunc_api_Move'.l1 N data a_ b_ pivot n) (slices_partitionCmpFunc_api_Move'.l2 N data a_ b_ pivot n) (slices_partitionCmpFunc_api_Move'.l3 N data a_ b_ pivot n) (slices_partitionCmpFunc_api_Move'.l4 N data a_ b_ pivot n) i_ j_ data2 := rfl
def slices_partitionCmpFunc_api_Move' (N : Nat) (data : LMv) (a_ : Int) (b_ : Int) (pivot : Int) : Option (Int × Bool × LMv) := slices_partitionCmpFunc_api_Move'.e N (slices_partitionCmpFunc_api_Move'.l0 N data a_ b_ pivot N) (slices_partitionCmpFunc_api_Move'.l1 N data a_ b_ pivot N) (slices_partitionCmpFunc_api_Move'.l2 N data a_ b_ pivot N) (slices_partitionCmpFunc_api_Move'.l3 N data a_ b_ pivot N) (slices_partitionCmpFunc_api_Move'.l4 N data a_ b_ pivot N) data a_ b_ pivot
/-! ### f107: slices.nextPowerOfTwo -/
def slices_nextPowerOfTwo.e (N : Nat) (length : Int) : Option Int :=
  (math_bits_Len N (IntKind.wrap .u64 length)).bind fun y2 =>
  bif (ltI y2 0) then none
  else some (IntKind.wrap .u64 (1 * 2 ^ (min (y2 : Int).toNat 64)))
def slices_nextPowerOfTwo (N : Nat) (length : Int) : Option Int := slices_nextPowerOfTwo.e N length
/-! ### f108: (*slices.xorshift).Next -/
def slices_xorshift_Next.e (N : Nat) (r_ : Int) : Option (Int × Int) :=
  let v2 : Int := (Go.bits .xor .u64 r_ (IntKind.wrap .u64 (r_ * 2 ^ (min (13 : Int).toNat 64))))
  let v4 : Int := (Go.bits .xor .u64 v2 (Int.fdiv v2 (2 ^ (min (7 : Int).toNat 64))))
  let v6 : Int := (Go.bits .xor .u64 v4 (IntKind.wrap .u64 (v4 * 2 ^ (min (17 : Int).toNat 64))))
  some (v6, v6)
def slices_xorshift_Next (N : Nat) (r_ : Int) : Option (Int × Int) := slices_xorshift_Next.e N r_
/-! ### f96: slices.breakPatternsCmpFunc[gamehall/api.Move] -/
def slices_breakPatternsCmpFunc_api_Move'.e (N : Nat) (r0 : Int → Int → LMv → Int → Option LMv) (data : LMv) (a_ : Int) (b_ : Int) : Option LMv :=
  bif (leI 8 (w64 (b_ - a_))) then ((slices_nextPowerOfTwo N (w64 (b_ - a_))).bind fun y2 =>
    r0 y2 (w64 ((w64 (a_ + (w64 ((w64 (Int.tdiv (w64 (b_ - a_)) 4)) * 2)))) - 1)) data (IntKind.wrap .u64 (w64 (b_ - a_))))
  else some data
def slices_breakPatternsCmpFunc_api_Move'.s0 (N : Nat) (data : LMv) (a_ : Int) (b_ : Int) (r0 : Int → Int → LMv → Int → Option LMv) (modulus : Int) (idx : Int) (data2 : LMv) (random : Int) : Option LMv :=
  bif (leI idx (w64 ((w64 (a_ + (w64 ((w64 (Int.tdiv (w64 (b_ - a_)) 4)) * 2)))) + 1))) then ((slices_xorshift_Next N random).bind fun y7 =>
    let v9 : Int := (Go.bits .and .u64 y7.1 (IntKind.wrap .u64 (modulus - 1)))
    bif (leI (w64 (b_ - a_)) (w64 v9)) then (let v11 : Int := (w64 ((w64 v9) - (w64 (b_ - a_))))
      chk ((leI 0 (w64 (a_ + v11))) && (ltI (w64 (a_ + v11)) (data2.length : Int))) <|
      chk ((leI 0 idx) && (ltI idx (data2.length : Int))) <|
      chk ((leI 0 idx) && (ltI idx (data2.length : Int))) <|
      let v12 : List TMv := (data2.set idx.toNat (gD ((0 : Int), ((0 : Int), (0 : Int))) data2 (w64 (a_ + v11))))
      chk ((leI 0 (w64 (a_ + v11))) && (ltI (w64 (a_ + v11)) (v12.length : Int))) <|
      r0 modulus (w64 (idx + 1)) (v12.set (w64 (a_ + v11)).toNat (gD ((0 : Int), ((0 : Int), (0 : Int))) data2 idx)) y7.2)
    else chk ((leI 0 (w64 (a_ + (w64 v9)))) && (ltI (w64 (a_ + (w64 v9))) (data2.length : Int))) <|
    chk ((leI 0 idx) && (ltI idx (data2.length : Int))) <|
    chk ((leI 0 idx) && (ltI idx (data2.length : Int))) <|
    let v14 : List TMv := (data2.set idx.toNat (gD ((0 : Int), ((0 : Int), (0 : Int))) data2 (w64 (a_ + (w64 v9)))))
    chk ((leI 0 (w64 (a_ + (w64 v9)))) && (ltI (w64 (a_ + (w64 v9))) (v14.length : Int))) <|
    r0 modulus (w64 (idx + 1)) (v14.set (w64 (a_ + (w64 v9))).toNat (gD ((0 : Int), ((0 : Int), (0 : Int))) data2 idx)) y7.2)
  else some data2
def slices_breakPatternsCmpFunc_api_Move'.L (N : Nat) (data : LMv) (a_ : Int) (b_ : Int) : Nat → (Int → Int → LMv → Int → Option LMv)
  | 0 => fun _ _ _ _ => none
  | n + 1 => fun modulus idx data2 random => slices_breakPatternsCmpFunc_api_Move'.s0 N data a_ b_ (slices_breakPatternsCmpFunc_api_Move'.L N data a_ b_ n) modulus idx data2 random
def slices_breakPatternsCmpFunc_api_Move'.l0 (N : Nat) (data : LMv) (a_ : Int) (b_ : Int) (n : Nat) : Int → Int → LMv → Int → Option LMv := (slices_breakPatternsCmpFunc_api_Move'.L N data a_ b_ n)
theorem slices_breakPatternsCmpFunc_api_Move'.l0_s (N : Nat) (data : LMv) (a_ : Int) (b_ : Int) (n : Nat) (modulus : Int) (idx : Int) (data2 : LMv) (random : Int) : slices_breakPatternsCmpFunc_api_Move'.l0 N data a_ b_ (n + 1) modulus idx data2 random = slices_breakPatternsCmpFunc_api_Move'.s0 N data a_ b_ (slices_breakPatternsCmpFunc_api_Move'.l0 N data a_ b_ n) modulus idx data2 random := rfl
def slices_breakPatternsCmpFunc_api_Move' (N : Nat) (data : LMv) (a_ : Int) (b_ : Int) : Option LMv := slices_breakPatternsCmpFunc_api_Move'.e N (slices_breakPatternsCmpFunc_api_Move'.l0 N data a_ b_ N) data a_ b_
/-! ### f84: slices.pdqsortCmpFunc[gamehall/api.Move] -/
def slices_pdqsortCmpFunc_api_Move'.e (N : Nat) (self : LMv → Int → Int → Int → Option LMv) (r0 : Int → Int → Int → Bool → Bool → LMv → Option LMv) (data : LMv) (a_ : Int) (b_ : Int) (limit : Int) : Option LMv :=
  r0 a_ b_ limit true true data
def slices_pdqsortCmpFunc_api_Move'.s0 (N : Nat) (self : LMv → Int → Int → Int → Option LMv) (data : LMv) (a_ : Int) (b_ : Int) (limit : Int) (r0 : Int → Int → Int → Bool → Bool → LMv → Option LMv) (a_2 : Int) (b_2 : Int) (limit2 : Int) (wasBalanced : Bool) (wasPartitioned : Bool) (data2 : LMv) : Option LMv :=
  bif (leI (w64 (b_2 - a_2)) 12) then ((slices_insertionSortCmpFunc_api_Move' N data2 a_2 b_2).bind fun y2 =>
    some y2)
  else bif (eqI limit2 0) then ((slices_heapSortCmpFunc_api_Move' N data2 a_2 b_2).bind fun y3 =>
    some y3)
  else bif (!wasBalanced) then ((slices_breakPatternsCmpFunc_api_Move' N data2 a_2 b_2).bind fun y4 =>
    (slices_choosePivotCmpFunc_api_Move N y4 a_2 b_2).bind fun y5 =>
    bif (eqI y5.2 2) then ((slices_reverseRangeCmpFunc_api_Move' N y4 a_2 b_2).bind fun y6 =>
      let v7 : Int := (w64 ((w64 (b_2 - 1)) - (w64 (y5.1 - a_2))))
      bif wasBalanced then (bif wasPartitioned then ((slices_partialInsertionSortCmpFunc_api_Move' N y6 a_2 b_2).bind fun y8 =>
          bif y8.1 then some y8.2
          else bif (ltI 0 a_2) then (chk ((leI 0 (w64 (a_2 - 1))) && (ltI (w64 (a_2 - 1)) (y8.2.length : Int))) <|
            chk ((leI 0 v7) && (ltI v7 (y8.2.length : Int))) <|
            (moves_compare N (gD ((0 : Int), ((0 : Int), (0 : Int))) y8.2 (w64 (a_2 - 1))) (gD ((0 : Int), ((0 : Int), (0 : Int))) y8.2 v7)).bind fun y9 =>
            bif (!(ltI y9 0)) then ((slices_partitionEqualCmpFunc_api_Move' N y8.2 a_2 b_2 v7).bind fun y10 =>
              r0 y10.1 b_2 (w64 (limit2 - 1)) wasBalanced wasPartitioned y10.2)
            else (slices_partitionCmpFunc_api_Move' N y8.2 a_2 b_2 v7).bind fun y11 =>
            let v12 : Int := (w64 (Int.tdiv (w64 (b_2 - a_2)) 8))
            bif (ltI (w64 (y11.1 - a_2)) (w64 (b_2 - y11.1))) then ((self y11.2.2 a_2 y11.1 (w64 (limit2 - 1))).bind fun y15 =>
              r0 (w64 (y11.1 + 1)) b_2 (w64 (limit2 - 1)) (leI v12 (w64 (y11.1 - a_2))) y11.2.1 y15)
            else (self y11.2.2 (w64 (y11.1 + 1)) b_2 (w64 (limit2 - 1))).bind fun y17 =>
            r0 a_2 y11.1 (w64 (limit2 - 1)) (leI v12 (w64 (b_2 - y11.1))) y11.2.1 y17)
          else (slices_partitionCmpFunc_api_Move' N y8.2 a_2 b_2 v7).bind fun y18 =>
          let v19 : Int := (w64 (Int.tdiv (w64 (b_2 - a_2)) 8))
          bif (ltI (w64 (y18.1 - a_2)) (w64 (b_2 - y18.1))) then ((self y18.2.2 a_2 y18.1 (w64 (limit2 - 1))).bind fun y22 =>
            r0 (w64 (y18.1 + 1)) b_2 (w64 (limit2 - 1)) (leI v19 (w64 (y18.1 - a_2))) y18.2.1 y22)
          else (self y18.2.2 (w64 (y18.1 + 1)) b_2 (w64 (limit2 - 1))).bind fun y24 =>
          r0 a_2 y18.1 (w64 (limit2 - 1)) (leI v19 (w64 (b_2 - y18.1))) y18.2.1 y24)
        else bif (ltI 0 a_2) then (chk ((leI 0 (w64 (a_2 - 1))) && (ltI (w64 (a_2 - 1)) (y6.length : Int))) <|
          chk ((leI 0 v7) && (ltI v7 (y6.length : Int))) <|
          (moves_compare N (gD ((0 : Int), ((0 : Int), (0 : Int))) y6 (w64 (a_2 - 1))) (gD ((0 : Int), ((0 : Int), (0 : Int))) y6 v7)).bind fun y25 =>
          bif (!(ltI y25 0)) then ((slices_partitionEqualCmpFunc_api_Move' N y6 a_2 b_2 v7).bind fun y26 =>
            r0 y26.1 b_2 (w64 (limit2 - 1)) wasBalanced wasPartitioned y26.2)
          else (slices_partitionCmpFunc_api_Move' N y6 a_2 b_2 v7).bind fun y27 =>
          let v28 : Int := (w64 (Int.tdiv (w64 (b_2 - a_2)) 8))
          bif (ltI (w64 (y27.1 - a_2)) (w64 (b_2 - y27.1))) then ((self y27.2.2 a_2 y27.1 (w64 (limit2 - 1))).bind fun y31 =>
            r0 (w64 (y27.1 + 1)) b_2 (w64 (limit2 - 1)) (leI v28 (w64 (y27.1 - a_2))) y27.2.1 y31)
          else (self y27.2.2 (w64 (y27.1 + 1)) b_2 (w64 (limit2 - 1))).bind fun y33 =>
          r0 a_2 y27.1 (w64 (limit2 - 1)) (leI v28 (w64 (b_2 - y27.1))) y27.2.1 y33)
        else (slices_partitionCmpFunc_api_Move' N y6 a_2 b_2 v7).bind fun y34 =>
        let v35 : Int := (w64 (Int.tdiv (w64 (b_2 - a_2)) 8))
        bif (ltI (w64 (y34.1 - a_2)) (w64 (b_2 - y34.1))) then ((self y34.2.2 a_2 y34.1 (w64 (limit2 - 1))).bind fun y38 =>
          r0 (w64 (y34.1 + 1)) b_2 (w64 (limit2 - 1)) (leI v35 (w64 (y34.1 - a_2))) y34.2.1 y38)
        else (self y34.2.2 (w64 (y34.1 + 1)) b_2 (w64 (limit2 - 1))).bind fun y40 =>
        r0 a_2 y34.1 (w64 (limit2 - 1)) (leI v35 (w64 (b_2 - y34.1))) y34.2.1 y40)
      else bif (ltI 0 a_2) then (chk ((leI 0 (w64 (a_2 - 1))) && (ltI (w64 (a_2 - 1)) (y6.length : Int))) <|
        chk ((leI 0 v7) && (ltI v7 (y6.length : Int))) <|
        (moves_compare N (gD ((0 : Int), ((0 : Int), (0 : Int))) y6 (w64 (a_2 - 1))) (gD ((0 : Int), ((0 : Int), (0 : Int))) y6 v7)).bind fun y41 =>
        bif (!(ltI y41 0)) then ((slices_partitionEqualCmpFunc_api_Move' N y6 a_2 b_2 v7).bind fun y42 =>
          r0 y42.1 b_2 (w64 (limit2 - 1)) wasBalanced wasPartitioned y42.2)
        else (slices_partitionCmpFunc_api_Move' N y6 a_2 b_2 v7).bind fun y43 =>
        let v44 : Int := (w64 (Int.tdiv (w64 (b_2 - a_2)) 8))
        bif (ltI (w64 (y43.1 - a_2)) (w64 (b_2 - y43.1))) then ((self y43.2.2 a_2 y43.1 (w64 (limit2 - 1))).bind fun y47 =>
          r0 (w64 (y43.1 + 1)) b_2 (w64 (limit2 - 1)) (leI v44 (w64 (y43.1 - a_2))) y43.2.1 y47)
        else (self y43.2.2 (w64 (y43.1 + 1)) b_2 (w64 (limit2 - 1))).bind fun y49 =>
        r0 a_2 y43.1 (w64 (limit2 - 1)) (leI v44 (w64 (b_2 - y43.1))) y43.2.1 y49)
      else (slices_partitionCmpFunc_api_Move' N y6 a_2 b_2 v7).bind fun y50 =>
      let v51 : Int := (w64 (Int.tdiv (w64 (b_2 - a_2)) 8))
      bif (ltI (w64 (y50.1 - a_2)) (w64 (b_2 - y50.1))) then ((self y50.2.2 a_2 y50.1 (w64 (limit2 - 1))).bind fun y54 =>
        r0 (w64 (y50.1 + 1)) b_2 (w64 (limit2 - 1)) (leI v51 (w64 (y50.1 - a_2))) y50.2.1 y54)
      else (self y50.2.2 (w64 (y50.1 + 1)) b_2 (w64 (limit2 - 1))).bind fun y56 =>
      r0 a_2 y50.1 (w64 (limit2 - 1)) (leI v51 (w64 (b_2 - y50.1))) y50.2.1 y56)
    else bif wasBalanced then (bif wasPartitioned then (bif (eqI y5.2 1) then ((slices_partialInsertionSortCmpFunc_api_Move' N y4 a_2 b_2).bind fun y57 =>
          bif y57.1 then some y57.2
          else bif (ltI 0 a_2) then (chk ((leI 0 (w64 (a_2 - 1))) && (ltI (w64 (a_2 - 1)) (y57.2.length : Int))) <|
            chk ((leI 0 y5.1) && (ltI y5.1 (y57.2.length : Int))) <|
            (moves_compare N (gD ((0 : Int), ((0 : Int), (0 : Int))) y57.2 (w64 (a_2 - 1))) (gD ((0 : Int), ((0 : Int), (0 : Int))) y57.2 y5.1)).bind fun y58 =>
            bif (!(ltI y58 0)) then ((slices_partitionEqualCmpFunc_api_Move' N y57.2 a_2 b_2 y5.1).bind fun y59 =>
              r0 y59.1 b_2 (w64 (limit2 - 1)) wasBalanced wasPartitioned y59.2)
            else (slices_partitionCmpFunc_api_Move' N y57.2 a_2 b_2 y5.1).bind fun y60 =>
            let v61 : Int := (w64 (Int.tdiv (w64 (b_2 - a_2)) 8))
            bif (ltI (w64 (y60.1 - a_2)) (w64 (b_2 - y60.1))) then ((self y60.2.2 a_2 y60.1 (w64 (limit2 - 1))).bind fun y64 =>
              r0 (w64 (y60.1 + 1)) b_2 (w64 (limit2 - 1)) (leI v61 (w64 (y60.1 - a_2))) y60.2.1 y64)
            else (self y60.2.2 (w64 (y60.1 + 1)) b_2 (w64 (limit2 - 1))).bind fun y66 =>
            r0 a_2 y60.1 (w64 (limit2 - 1)) (leI v61 (w64 (b_2 - y60.1))) y60.2.1 y66)
          else (slices_partitionCmpFunc_api_Move' N y57.2 a_2 b_2 y5.1).bind fun y67 =>
          let v68 : Int := (w64 (Int.tdiv (w64 (b_2 - a_2)) 8))
          bif (ltI (w64 (y67.1 - a_2)) (w64 (b_2 - y67.1))) then ((self y67.2.2 a_2 y67.1 (w64 (limit2 - 1))).bind fun y71 =>
            r0 (w64 (y67.1 + 1)) b_2 (w64 (limit2 - 1)) (leI v68 (w64 (y67.1 - a_2))) y67.2.1 y71)
          else (self y67.2.2 (w64 (y67.1 + 1)) b_2 (w64 (limit2 - 1))).bind fun y73 =>
          r0 a_2 y67.1 (w64 (limit2 - 1)) (leI v68 (w64 (b_2 - y67.1))) y67.2.1 y73)
        else bif (ltI 0 a_2) then (chk ((leI 0 (w64 (a_2 - 1))) && (ltI (w64 (a_2 - 1)) (y4.length : Int))) <|
          chk ((leI 0 y5.1) && (ltI y5.1 (y4.length : Int))) <|
          (moves_compare N (gD ((0 : Int), ((0 : Int), (0 : Int))) y4 (w64 (a_2 - 1))) (gD ((0 : Int), ((0 : Int), (0 : Int))) y4 y5.1)).bind fun y74 =>
          bif (!(ltI y74 0)) then ((slices_partitionEqualCmpFunc_api_Move' N y4 a_2 b_2 y5.1).bind fun y75 =>
            r0 y75.1 b_2 (w64 (limit2 - 1)) wasBalanced wasPartitioned y75.2)
          else (slices_partitionCmpFunc_api_Move' N y4 a_2 b_2 y5.1).bind fun y76 =>
          let v77 : Int := (w64 (Int.tdiv (w64 (b_2 - a_2)) 8))
          bif (ltI (w64 (y76.1 - a_2)) (w64 (b_2 - y76.1))) then ((self y76.2.2 a_2 y76.1 (w64 (limit2 - 1))).bind fun y80 =>
            r0 (w64 (y76.1 + 1)) b_2 (w64 (limit2 - 1)) (leI v77 (w64 (y76.1 - a_2))) y76.2.1 y80)
          else (self y76.2.2 (w64 (y76.1 + 1)) b_2 (w64 (limit2 - 1))).bind fun y82 =>
          r0 a_2 y76.1 (w64 (limit2 - 1)) (leI v77 (w64 (b_2 - y76.1))) y76.2.1 y82)
        else (slices_partitionCmpFunc_api_Move' N y4 a_2 b_2 y5.1).bind fun y83 =>
        let v84 : Int := (w64 (Int.tdiv (w64 (b_2 - a_2)) 8))
        bif (ltI (w64 (y83.1 - a_2)) (w64 (b_2 - y83.1))) then ((self y83.2.2 a_2 y83.1 (w64 (limit2 - 1))).bind fun y87 =>
          r0 (w64 (y83.1 + 1)) b_2 (w64 (limit2 - 1)) (leI v84 (w64 (y83.1 - a_2))) y83.2.1 y87)
        else (self y83.2.2 (w64 (y83.1 + 1)) b_2 (w64 (limit2 - 1))).bind fun y89 =>
        r0 a_2 y83.1 (w64 (limit2 - 1)) (leI v84 (w64 (b_2 - y83.1))) y83.2.1 y89)
      else bif (ltI 0 a_2) then (chk ((leI 0 (w64 (a_2 - 1))) && (ltI (w64 (a_2 - 1)) (y4.length : Int))) <|
        chk ((leI 0 y5.1) && (ltI y5.1 (y4.length : Int))) <|
        (moves_compare N (gD ((0 : Int), ((0 : Int), (0 : Int))) y4 (w64 (a_2 - 1))) (gD ((0 : Int), ((0 : Int), (0 : Int))) y4 y5.1)).bind fun y90 =>
        bif (!(ltI y90 0)) then ((slices_partitionEqualCmpFunc_api_Move' N y4 a_2 b_2 y5.1).bind fun y91 =>
          r0 y91.1 b_2 (w64 (limit2 - 1)) wasBalanced wasPartitioned y91.2)
        else (slices_partitionCmpFunc_api_Move' N y4 a_2 b_2 y5.1).bind fun y92 =>
        let v93 : Int := (w64 (Int.tdiv (w64 (b_2 - a_2)) 8))
        bif (ltI (w64 (y92.1 - a_2)) (w64 (b_2 - y92.1))) then ((self y92.2.2 a_2 y92.1 (w64 (limit2 - 1))).bind fun y96 =>
          r0 (w64 (y92.1 + 1)) b_2 (w64 (limit2 - 1)) (leI v93 (w64 (y92.1 - a_2))) y92.2.1 y96)
        else (self y92.2.2 (w64 (y92.1 + 1)) b_2 (w64 (limit2 - 1))).bind fun y98 =>
        r0 a_2 y92.1 (w64 (limit2 - 1)) (leI v93 (w64 (b_2 - y92.1))) y92.2.1 y98)
      else (slices_partitionCmpFunc_api_Move' N y4 a_2 b_2 y5.1).bind fun y99 =>
      let v100 : Int := (w64 (Int.tdiv (w64 (b_2 - a_2)) 8))
      bif (ltI (w64 (y99.1 - a_2)) (w64 (b_2 - y99.1))) then ((self y99.2.2 a_2 y99.1 (w64 (limit2 - 1))).bind fun y103 =>
        r0 (w64 (y99.1 + 1)) b_2 (w64 (limit2 - 1)) (leI v100 (w64 (y99.1 - a_2))) y99.2.1 y103)
      else (self y99.2.2 (w64 (y99.1 + 1)) b_2 (w64 (limit2 - 1))).bind fun y105 =>
      r0 a_2 y99.1 (w64 (limit2 - 1)) (leI v100 (w64 (b_2 - y99.1))) y99.2.1 y105)
    else bif (ltI 0 a_2) then (chk ((leI 0 (w64 (a_2 - 1))) && (ltI (w64 (a_2 - 1)) (y4.length : Int))) <|
      chk ((leI 0 y5.1) && (ltI y5.1 (y4.length : Int))) <|
      (moves_compare N (gD ((0 : Int), ((0 : Int), (0 : Int))) y4 (w64 (a_2 - 1))) (gD ((0 : Int), ((0 : Int), (0 : Int))) y4 y5.1)).bind fun y106 =>
      bif (!(ltI y106 0)) then ((slices_partitionEqualCmpFunc_api_Move' N y4 a_2 b_2 y5.1).bind fun y107 =>
        r0 y107.1 b_2 (w64 (limit2 - 1)) wasBalanced wasPartitioned y107.2)
      else (slices_partitionCmpFunc_api_Move' N y4 a_2 b_2 y5.1).bind fun y108 =>
      let v109 : Int := (w64 (Int.tdiv (w64 (b_2 - a_2)) 8))
      bif (ltI (w64 (y108.1 - a_2)) (w64 (b_2 - y108.1))) then ((self y108.2.2 a_2 y108.1 (w64 (limit2 - 1))).bind fun y112 =>
        r0 (w64 (y108.1 + 1)) b_2 (w64 (limit2 - 1)) (leI v109 (w64 (y108.1 - a_2))) y108.2.1 y112)
      else (self y108.2.2 (w64 (y108.1 + 1)) b_2 (w64 (limit2 - 1))).bind fun y114 =>
      r0 a_2 y108.1 (w64 (limit2 - 1)) (leI v109 (w64 (b_2 - y108.1))) y108.2.1 y114)
    else (slices_partitionCmpFunc_api_Move' N y4 a_2 b_2 y5.1).bind fun y115 =>
    let v116 : Int := (w64 (Int.tdiv (w64 (b_2 - a_2)) 8))
    bif (ltI (w64 (y115.1 - a_2)) (w64 (b_2 - y115.1))) then ((self y115.2.2 a_2 y115.1 (w64 (limit2 - 1))).bind fun y119 =>
      r0 (w64 (y115.1 + 1)) b_2 (w64 (limit2 - 1)) (leI v116 (w64 (y115.1 - a_2))) y115.2.1 y119)
    else (self y115.2.2 (w64 (y115.1 + 1)) b_2 (w64 (limit2 - 1))).bind fun y121 =>
    r0 a_2 y115.1 (w64 (limit2 - 1)) (leI v116 (w64 (b_2 - y115.1))) y115.2.1 y121)
  else (slices_choosePivotCmpFunc_api_Move N data2 a_2 b_2).bind fun y122 =>
  bif (eqI y122.2 2) then ((slices_reverseRangeCmpFunc_api_Move' N data2 a_2 b_2).bind fun y123 =>
    let v124 : Int := (w64 ((w64 (b_2 - 1)) - (w64 (y122.1 - a_2))))
    bif wasBalanced then (bif wasPartitioned then ((slices_partialInsertionSortCmpFunc_api_Move' N y123 a_2 b_2).bind fun y125 =>
        bif y125.1 then some y125.2
        else bif (ltI 0 a_2) then (chk ((leI 0 (w64 (a_2 - 1))) && (ltI (w64 (a_2 - 1)) (y125.2.length : Int))) <|
          chk ((leI 0 v124) && (ltI v124 (y125.2.length : Int))) <|
          (moves_compare N (gD ((0 : Int), ((0 : Int), (0 : Int))) y125.2 (w64 (a_2 - 1))) (gD ((0 : Int), ((0 : Int), (0 : Int))) y125.2 v124)).bind fun y126 =>
          bif (!(ltI y126 0)) then ((slices_partitionEqualCmpFunc_api_Move' N y125.2 a_2 b_2 v124).bind fun y127 =>
            r0 y127.1 b_2 limit2 wasBalanced wasPartitioned y127.2)
          else (slices_partitionCmpFunc_api_Move' N y125.2 a_2 b_2 v124).bind fun y128 =>
          let v129 : Int := (w64 (Int.tdiv (w64 (b_2 - a_2)) 8))
          bif (ltI (w64 (y128.1 - a_2)) (w64 (b_2 - y128.1))) then ((self y128.2.2 a_2 y128.1 limit2).bind fun y132 =>
            r0 (w64 (y128.1 + 1)) b_2 limit2 (leI v129 (w64 (y128.1 - a_2))) y128.2.1 y132)
          else (self y128.2.2 (w64 (y128.1 + 1)) b_2 limit2).bind fun y134 =>
          r0 a_2 y128.1 limit2 (leI v129 (w64 (b_2 - y128.1))) y128.2.1 y134)
        else (slices_partitionCmpFunc_api_Move' N y125.2 a_2 b_2 v124).bind fun y135 =>
        let v136 : Int := (w64 (Int.tdiv (w64 (b_2 - a_2)) 8))
        bif (ltI (w64 (y135.1 - a_2)) (w64 (b_2 - y135.1))) then ((self y135.2.2 a_2 y135.1 limit2).bind fun y139 =>
          r0 (w64 (y135.1 + 1)) b_2 limit2 (leI v136 (w64 (y135.1 - a_2))) y135.2.1 y139)
        else (self y135.2.2 (w64 (y135.1 + 1)) b_2 limit2).bind fun y141 =>
        r0 a_2 y135.1 limit2 (leI v136 (w64 (b_2 - y135.1))) y135.2.1 y141)
      else bif (ltI 0 a_2) then (chk ((leI 0 (w64 (a_2 - 1))) && (ltI (w64 (a_2 - 1)) (y123.length : Int))) <|
        chk ((leI 0 v124) && (ltI v124 (y123.length : Int))) <|
        (moves_compare N (gD ((0 : Int), ((0 : Int), (0 : Int))) y123 (w64 (a_2 - 1))) (gD ((0 : Int), ((0 : Int), (0 : Int))) y123 v124)).bind fun y142 =>
        bif (!(ltI y142 0)) then ((slices_partitionEqualCmpFunc_api_Move' N y123 a_2 b_2 v124).bind fun y143 =>
          r0 y143.1 b_2 limit2 wasBalanced wasPartitioned y143.2)
        else (slices_partitionCmpFunc_api_Move' N y123 a_2 b_2 v124).bind fun y144 =>
        let v145 : Int := (w64 (Int.tdiv (w64 (b_2 - a_2)) 8))
        bif (ltI (w64 (y144.1 - a_2)) (w64 (b_2 - y144.1))) then ((self y144.2.2 a_2 y144.1 limit2).bind fun y148 =>
          r0 (w64 (y144.1 + 1)) b_2 limit2 (leI v145 (w64 (y144.1 - a_2))) y144.2.1 y148)
        else (self y144.2.2 (w64 (y144.1 + 1)) b_2 limit2).bind fun y150 =>
        r0 a_2 y144.1 limit2 (leI v145 (w64 (b_2 - y144.1))) y144.2.1 y150)
      else (slices_partitionCmpFunc_api_Move' N y123 a_2 b_2 v124).bind fun y151 =>
      let v152 : Int := (w64 (Int.tdiv (w64 (b_2 - a_2)) 8))
      bif (ltI (w64 (y151.1 - a_2)) (w64 (b_2 - y151.1))) then ((self y151.2.2 a_2 y151.1 limit2).bind fun y155 =>
        r0 (w64 (y151.1 + 1)) b_2 limit2 (leI v152 (w64 (y151.1 - a_2))) y151.2.1 y155)
      else (self y151.2.2 (w64 (y151.1 + 1)) b_2 limit2).bind fun y157 =>
      r0 a_2 y151.1 limit2 (leI v152 (w64 (b_2 - y151.1))) y151.2.1 y157)
    else bif (ltI 0 a_2) then (chk ((leI 0 (w64 (a_2 - 1))) && (ltI (w64 (a_2 - 1)) (y123.length : Int))) <|
      chk ((leI 0 v124) && (ltI v124 (y123.length : Int))) <|
      (moves_compare N (gD ((0 : Int), ((0 : Int), (0 : Int))) y123 (w64 (a_2 - 1))) (gD ((0 : Int), ((0 : Int), (0 : Int))) y123 v124)).bind fun y158 =>
      bif (!(ltI y158 0)) then ((slices_partitionEqualCmpFunc_api_Move' N y123 a_2 b_2 v124).bind fun y159 =>
        r0 y159.1 b_2 limit2 wasBalanced wasPartitioned y159.2)
      else (slices_partitionCmpFunc_api_Move' N y123 a_2 b_2 v124).bind fun y160 =>
      let v161 : Int := (w64 (Int.tdiv (w64 (b_2 - a_2)) 8))
      bif (ltI (w64 (y160.1 - a_2)) (w64 (b_2 - y160.1))) then ((self y160.2.2 a_2 y160.1 limit2).bind fun y164 =>
        r0 (w64 (y160.1 + 1)) b_2 limit2 (leI v161 (w64 (y160.1 - a_2))) y160.2.1 y164)
      else (self y160.2.2 (w64 (y160.1 + 1)) b_2 limit2).bind fun y166 =>
      r0 a_2 y160.1 limit2 (leI v161 (w64 (b_2 - y160.1))) y160.2.1 y166)
    else (slices_partitionCmpFunc_api_Move' N y123 a_2 b_2 v124).bind fun y167 =>
    let v168 : Int := (w64 (Int.tdiv (w64 (b_2 - a_2)) 8))
    bif (ltI (w64 (y167.1 - a_2)) (w64 (b_2 - y167.1))) then ((self y167.2.2 a_2 y167.1 limit2).bind fun y171 =>
      r0 (w64 (y167.1 + 1)) b_2 limit2 (leI v168 (w64 (y167.1 - a_2))) y167.2.1 y171)
    else (self y167.2.2 (w64 (y167.1 + 1)) b_2 limit2).bind fun y173 =>
    r0 a_2 y167.1 limit2 (leI v168 (w64 (b_2 - y167.1))) y167.2.1 y173)
  else bif wasBalanced then (bif wasPartitioned then (bif (eqI y122.2 1) then ((slices_partialInsertionSortCmpFunc_api_Move' N data2 a_2 b_2).bind fun y174 =>
        bif y174.1 then some y174.2
        else bif (ltI 0 a_2) then (chk ((leI 0 (w64 (a_2 - 1))) && (ltI (w64 (a_2 - 1)) (y174.2.length : Int))) <|
          chk ((leI 0 y122.1) && (ltI y122.1 (y174.2.length : Int))) <|
          (moves_compare N (gD ((0 : Int), ((0 : Int), (0 : Int))) y174.2 (w64 (a_2 - 1))) (gD ((0 : Int), ((0 : Int), (0 : Int))) y174.2 y122.1)).bind fun y175 =>
          bif (!(ltI y175 0)) then ((slices_partitionEqualCmpFunc_api_Move' N y174.2 a_2 b_2 y122.1).bind fun y176 =>
            r0 y176.1 b_2 limit2 wasBalanced wasPartitioned y176.2)
          else (slices_partitionCmpFunc_api_Move' N y174.2 a_2 b_2 y122.1).bind fun y177 =>
          let v178 : Int := (w64 (Int.tdiv (w64 (b_2 - a_2)) 8))
          bif (ltI (w64 (y177.1 - a_2)) (w64 (b_2 - y177.1))) then ((self y177.2.2 a_2 y177.1 limit2).bind fun y181 =>
            r0 (w64 (y177.1 + 1)) b_2 limit2 (leI v178 (w64 (y177.1 - a_2))) y177.2.1 y181)
          else (self y177.2.2 (w64 (y177.1 + 1)) b_2 limit2).bind fun y183 =>
          r0 a_2 y177.1 limit2 (leI v178 (w64 (b_2 - y177.1))) y177.2.1 y183)
        else (slices_partitionCmpFunc_api_Move' N y174.2 a_2 b_2 y122.1).bind fun y184 =>
        let v185 : Int := (w64 (Int.tdiv (w64 (b_2 - a_2)) 8))
        bif (ltI (w64 (y184.1 - a_2)) (w64 (b_2 - y184.1))) then ((self y184.2.2 a_2 y184.1 limit2).bind fun y188 =>
          r0 (w64 (y184.1 + 1)) b_2 limit2 (leI v185 (w64 (y184.1 - a_2))) y184.2.1 y188)
        else (self y184.2.2 (w64 (y184.1 + 1)) b_2 limit2).bind fun y190 =>
        r0 a_2 y184.1 limit2 (leI v185 (w64 (b_2 - y184.1))) y184.2.1 y190)
      else bif (ltI 0 a_2) then (chk ((leI 0 (w64 (a_2 - 1))) && (ltI (w64 (a_2 - 1)) (data2.length : Int))) <|
        chk ((leI 0 y122.1) && (ltI y122.1 (data2.length : Int))) <|
        (moves_compare N (gD ((0 : Int), ((0 : Int), (0 : Int))) data2 (w64 (a_2 - 1))) (gD ((0 : Int), ((0 : Int), (0 : Int))) data2 y122.1)).bind fun y191 =>
        bif (!(ltI y191 0)) then ((slices_partitionEqualCmpFunc_api_Move' N data2 a_2 b_2 y122.1).bind fun y192 =>
          r0 y192.1 b_2 limit2 wasBalanced wasPartitioned y192.2)
        else (slices_partitionCmpFunc_api_Move' N data2 a_2 b_2 y122.1).bind fun y193 =>
        let v194 : Int := (w64 (Int.tdiv (w64 (b_2 - a_2)) 8))
        bif (ltI (w64 (y193.1 - a_2)) (w64 (b_2 - y193.1))) then ((self y193.2.2 a_2 y193.1 limit2).bind fun y197 =>
          r0 (w64 (y193.1 + 1)) b_2 limit2 (leI v194 (w64 (y193.1 - a_2))) y193.2.1 y197)
        else (self y193.2.2 (w64 (y193.1 + 1)) b_2 limit2).bind fun y199 =>
        r0 a_2 y193.1 limit2 (leI v194 (w64 (b_2 - y193.1))) y193.2.1 y199)
      else (slices_partitionCmpFunc_api_Move' N data2 a_2 b_2 y122.1).bind fun y200 =>
      let v201 : Int := (w64 (Int.tdiv (w64 (b_2 - a_2)) 8))
      bif (ltI (w64 (y200.1 - a_2)) (w64 (b_2 - y200.1))) then ((self y200.2.2 a_2 y200.1 limit2).bind fun y204 =>
        r0 (w64 (y200.1 + 1)) b_2 limit2 (leI v201 (w64 (y200.1 - a_2))) y200.2.1 y204)
      else (self y200.2.2 (w64 (y200.1 + 1)) b_2 limit2).bind fun y206 =>
      r0 a_2 y200.1 limit2 (leI v201 (w64 (b_2 - y200.1))) y200.2.1 y206)
    else bif (ltI 0 a_2) then (chk ((leI 0 (w64 (a_2 - 1))) && (ltI (w64 (a_2 - 1)) (data2.length : Int))) <|
      chk ((leI 0 y122.1) && (ltI y122.1 (data2.length : Int))) <|
      (moves_compare N (gD ((0 : Int), ((0 : Int), (0 : Int))) data2 (w64 (a_2 - 1))) (gD ((0 : Int), ((0 : Int), (0 : Int))) data2 y122.1)).bind fun y207 =>
      bif (!(ltI y207 0)) then ((slices_partitionEqualCmpFunc_api_Move' N data2 a_2 b_2 y122.1).bind fun y208 =>
        r0 y208.1 b_2 limit2 wasBalanced wasPartitioned y208.2)
      else (slices_partitionCmpFunc_api_Move' N data2 a_2 b_2 y122.1).bind fun y209 =>
      let v210 : Int := (w64 (Int.tdiv (w64 (b_2 - a_2)) 8))
      bif (ltI (w64 (y209.1 - a_2)) (w64 (b_2 - y209.1))) then ((self y209.2.2 a_2 y209.1 limit2).bind fun y213 =>
        r0 (w64 (y209.1 + 1)) b_2 limit2 (leI v210 (w64 (y209.1 - a_2))) y209.2.1 y213)
      else (self y209.2.2 (w64 (y209.1 + 1)) b_2 limit2).bind fun y215 =>
      r0 a_2 y209.1 limit2 (leI v210 (w64 (b_2 - y209.1))) y209.2.1 y215)
    else (slices_partitionCmpFunc_api_Move' N data2 a_2 b_2 y122.1).bind fun y216 =>
    let v217 : Int := (w64 (Int.tdiv (w64 (b_2 - a_2)) 8))
    bif (ltI (w64 (y216.1 - a_2)) (w64 (b_2 - y216.1))) then ((self y216.2.2 a_2 y216.1 limit2).bind fun y220 =>
      r0 (w64 (y216.1 + 1)) b_2 limit2 (leI v217 (w64 (y216.1 - a_2))) y216.2.1 y220)
    else (self y216.2.2 (w64 (y216.1 + 1)) b_2 limit2).bind fun y222 =>
    r0 a_2 y216.1 limit2 (leI v217 (w64 (b_2 - y216.1))) y216.2.1 y222)
  else bif (ltI 0 a_2) then (chk ((leI 0 (w64 (a_2 - 1))) && (ltI (w64 (a_2 - 1)) (data2.length : Int))) <|
    chk ((leI 0 y122.1) && (ltI y122.1 (data2.length : Int))) <|
    (moves_compare N (gD ((0 : Int), ((0 : Int), (0 : Int))) data2 (w64 (a_2 - 1))) (gD ((0 : Int), ((0 : Int), (0 : Int))) data2 y122.1)).bind fun y223 =>
    bif (!(ltI y223 0)) then ((slices_partitionEqualCmpFunc_api_Move' N data2 a_2 b_2 y122.1).bind fun y224 =>
      r0 y224.1 b_2 limit2 wasBalanced wasPartitioned y224.2)
    else (slices_partitionCmpFunc_api_Move' N data2 a_2 b_2 y122.1).bind fun y225 =>
    let v226 : Int := (w64 (Int.tdiv (w64 (b_2 - a_2)) 8))
    bif (ltI (w64 (y225.1 - a_2)) (w64 (b_2 - y225.1))) then ((self y225.2.2 a_2 y225.1 limit2).bind fun y229 =>
      r0 (w64 (y225.1 + 1)) b_2 limit2 (leI v226 (w64 (y225.1 - a_2))) y225.2.1 y229)
    else (self y225.2.2 (w64 (y225.1 + 1)) b_2 limit2).bind fun y231 =>
    r0 a_2 y225.1 limit2 (leI v226 (w64 (b_2 - y225.1))) y225.2.1 y231)
  else (slices_partitionCmpFunc_api_Move' N data2 a_2 b_2 y122.1).bind fun y232 =>
  let v233 : Int := (w64 (Int.tdiv (w64 (b_2 - a_2)) 8))
  bif (ltI (w64 (y232.1 - a_2)) (w64 (b_2 - y232.1))) then ((self y232.2.2 a_2 y232.1 limit2).bind fun y236 =>
    r0 (w64 (y232.1 + 1)) b_2 limit2 (leI v233 (w64 (y232.1 - a_2))) y232.2.1 y236)
  else (self y232.2.2 (w64 (y232.1 + 1)) b_2 limit2).bind fun y238 =>
  r0 a_2 y232.1 limit2 (leI v233 (w64 (b_2 - y232.1))) y232.2.1 y238
def slices_pdqsortCmpFunc_api_Move'.L (N : Nat) (self : LMv → Int → Int → Int → Option LMv) (data : LMv) (a_ : Int) (b_ : Int) (limit : Int) : Nat → (Int → Int → Int → Bool → Bool → LMv → Option LMv)
  | 0 => fun _ _ _ _ _ _ => none
  | n + 1 => fun a_2 b_2 limit2 wasBalanced wasPartitioned data2 => slices_pdqsortCmpFunc_api_Move'.s0 N self data a_ b_ limit (slices_pdqsortCmpFunc_api_Move'.L N self data a_ b_ limit n) a_2 b_2 limit2 wasBalanced wasPartitioned data2
def slices_pdqsortCmpFunc_api_Move'.l0 (N : Nat) (self : LMv → Int → Int → Int → Option LMv) (data : LMv) (a_ : Int) (b_ : Int) (limit : Int) (n : Nat) : Int → Int → Int → Bool → Bool → LMv → Option LMv := (slices_pdqsortCmpFunc_api_Move'.L N self data a_ b_ limit n)
theorem slices_pdqsortCmpFunc_api_Move'.l0_s (N : Nat) (self : LMv → Int → Int → Int → Option LMv) (data : LMv) (a_ : Int) (b_ : Int) (limit : Int) (n : Nat) (a_2 : Int) (b_2 : Int) (limit2 : Int) (wasBalanced : Bool) (wasPartitioned : Bool) (data2 : LMv) : slices_pdqsortCmpFunc_api_Move'.l0 N self data a_ b_ limit (n + 1) a_2 b_2 limit2 wasBalanced wasPartitioned data2 = slices_pdqsortCmpFunc_api_Move'.s0 N self data a_ b_ limit (slices_pdqsortCmpFunc_api_Move'.l0 N self data a_ b_ limit n) a_2 b_2 limit2 wasBalanced wasPartitioned data2 := rfl
def slices_pdqsortCmpFunc_api_Move' : Nat → LMv → Int → Int → Int → Option LMv
  | 0 => fun _ _ _ _ => none
  | N + 1 => fun data a_ b_ limit => slices_pdqsortCmpFunc_api_Move'.e N (slices_pdqsortCmpFunc_api_Move' N) (slices_pdqsortCmpFunc_api_Move'.l0 N (slices_pdqsortCmpFunc_api_Move' N) data a_ b_ limit N) data a_ b_ limit
theorem slices_pdqsortCmpFunc_api_Move'_s (N : Nat) (data : LMv) (a_ : Int) (b_ : Int) (limit : Int) : slices_pdqsortCmpFunc_api_Move' (N + 1) data a_ b_ limit = slices_pdqsortCmpFunc_api_Move'.e N (slices_pdqsortCmpFunc_api_Move' N) (slices_pdqsortCmpFunc_api_Move'.l0 N (slices_pdqsortCmpFunc_api_Move' N) data a_ b_ limit N) data a_ b_ limit := rfl
/-! ### f65: slices.SortFunc[[]gamehall/api.Move,gamehall/api.Move] -/
def slices_SortFunc_api_Move_api_Move'.e (N : Nat) (x_ : LMv) : Option LMv :=
  (math_bits_Len N (IntKind.wrap .u64 (x_.length : Int))).bind fun y2 =>
  (slices_pdqsortCmpFunc_api_Move' N x_ 0 (x_.length : Int) y2).bind fun y3 =>
  some y3
def slices_SortFunc_api_Move_api_Move' (N : Nat) (x_ : LMv) : Option LMv := slices_SortFunc_api_Move_api_Move'.e N x_
/-! ### f67: slices.Compact[[]gamehall/api.Move,gamehall/api.Move] -/
def slices_Compact_api_Move_api_Move''.e (N : Nat) (r0 : Int → Option LMv) (r1 : Int → Int → Int → LMv → Option LMv) (s_ : LMv) : Option LMv :=
  bif (ltI (s_.length : Int) 2) then some s_
  else r0 1
def slices_Compact_api_Move_api_Move''.s0 (N : Nat) (s_ : LMv) (r0 : Int → Option LMv) (r1 : Int → Int → Int → LMv → Option LMv) (k_ : Int) : Option LMv :=
  bif (ltI k_ (s_.length : Int)) then (chk ((leI 0 k_) && (ltI k_ (s_.length : Int))) <|
    chk ((leI 0 (w64 (k_ - 1))) && (ltI (w64 (k_ - 1)) (s_.length : Int))) <|
    bif ((eqI (gD ((0 : Int), ((0 : Int), (0 : Int))) s_ k_).1 (gD ((0 : Int), ((0 : Int), (0 : Int))) s_ (w64 (k_ - 1))).1) && ((eqI (gD ((0 : Int), ((0 : Int), (0 : Int))) s_ k_).2.1 (gD ((0 : Int), ((0 : Int), (0 : Int))) s_ (w64 (k_ - 1))).2.1) && ((eqI (gD ((0 : Int), ((0 : Int), (0 : Int))) s_ k_).2.2 (gD ((0 : Int), ((0 : Int), (0 : Int))) s_ (w64 (k_ - 1))).2.2) && true))) then (chk ((leI 0 k_) && (leI k_ (s_.length : Int))) <|
      r1 k_ k_ 1 s_)
    else r0 (w64 (k_ + 1)))
  else some s_
def slices_Compact_api_Move_api_Move''.s1 (N : Nat) (s_ : LMv) (r0 : Int → Option LMv) (r1 : Int → Int → Int → LMv → Option LMv) (k_ : Int) (s2_ : Int) (k2_ : Int) (s_2 : LMv) : Option LMv :=
  bif (ltI k2_ ((s_2.length : Int) - s2_)) then (chk ((leI 0 k2_) && (ltI (s2_ + k2_) (s_2.length : Int))) <|
    chk ((leI 0 (w64 (k2_ - 1))) && (ltI (s2_ + (w64 (k2_ - 1))) (s_2.length : Int))) <|
    bif (!((eqI (gD ((0 : Int), ((0 : Int), (0 : Int))) s_2 (s2_ + k2_)).1 (gD ((0 : Int), ((0 : Int), (0 : Int))) s_2 (s2_ + (w64 (k2_ - 1)))).1) && ((eqI (gD ((0 : Int), ((0 : Int), (0 : Int))) s_2 (s2_ + k2_)).2.1 (gD ((0 : Int), ((0 : Int), (0 : Int))) s_2 (s2_ + (w64 (k2_ - 1)))).2.1) && ((eqI (gD ((0 : Int), ((0 : Int), (0 : Int))) s_2 (s2_ + k2_)).2.2 (gD ((0 : Int), ((0 : Int), (0 : Int))) s_2 (s2_ + (w64 (k2_ - 1)))).2.2) && true)))) then (chk ((leI 0 k2_) && (ltI (s2_ + k2_) (s_2.length : Int))) <|
      chk ((leI 0 k_) && (ltI k_ (s_2.length : Int))) <|
      r1 (w64 (k_ + 1)) s2_ (w64 (k2_ + 1)) (s_2.set k_.toNat (gD ((0 : Int), ((0 : Int), (0 : Int))) s_2 (s2_ + k2_))))
    else r1 k_ s2_ (w64 (k2_ + 1)) s_2)
  else chk ((leI 0 k_) && (leI k_ (s_2.length : Int))) <|
  let v7 : List TMv := (s_2.take k_.toNat ++ List.replicate (s_2.length - k_.toNat) ((0 : Int), ((0 : Int), (0 : Int))))
  chk ((leI 0 k_) && (leI k_ (v7.length : Int))) <|
  some (v7.take k_.toNat)
def slices_Compact_api_Move_api_Move''.L (N : Nat) (s_ : LMv) : Nat → (Int → Option LMv) × (Int → Int → Int → LMv → Option LMv)
  | 0 => (fun _ => none, fun _ _ _ _ => none)
  | n + 1 => (fun k_ => slices_Compact_api_Move_api_Move''.s0 N s_ (slices_Compact_api_Move_api_Move''.L N s_ n).1 (slices_Compact_api_Move_api_Move''.L N s_ n).2 k_, fun k_ s2_ k2_ s_2 => slices_Compact_api_Move_api_Move''.s1 N s_ (slices_Compact_api_Move_api_Move''.L N s_ n).1 (slices_Compact_api_Move_api_Move''.L N s_ n).2 k_ s2_ k2_ s_2)
def slices_Compact_api_Move_api_Move''.l0 (N : Nat) (s_ : LMv) (n : Nat) : Int → Option LMv := (slices_Compact_api_Move_api_Move''.L N s_ n).1
def slices_Compact_api_Move_api_Move''.l1 (N : Nat) (s_ : LMv) (n : Nat) : Int → Int → Int → LMv → Option LMv := (slices_Compact_api_Move_api_Move''.L N s_ n).2
theorem slices_Compact_api_Move_api_Move''.l0_s (N : Nat) (s_ : LMv) (n : Nat) (k_ : Int) : slices_Compact_api_Move_api_Move''.l0 N s_ (n + 1) k_ = slices_Compact_api_Move_api_Move''.s0 N s_ (slices_Compact_api_Move_api_Move''.l0 N s_ n) (slices_Compact_api_Move_api_Move''.l1 N s_ n) k_ := rfl
theorem slices_Compact_api_Move_api_Move''.l1_s (N : Nat) (s_ : LMv) (n : Nat) (k_ : Int) (s2_ : Int) (k2_ : Int) (s_2 : LMv) : slices_Compact_api_Move_api_Move''.l1 N s_ (n + 1) k_ s2_ k2_ s_2 = slices_Compact_api_Move_api_Move''.s1 N s_ (slices_Compact_api_Move_api_Move''.l0 N s_ n) (slices_Compact_api_Move_api_Move''.l1 N s_ n) k_ s2_ k2_ s_2 := rfl
def slices_Compact_api_Move_api_Move'' (N : Nat) (s_ : LMv) : Option LMv := slices_Compact_api_Move_api_Move''.e N (slices_Compact_api_Move_api_Move''.l0 N s_ N) (slices_Compact_api_Move_api_Move''.l1 N s_ N) s_
/-! ### f89: gamehall/rules.Far -/
def rules_Far.e (N : Nat) (r_ : TRules) (player : Int) (square : Int) : Option Bool :=
  bif (eqI player 0) then (bif (eqI r_.2.1 0) then none
    else some (eqI (w64 (Int.tdiv square r_.2.1)) (w64 (r_.2.2.1 - 1))))
  else bif (eqI r_.2.1 0) then none
  else some (eqI (w64 (Int.tdiv square r_.2.1)) 0)
def rules_Far (N : Nat) (r_ : TRules) (player : Int) (square : Int) : Option Bool := rules_Far.e N r_ player square
/-! ### f83: gamehall/moves.arrives -/
def moves_arrives.e (N : Nat) (r_ : TRules) (player : Int) (kind : Int) (to : Int) : Option Int :=
  chk ((leI 0 kind) && (ltI kind (r_.2.2.2.1.length : Int))) <|
  bif (ltI 0 (gD ((0 : Int), ((0 : Int), ((0 : Int), ([] : (List TWay))))) r_.2.2.2.1 kind).2.2.1) then ((rules_Far N r_ player to).bind fun y2 =>
    bif y2 then (some (w64 ((gD ((0 : Int), ((0 : Int), ((0 : Int), ([] : (List TWay))))) r_.2.2.2.1 kind).2.2.1 - 1)))
    else some kind)
  else some kind
def moves_arrives (N : Nat) (r_ : TRules) (player : Int) (kind : Int) (to : Int) : Option Int := moves_arrives.e N r_ player kind to
/-! ### f64: gamehall/moves.along -/
def moves_along'.e (N : Nat) (r0 : Int → Int → Int → Int → Int → LMv → Option LMv) (out : LMv) (r_ : TRules) (p_ : TPos) (from_ : Int) (w_ : TWay) : Option LMv :=
  chk ((leI 0 from_) && (ltI from_ (p_.1.length : Int))) <|
  (moves_Kind N (gD (0 : Int) p_.1 from_)).bind fun y1 =>
  bif (eqI p_.2.2.1 1) then (bif (eqI r_.2.1 0) then none
    else bif (eqI r_.2.1 0) then none
    else r0 y1 (w64 (0 - w_.2.1)) (Int.tmod from_ r_.2.1) (w64 (Int.tdiv from_ r_.2.1)) 0 out)
  else bif (eqI r_.2.1 0) then none
  else bif (eqI r_.2.1 0) then none
  else r0 y1 w_.2.1 (Int.tmod from_ r_.2.1) (w64 (Int.tdiv from_ r_.2.1)) 0 out
def moves_along'.s0 (N : Nat) (out : LMv) (r_ : TRules) (p_ : TPos) (from_ : Int) (w_ : TWay) (r0 : Int → Int → Int → Int → Int → LMv → Option LMv) (kind : Int) (dy : Int) (x_ : Int) (y_ : Int) (t40_ : Int) (out2 : LMv) : Option LMv :=
  bif (ltI t40_ w_.2.2.1) then (bif (ltI (w64 (x_ + w_.1)) 0) then some out2
    else bif (leI r_.2.1 (w64 (x_ + w_.1))) then some out2
    else bif (ltI (w64 (y_ + dy)) 0) then some out2
    else bif (leI r_.2.2.1 (w64 (y_ + dy))) then some out2
    else let v8 : Int := (w64 ((w64 ((w64 (y_ + dy)) * r_.2.1)) + (w64 (x_ + w_.1))))
    chk ((leI 0 v8) && (ltI v8 (p_.1.length : Int))) <|
    (moves_Owner N (gD (0 : Int) p_.1 v8)).bind fun y9 =>
    bif (ltI y9 0) then (bif (!(eqI w_.2.2.2 2)) then ((moves_arrives N r_ p_.2.2.1 kind v8).bind fun y10 =>
        chk (capOk 24 (out2.length + ([(from_, (v8, y10))] : List TMv).length)) <|
        let v11 : List TMv := (out2 ++ [(from_, (v8, y10))])
        bif (leI 0 y9) then some v11
        else r0 kind dy (w64 (x_ + w_.1)) (w64 (y_ + dy)) (w64 (t40_ + 1)) v11)
      else bif (eqI y9 (w64 (1 - p_.2.2.1))) then (bif (!(eqI w_.2.2.2 0)) then ((moves_arrives N r_ p_.2.2.1 kind v8).bind fun y13 =>
          chk (capOk 24 (out2.length + ([(from_, (v8, y13))] : List TMv).length)) <|
          let v14 : List TMv := (out2 ++ [(from_, (v8, y13))])
          bif (leI 0 y9) then some v14
          else r0 kind dy (w64 (x_ + w_.1)) (w64 (y_ + dy)) (w64 (t40_ + 1)) v14)
        else bif (leI 0 y9) then some out2
        else r0 kind dy (w64 (x_ + w_.1)) (w64 (y_ + dy)) (w64 (t40_ + 1)) out2)
      else bif (leI 0 y9) then some out2
      else r0 kind dy (w64 (x_ + w_.1)) (w64 (y_ + dy)) (w64 (t40_ + 1)) out2)
    else bif (eqI y9 (w64 (1 - p_.2.2.1))) then (bif (!(eqI w_.2.2.2 0)) then ((moves_arrives N r_ p_.2.2.1 kind v8).bind fun y16 =>
        chk (capOk 24 (out2.length + ([(from_, (v8, y16))] : List TMv).length)) <|
        let v17 : List TMv := (out2 ++ [(from_, (v8, y16))])
        bif (leI 0 y9) then some v17
        else r0 kind dy (w64 (x_ + w_.1)) (w64 (y_ + dy)) (w64 (t40_ + 1)) v17)
      else bif (leI 0 y9) then some out2
      else r0 kind dy (w64 (x_ + w_.1)) (w64 (y_ + dy)) (w64 (t40_ + 1)) out2)
    else bif (leI 0 y9) then some out2
    else r0 kind dy (w64 (x_ + w_.1)) (w64 (y_ + dy)) (w64 (t40_ + 1)) out2)
  else some out2
def moves_along'.L (N : Nat) (out : LMv) (r_ : TRules) (p_ : TPos) (from_ : Int) (w_ : TWay) : Nat → (Int → Int → Int → Int → Int → LMv → Option LMv)
  | 0 => fun _ _ _ _ _ _ => none
  | n + 1 => fun kind dy x_ y_ t40_ out2 => moves_along'.s0 N out r_ p_ from_ w_ (moves_along'.L N out r_ p_ from_ w_ n) kind dy x_ y_ t40_ out2
def moves_along'.l0 (N : Nat) (out : LMv) (r_ : TRules) (p_ : TPos) (from_ : Int) (w_ : TWay) (n : Nat) : Int → Int → Int → Int → Int → LMv → Option LMv := (moves_along'.L N out r_ p_ from_ w_ n)
theorem moves_along'.l0_s (N : Nat) (out : LMv) (r_ : TRules) (p_ : TPos) (from_ : Int) (w_ : TWay) (n : Nat) (kind : Int) (dy : Int) (x_ : Int) (y_ : Int) (t40_ : Int) (out2 : LMv) : moves_along'.l0 N out r_ p_ from_ w_ (n + 1) kind dy x_ y_ t40_ out2 = moves_along'.s0 N out r_ p_ from_ w_ (moves_along'.l0 N out r_ p_ from_ w_ n) kind dy x_ y_ t40_ out2 := rfl
def moves_along' (N : Nat) (out : LMv) (r_ : TRules) (p_ : TPos) (from_ : Int) (w_ : TWay) : Option LMv := moves_along'.e N (moves_along'.l0 N out r_ p_ from_ w_ N) out r_ p_ from_ w_
/-! ### f61: gamehall/moves.open -/
def moves_open.e (N : Nat) (r0 : Int → Option Bool) (r_ : TRules) (p_ : TPos) (s_ : Int) : Option Bool :=
  chk ((leI 0 s_) && (ltI s_ (p_.1.length : Int))) <|
  bif (!(eqI (gD (0 : Int) p_.1 s_) 0)) then some false
  else bif r_.2.2.2.2.2.1 then (r0 (w64 (s_ - r_.2.1)))
  else some true
def moves_open.s0 (N : Nat) (r_ : TRules) (p_ : TPos) (s_ : Int) (r0 : Int → Option Bool) (low : Int) : Option Bool :=
  bif (leI 0 low) then (chk ((leI 0 low) && (ltI low (p_.1.length : Int))) <|
    bif (eqI (gD (0 : Int) p_.1 low) 0) then some false
    else r0 (w64 (low - r_.2.1)))
  else some true
def moves_open.L (N : Nat) (r_ : TRules) (p_ : TPos) (s_ : Int) : Nat → (Int → Option Bool)
  | 0 => fun _ => none
  | n + 1 => fun low => moves_open.s0 N r_ p_ s_ (moves_open.L N r_ p_ s_ n) low
def moves_open.l0 (N : Nat) (r_ : TRules) (p_ : TPos) (s_ : Int) (n : Nat) : Int → Option Bool := (moves_open.L N r_ p_ s_ n)
theorem moves_open.l0_s (N : Nat) (r_ : TRules) (p_ : TPos) (s_ : Int) (n : Nat) (low : Int) : moves_open.l0 N r_ p_ s_ (n + 1) low = moves_open.s0 N r_ p_ s_ (moves_open.l0 N r_ p_ s_ n) low := rfl
def moves_open (N : Nat) (r_ : TRules) (p_ : TPos) (s_ : Int) : Option Bool := moves_open.e N (moves_open.l0 N r_ p_ s_ N) r_ p_ s_
/-! ### f40: gamehall/moves.Gen -/
def moves_Gen.e (N : Nat) (r0 : LInt → Int → Int → LMv → Option LMv) (r1 : Int → Int → LInt → Int → Int → Int → LMv → Option LMv) (r2 : Int → LMv → Option LMv) (r3 : Int → Int → (List TWay) → Int → Int → LMv → Option LMv) (r_ : TRules) (p_ : TPos) : Option LMv :=
  bif (eqI p_.2.2.1 0) then (r0 p_.2.1.1 (p_.2.1.1.length : Int) 0 [])
  else bif (eqI p_.2.2.1 1) then (r0 p_.2.1.2 (p_.2.1.2.length : Int) 0 [])
  else none
def moves_Gen.s0 (N : Nat) (r_ : TRules) (p_ : TPos) (r0 : LInt → Int → Int → LMv → Option LMv) (r1 : Int → Int → LInt → Int → Int → Int → LMv → Option LMv) (r2 : Int → LMv → Option LMv) (r3 : Int → Int → (List TWay) → Int → Int → LMv → Option LMv) (t17_ : LInt) (t18_ : Int) (t19_ : Int) (out : LMv) : Option LMv :=
  bif (ltI t19_ t18_) then (chk ((leI 0 t19_) && (ltI t19_ (t17_.length : Int))) <|
    r1 t19_ (gD (0 : Int) t17_ t19_) t17_ t18_ t19_ 0 out)
  else r2 0 out
def moves_Gen.s1 (N : Nat) (r_ : TRules) (p_ : TPos) (r0 : LInt → Int → Int → LMv → Option LMv) (r1 : Int → Int → LInt → Int → Int → Int → LMv → Option LMv) (r2 : Int → LMv → Option LMv) (r3 : Int → Int → (List TWay) → Int → Int → LMv → Option LMv) (t_ : Int) (n_ : Int) (t17_ : LInt) (t18_ : Int) (t19_ : Int) (t27_ : Int) (out : LMv) : Option LMv :=
  bif (ltI t27_ (p_.1.length : Int)) then (bif (ltI 0 n_) then ((moves_open N r_ p_ t27_).bind fun y9 =>
      bif y9 then (chk (capOk 24 (out.length + ([((-1), (t27_, t_))] : List TMv).length)) <|
        r1 t_ n_ t17_ t18_ t19_ (w64 (t27_ + 1)) (out ++ [((-1), (t27_, t_))]))
      else r1 t_ n_ t17_ t18_ t19_ (w64 (t27_ + 1)) out)
    else r1 t_ n_ t17_ t18_ t19_ (w64 (t27_ + 1)) out)
  else r0 t17_ t18_ (w64 (t19_ + 1)) out
def moves_Gen.s2 (N : Nat) (r_ : TRules) (p_ : TPos) (r0 : LInt → Int → Int → LMv → Option LMv) (r1 : Int → Int → LInt → Int → Int → Int → LMv → Option LMv) (r2 : Int → LMv → Option LMv) (r3 : Int → Int → (List TWay) → Int → Int → LMv → Option LMv) (t49_ : Int) (out : LMv) : Option LMv :=
  bif (ltI t49_ (p_.1.length : Int)) then (chk ((leI 0 t49_) && (ltI t49_ (p_.1.length : Int))) <|
    (moves_Owner N (gD (0 : Int) p_.1 t49_)).bind fun y2 =>
    bif (eqI y2 p_.2.2.1) then ((moves_Kind N (gD (0 : Int) p_.1 t49_)).bind fun y3 =>
      chk ((leI 0 y3) && (ltI y3 (r_.2.2.2.1.length : Int))) <|
      r3 t49_ t49_ (gD ((0 : Int), ((0 : Int), ((0 : Int), ([] : (List TWay))))) r_.2.2.2.1 y3).2.2.2 ((gD ((0 : Int), ((0 : Int), ((0 : Int), ([] : (List TWay))))) r_.2.2.2.1 y3).2.2.2.length : Int) 0 out)
    else r2 (w64 (t49_ + 1)) out)
  else (slices_SortFunc_api_Move_api_Move' N out).bind fun y5 =>
  (slices_Compact_api_Move_api_Move'' N y5).bind fun y6 =>
  some y6
def moves_Gen.s3 (N : Nat) (r_ : TRules) (p_ : TPos) (r0 : LInt → Int → Int → LMv → Option LMv) (r1 : Int → Int → LInt → Int → Int → Int → LMv → Option LMv) (r2 : Int → LMv → Option LMv) (r3 : Int → Int → (List TWay) → Int → Int → LMv → Option LMv) (s_ : Int) (t49_ : Int) (t65_ : (List TWay)) (t66_ : Int) (t67_ : Int) (out : LMv) : Option LMv :=
  bif (ltI t67_ t66_) then (chk ((leI 0 t67_) && (ltI t67_ (t65_.length : Int))) <|
    (moves_along' N out r_ p_ s_ (gD ((0 : Int), ((0 : Int), ((0 : Int), (0 : Int)))) t65_ t67_)).bind fun y7 =>
    r3 s_ t49_ t65_ t66_ (w64 (t67_ + 1)) y7)
  else r2 (w64 (t49_ + 1)) out
def moves_Gen.L (N : Nat) (r_ : TRules) (p_ : TPos) : Nat → (LInt → Int → Int → LMv → Option LMv) × (Int → Int → LInt → Int → Int → Int → LMv → Option LMv) × (Int → LMv → Option LMv) × (Int → Int → (List TWay) → Int → Int → LMv → Option LMv)
  | 0 => (fun _ _ _ _ => none, fun _ _ _ _ _ _ _ => none, fun _ _ => none, fun _ _ _ _ _ _ => none)
  | n + 1 => (fun t17_ t18_ t19_ out => moves_Gen.s0 N r_ p_ (moves_Gen.L N r_ p_ n).1 (moves_Gen.L N r_ p_ n).2.1 (moves_Gen.L N r_ p_ n).2.2.1 (moves_Gen.L N r_ p_ n).2.2.2 t17_ t18_ t19_ out, fun t_ n_ t17_ t18_ t19_ t27_ out => moves_Gen.s1 N r_ p_ (moves_Gen.L N r_ p_ n).1 (moves_Gen.L N r_ p_ n).2.1 (moves_Gen.L N r_ p_ n).2.2.1 (moves_Gen.L N r_ p_ n).2.2.2 t_ n_ t17_ t18_ t19_ t27_ out, fun t49_ out => moves_Gen.s2 N r_ p_ (moves_Gen.L N r_ p_ n).1 (moves_Gen.L N r_ p_ n).2.1 (moves_Gen.L N r_ p_ n).2.2.1 (moves_Gen.L N r_ p_ n).2.2.2 t49_ out, fun s_ t49_ t65_ t66_ t67_ out => moves_Gen.s3 N r_ p_ (moves_Gen.L N r_ p_ n).1 (moves_Gen.L N r_ p_ n).2.1 (moves_Gen.L N r_ p_ n).2.2.1 (moves_Gen.L N r_ p_ n).2.2.2 s_ t49_ t65_ t66_ t67_ out)
def moves_Gen.l0 (N : Nat) (r_ : TRules) (p_ : TPos) (n : Nat) : LInt → Int → Int → LMv → Option LMv := (moves_Gen.L N r_ p_ n).1
def moves_Gen.l1 (N : Nat) (r_ : TRules) (p_ : TPos) (n : Nat) : Int → Int → LInt → Int → Int → Int → LMv → Option LMv := (moves_Gen.L N r_ p_ n).2.1
def moves_Gen.l2 (N : Nat) (r_ : TRules) (p_ : TPos) (n : Nat) : Int → LMv → Option LMv := (moves_Gen.L N r_ p_ n).2.2.1
def moves_Gen.l3 (N : Nat) (r_ : TRules) (p_ : TPos) (n : Nat) : Int → Int → (List TWay) → Int → Int → LMv → Option LMv := (moves_Gen.L N r_ p_ n).2.2.2
theorem moves_Gen.l0_s (N : Nat) (r_ : TRules) (p_ : TPos) (n : Nat) (t17_ : LInt) (t18_ : Int) (t19_ : Int) (out : LMv) : moves_Gen.l0 N r_ p_ (n + 1) t17_ t18_ t19_ out = moves_Gen.s0 N r_ p_ (moves_Gen.l0 N r_ p_ n) (moves_Gen.l1 N r_ p_ n) (moves_Gen.l2 N r_ p_ n) (moves_Gen.l3 N r_ p_ n) t17_ t18_ t19_ out := rfl
theorem moves_Gen.l1_s (N : Nat) (r_ : TRules) (p_ : TPos) (n : Nat) (t_ : Int) (n_ : Int) (t17_ : LInt) (t18_ : Int) (t19_ : Int) (t27_ : Int) (out : LMv) : moves_Gen.l1 N r_ p_ (n + 1) t_ n_ t17_ t18_ t19_ t27_ out = moves_Gen.s1 N r_ p_ (moves_Gen.l0 N r_ p_ n) (moves_Gen.l1 N r_ p_ n) (moves_Gen.l2 N r_ p_ n) (moves_Gen.l3 N r_ p_ n) t_ n_ t17_ t18_ t19_ t27_ out := rfl
theorem moves_Gen.l2_s (N : Nat) (r_ : TRules) (p_ : TPos) (n : Nat) (t49_ : Int) (out : LMv) : moves_Gen.l2 N r_ p_ (n + 1) t49_ out = moves_Gen.s2 N r_ p_ (moves_Gen.l0 N r_ p_ n) (moves_Gen.l1 N r_ p_ n) (moves_Gen.l2 N r_ p_ n) (moves_Gen.l3 N r_ p_ n) t49_ out := rfl
theorem moves_Gen.l3_s (N : Nat) (r_ : TRules) (p_ : TPos) (n : Nat) (s_ : Int) (t49_ : Int) (t65_ : (List TWay)) (t66_ : Int) (t67_ : Int) (out : LMv) : moves_Gen.l3 N r_ p_ (n + 1) s_ t49_ t65_ t66_ t67_ out = moves_Gen.s3 N r_ p_ (moves_Gen.l0 N r_ p_ n) (moves_Gen.l1 N r_ p_ n) (moves_Gen.l2 N r_ p_ n) (moves_Gen.l3 N r_ p_ n) s_ t49_ t65_ t66_ t67_ out := rfl
def moves_Gen (N : Nat) (r_ : TRules) (p_ : TPos) : Option LMv := moves_Gen.e N (moves_Gen.l0 N r_ p_ N) (moves_Gen.l1 N r_ p_ N) (moves_Gen.l2 N r_ p_ N) (moves_Gen.l3 N r_ p_ N) r_ p_
/-! ### f11: gamehall/moves.All -/
def moves_All.e (N : Nat) (r_ : TRules) (p_ : TPos) : Option (LMv × Int) :=
  (place_Check N r_ p_).bind fun y1 =>
  bif (!(eqI y1 0)) then (some ([], y1))
  else (moves_Gen N r_ p_).bind fun y2 =>
  some (y2, 0)
def moves_All (N : Nat) (r_ : TRules) (p_ : TPos) : Option (LMv × Int) := moves_All.e N r_ p_
/-! ### f28: gamehall/gamehallkeep1.put -/
def gamehallkeep1_put.e (N : Nat) (s_ : Int) : Option TMv :=
  some ((-1), (s_, 0))
def gamehallkeep1_put (N : Nat) (s_ : Int) : Option TMv := gamehallkeep1_put.e N s_
/-! ### f43: slices.Index[[]gamehall/api.Move,gamehall/api.Move] -/
def slices_Index_api_Move_api_Move.e (N : Nat) (r0 : Int → Option Int) (s_ : LMv) (v_ : TMv) : Option Int :=
  r0 0
def slices_Index_api_Move_api_Move.s0 (N : Nat) (s_ : LMv) (v_ : TMv) (r0 : Int → Option Int) (t8_ : Int) : Option Int :=
  bif (ltI t8_ (s_.length : Int)) then (chk ((leI 0 t8_) && (ltI t8_ (s_.length : Int))) <|
    bif ((eqI v_.1 (gD ((0 : Int), ((0 : Int), (0 : Int))) s_ t8_).1) && ((eqI v_.2.1 (gD ((0 : Int), ((0 : Int), (0 : Int))) s_ t8_).2.1) && ((eqI v_.2.2 (gD ((0 : Int), ((0 : Int), (0 : Int))) s_ t8_).2.2) && true))) then some t8_
    else r0 (w64 (t8_ + 1)))
  else some (-1)
def slices_Index_api_Move_api_Move.L (N : Nat) (s_ : LMv) (v_ : TMv) : Nat → (Int → Option Int)
  | 0 => fun _ => none
  | n + 1 => fun t8_ => slices_Index_api_Move_api_Move.s0 N s_ v_ (slices_Index_api_Move_api_Move.L N s_ v_ n) t8_
def slices_Index_api_Move_api_Move.l0 (N : Nat) (s_ : LMv) (v_ : TMv) (n : Nat) : Int → Option Int := (slices_Index_api_Move_api_Move.L N s_ v_ n)
theorem slices_Index_api_Move_api_Move.l0_s (N : Nat) (s_ : LMv) (v_ : TMv) (n : Nat) (t8_ : Int) : slices_Index_api_Move_api_Move.l0 N s_ v_ (n + 1) t8_ = slices_Index_api_Move_api_Move.s0 N s_ v_ (slices_Index_api_Move_api_Move.l0 N s_ v_ n) t8_ := rfl
def slices_Index_api_Move_api_Move (N : Nat) (s_ : LMv) (v_ : TMv) : Option Int := slices_Index_api_Move_api_Move.e N (slices_Index_api_Move_api_Move.l0 N s_ v_ N) s_ v_
/-! ### f14: slices.Contains[[]gamehall/api.Move,gamehall/api.Move] -/
def slices_Contains_api_Move_api_Move.e (N : Nat) (s_ : LMv) (v_ : TMv) : Option Bool :=
  (slices_Index_api_Move_api_Move N s_ v_).bind fun y1 =>
  some (leI 0 y1)
def slices_Contains_api_Move_api_Move (N : Nat) (s_ : LMv) (v_ : TMv) : Option Bool := slices_Contains_api_Move_api_Move.e N s_ v_
/-! ### f39: gamehall/moves.Legal -/
def moves_Legal.e (N : Nat) (r_ : TRules) (p_ : TPos) (m_ : TMv) : Option (Bool × Int) :=
  (place_Check N r_ p_).bind fun y1 =>
  bif (!(eqI y1 0)) then (some (false, y1))
  else (moves_Gen N r_ p_).bind fun y2 =>
  (slices_Contains_api_Move_api_Move N y2 m_).bind fun y3 =>
  some (y3, 0)
def moves_Legal (N : Nat) (r_ : TRules) (p_ : TPos) (m_ : TMv) : Option (Bool × Int) := moves_Legal.e N r_ p_ m_
/-! ### f75: gamehall/moves.Cell -/
def moves_Cell.e (N : Nat) (kind : Int) (player : Int) : Option Int :=
  some (w64 ((w64 ((w64 (2 * kind)) + player)) + 1))
def moves_Cell (N : Nat) (kind : Int) (player : Int) : Option Int := moves_Cell.e N kind player
/-! ### f57: gamehall/moves.Do -/
def moves_Do.e (N : Nat) (r_ : TRules) (p_ : TPos) (m_ : TMv) : Option TPos :=
  (place_Copy N p_).bind fun y1 =>
  bif (ltI m_.1 0) then (bif (eqI p_.2.2.1 0) then (chk ((leI 0 m_.2.2) && (ltI m_.2.2 (y1.2.1.1.length : Int))) <|
      chk ((leI 0 m_.2.2) && (ltI m_.2.2 (y1.2.1.1.length : Int))) <|
      let v4 : List Int := (y1.2.1.1.set m_.2.2.toNat (w64 ((gD (0 : Int) y1.2.1.1 m_.2.2) - 1)))
      chk ((leI 0 m_.2.1) && (ltI m_.2.1 (p_.1.length : Int))) <|
      bif (!(eqI (gD (0 : Int) p_.1 m_.2.1) 0)) then (bif (eqI p_.2.2.1 0) then (bif r_.2.2.2.2.2.2.1 then ((moves_Kind N (gD (0 : Int) p_.1 m_.2.1)).bind fun y6 =>
            (moves_Kind N (gD (0 : Int) p_.1 m_.2.1)).bind fun y7 =>
            chk ((leI 0 y7) && (ltI y7 (v4.length : Int))) <|
            let v8 : Int := (w64 ((gD (0 : Int) v4 y7) + 1))
            chk ((leI 0 y6) && (ltI y6 (v4.length : Int))) <|
            (moves_Cell N m_.2.2 p_.2.2.1).bind fun y10 =>
            chk ((leI 0 m_.2.1) && (ltI m_.2.1 (y1.1.length : Int))) <|
            some ((y1.1.set m_.2.1.toNat y10), (((v4.set y6.toNat (bif (ltI 1000 v8) then 1000 else v8)), y1.2.1.2), ((w64 (1 - p_.2.2.1)), 0))))
          else (moves_Cell N m_.2.2 p_.2.2.1).bind fun y12 =>
          chk ((leI 0 m_.2.1) && (ltI m_.2.1 (y1.1.length : Int))) <|
          some ((y1.1.set m_.2.1.toNat y12), ((v4, y1.2.1.2), ((w64 (1 - p_.2.2.1)), 0))))
        else bif (eqI p_.2.2.1 1) then (bif r_.2.2.2.2.2.2.1 then ((moves_Kind N (gD (0 : Int) p_.1 m_.2.1)).bind fun y14 =>
            (moves_Kind N (gD (0 : Int) p_.1 m_.2.1)).bind fun y15 =>
            chk ((leI 0 y15) && (ltI y15 (y1.2.1.2.length : Int))) <|
            let v16 : Int := (w64 ((gD (0 : Int) y1.2.1.2 y15) + 1))
            chk ((leI 0 y14) && (ltI y14 (y1.2.1.2.length : Int))) <|
            (moves_Cell N m_.2.2 p_.2.2.1).bind fun y19 =>
            chk ((leI 0 m_.2.1) && (ltI m_.2.1 (y1.1.length : Int))) <|
            some ((y1.1.set m_.2.1.toNat y19), ((v4, (y1.2.1.2.set y14.toNat (bif (ltI 1000 v16) then 1000 else v16))), ((w64 (1 - p_.2.2.1)), 0))))
          else (moves_Cell N m_.2.2 p_.2.2.1).bind fun y21 =>
          chk ((leI 0 m_.2.1) && (ltI m_.2.1 (y1.1.length : Int))) <|
          some ((y1.1.set m_.2.1.toNat y21), ((v4, y1.2.1.2), ((w64 (1 - p_.2.2.1)), 0))))
        else none)
      else (moves_Cell N m_.2.2 p_.2.2.1).bind fun y23 =>
      chk ((leI 0 m_.2.1) && (ltI m_.2.1 (y1.1.length : Int))) <|
      some ((y1.1.set m_.2.1.toNat y23), ((v4, y1.2.1.2), ((w64 (1 - p_.2.2.1)), 0))))
    else bif (eqI p_.2.2.1 1) then (chk ((leI 0 m_.2.2) && (ltI m_.2.2 (y1.2.1.2.length : Int))) <|
      chk ((leI 0 m_.2.2) && (ltI m_.2.2 (y1.2.1.2.length : Int))) <|
      let v26 : List Int := (y1.2.1.2.set m_.2.2.toNat (w64 ((gD (0 : Int) y1.2.1.2 m_.2.2) - 1)))
      chk ((leI 0 m_.2.1) && (ltI m_.2.1 (p_.1.length : Int))) <|
      bif (!(eqI (gD (0 : Int) p_.1 m_.2.1) 0)) then (bif (eqI p_.2.2.1 0) then (bif r_.2.2.2.2.2.2.1 then ((moves_Kind N (gD (0 : Int) p_.1 m_.2.1)).bind fun y28 =>
            (moves_Kind N (gD (0 : Int) p_.1 m_.2.1)).bind fun y29 =>
            chk ((leI 0 y29) && (ltI y29 (y1.2.1.1.length : Int))) <|
            let v30 : Int := (w64 ((gD (0 : Int) y1.2.1.1 y29) + 1))
            chk ((leI 0 y28) && (ltI y28 (y1.2.1.1.length : Int))) <|
            (moves_Cell N m_.2.2 p_.2.2.1).bind fun y33 =>
            chk ((leI 0 m_.2.1) && (ltI m_.2.1 (y1.1.length : Int))) <|
            some ((y1.1.set m_.2.1.toNat y33), (((y1.2.1.1.set y28.toNat (bif (ltI 1000 v30) then 1000 else v30)), v26), ((w64 (1 - p_.2.2.1)), 0))))
          else (moves_Cell N m_.2.2 p_.2.2.1).bind fun y35 =>
          chk ((leI 0 m_.2.1) && (ltI m_.2.1 (y1.1.length : Int))) <|
          some ((y1.1.set m_.2.1.toNat y35), ((y1.2.1.1, v26), ((w64 (1 - p_.2.2.1)), 0))))
        else bif (eqI p_.2.2.1 1) then (bif r_.2.2.2.2.2.2.1 then ((moves_Kind N (gD (0 : Int) p_.1 m_.2.1)).bind fun y37 =>
            (moves_Kind N (gD (0 : Int) p_.1 m_.2.1)).bind fun y38 =>
            chk ((leI 0 y38) && (ltI y38 (v26.length : Int))) <|
            let v39 : Int := (w64 ((gD (0 : Int) v26 y38) + 1))
            chk ((leI 0 y37) && (ltI y37 (v26.length : Int))) <|
            (moves_Cell N m_.2.2 p_.2.2.1).bind fun y41 =>
            chk ((leI 0 m_.2.1) && (ltI m_.2.1 (y1.1.length : Int))) <|
            some ((y1.1.set m_.2.1.toNat y41), ((y1.2.1.1, (v26.set y37.toNat (bif (ltI 1000 v39) then 1000 else v39))), ((w64 (1 - p_.2.2.1)), 0))))
          else (moves_Cell N m_.2.2 p_.2.2.1).bind fun y43 =>
          chk ((leI 0 m_.2.1) && (ltI m_.2.1 (y1.1.length : Int))) <|
          some ((y1.1.set m_.2.1.toNat y43), ((y1.2.1.1, v26), ((w64 (1 - p_.2.2.1)), 0))))
        else none)
      else (moves_Cell N m_.2.2 p_.2.2.1).bind fun y45 =>
      chk ((leI 0 m_.2.1) && (ltI m_.2.1 (y1.1.length : Int))) <|
      some ((y1.1.set m_.2.1.toNat y45), ((y1.2.1.1, v26), ((w64 (1 - p_.2.2.1)), 0))))
    else none)
  else chk ((leI 0 m_.1) && (ltI m_.1 (y1.1.length : Int))) <|
  chk ((leI 0 m_.2.1) && (ltI m_.2.1 (p_.1.length : Int))) <|
  bif (!(eqI (gD (0 : Int) p_.1 m_.2.1) 0)) then (bif (eqI p_.2.2.1 0) then (bif r_.2.2.2.2.2.2.1 then ((moves_Kind N (gD (0 : Int) p_.1 m_.2.1)).bind fun y48 =>
        (moves_Kind N (gD (0 : Int) p_.1 m_.2.1)).bind fun y49 =>
        chk ((leI 0 y49) && (ltI y49 (y1.2.1.1.length : Int))) <|
        let v50 : Int := (w64 ((gD (0 : Int) y1.2.1.1 y49) + 1))
        chk ((leI 0 y48) && (ltI y48 (y1.2.1.1.length : Int))) <|
        (moves_Cell N m_.2.2 p_.2.2.1).bind fun y53 =>
        chk ((leI 0 m_.2.1) && (ltI m_.2.1 ((y1.1.set m_.1.toNat 0).length : Int))) <|
        some (((y1.1.set m_.1.toNat 0).set m_.2.1.toNat y53), (((y1.2.1.1.set y48.toNat (bif (ltI 1000 v50) then 1000 else v50)), y1.2.1.2), ((w64 (1 - p_.2.2.1)), 0))))
      else (moves_Cell N m_.2.2 p_.2.2.1).bind fun y55 =>
      chk ((leI 0 m_.2.1) && (ltI m_.2.1 ((y1.1.set m_.1.toNat 0).length : Int))) <|
      some (((y1.1.set m_.1.toNat 0).set m_.2.1.toNat y55), (y1.2.1, ((w64 (1 - p_.2.2.1)), 0))))
    else bif (eqI p_.2.2.1 1) then (bif r_.2.2.2.2.2.2.1 then ((moves_Kind N (gD (0 : Int) p_.1 m_.2.1)).bind fun y57 =>
        (moves_Kind N (gD (0 : Int) p_.1 m_.2.1)).bind fun y58 =>
        chk ((leI 0 y58) && (ltI y58 (y1.2.1.2.length : Int))) <|
        let v59 : Int := (w64 ((gD (0 : Int) y1.2.1.2 y58) + 1))
        chk ((leI 0 y57) && (ltI y57 (y1.2.1.2.length : Int))) <|
        (moves_Cell N m_.2.2 p_.2.2.1).bind fun y62 =>
        chk ((leI 0 m_.2.1) && (ltI m_.2.1 ((y1.1.set m_.1.toNat 0).length : Int))) <|
        some (((y1.1.set m_.1.toNat 0).set m_.2.1.toNat y62), ((y1.2.1.1, (y1.2.1.2.set y57.toNat (bif (ltI 1000 v59) then 1000 else v59))), ((w64 (1 - p_.2.2.1)), 0))))
      else (moves_Cell N m_.2.2 p_.2.2.1).bind fun y64 =>
      chk ((leI 0 m_.2.1) && (ltI m_.2.1 ((y1.1.set m_.1.toNat 0).length : Int))) <|
      some (((y1.1.set m_.1.toNat 0).set m_.2.1.toNat y64), (y1.2.1, ((w64 (1 - p_.2.2.1)), 0))))
    else none)
  else (moves_Cell N m_.2.2 p_.2.2.1).bind fun y66 =>
  chk ((leI 0 m_.2.1) && (ltI m_.2.1 ((y1.1.set m_.1.toNat 0).length : Int))) <|
  some (((y1.1.set m_.1.toNat 0).set m_.2.1.toNat y66), (y1.2.1, ((w64 (1 - p_.2.2.1)), (bif (ltI 200 (w64 (p_.2.2.2 + 1))) then 200 else (w64 (p_.2.2.2 + 1))))))
def moves_Do (N : Nat) (r_ : TRules) (p_ : TPos) (m_ : TMv) : Option TPos := moves_Do.e N r_ p_ m_
/-! ### f32: gamehall/moves.After -/
def moves_After.e (N : Nat) (r_ : TRules) (p_ : TPos) (m_ : TMv) : Option (TPos × Int) :=
  (moves_Legal N r_ p_ m_).bind fun y1 =>
  bif (!(eqI y1.2 0)) then (some (([], (([], []), (0, 0))), y1.2))
  else bif (!y1.1) then (some (([], (([], []), (0, 0))), 13))
  else (moves_Do N r_ p_ m_).bind fun y2 =>
  some (y2, 0)
def moves_After (N : Nat) (r_ : TRules) (p_ : TPos) (m_ : TMv) : Option (TPos × Int) := moves_After.e N r_ p_ m_
/-! ### f42: gamehall/gamehallkeep1.fine$1 -/
def gamehallkeep1_fine_1.e (N : Nat) (e_ : Int) : Option Bool :=
  some (!(eqI e_ 0))
def gamehallkeep1_fine_1 (N : Nat) (e_ : Int) : Option Bool := gamehallkeep1_fine_1.e N e_
/-! ### f68: slices.IndexFunc[[]gamehall/api.Errno,gamehall/api.Errno] -/
def slices_IndexFunc_api_Errno_api_Errno.e (N : Nat) (r0 : Int → Option Int) (s_ : LInt) : Option Int :=
  r0 0
def slices_IndexFunc_api_Errno_api_Errno.s0 (N : Nat) (s_ : LInt) (r0 : Int → Option Int) (t8_ : Int) : Option Int :=
  bif (ltI t8_ (s_.length : Int)) then (chk ((leI 0 t8_) && (ltI t8_ (s_.length : Int))) <|
    (gamehallkeep1_fine_1 N (gD (0 : Int) s_ t8_)).bind fun y2 =>
    bif y2 then some t8_
    else r0 (w64 (t8_ + 1)))
  else some (-1)
def slices_IndexFunc_api_Errno_api_Errno.L (N : Nat) (s_ : LInt) : Nat → (Int → Option Int)
  | 0 => fun _ => none
  | n + 1 => fun t8_ => slices_IndexFunc_api_Errno_api_Errno.s0 N s_ (slices_IndexFunc_api_Errno_api_Errno.L N s_ n) t8_
def slices_IndexFunc_api_Errno_api_Errno.l0 (N : Nat) (s_ : LInt) (n : Nat) : Int → Option Int := (slices_IndexFunc_api_Errno_api_Errno.L N s_ n)
theorem slices_IndexFunc_api_Errno_api_Errno.l0_s (N : Nat) (s_ : LInt) (n : Nat) (t8_ : Int) : slices_IndexFunc_api_Errno_api_Errno.l0 N s_ (n + 1) t8_ = slices_IndexFunc_api_Errno_api_Errno.s0 N s_ (slices_IndexFunc_api_Errno_api_Errno.l0 N s_ n) t8_ := rfl
def slices_IndexFunc_api_Errno_api_Errno (N : Nat) (s_ : LInt) : Option Int := slices_IndexFunc_api_Errno_api_Errno.e N (slices_IndexFunc_api_Errno_api_Errno.l0 N s_ N) s_
/-! ### f41: slices.ContainsFunc[[]gamehall/api.Errno,gamehall/api.Errno] -/
def slices_ContainsFunc_api_Errno_api_Errno.e (N : Nat) (s_ : LInt) : Option Bool :=
  (slices_IndexFunc_api_Errno_api_Errno N s_).bind fun y1 =>
  some (leI 0 y1)
def slices_ContainsFunc_api_Errno_api_Errno (N : Nat) (s_ : LInt) : Option Bool := slices_ContainsFunc_api_Errno_api_Errno.e N s_
/-! ### f12: gamehall/gamehallkeep1.fine -/
def gamehallkeep1_fine.e (N : Nat) (l_ : LInt) : Option Bool :=
  (slices_ContainsFunc_api_Errno_api_Errno N l_).bind fun y1 =>
  some (!y1)
def gamehallkeep1_fine (N : Nat) (l_ : LInt) : Option Bool := gamehallkeep1_fine.e N l_
/-! ### f10: gamehall/gamehallkeep1.plays -/
def gamehallkeep1_plays.e (N : Nat) : Option Bool :=
  (gamehallkeep1_three N).bind fun y1 =>
  (place_Begin N y1).bind fun y2 =>
  (gamehallkeep1_three N).bind fun y3 =>
  (moves_All N y3 y2.1).bind fun y4 =>
  (gamehallkeep1_three N).bind fun y5 =>
  (gamehallkeep1_put N 4).bind fun y6 =>
  (moves_After N y5 y2.1 y6).bind fun y7 =>
  (gamehallkeep1_three N).bind fun y8 =>
  (gamehallkeep1_put N 9).bind fun y9 =>
  (moves_Legal N y8 y2.1 y9).bind fun y10 =>
  (gamehallkeep1_fine N [y2.2, y4.2, y7.2, y10.2]).bind fun y12 =>
  bif y12 then (bif (eqI (y4.1.length : Int) 9) then (chk (true && (ltI 8 (y4.1.length : Int))) <|
      (gamehallkeep1_put N 8).bind fun y14 =>
      bif ((eqI (gD ((0 : Int), ((0 : Int), (0 : Int))) y4.1 8).1 y14.1) && ((eqI (gD ((0 : Int), ((0 : Int), (0 : Int))) y4.1 8).2.1 y14.2.1) && ((eqI (gD ((0 : Int), ((0 : Int), (0 : Int))) y4.1 8).2.2 y14.2.2) && true))) then (bif (eqI (y7.1.1.length : Int) 9) then (chk (true && (ltI 4 (y7.1.1.length : Int))) <|
          bif (eqI (gD (0 : Int) y7.1.1 4) 1) then (some (!y10.1))
          else some false)
        else some false)
      else some false)
    else some false)
  else some false
def gamehallkeep1_plays (N : Nat) : Option Bool := gamehallkeep1_plays.e N
/-! ### f3: gamehall/gamehallkeep1.MovesExchanged -/
def gamehallkeep1_MovesExchanged.e (N : Nat) (r0 : Int → Int → LMv → LMv → Option Bool) (r_ : TRules) (p_ : TPos) : Option Bool :=
  (gamehallkeep1_three N).bind fun y1 =>
  (gamehallkeep1_near N).bind fun y2 =>
  (place_Other N y1 y2).bind fun y3 =>
  bif (!(eqI y3.2 0)) then some false
  else bif (!(eqI (y3.1.1.length : Int) 9)) then some false
  else (gamehallkeep1_plays N).bind fun y5 =>
  bif (!y5) then some false
  else (moves_All N (r_.1, (r_.2.1, (r_.2.2.1, (r_.2.2.2.1, (r_.2.2.2.2.1, (false, r_.2.2.2.2.2.2)))))) p_).bind fun y6 =>
  bif (!(eqI y6.2 0)) then (some (eqI (y6.1.length : Int) 0))
  else (place_Other N (r_.1, (r_.2.1, (r_.2.2.1, (r_.2.2.2.1, (r_.2.2.2.2.1, (false, r_.2.2.2.2.2.2)))))) p_).bind fun y8 =>
  (moves_All N (r_.1, (r_.2.1, (r_.2.2.1, (r_.2.2.2.1, (r_.2.2.2.2.1, (false, r_.2.2.2.2.2.2)))))) y8.1).bind fun y9 =>
  (gamehallkeep1_fine N [y8.2, y9.2]).bind fun y10 =>
  bif (!y10) then some false
  else bif (!(eqI (y9.1.length : Int) (y6.1.length : Int))) then some false
  else r0 (y6.1.length : Int) 0 y6.1 y9.1
def gamehallkeep1_MovesExchanged.s0 (N : Nat) (r_ : TRules) (p_ : TPos) (r0 : Int → Int → LMv → LMv → Option Bool) (t72_ : Int) (t73_ : Int) (m12_ : LMv) (k_ : LMv) : Option Bool :=
  bif (ltI t73_ t72_) then (chk ((leI 0 t73_) && (ltI t73_ (m12_.length : Int))) <|
    bothK (bif (ltI (gD ((0 : Int), ((0 : Int), (0 : Int))) m12_ t73_).1 0) then (bothK (bif (ltI (gD ((0 : Int), ((0 : Int), (0 : Int))) m12_ t73_).2.1 0) then ((slices_Contains_api_Move_api_Move N k_ (gD ((0 : Int), ((0 : Int), (0 : Int))) m12_ t73_)).bind fun y14 =>
            bif (!y14) then some false
            else r0 t72_ (w64 (t73_ + 1)) m12_ k_)
          else bif (eqI r_.2.1 0) then none
          else bif (eqI r_.2.1 0) then none
          else (slices_Contains_api_Move_api_Move N k_ ((gD ((0 : Int), ((0 : Int), (0 : Int))) m12_ t73_).1, ((w64 ((w64 ((w64 ((w64 (r_.2.2.1 - 1)) - (w64 (Int.tdiv (gD ((0 : Int), ((0 : Int), (0 : Int))) m12_ t73_).2.1 r_.2.1)))) * r_.2.1)) + (Int.tmod (gD ((0 : Int), ((0 : Int), (0 : Int))) m12_ t73_).2.1 r_.2.1))), (gD ((0 : Int), ((0 : Int), (0 : Int))) m12_ t73_).2.2))).bind fun y19 =>
          bif (!y19) then some false
          else r0 t72_ (w64 (t73_ + 1)) m12_ k_) (bif (ltI (gD ((0 : Int), ((0 : Int), (0 : Int))) m12_ t73_).2.1 0) then ((slices_Contains_api_Move_api_Move N k_ (gD ((0 : Int), ((0 : Int), (0 : Int))) m12_ t73_)).bind fun y21 =>
            bif (!y21) then some false
            else r0 t72_ (w64 (t73_ + 1)) m12_ k_)
          else bif (eqI r_.2.1 0) then none
          else bif (eqI r_.2.1 0) then none
          else (slices_Contains_api_Move_api_Move N k_ ((gD ((0 : Int), ((0 : Int), (0 : Int))) m12_ t73_).1, ((w64 ((w64 ((w64 ((w64 (r_.2.2.1 - 1)) - (w64 (Int.tdiv (gD ((0 : Int), ((0 : Int), (0 : Int))) m12_ t73_).2.1 r_.2.1)))) * r_.2.1)) + (Int.tmod (gD ((0 : Int), ((0 : Int), (0 : Int))) m12_ t73_).2.1 r_.2.1))), (gD ((0 : Int), ((0 : Int), (0 : Int))) m12_ t73_).2.2))).bind fun y26 =>
          bif (!y26) then some false
          else r0 t72_ (w64 (t73_ + 1)) m12_ k_))
      else bif (eqI r_.2.1 0) then none
      else bif (eqI r_.2.1 0) then none
      else let v30 : Int := (w64 ((w64 ((w64 ((w64 (r_.2.2.1 - 1)) - (w64 (Int.tdiv (gD ((0 : Int), ((0 : Int), (0 : Int))) m12_ t73_).1 r_.2.1)))) * r_.2.1)) + (Int.tmod (gD ((0 : Int), ((0 : Int), (0 : Int))) m12_ t73_).1 r_.2.1)))
      bothK (bif (ltI (gD ((0 : Int), ((0 : Int), (0 : Int))) m12_ t73_).2.1 0) then ((slices_Contains_api_Move_api_Move N k_ (v30, (gD ((0 : Int), ((0 : Int), (0 : Int))) m12_ t73_).2)).bind fun y32 =>
          bif (!y32) then some false
          else r0 t72_ (w64 (t73_ + 1)) m12_ k_)
        else bif (eqI r_.2.1 0) then none
        else bif (eqI r_.2.1 0) then none
        else (slices_Contains_api_Move_api_Move N k_ (v30, ((w64 ((w64 ((w64 ((w64 (r_.2.2.1 - 1)) - (w64 (Int.tdiv (gD ((0 : Int), ((0 : Int), (0 : Int))) m12_ t73_).2.1 r_.2.1)))) * r_.2.1)) + (Int.tmod (gD ((0 : Int), ((0 : Int), (0 : Int))) m12_ t73_).2.1 r_.2.1))), (gD ((0 : Int), ((0 : Int), (0 : Int))) m12_ t73_).2.2))).bind fun y37 =>
        bif (!y37) then some false
        else r0 t72_ (w64 (t73_ + 1)) m12_ k_) (bif (ltI (gD ((0 : Int), ((0 : Int), (0 : Int))) m12_ t73_).2.1 0) then ((slices_Contains_api_Move_api_Move N k_ (v30, (gD ((0 : Int), ((0 : Int), (0 : Int))) m12_ t73_).2)).bind fun y39 =>
          bif (!y39) then some false
          else r0 t72_ (w64 (t73_ + 1)) m12_ k_)
        else bif (eqI r_.2.1 0) then none
        else bif (eqI r_.2.1 0) then none
        else (slices_Contains_api_Move_api_Move N k_ (v30, ((w64 ((w64 ((w64 ((w64 (r_.2.2.1 - 1)) - (w64 (Int.tdiv (gD ((0 : Int), ((0 : Int), (0 : Int))) m12_ t73_).2.1 r_.2.1)))) * r_.2.1)) + (Int.tmod (gD ((0 : Int), ((0 : Int), (0 : Int))) m12_ t73_).2.1 r_.2.1))), (gD ((0 : Int), ((0 : Int), (0 : Int))) m12_ t73_).2.2))).bind fun y44 =>
        bif (!y44) then some false
        else r0 t72_ (w64 (t73_ + 1)) m12_ k_)) (bothK (bothK (bif (ltI (gD ((0 : Int), ((0 : Int), (0 : Int))) m12_ t73_).1 0) then (bothK (bif (ltI (gD ((0 : Int), ((0 : Int), (0 : Int))) m12_ t73_).2.1 0) then ((slices_Contains_api_Move_api_Move N k_ (gD ((0 : Int), ((0 : Int), (0 : Int))) m12_ t73_)).bind fun y47 =>
              bif (!y47) then some false
              else r0 t72_ (w64 (t73_ + 1)) m12_ k_)
            else bif (eqI r_.2.1 0) then none
            else bif (eqI r_.2.1 0) then none
            else (slices_Contains_api_Move_api_Move N k_ ((gD ((0 : Int), ((0 : Int), (0 : Int))) m12_ t73_).1, ((w64 ((w64 ((w64 ((w64 (r_.2.2.1 - 1)) - (w64 (Int.tdiv (gD ((0 : Int), ((0 : Int), (0 : Int))) m12_ t73_).2.1 r_.2.1)))) * r_.2.1)) + (Int.tmod (gD ((0 : Int), ((0 : Int), (0 : Int))) m12_ t73_).2.1 r_.2.1))), (gD ((0 : Int), ((0 : Int), (0 : Int))) m12_ t73_).2.2))).bind fun y52 =>
            bif (!y52) then some false
            else r0 t72_ (w64 (t73_ + 1)) m12_ k_) (bif (ltI (gD ((0 : Int), ((0 : Int), (0 : Int))) m12_ t73_).2.1 0) then ((slices_Contains_api_Move_api_Move N k_ (gD ((0 : Int), ((0 : Int), (0 : Int))) m12_ t73_)).bind fun y54 =>
              bif (!y54) then some false
              else r0 t72_ (w64 (t73_ + 1)) m12_ k_)
            else bif (eqI r_.2.1 0) then none
            else bif (eqI r_.2.1 0) then none
            else (slices_Contains_api_Move_api_Move N k_ ((gD ((0 : Int), ((0 : Int), (0 : Int))) m12_ t73_).1, ((w64 ((w64 ((w64 ((w64 (r_.2.2.1 - 1)) - (w64 (Int.tdiv (gD ((0 : Int), ((0 : Int), (0 : Int))) m12_ t73_).2.1 r_.2.1)))) * r_.2.1)) + (Int.tmod (gD ((0 : Int), ((0 : Int), (0 : Int))) m12_ t73_).2.1 r_.2.1))), (gD ((0 : Int), ((0 : Int), (0 : Int))) m12_ t73_).2.2))).bind fun y59 =>
            bif (!y59) then some false
            else r0 t72_ (w64 (t73_ + 1)) m12_ k_))
        else bif (eqI r_.2.1 0) then none
        else bif (eqI r_.2.1 0) then none
        else let v63 : Int := (w64 ((w64 ((w64 ((w64 (r_.2.2.1 - 1)) - (w64 (Int.tdiv (gD ((0 : Int), ((0 : Int), (0 : Int))) m12_ t73_).1 r_.2.1)))) * r_.2.1)) + (Int.tmod (gD ((0 : Int), ((0 : Int), (0 : Int))) m12_ t73_).1 r_.2.1)))
        bothK (bif (ltI (gD ((0 : Int), ((0 : Int), (0 : Int))) m12_ t73_).2.1 0) then ((slices_Contains_api_Move_api_Move N k_ (v63, (gD ((0 : Int), ((0 : Int), (0 : Int))) m12_ t73_).2)).bind fun y65 =>
            bif (!y65) then some false
            else r0 t72_ (w64 (t73_ + 1)) m12_ k_)
          else bif (eqI r_.2.1 0) then none
          else bif (eqI r_.2.1 0) then none
          else (slices_Contains_api_Move_api_Move N k_ (v63, ((w64 ((w64 ((w64 ((w64 (r_.2.2.1 - 1)) - (w64 (Int.tdiv (gD ((0 : Int), ((0 : Int), (0 : Int))) m12_ t73_).2.1 r_.2.1)))) * r_.2.1)) + (Int.tmod (gD ((0 : Int), ((0 : Int), (0 : Int))) m12_ t73_).2.1 r_.2.1))), (gD ((0 : Int), ((0 : Int), (0 : Int))) m12_ t73_).2.2))).bind fun y70 =>
          bif (!y70) then some false
          else r0 t72_ (w64 (t73_ + 1)) m12_ k_) (bif (ltI (gD ((0 : Int), ((0 : Int), (0 : Int))) m12_ t73_).2.1 0) then ((slices_Contains_api_Move_api_Move N k_ (v63, (gD ((0 : Int), ((0 : Int), (0 : Int))) m12_ t73_).2)).bind fun y72 =>
            bif (!y72) then some false
            else r0 t72_ (w64 (t73_ + 1)) m12_ k_)
          else bif (eqI r_.2.1 0) then none
          else bif (eqI r_.2.1 0) then none
          else (slices_Contains_api_Move_api_Move N k_ (v63, ((w64 ((w64 ((w64 ((w64 (r_.2.2.1 - 1)) - (w64 (Int.tdiv (gD ((0 : Int), ((0 : Int), (0 : Int))) m12_ t73_).2.1 r_.2.1)))) * r_.2.1)) + (Int.tmod (gD ((0 : Int), ((0 : Int), (0 : Int))) m12_ t73_).2.1 r_.2.1))), (gD ((0 : Int), ((0 : Int), (0 : Int))) m12_ t73_).2.2))).bind fun y77 =>
          bif (!y77) then some false
          else r0 t72_ (w64 (t73_ + 1)) m12_ k_)) (bif (ltI (gD ((0 : Int), ((0 : Int), (0 : Int))) m12_ t73_).1 0) then (bif (ltI (gD ((0 : Int), ((0 : Int), (0 : Int))) m12_ t73_).2.1 0) then ((slices_Contains_api_Move_api_Move N k_ (gD ((0 : Int), ((0 : Int), (0 : Int))) m12_ t73_)).bind fun y80 =>
            bif (!y80) then some false
            else r0 t72_ (w64 (t73_ + 1)) m12_ k_)
          else bif (eqI r_.2.1 0) then none
          else bif (eqI r_.2.1 0) then none
          else (slices_Contains_api_Move_api_Move N k_ ((gD ((0 : Int), ((0 : Int), (0 : Int))) m12_ t73_).1, ((w64 ((w64 ((w64 ((w64 (r_.2.2.1 - 1)) - (w64 (Int.tdiv (gD ((0 : Int), ((0 : Int), (0 : Int))) m12_ t73_).2.1 r_.2.1)))) * r_.2.1)) + (Int.tmod (gD ((0 : Int), ((0 : Int), (0 : Int))) m12_ t73_).2.1 r_.2.1))), (gD ((0 : Int), ((0 : Int), (0 : Int))) m12_ t73_).2.2))).bind fun y85 =>
          bif (!y85) then some false
          else r0 t72_ (w64 (t73_ + 1)) m12_ k_)
        else bif (eqI r_.2.1 0) then none
        else bif (eqI r_.2.1 0) then none
        else let v89 : Int := (w64 ((w64 ((w64 ((w64 (r_.2.2.1 - 1)) - (w64 (Int.tdiv (gD ((0 : Int), ((0 : Int), (0 : Int))) m12_ t73_).1 r_.2.1)))) * r_.2.1)) + (Int.tmod (gD ((0 : Int), ((0 : Int), (0 : Int))) m12_ t73_).1 r_.2.1)))
        bif (ltI (gD ((0 : Int), ((0 : Int), (0 : Int))) m12_ t73_).2.1 0) then ((slices_Contains_api_Move_api_Move N k_ (v89, (gD ((0 : Int), ((0 : Int), (0 : Int))) m12_ t73_).2)).bind fun y91 =>
          bif (!y91) then some false
          else r0 t72_ (w64 (t73_ + 1)) m12_ k_)
        else bif (eqI r_.2.1 0) then none
        else bif (eqI r_.2.1 0) then none
        else (slices_Contains_api_Move_api_Move N k_ (v89, ((w64 ((w64 ((w64 ((w64 (r_.2.2.1 - 1)) - (w64 (Int.tdiv (gD ((0 : Int), ((0 : Int), (0 : Int))) m12_ t73_).2.1 r_.2.1)))) * r_.2.1)) + (Int.tmod (gD ((0 : Int), ((0 : Int), (0 : Int))) m12_ t73_).2.1 r_.2.1))), (gD ((0 : Int), ((0 : Int), (0 : Int))) m12_ t73_).2.2))).bind fun y96 =>
        bif (!y96) then some false
        else r0 t72_ (w64 (t73_ + 1)) m12_ k_)) (bothK (bif (ltI (gD ((0 : Int), ((0 : Int), (0 : Int))) m12_ t73_).1 0) then (bif (ltI (gD ((0 : Int), ((0 : Int), (0 : Int))) m12_ t73_).2.1 0) then ((slices_Contains_api_Move_api_Move N k_ (gD ((0 : Int), ((0 : Int), (0 : Int))) m12_ t73_)).bind fun y99 =>
            bif (!y99) then some false
            else r0 t72_ (w64 (t73_ + 1)) m12_ k_)
          else bif (eqI r_.2.1 0) then none
          else bif (eqI r_.2.1 0) then none
          else (slices_Contains_api_Move_api_Move N k_ ((gD ((0 : Int), ((0 : Int), (0 : Int))) m12_ t73_).1, ((w64 ((w64 ((w64 ((w64 (r_.2.2.1 - 1)) - (w64 (Int.tdiv (gD ((0 : Int), ((0 : Int), (0 : Int))) m12_ t73_).2.1 r_.2.1)))) * r_.2.1)) + (Int.tmod (gD ((0 : Int), ((0 : Int), (0 : Int))) m12_ t73_).2.1 r_.2.1))), (gD ((0 : Int), ((0 : Int), (0 : Int))) m12_ t73_).2.2))).bind fun y104 =>
          bif (!y104) then some false
          else r0 t72_ (w64 (t73_ + 1)) m12_ k_)
        else bif (eqI r_.2.1 0) then none
        else bif (eqI r_.2.1 0) then none
        else let v108 : Int := (w64 ((w64 ((w64 ((w64 (r_.2.2.1 - 1)) - (w64 (Int.tdiv (gD ((0 : Int), ((0 : Int), (0 : Int))) m12_ t73_).1 r_.2.1)))) * r_.2.1)) + (Int.tmod (gD ((0 : Int), ((0 : Int), (0 : Int))) m12_ t73_).1 r_.2.1)))
        bif (ltI (gD ((0 : Int), ((0 : Int), (0 : Int))) m12_ t73_).2.1 0) then ((slices_Contains_api_Move_api_Move N k_ (v108, (gD ((0 : Int), ((0 : Int), (0 : Int))) m12_ t73_).2)).bind fun y110 =>
          bif (!y110) then some false
          else r0 t72_ (w64 (t73_ + 1)) m12_ k_)
        else bif (eqI r_.2.1 0) then none
        else bif (eqI r_.2.1 0) then none
        else (slices_Contains_api_Move_api_Move N k_ (v108, ((w64 ((w64 ((w64 ((w64 (r_.2.2.1 - 1)) - (w64 (Int.tdiv (gD ((0 : Int), ((0 : Int), (0 : Int))) m12_ t73_).2.1 r_.2.1)))) * r_.2.1)) + (Int.tmod (gD ((0 : Int), ((0 : Int), (0 : Int))) m12_ t73_).2.1 r_.2.1))), (gD ((0 : Int), ((0 : Int), (0 : Int))) m12_ t73_).2.2))).bind fun y115 =>
        bif (!y115) then some false
        else r0 t72_ (w64 (t73_ + 1)) m12_ k_) (bif (ltI (gD ((0 : Int), ((0 : Int), (0 : Int))) m12_ t73_).1 0) then (bif (ltI (gD ((0 : Int), ((0 : Int), (0 : Int))) m12_ t73_).2.1 0) then ((slices_Contains_api_Move_api_Move N k_ (gD ((0 : Int), ((0 : Int), (0 : Int))) m12_ t73_)).bind fun y118 =>
            bif (!y118) then some false
            else r0 t72_ (w64 (t73_ + 1)) m12_ k_)
          else bif (eqI r_.2.1 0) then none
          else bif (eqI r_.2.1 0) then none
          else (slices_Contains_api_Move_api_Move N k_ ((gD ((0 : Int), ((0 : Int), (0 : Int))) m12_ t73_).1, ((w64 ((w64 ((w64 ((w64 (r_.2.2.1 - 1)) - (w64 (Int.tdiv (gD ((0 : Int), ((0 : Int), (0 : Int))) m12_ t73_).2.1 r_.2.1)))) * r_.2.1)) + (Int.tmod (gD ((0 : Int), ((0 : Int), (0 : Int))) m12_ t73_).2.1 r_.2.1))), (gD ((0 : Int), ((0 : Int), (0 : Int))) m12_ t73_).2.2))).bind fun y123 =>
          bif (!y123) then some false
          else r0 t72_ (w64 (t73_ + 1)) m12_ k_)
        else bif (eqI r_.2.1 0) then none
        else bif (eqI r_.2.1 0) then none
        else let v127 : Int := (w64 ((w64 ((w64 ((w64 (r_.2.2.1 - 1)) - (w64 (Int.tdiv (gD ((0 : Int), ((0 : Int), (0 : Int))) m12_ t73_).1 r_.2.1)))) * r_.2.1)) + (Int.tmod (gD ((0 : Int), ((0 : Int), (0 : Int))) m12_ t73_).1 r_.2.1)))
        bif (ltI (gD ((0 : Int), ((0 : Int), (0 : Int))) m12_ t73_).2.1 0) then ((slices_Contains_api_Move_api_Move N k_ (v127, (gD ((0 : Int), ((0 : Int), (0 : Int))) m12_ t73_).2)).bind fun y129 =>
          bif (!y129) then some false
          else r0 t72_ (w64 (t73_ + 1)) m12_ k_)
        else bif (eqI r_.2.1 0) then none
        else bif (eqI r_.2.1 0) then none
        else (slices_Contains_api_Move_api_Move N k_ (v127, ((w64 ((w64 ((w64 ((w64 (r_.2.2.1 - 1)) - (w64 (Int.tdiv (gD ((0 : Int), ((0 : Int), (0 : Int))) m12_ t73_).2.1 r_.2.1)))) * r_.2.1)) + (Int.tmod (gD ((0 : Int), ((0 : Int), (0 : Int))) m12_ t73_).2.1 r_.2.1))), (gD ((0 : Int), ((0 : Int), (0 : Int))) m12_ t73_).2.2))).bind fun y134 =>
        bif (!y134) then some false
        else r0 t72_ (w64 (t73_ + 1)) m12_ k_))))
  else some true
def gamehallkeep1_MovesExchanged.L (N : Nat) (r_ : TRules) (p_ : TPos) : Nat → (Int → Int → LMv → LMv → Option Bool)
  | 0 => fun _ _ _ _ => none
  | n + 1 => fun t72_ t73_ m12_ k_ => gamehallkeep1_MovesExchanged.s0 N r_ p_ (gamehallkeep1_MovesExchanged.L N r_ p_ n) t72_ t73_ m12_ k_
def gamehallkeep1_MovesExchanged.l0 (N : Nat) (r_ : TRules) (p_ : TPos) (n : Nat) : Int → Int → LMv → LMv → Option Bool := (gamehallkeep1_MovesExchanged.L N r_ p_ n)
theorem gamehallkeep1_MovesExchanged.l0_s (N : Nat) (r_ : TRules) (p_ : TPos) (n : Nat) (t72_ : Int) (t73_ : Int) (m12_ : LMv) (k_ : LMv) : gamehallkeep1_MovesExchanged.l0 N r_ p_ (n + 1) t72_ t73_ m12_ k_ = gamehallkeep1_MovesExchanged.s0 N r_ p_ (gamehallkeep1_MovesExchanged.l0 N r_ p_ n) t72_ t73_ m12_ k_ := rfl
def gamehallkeep1_MovesExchanged (N : Nat) (r_ : TRules) (p_ : TPos) : Option Bool := gamehallkeep1_MovesExchanged.e N (gamehallkeep1_MovesExchanged.l0 N r_ p_ N) r_ p_
end
end Go.Proofs.Ytiacnffpgdikoaa.Am
