/- PRINTED by gen.py: what the functions compute, as plain Lean functions with fuel. -/
import Derived.Test.YthhojealnaiehaaFnk
set_option linter.unusedVariables false
set_option linter.unusedSimpArgs false
namespace Go.Proofs.Ythhojealnaiehaa.Am
open Go
/-! ### f46: gamehall/zob.Key -/
def zob_Key.e (N : Nat) (r_ : (ByteArray × (Int × (Int × ((List (Int × (Int × (Int × (List (Int × (Int × (Int × Int)))))))) × ((List Int) × (Bool × (Bool × ((List (Int × (Int × (Int × Bool)))) × (Int × (Int × Int))))))))))) (p_ : ((List Int) × (((List Int) × (List Int)) × (Int × Int)))) : Option (Int × Int) :=
  (place_Check N r_ p_).bind fun y1 =>
  bif (!(eqI y1 0)) then (some (0, y1))
  else (zob_Of N p_).bind fun y2 =>
  some (y2, 0)
def zob_Key (N : Nat) (r_ : (ByteArray × (Int × (Int × ((List (Int × (Int × (Int × (List (Int × (Int × (Int × Int)))))))) × ((List Int) × (Bool × (Bool × ((List (Int × (Int × (Int × Bool)))) × (Int × (Int × Int))))))))))) (p_ : ((List Int) × (((List Int) × (List Int)) × (Int × Int)))) : Option (Int × Int) := zob_Key.e N r_ p_
/-! ### f78: gamehall/zob.Change -/
def zob_Change.e (N : Nat) (r_ : (ByteArray × (Int × (Int × ((List (Int × (Int × (Int × (List (Int × (Int × (Int × Int)))))))) × ((List Int) × (Bool × (Bool × ((List (Int × (Int × (Int × Bool)))) × (Int × (Int × Int))))))))))) (p_ : ((List Int) × (((List Int) × (List Int)) × (Int × Int)))) (m_ : (Int × (Int × Int))) : Option (Int × Int) :=
  (place_Check N r_ p_).bind fun y1 =>
  bif (!(eqI y1 0)) then (some (0, y1))
  else (moves_Gen N r_ p_).bind fun y2 =>
  (slices_Contains_api_Move_api_Move N y2 m_).bind fun y3 =>
  bif (!y3) then (some (0, 13))
  else (zob_Of N p_).bind fun y4 =>
  (zob_Next N r_ p_ m_ y4).bind fun y5 =>
  some (y5, 0)
def zob_Change (N : Nat) (r_ : (ByteArray × (Int × (Int × ((List (Int × (Int × (Int × (List (Int × (Int × (Int × Int)))))))) × ((List Int) × (Bool × (Bool × ((List (Int × (Int × (Int × Bool)))) × (Int × (Int × Int))))))))))) (p_ : ((List Int) × (((List Int) × (List Int)) × (Int × Int)))) (m_ : (Int × (Int × Int))) : Option (Int × Int) := zob_Change.e N r_ p_ m_
/-! ### f72: gamehall/gamehallkeep1.fine$1 -/
def gamehallkeep1_fine_1.e (N : Nat) (e_ : Int) : Option Bool :=
  some (!(eqI e_ 0))
def gamehallkeep1_fine_1 (N : Nat) (e_ : Int) : Option Bool := gamehallkeep1_fine_1.e N e_
/-! ### f99: slices.IndexFunc[[]gamehall/api.Errno,gamehall/api.Errno] -/
def slices_IndexFunc_api_Errno_api_Errno.e (N : Nat) (r0 : Int → Option Int) (s_ : (List Int)) : Option Int :=
  r0 0
def slices_IndexFunc_api_Errno_api_Errno.s0 (N : Nat) (s_ : (List Int)) (r0 : Int → Option Int) (t8_ : Int) : Option Int :=
  bif (ltI t8_ (s_.length : Int)) then (chk ((leI 0 t8_) && (ltI t8_ (s_.length : Int))) <|
    (gamehallkeep1_fine_1 N (gD (0 : Int) s_ t8_)).bind fun y2 =>
    bif y2 then some t8_
    else r0 (w64 (t8_ + 1)))
  else some (-1)
def slices_IndexFunc_api_Errno_api_Errno.L (N : Nat) (s_ : (List Int)) : Nat → (Int → Option Int)
  | 0 => fun _ => none
  | n + 1 => fun t8_ => slices_IndexFunc_api_Errno_api_Errno.s0 N s_ (slices_IndexFunc_api_Errno_api_Errno.L N s_ n) t8_
def slices_IndexFunc_api_Errno_api_Errno.l0 (N : Nat) (s_ : (List Int)) (n : Nat) : Int → Option Int := (slices_IndexFunc_api_Errno_api_Errno.L N s_ n)
theorem slices_IndexFunc_api_Errno_api_Errno.l0_s (N : Nat) (s_ : (List Int)) (n : Nat) (t8_ : Int) : slices_IndexFunc_api_Errno_api_Errno.l0 N s_ (n + 1) t8_ = slices_IndexFunc_api_Errno_api_Errno.s0 N s_ (slices_IndexFunc_api_Errno_api_Errno.l0 N s_ n) t8_ := rfl
def slices_IndexFunc_api_Errno_api_Errno (N : Nat) (s_ : (List Int)) : Option Int := slices_IndexFunc_api_Errno_api_Errno.e N (slices_IndexFunc_api_Errno_api_Errno.l0 N s_ N) s_
/-! ### f71: slices.ContainsFunc[[]gamehall/api.Errno,gamehall/api.Errno] -/
def slices_ContainsFunc_api_Errno_api_Errno.e (N : Nat) (s_ : (List Int)) : Option Bool :=
  (slices_IndexFunc_api_Errno_api_Errno N s_).bind fun y1 =>
  some (leI 0 y1)
def slices_ContainsFunc_api_Errno_api_Errno (N : Nat) (s_ : (List Int)) : Option Bool := slices_ContainsFunc_api_Errno_api_Errno.e N s_
/-! ### f37: gamehall/gamehallkeep1.fine -/
def gamehallkeep1_fine.e (N : Nat) (l_ : (List Int)) : Option Bool :=
  (slices_ContainsFunc_api_Errno_api_Errno N l_).bind fun y1 =>
  some (!y1)
def gamehallkeep1_fine (N : Nat) (l_ : (List Int)) : Option Bool := gamehallkeep1_fine.e N l_
/-! ### f43: gamehall/gamehallkeep1.keyed -/
def gamehallkeep1_keyed.e (N : Nat) : Option Bool :=
  (gamehallkeep1_three N).bind fun y1 =>
  (gamehallkeep1_near N).bind fun y2 =>
  (zob_Key N y1 y2).bind fun y3 =>
  (gamehallkeep1_three N).bind fun y4 =>
  (gamehallkeep1_near N).bind fun y5 =>
  (gamehallkeep1_put N 2).bind fun y6 =>
  (zob_Change N y4 y5 y6).bind fun y7 =>
  (gamehallkeep1_fine N [y3.2, y7.2]).bind fun y8 =>
  bif y8 then ((zob_Mix N 33).bind fun y10 =>
    (zob_Mix N 2000).bind fun y11 =>
    (zob_Mix N 3000).bind fun y13 =>
    bif (eqI (IntKind.wrap .u64 (y7.1 - y3.1)) (IntKind.wrap .u64 ((IntKind.wrap .u64 (y10 - y11)) + y13))) then ((zob_Mix N 33).bind fun y15 =>
      some (!(eqI y15 0)))
    else some false)
  else some false
def gamehallkeep1_keyed (N : Nat) : Option Bool := gamehallkeep1_keyed.e N
/-! ### f87: gamehall/place.Fresh -/
def place_Fresh.e (N : Nat) (r0 : Int → (List Int) → (List Int) → (List Int) → Option ((List Int) × (((List Int) × (List Int)) × (Int × Int)))) (r1 : Int → Int → Int → Int → (List Int) → (List Int) → (List Int) → Option ((List Int) × (((List Int) × (List Int)) × (Int × Int)))) (r_ : (ByteArray × (Int × (Int × ((List (Int × (Int × (Int × (List (Int × (Int × (Int × Int)))))))) × ((List Int) × (Bool × (Bool × ((List (Int × (Int × (Int × Bool)))) × (Int × (Int × Int))))))))))) : Option ((List Int) × (((List Int) × (List Int)) × (Int × Int))) :=
  (slices_Clone_int_int N r_.2.2.2.2.1).bind fun y1 =>
  r0 0 y1 [] []
def place_Fresh.s0 (N : Nat) (r_ : (ByteArray × (Int × (Int × ((List (Int × (Int × (Int × (List (Int × (Int × (Int × Int)))))))) × ((List Int) × (Bool × (Bool × ((List (Int × (Int × (Int × Bool)))) × (Int × (Int × Int))))))))))) (r0 : Int → (List Int) → (List Int) → (List Int) → Option ((List Int) × (((List Int) × (List Int)) × (Int × Int)))) (r1 : Int → Int → Int → Int → (List Int) → (List Int) → (List Int) → Option ((List Int) × (((List Int) × (List Int)) × (Int × Int)))) (t11_ : Int) (m2_ : (List Int)) (m4_ : (List Int)) (m5_ : (List Int)) : Option ((List Int) × (((List Int) × (List Int)) × (Int × Int))) :=
  bif (ltI t11_ 2) then (r1 t11_ t11_ (r_.2.2.2.1.length : Int) 0 m2_ m4_ m5_)
  else some (m2_, ((m4_, m5_), (0, 0)))
def place_Fresh.s1 (N : Nat) (r_ : (ByteArray × (Int × (Int × ((List (Int × (Int × (Int × (List (Int × (Int × (Int × Int)))))))) × ((List Int) × (Bool × (Bool × ((List (Int × (Int × (Int × Bool)))) × (Int × (Int × Int))))))))))) (r0 : Int → (List Int) → (List Int) → (List Int) → Option ((List Int) × (((List Int) × (List Int)) × (Int × Int)))) (r1 : Int → Int → Int → Int → (List Int) → (List Int) → (List Int) → Option ((List Int) × (((List Int) × (List Int)) × (Int × Int)))) (o_ : Int) (t11_ : Int) (t16_ : Int) (t17_ : Int) (m2_ : (List Int)) (m4_ : (List Int)) (m5_ : (List Int)) : Option ((List Int) × (((List Int) × (List Int)) × (Int × Int))) :=
  bif (ltI t17_ t16_) then (chk ((leI 0 t17_) && (ltI t17_ (r_.2.2.2.1.length : Int))) <|
    bif (eqI o_ 0) then (let v3 : List Int := [(gD ((0 : Int), ((0 : Int), ((0 : Int), ([] : (List (Int × (Int × (Int × Int)))))))) r_.2.2.2.1 t17_).2.1]
      chk (capOk 8 (m4_.length + v3.length)) <|
      r1 0 t11_ t16_ (w64 (t17_ + 1)) m2_ (m4_ ++ v3) m5_)
    else bif (eqI o_ 1) then (let v4 : List Int := [(gD ((0 : Int), ((0 : Int), ((0 : Int), ([] : (List (Int × (Int × (Int × Int)))))))) r_.2.2.2.1 t17_).2.1]
      chk (capOk 8 (m5_.length + v4.length)) <|
      r1 1 t11_ t16_ (w64 (t17_ + 1)) m2_ m4_ (m5_ ++ v4))
    else none)
  else r0 (w64 (t11_ + 1)) m2_ m4_ m5_
def place_Fresh.L (N : Nat) (r_ : (ByteArray × (Int × (Int × ((List (Int × (Int × (Int × (List (Int × (Int × (Int × Int)))))))) × ((List Int) × (Bool × (Bool × ((List (Int × (Int × (Int × Bool)))) × (Int × (Int × Int))))))))))) : Nat → (Int → (List Int) → (List Int) → (List Int) → Option ((List Int) × (((List Int) × (List Int)) × (Int × Int)))) × (Int → Int → Int → Int → (List Int) → (List Int) → (List Int) → Option ((List Int) × (((List Int) × (List Int)) × (Int × Int))))
  | 0 => (fun _ _ _ _ => none, fun _ _ _ _ _ _ _ => none)
  | n + 1 => (fun t11_ m2_ m4_ m5_ => place_Fresh.s0 N r_ (place_Fresh.L N r_ n).1 (place_Fresh.L N r_ n).2 t11_ m2_ m4_ m5_, fun o_ t11_ t16_ t17_ m2_ m4_ m5_ => place_Fresh.s1 N r_ (place_Fresh.L N r_ n).1 (place_Fresh.L N r_ n).2 o_ t11_ t16_ t17_ m2_ m4_ m5_)
def place_Fresh.l0 (N : Nat) (r_ : (ByteArray × (Int × (Int × ((List (Int × (Int × (Int × (List (Int × (Int × (Int × Int)))))))) × ((List Int) × (Bool × (Bool × ((List (Int × (Int × (Int × Bool)))) × (Int × (Int × Int))))))))))) (n : Nat) : Int → (List Int) → (List Int) → (List Int) → Option ((List Int) × (((List Int) × (List Int)) × (Int × Int))) := (place_Fresh.L N r_ n).1
def place_Fresh.l1 (N : Nat) (r_ : (ByteArray × (Int × (Int × ((List (Int × (Int × (Int × (List (Int × (Int × (Int × Int)))))))) × ((List Int) × (Bool × (Bool × ((List (Int × (Int × (Int × Bool)))) × (Int × (Int × Int))))))))))) (n : Nat) : Int → Int → Int → Int → (List Int) → (List Int) → (List Int) → Option ((List Int) × (((List Int) × (List Int)) × (Int × Int))) := (place_Fresh.L N r_ n).2
theorem place_Fresh.l0_s (N : Nat) (r_ : (ByteArray × (Int × (Int × ((List (Int × (Int × (Int × (List (Int × (Int × (Int × Int)))))))) × ((List Int) × (Bool × (Bool × ((List (Int × (Int × (Int × Bool)))) × (Int × (Int × Int))))))))))) (n : Nat) (t11_ : Int) (m2_ : (List Int)) (m4_ : (List Int)) (m5_ : (List Int)) : place_Fresh.l0 N r_ (n + 1) t11_ m2_ m4_ m5_ = place_Fresh.s0 N r_ (place_Fresh.l0 N r_ n) (place_Fresh.l1 N r_ n) t11_ m2_ m4_ m5_ := rfl
theorem place_Fresh.l1_s (N : Nat) (r_ : (ByteArray × (Int × (Int × ((List (Int × (Int × (Int × (List (Int × (Int × (Int × Int)))))))) × ((List Int) × (Bool × (Bool × ((List (Int × (Int × (Int × Bool)))) × (Int × (Int × Int))))))))))) (n : Nat) (o_ : Int) (t11_ : Int) (t16_ : Int) (t17_ : Int) (m2_ : (List Int)) (m4_ : (List Int)) (m5_ : (List Int)) : place_Fresh.l1 N r_ (n + 1) o_ t11_ t16_ t17_ m2_ m4_ m5_ = place_Fresh.s1 N r_ (place_Fresh.l0 N r_ n) (place_Fresh.l1 N r_ n) o_ t11_ t16_ t17_ m2_ m4_ m5_ := rfl
def place_Fresh (N : Nat) (r_ : (ByteArray × (Int × (Int × ((List (Int × (Int × (Int × (List (Int × (Int × (Int × Int)))))))) × ((List Int) × (Bool × (Bool × ((List (Int × (Int × (Int × Bool)))) × (Int × (Int × Int))))))))))) : Option ((List Int) × (((List Int) × (List Int)) × (Int × Int))) := place_Fresh.e N (place_Fresh.l0 N r_ N) (place_Fresh.l1 N r_ N) r_
/-! ### f58: gamehall/place.Begin -/
def place_Begin.e (N : Nat) (r_ : (ByteArray × (Int × (Int × ((List (Int × (Int × (Int × (List (Int × (Int × (Int × Int)))))))) × ((List Int) × (Bool × (Bool × ((List (Int × (Int × (Int × Bool)))) × (Int × (Int × Int))))))))))) : Option (((List Int) × (((List Int) × (List Int)) × (Int × Int))) × Int) :=
  (rules_Check N r_).bind fun y1 =>
  bif (!(eqI y1 0)) then (some (([], (([], []), (0, 0))), y1))
  else (place_Fresh N r_).bind fun y2 =>
  some (y2, 0)
def place_Begin (N : Nat) (r_ : (ByteArray × (Int × (Int × ((List (Int × (Int × (Int × (List (Int × (Int × (Int × Int)))))))) × ((List Int) × (Bool × (Bool × ((List (Int × (Int × (Int × Bool)))) × (Int × (Int × Int))))))))))) : Option (((List Int) × (((List Int) × (List Int)) × (Int × Int))) × Int) := place_Begin.e N r_
/-! ### f19: gamehall/moves.All -/
def moves_All.e (N : Nat) (r_ : (ByteArray × (Int × (Int × ((List (Int × (Int × (Int × (List (Int × (Int × (Int × Int)))))))) × ((List Int) × (Bool × (Bool × ((List (Int × (Int × (Int × Bool)))) × (Int × (Int × Int))))))))))) (p_ : ((List Int) × (((List Int) × (List Int)) × (Int × Int)))) : Option ((List (Int × (Int × Int))) × Int) :=
  (place_Check N r_ p_).bind fun y1 =>
  bif (!(eqI y1 0)) then (some ([], y1))
  else (moves_Gen N r_ p_).bind fun y2 =>
  some (y2, 0)
def moves_All (N : Nat) (r_ : (ByteArray × (Int × (Int × ((List (Int × (Int × (Int × (List (Int × (Int × (Int × Int)))))))) × ((List Int) × (Bool × (Bool × ((List (Int × (Int × (Int × Bool)))) × (Int × (Int × Int))))))))))) (p_ : ((List Int) × (((List Int) × (List Int)) × (Int × Int)))) : Option ((List (Int × (Int × Int))) × Int) := moves_All.e N r_ p_
/-! ### f59: gamehall/moves.Legal -/
def moves_Legal.e (N : Nat) (r_ : (ByteArray × (Int × (Int × ((List (Int × (Int × (Int × (List (Int × (Int × (Int × Int)))))))) × ((List Int) × (Bool × (Bool × ((List (Int × (Int × (Int × Bool)))) × (Int × (Int × Int))))))))))) (p_ : ((List Int) × (((List Int) × (List Int)) × (Int × Int)))) (m_ : (Int × (Int × Int))) : Option (Bool × Int) :=
  (place_Check N r_ p_).bind fun y1 =>
  bif (!(eqI y1 0)) then (some (false, y1))
  else (moves_Gen N r_ p_).bind fun y2 =>
  (slices_Contains_api_Move_api_Move N y2 m_).bind fun y3 =>
  some (y3, 0)
def moves_Legal (N : Nat) (r_ : (ByteArray × (Int × (Int × ((List (Int × (Int × (Int × (List (Int × (Int × (Int × Int)))))))) × ((List Int) × (Bool × (Bool × ((List (Int × (Int × (Int × Bool)))) × (Int × (Int × Int))))))))))) (p_ : ((List Int) × (((List Int) × (List Int)) × (Int × Int)))) (m_ : (Int × (Int × Int))) : Option (Bool × Int) := moves_Legal.e N r_ p_ m_
/-! ### f73: gamehall/moves.Do -/
def moves_Do.e (N : Nat) (r_ : (ByteArray × (Int × (Int × ((List (Int × (Int × (Int × (List (Int × (Int × (Int × Int)))))))) × ((List Int) × (Bool × (Bool × ((List (Int × (Int × (Int × Bool)))) × (Int × (Int × Int))))))))))) (p_ : ((List Int) × (((List Int) × (List Int)) × (Int × Int)))) (m_ : (Int × (Int × Int))) : Option ((List Int) × (((List Int) × (List Int)) × (Int × Int))) :=
  (place_Copy N p_).bind fun y1 =>
  bif (ltI m_.1 0) then (bif (eqI p_.2.2.1 0) then (chk ((leI 0 m_.2.2) && (ltI m_.2.2 (y1.2.1.1.length : Int))) <|
      chk ((leI 0 m_.2.2) && (ltI m_.2.2 (y1.2.1.1.length : Int))) <|
      let v4 : List Int := (y1.2.1.1.set m_.2.2.toNat (w64 ((gD (0 : Int) y1.2.1.1 m_.2.2) - 1)))
      chk ((leI 0 m_.2.1) && (ltI m_.2.1 (p_.1.length : Int))) <|
      bif (!(eqI (gD (0 : Int) p_.1 m_.2.1) 0)) then (bif (eqI p_.2.2.1 0) then (bif r_.2.2.2.2.2.2.1 then ((moves_Kind N (gD (0 : Int) p_.1 m_.2.1)).bind fun y6 =>
            (moves_Kind N (gD (0 : Int) p_.1 m_.2.1)).bind fun y7 =>
            chk ((leI 0 y7) && (ltI y7 (v4.length : Int))) <|
            let v8 : Int := (w64 ((gD (0 : Int) v4 y7) + 1))
            chk ((leI 0 y6) && (ltI y6 (v4.length : Int))) <|
            (moves_Cell N m_.2.2 p_.2.2.1).bind fun y10 =>
            chk ((leI 0 m_.2.1) && (ltI m_.2.1 (y1.1.length : Int))) <|
            some ((y1.1.set m_.2.1.toNat y10), (((v4.set y6.toNat (bif (ltI 1000 v8) then 1000 else v8)), y1.2.1.2), ((w64 (1 - p_.2.2.1)), 0))))
          else (moves_Cell N m_.2.2 p_.2.2.1).bind fun y12 =>
          chk ((leI 0 m_.2.1) && (ltI m_.2.1 (y1.1.length : Int))) <|
          some ((y1.1.set m_.2.1.toNat y12), ((v4, y1.2.1.2), ((w64 (1 - p_.2.2.1)), 0))))
        else bif (eqI p_.2.2.1 1) then (bif r_.2.2.2.2.2.2.1 then ((moves_Kind N (gD (0 : Int) p_.1 m_.2.1)).bind fun y14 =>
            (moves_Kind N (gD (0 : Int) p_.1 m_.2.1)).bind fun y15 =>
            chk ((leI 0 y15) && (ltI y15 (y1.2.1.2.length : Int))) <|
            let v16 : Int := (w64 ((gD (0 : Int) y1.2.1.2 y15) + 1))
            chk ((leI 0 y14) && (ltI y14 (y1.2.1.2.length : Int))) <|
            (moves_Cell N m_.2.2 p_.2.2.1).bind fun y19 =>
            chk ((leI 0 m_.2.1) && (ltI m_.2.1 (y1.1.length : Int))) <|
            some ((y1.1.set m_.2.1.toNat y19), ((v4, (y1.2.1.2.set y14.toNat (bif (ltI 1000 v16) then 1000 else v16))), ((w64 (1 - p_.2.2.1)), 0))))
          else (moves_Cell N m_.2.2 p_.2.2.1).bind fun y21 =>
          chk ((leI 0 m_.2.1) && (ltI m_.2.1 (y1.1.length : Int))) <|
          some ((y1.1.set m_.2.1.toNat y21), ((v4, y1.2.1.2), ((w64 (1 - p_.2.2.1)), 0))))
        else none)
      else (moves_Cell N m_.2.2 p_.2.2.1).bind fun y23 =>
      chk ((leI 0 m_.2.1) && (ltI m_.2.1 (y1.1.length : Int))) <|
      some ((y1.1.set m_.2.1.toNat y23), ((v4, y1.2.1.2), ((w64 (1 - p_.2.2.1)), 0))))
    else bif (eqI p_.2.2.1 1) then (chk ((leI 0 m_.2.2) && (ltI m_.2.2 (y1.2.1.2.length : Int))) <|
      chk ((leI 0 m_.2.2) && (ltI m_.2.2 (y1.2.1.2.length : Int))) <|
      let v26 : List Int := (y1.2.1.2.set m_.2.2.toNat (w64 ((gD (0 : Int) y1.2.1.2 m_.2.2) - 1)))
      chk ((leI 0 m_.2.1) && (ltI m_.2.1 (p_.1.length : Int))) <|
      bif (!(eqI (gD (0 : Int) p_.1 m_.2.1) 0)) then (bif (eqI p_.2.2.1 0) then (bif r_.2.2.2.2.2.2.1 then ((moves_Kind N (gD (0 : Int) p_.1 m_.2.1)).bind fun y28 =>
            (moves_Kind N (gD (0 : Int) p_.1 m_.2.1)).bind fun y29 =>
            chk ((leI 0 y29) && (ltI y29 (y1.2.1.1.length : Int))) <|
            let v30 : Int := (w64 ((gD (0 : Int) y1.2.1.1 y29) + 1))
            chk ((leI 0 y28) && (ltI y28 (y1.2.1.1.length : Int))) <|
            (moves_Cell N m_.2.2 p_.2.2.1).bind fun y33 =>
            chk ((leI 0 m_.2.1) && (ltI m_.2.1 (y1.1.length : Int))) <|
            some ((y1.1.set m_.2.1.toNat y33), (((y1.2.1.1.set y28.toNat (bif (ltI 1000 v30) then 1000 else v30)), v26), ((w64 (1 - p_.2.2.1)), 0))))
          else (moves_Cell N m_.2.2 p_.2.2.1).bind fun y35 =>
          chk ((leI 0 m_.2.1) && (ltI m_.2.1 (y1.1.length : Int))) <|
          some ((y1.1.set m_.2.1.toNat y35), ((y1.2.1.1, v26), ((w64 (1 - p_.2.2.1)), 0))))
        else bif (eqI p_.2.2.1 1) then (bif r_.2.2.2.2.2.2.1 then ((moves_Kind N (gD (0 : Int) p_.1 m_.2.1)).bind fun y37 =>
            (moves_Kind N (gD (0 : Int) p_.1 m_.2.1)).bind fun y38 =>
            chk ((leI 0 y38) && (ltI y38 (v26.length : Int))) <|
            let v39 : Int := (w64 ((gD (0 : Int) v26 y38) + 1))
            chk ((leI 0 y37) && (ltI y37 (v26.length : Int))) <|
            (moves_Cell N m_.2.2 p_.2.2.1).bind fun y41 =>
            chk ((leI 0 m_.2.1) && (ltI m_.2.1 (y1.1.length : Int))) <|
            some ((y1.1.set m_.2.1.toNat y41), ((y1.2.1.1, (v26.set y37.toNat (bif (ltI 1000 v39) then 1000 else v39))), ((w64 (1 - p_.2.2.1)), 0))))
          else (moves_Cell N m_.2.2 p_.2.2.1).bind fun y43 =>
          chk ((leI 0 m_.2.1) && (ltI m_.2.1 (y1.1.length : Int))) <|
          some ((y1.1.set m_.2.1.toNat y43), ((y1.2.1.1, v26), ((w64 (1 - p_.2.2.1)), 0))))
        else none)
      else (moves_Cell N m_.2.2 p_.2.2.1).bind fun y45 =>
      chk ((leI 0 m_.2.1) && (ltI m_.2.1 (y1.1.length : Int))) <|
      some ((y1.1.set m_.2.1.toNat y45), ((y1.2.1.1, v26), ((w64 (1 - p_.2.2.1)), 0))))
    else none)
  else chk ((leI 0 m_.1) && (ltI m_.1 (y1.1.length : Int))) <|
  chk ((leI 0 m_.2.1) && (ltI m_.2.1 (p_.1.length : Int))) <|
  bif (!(eqI (gD (0 : Int) p_.1 m_.2.1) 0)) then (bif (eqI p_.2.2.1 0) then (bif r_.2.2.2.2.2.2.1 then ((moves_Kind N (gD (0 : Int) p_.1 m_.2.1)).bind fun y48 =>
        (moves_Kind N (gD (0 : Int) p_.1 m_.2.1)).bind fun y49 =>
        chk ((leI 0 y49) && (ltI y49 (y1.2.1.1.length : Int))) <|
        let v50 : Int := (w64 ((gD (0 : Int) y1.2.1.1 y49) + 1))
        chk ((leI 0 y48) && (ltI y48 (y1.2.1.1.length : Int))) <|
        (moves_Cell N m_.2.2 p_.2.2.1).bind fun y53 =>
        chk ((leI 0 m_.2.1) && (ltI m_.2.1 ((y1.1.set m_.1.toNat 0).length : Int))) <|
        some (((y1.1.set m_.1.toNat 0).set m_.2.1.toNat y53), (((y1.2.1.1.set y48.toNat (bif (ltI 1000 v50) then 1000 else v50)), y1.2.1.2), ((w64 (1 - p_.2.2.1)), 0))))
      else (moves_Cell N m_.2.2 p_.2.2.1).bind fun y55 =>
      chk ((leI 0 m_.2.1) && (ltI m_.2.1 ((y1.1.set m_.1.toNat 0).length : Int))) <|
      some (((y1.1.set m_.1.toNat 0).set m_.2.1.toNat y55), (y1.2.1, ((w64 (1 - p_.2.2.1)), 0))))
    else bif (eqI p_.2.2.1 1) then (bif r_.2.2.2.2.2.2.1 then ((moves_Kind N (gD (0 : Int) p_.1 m_.2.1)).bind fun y57 =>
        (moves_Kind N (gD (0 : Int) p_.1 m_.2.1)).bind fun y58 =>
        chk ((leI 0 y58) && (ltI y58 (y1.2.1.2.length : Int))) <|
        let v59 : Int := (w64 ((gD (0 : Int) y1.2.1.2 y58) + 1))
        chk ((leI 0 y57) && (ltI y57 (y1.2.1.2.length : Int))) <|
        (moves_Cell N m_.2.2 p_.2.2.1).bind fun y62 =>
        chk ((leI 0 m_.2.1) && (ltI m_.2.1 ((y1.1.set m_.1.toNat 0).length : Int))) <|
        some (((y1.1.set m_.1.toNat 0).set m_.2.1.toNat y62), ((y1.2.1.1, (y1.2.1.2.set y57.toNat (bif (ltI 1000 v59) then 1000 else v59))), ((w64 (1 - p_.2.2.1)), 0))))
      else (moves_Cell N m_.2.2 p_.2.2.1).bind fun y64 =>
      chk ((leI 0 m_.2.1) && (ltI m_.2.1 ((y1.1.set m_.1.toNat 0).length : Int))) <|
      some (((y1.1.set m_.1.toNat 0).set m_.2.1.toNat y64), (y1.2.1, ((w64 (1 - p_.2.2.1)), 0))))
    else none)
  else (moves_Cell N m_.2.2 p_.2.2.1).bind fun y66 =>
  chk ((leI 0 m_.2.1) && (ltI m_.2.1 ((y1.1.set m_.1.toNat 0).length : Int))) <|
  some (((y1.1.set m_.1.toNat 0).set m_.2.1.toNat y66), (y1.2.1, ((w64 (1 - p_.2.2.1)), (bif (ltI 200 (w64 (p_.2.2.2 + 1))) then 200 else (w64 (p_.2.2.2 + 1))))))
def moves_Do (N : Nat) (r_ : (ByteArray × (Int × (Int × ((List (Int × (Int × (Int × (List (Int × (Int × (Int × Int)))))))) × ((List Int) × (Bool × (Bool × ((List (Int × (Int × (Int × Bool)))) × (Int × (Int × Int))))))))))) (p_ : ((List Int) × (((List Int) × (List Int)) × (Int × Int)))) (m_ : (Int × (Int × Int))) : Option ((List Int) × (((List Int) × (List Int)) × (Int × Int))) := moves_Do.e N r_ p_ m_
/-! ### f39: gamehall/moves.After -/
def moves_After.e (N : Nat) (r_ : (ByteArray × (Int × (Int × ((List (Int × (Int × (Int × (List (Int × (Int × (Int × Int)))))))) × ((List Int) × (Bool × (Bool × ((List (Int × (Int × (Int × Bool)))) × (Int × (Int × Int))))))))))) (p_ : ((List Int) × (((List Int) × (List Int)) × (Int × Int)))) (m_ : (Int × (Int × Int))) : Option (((List Int) × (((List Int) × (List Int)) × (Int × Int))) × Int) :=
  (moves_Legal N r_ p_ m_).bind fun y1 =>
  bif (!(eqI y1.2 0)) then (some (([], (([], []), (0, 0))), y1.2))
  else bif (!y1.1) then (some (([], (([], []), (0, 0))), 13))
  else (moves_Do N r_ p_ m_).bind fun y2 =>
  some (y2, 0)
def moves_After (N : Nat) (r_ : (ByteArray × (Int × (Int × ((List (Int × (Int × (Int × (List (Int × (Int × (Int × Int)))))))) × ((List Int) × (Bool × (Bool × ((List (Int × (Int × (Int × Bool)))) × (Int × (Int × Int))))))))))) (p_ : ((List Int) × (((List Int) × (List Int)) × (Int × Int)))) (m_ : (Int × (Int × Int))) : Option (((List Int) × (((List Int) × (List Int)) × (Int × Int))) × Int) := moves_After.e N r_ p_ m_
/-! ### f16: gamehall/gamehallkeep1.plays -/
def gamehallkeep1_plays.e (N : Nat) : Option Bool :=
  (gamehallkeep1_three N).bind fun y1 =>
  (place_Begin N y1).bind fun y2 =>
  (gamehallkeep1_three N).bind fun y3 =>
  (moves_All N y3 y2.1).bind fun y4 =>
  (gamehallkeep1_three N).bind fun y5 =>
  (gamehallkeep1_put N 4).bind fun y6 =>
  (moves_After N y5 y2.1 y6).bind fun y7 =>
  (gamehallkeep1_three N).bind fun y8 =>
  (gamehallkeep1_put N 9).bind fun y9 =>
  (moves_Legal N y8 y2.1 y9).bind fun y10 =>
  (gamehallkeep1_fine N [y2.2, y4.2, y7.2, y10.2]).bind fun y12 =>
  bif y12 then (bif (eqI (y4.1.length : Int) 9) then (chk (true && (ltI 8 (y4.1.length : Int))) <|
      (gamehallkeep1_put N 8).bind fun y14 =>
      bif ((eqI (gD ((0 : Int), ((0 : Int), (0 : Int))) y4.1 8).1 y14.1) && ((eqI (gD ((0 : Int), ((0 : Int), (0 : Int))) y4.1 8).2.1 y14.2.1) && ((eqI (gD ((0 : Int), ((0 : Int), (0 : Int))) y4.1 8).2.2 y14.2.2) && true))) then (bif (eqI (y7.1.1.length : Int) 9) then (chk (true && (ltI 4 (y7.1.1.length : Int))) <|
          bif (eqI (gD (0 : Int) y7.1.1 4) 1) then (some (!y10.1))
          else some false)
        else some false)
      else some false)
    else some false)
  else some false
def gamehallkeep1_plays (N : Nat) : Option Bool := gamehallkeep1_plays.e N
/-! ### f28: gamehall/ends.Of -/
def ends_Of.e (N : Nat) (r_ : (ByteArray × (Int × (Int × ((List (Int × (Int × (Int × (List (Int × (Int × (Int × Int)))))))) × ((List Int) × (Bool × (Bool × ((List (Int × (Int × (Int × Bool)))) × (Int × (Int × Int))))))))))) (p_ : ((List Int) × (((List Int) × (List Int)) × (Int × Int)))) : Option (Int × Int) :=
  (place_Check N r_ p_).bind fun y1 =>
  bif (!(eqI y1 0)) then (some (0, y1))
  else (ends_Result N r_ p_).bind fun y2 =>
  some (y2, 0)
def ends_Of (N : Nat) (r_ : (ByteArray × (Int × (Int × ((List (Int × (Int × (Int × (List (Int × (Int × (Int × Int)))))))) × ((List Int) × (Bool × (Bool × ((List (Int × (Int × (Int × Bool)))) × (Int × (Int × Int))))))))))) (p_ : ((List Int) × (((List Int) × (List Int)) × (Int × Int)))) : Option (Int × Int) := ends_Of.e N r_ p_
/-! ### f48: (*gamehall/board.Board).Key -/
def board_Board_Key.e (N : Nat) (b_ : ((ByteArray × (Int × (Int × ((List (Int × (Int × (Int × (List (Int × (Int × (Int × Int)))))))) × ((List Int) × (Bool × (Bool × ((List (Int × (Int × (Int × Bool)))) × (Int × (Int × Int)))))))))) × (((List Int) × (((List Int) × (List Int)) × (Int × Int))) × (Int × (List ((Int × (Int × Int)) × (Int × (Int × (Bool × (Int × Int)))))))))) : Option Int :=
  some b_.2.2.1
def board_Board_Key (N : Nat) (b_ : ((ByteArray × (Int × (Int × ((List (Int × (Int × (Int × (List (Int × (Int × (Int × Int)))))))) × ((List Int) × (Bool × (Bool × ((List (Int × (Int × (Int × Bool)))) × (Int × (Int × Int)))))))))) × (((List Int) × (((List Int) × (List Int)) × (Int × Int))) × (Int × (List ((Int × (Int × Int)) × (Int × (Int × (Bool × (Int × Int)))))))))) : Option Int := board_Board_Key.e N b_
/-! ### f50: slices.Equal[[]gamehall/api.Move,gamehall/api.Move] -/
def slices_Equal_api_Move_api_Move.e (N : Nat) (r0 : Int → Option Bool) (s1_ : (List (Int × (Int × Int)))) (s2_ : (List (Int × (Int × Int)))) : Option Bool :=
  bif (!(eqI (s1_.length : Int) (s2_.length : Int))) then some false
  else r0 0
def slices_Equal_api_Move_api_Move.s0 (N : Nat) (s1_ : (List (Int × (Int × Int)))) (s2_ : (List (Int × (Int × Int)))) (r0 : Int → Option Bool) (t13_ : Int) : Option Bool :=
  bif (ltI t13_ (s1_.length : Int)) then (chk ((leI 0 t13_) && (ltI t13_ (s1_.length : Int))) <|
    chk ((leI 0 t13_) && (ltI t13_ (s2_.length : Int))) <|
    bif (!((eqI (gD ((0 : Int), ((0 : Int), (0 : Int))) s1_ t13_).1 (gD ((0 : Int), ((0 : Int), (0 : Int))) s2_ t13_).1) && ((eqI (gD ((0 : Int), ((0 : Int), (0 : Int))) s1_ t13_).2.1 (gD ((0 : Int), ((0 : Int), (0 : Int))) s2_ t13_).2.1) && ((eqI (gD ((0 : Int), ((0 : Int), (0 : Int))) s1_ t13_).2.2 (gD ((0 : Int), ((0 : Int), (0 : Int))) s2_ t13_).2.2) && true)))) then some false
    else r0 (w64 (t13_ + 1)))
  else some true
def slices_Equal_api_Move_api_Move.L (N : Nat) (s1_ : (List (Int × (Int × Int)))) (s2_ : (List (Int × (Int × Int)))) : Nat → (Int → Option Bool)
  | 0 => fun _ => none
  | n + 1 => fun t13_ => slices_Equal_api_Move_api_Move.s0 N s1_ s2_ (slices_Equal_api_Move_api_Move.L N s1_ s2_ n) t13_
def slices_Equal_api_Move_api_Move.l0 (N : Nat) (s1_ : (List (Int × (Int × Int)))) (s2_ : (List (Int × (Int × Int)))) (n : Nat) : Int → Option Bool := (slices_Equal_api_Move_api_Move.L N s1_ s2_ n)
theorem slices_Equal_api_Move_api_Move.l0_s (N : Nat) (s1_ : (List (Int × (Int × Int)))) (s2_ : (List (Int × (Int × Int)))) (n : Nat) (t13_ : Int) : slices_Equal_api_Move_api_Move.l0 N s1_ s2_ (n + 1) t13_ = slices_Equal_api_Move_api_Move.s0 N s1_ s2_ (slices_Equal_api_Move_api_Move.l0 N s1_ s2_ n) t13_ := rfl
def slices_Equal_api_Move_api_Move (N : Nat) (s1_ : (List (Int × (Int × Int)))) (s2_ : (List (Int × (Int × Int)))) : Option Bool := slices_Equal_api_Move_api_Move.e N (slices_Equal_api_Move_api_Move.l0 N s1_ s2_ N) s1_ s2_
/-! ### f23: gamehall/gamehallkeep1.some[gamehall/api.Move] -/
def gamehallkeep1_some_api_Move.e (N : Nat) (l_ : (List (Int × (Int × Int)))) (n_ : Int) : Option (Int × (Int × Int)) :=
  bif (eqI (l_.length : Int) 0) then none
  else bif (eqI (l_.length : Int) 0) then none
  else let v3 : Int := (Int.tmod (w64 ((Int.tmod n_ (l_.length : Int)) + (l_.length : Int))) (l_.length : Int))
  chk ((leI 0 v3) && (ltI v3 (l_.length : Int))) <|
  some (gD ((0 : Int), ((0 : Int), (0 : Int))) l_ v3)
def gamehallkeep1_some_api_Move (N : Nat) (l_ : (List (Int × (Int × Int)))) (n_ : Int) : Option (Int × (Int × Int)) := gamehallkeep1_some_api_Move.e N l_ n_
/-! ### f9: gamehall/gamehallkeep1.BoardKeys -/
def gamehallkeep1_BoardKeys.e (N : Nat) (r0 : (List Int) → Int → Int → ByteArray → Int → Int → Bool → Bool → Int → Int → Int → Int → Int → Int → (List (Int × (Int × (Int × (List (Int × (Int × (Int × Int)))))))) → (List Int) → (List (Int × (Int × (Int × Bool)))) → (List Int) → (List Int) → (List Int) → (List ((Int × (Int × Int)) × (Int × (Int × (Bool × (Int × Int)))))) → Option Bool) (r_ : (ByteArray × (Int × (Int × ((List (Int × (Int × (Int × (List (Int × (Int × (Int × Int)))))))) × ((List Int) × (Bool × (Bool × ((List (Int × (Int × (Int × Bool)))) × (Int × (Int × Int))))))))))) (p_ : ((List Int) × (((List Int) × (List Int)) × (Int × Int)))) (picks : (List Int)) : Option Bool :=
  (gamehallkeep1_boarded N).bind fun y1 =>
  bif (!y1) then some false
  else (gamehallkeep1_keyed N).bind fun y2 =>
  bif (!y2) then some false
  else (gamehallkeep1_plays N).bind fun y3 =>
  bif (!y3) then some false
  else (board_New N r_ p_).bind fun y4 =>
  oCase y4.1 (bif (!(eqI y4.2 0)) then (some (!(eqI y4.2 0)))
    else some (!(eqI y4.2 0))) fun b5 =>
  bif (!(eqI y4.2 0)) then (some (!(eqI y4.2 0)))
  else let v6 : Int := (bif (ltI 12 (picks.length : Int)) then 12 else (picks.length : Int))
  chk (true && ((leI 0 v6) && (leI v6 (picks.length : Int)))) <|
  r0 ((picks.take v6.toNat).drop (0 : Int).toNat) (((picks.take v6.toNat).drop (0 : Int).toNat).length : Int) 0 b5.1.1 b5.1.2.1 b5.1.2.2.1 b5.1.2.2.2.2.2.1 b5.1.2.2.2.2.2.2.1 b5.1.2.2.2.2.2.2.2.2.1 b5.1.2.2.2.2.2.2.2.2.2.1 b5.1.2.2.2.2.2.2.2.2.2.2 b5.2.1.2.2.1 b5.2.1.2.2.2 b5.2.2.1 b5.1.2.2.2.1 b5.1.2.2.2.2.1 b5.1.2.2.2.2.2.2.2.1 b5.2.1.1 b5.2.1.2.1.1 b5.2.1.2.1.2 b5.2.2.2
def gamehallkeep1_BoardKeys.s0 (N : Nat) (r_ : (ByteArray × (Int × (Int × ((List (Int × (Int × (Int × (List (Int × (Int × (Int × Int)))))))) × ((List Int) × (Bool × (Bool × ((List (Int × (Int × (Int × Bool)))) × (Int × (Int × Int))))))))))) (p_ : ((List Int) × (((List Int) × (List Int)) × (Int × Int)))) (picks : (List Int)) (r0 : (List Int) → Int → Int → ByteArray → Int → Int → Bool → Bool → Int → Int → Int → Int → Int → Int → (List (Int × (Int × (Int × (List (Int × (Int × (Int × Int)))))))) → (List Int) → (List (Int × (Int × (Int × Bool)))) → (List Int) → (List Int) → (List Int) → (List ((Int × (Int × Int)) × (Int × (Int × (Bool × (Int × Int)))))) → Option Bool) (t46_ : (List Int)) (t47_ : Int) (t48_ : Int) (b_ : ByteArray) (b_2 : Int) (b_3 : Int) (b_4 : Bool) (b_5 : Bool) (b_6 : Int) (b_7 : Int) (b_8 : Int) (b_9 : Int) (b_10 : Int) (b_11 : Int) (m3_ : (List (Int × (Int × (Int × (List (Int × (Int × (Int × Int))))))))) (m4_ : (List Int)) (m5_ : (List (Int × (Int × (Int × Bool))))) (m6_ : (List Int)) (m7_ : (List Int)) (m8_ : (List Int)) (m9_ : (List ((Int × (Int × Int)) × (Int × (Int × (Bool × (Int × Int))))))) : Option Bool :=
  bif (ltI t48_ t47_) then (chk ((leI 0 t48_) && (ltI t48_ (t46_.length : Int))) <|
    (board_Board_Moves N ((b_, (b_2, (b_3, (m3_, (m4_, (b_4, (b_5, (m5_, (b_6, (b_7, b_8)))))))))), ((m6_, ((m7_, m8_), (b_9, b_10))), (b_11, m9_)))).bind fun y8 =>
    (board_Board_Position N ((b_, (b_2, (b_3, (m3_, (m4_, (b_4, (b_5, (m5_, (b_6, (b_7, b_8)))))))))), ((m6_, ((m7_, m8_), (b_9, b_10))), (b_11, m9_)))).bind fun y9 =>
    (zob_Key N r_ y9).bind fun y10 =>
    (board_Board_Position N ((b_, (b_2, (b_3, (m3_, (m4_, (b_4, (b_5, (m5_, (b_6, (b_7, b_8)))))))))), ((m6_, ((m7_, m8_), (b_9, b_10))), (b_11, m9_)))).bind fun y11 =>
    (moves_All N r_ y11).bind fun y12 =>
    (board_Board_Position N ((b_, (b_2, (b_3, (m3_, (m4_, (b_4, (b_5, (m5_, (b_6, (b_7, b_8)))))))))), ((m6_, ((m7_, m8_), (b_9, b_10))), (b_11, m9_)))).bind fun y13 =>
    (ends_Of N r_ y13).bind fun y14 =>
    (gamehallkeep1_fine N [y10.2, y12.2, y14.2]).bind fun y15 =>
    bif (!y15) then some false
    else (board_Board_Key N ((b_, (b_2, (b_3, (m3_, (m4_, (b_4, (b_5, (m5_, (b_6, (b_7, b_8)))))))))), ((m6_, ((m7_, m8_), (b_9, b_10))), (b_11, m9_)))).bind fun y16 =>
    bif (!(eqI y10.1 y16)) then some false
    else (board_Board_Result N ((b_, (b_2, (b_3, (m3_, (m4_, (b_4, (b_5, (m5_, (b_6, (b_7, b_8)))))))))), ((m6_, ((m7_, m8_), (b_9, b_10))), (b_11, m9_)))).bind fun y17 =>
    bif (!(eqI y14.1 y17)) then some false
    else bif (eqI y14.1 0) then ((slices_Equal_api_Move_api_Move N y12.1 y8).bind fun y18 =>
      bif (!y18) then some false
      else bif (!(eqI y14.1 0)) then (bif (ltI 0 (y8.length : Int)) then some false
        else bif (eqI (y8.length : Int) 0) then some true
        else bif (eqI (gD (0 : Int) t46_ t48_) (-1)) then ((board_Board_Undo' N ((b_, (b_2, (b_3, (m3_, (m4_, (b_4, (b_5, (m5_, (b_6, (b_7, b_8)))))))))), ((m6_, ((m7_, m8_), (b_9, b_10))), (b_11, m9_)))).bind fun y22 =>
          r0 t46_ t47_ (w64 (t48_ + 1)) y22.2.1.1 y22.2.1.2.1 y22.2.1.2.2.1 y22.2.1.2.2.2.2.2.1 y22.2.1.2.2.2.2.2.2.1 y22.2.1.2.2.2.2.2.2.2.2.1 y22.2.1.2.2.2.2.2.2.2.2.2.1 y22.2.1.2.2.2.2.2.2.2.2.2.2 y22.2.2.1.2.2.1 y22.2.2.1.2.2.2 y22.2.2.2.1 y22.2.1.2.2.2.1 y22.2.1.2.2.2.2.1 y22.2.1.2.2.2.2.2.2.2.1 y22.2.2.1.1 y22.2.2.1.2.1.1 y22.2.2.1.2.1.2 y22.2.2.2.2)
        else (gamehallkeep1_some_api_Move N y8 (gD (0 : Int) t46_ t48_)).bind fun y23 =>
        (board_Board_Do' N ((b_, (b_2, (b_3, (m3_, (m4_, (b_4, (b_5, (m5_, (b_6, (b_7, b_8)))))))))), ((m6_, ((m7_, m8_), (b_9, b_10))), (b_11, m9_))) y23).bind fun y24 =>
        bif (!(eqI y24.1 0)) then some false
        else r0 t46_ t47_ (w64 (t48_ + 1)) y24.2.1.1 y24.2.1.2.1 y24.2.1.2.2.1 y24.2.1.2.2.2.2.2.1 y24.2.1.2.2.2.2.2.2.1 y24.2.1.2.2.2.2.2.2.2.2.1 y24.2.1.2.2.2.2.2.2.2.2.2.1 y24.2.1.2.2.2.2.2.2.2.2.2.2 y24.2.2.1.2.2.1 y24.2.2.1.2.2.2 y24.2.2.2.1 y24.2.1.2.2.2.1 y24.2.1.2.2.2.2.1 y24.2.1.2.2.2.2.2.2.2.1 y24.2.2.1.1 y24.2.2.1.2.1.1 y24.2.2.1.2.1.2 y24.2.2.2.2)
      else bif (eqI (y8.length : Int) 0) then some true
      else bif (eqI (gD (0 : Int) t46_ t48_) (-1)) then ((board_Board_Undo' N ((b_, (b_2, (b_3, (m3_, (m4_, (b_4, (b_5, (m5_, (b_6, (b_7, b_8)))))))))), ((m6_, ((m7_, m8_), (b_9, b_10))), (b_11, m9_)))).bind fun y27 =>
        r0 t46_ t47_ (w64 (t48_ + 1)) y27.2.1.1 y27.2.1.2.1 y27.2.1.2.2.1 y27.2.1.2.2.2.2.2.1 y27.2.1.2.2.2.2.2.2.1 y27.2.1.2.2.2.2.2.2.2.2.1 y27.2.1.2.2.2.2.2.2.2.2.2.1 y27.2.1.2.2.2.2.2.2.2.2.2.2 y27.2.2.1.2.2.1 y27.2.2.1.2.2.2 y27.2.2.2.1 y27.2.1.2.2.2.1 y27.2.1.2.2.2.2.1 y27.2.1.2.2.2.2.2.2.2.1 y27.2.2.1.1 y27.2.2.1.2.1.1 y27.2.2.1.2.1.2 y27.2.2.2.2)
      else (gamehallkeep1_some_api_Move N y8 (gD (0 : Int) t46_ t48_)).bind fun y28 =>
      (board_Board_Do' N ((b_, (b_2, (b_3, (m3_, (m4_, (b_4, (b_5, (m5_, (b_6, (b_7, b_8)))))))))), ((m6_, ((m7_, m8_), (b_9, b_10))), (b_11, m9_))) y28).bind fun y29 =>
      bif (!(eqI y29.1 0)) then some false
      else r0 t46_ t47_ (w64 (t48_ + 1)) y29.2.1.1 y29.2.1.2.1 y29.2.1.2.2.1 y29.2.1.2.2.2.2.2.1 y29.2.1.2.2.2.2.2.2.1 y29.2.1.2.2.2.2.2.2.2.2.1 y29.2.1.2.2.2.2.2.2.2.2.2.1 y29.2.1.2.2.2.2.2.2.2.2.2.2 y29.2.2.1.2.2.1 y29.2.2.1.2.2.2 y29.2.2.2.1 y29.2.1.2.2.2.1 y29.2.1.2.2.2.2.1 y29.2.1.2.2.2.2.2.2.2.1 y29.2.2.1.1 y29.2.2.1.2.1.1 y29.2.2.1.2.1.2 y29.2.2.2.2)
    else bif (!(eqI y14.1 0)) then (bif (ltI 0 (y8.length : Int)) then some false
      else bif (eqI (y8.length : Int) 0) then some true
      else bif (eqI (gD (0 : Int) t46_ t48_) (-1)) then ((board_Board_Undo' N ((b_, (b_2, (b_3, (m3_, (m4_, (b_4, (b_5, (m5_, (b_6, (b_7, b_8)))))))))), ((m6_, ((m7_, m8_), (b_9, b_10))), (b_11, m9_)))).bind fun y33 =>
        r0 t46_ t47_ (w64 (t48_ + 1)) y33.2.1.1 y33.2.1.2.1 y33.2.1.2.2.1 y33.2.1.2.2.2.2.2.1 y33.2.1.2.2.2.2.2.2.1 y33.2.1.2.2.2.2.2.2.2.2.1 y33.2.1.2.2.2.2.2.2.2.2.2.1 y33.2.1.2.2.2.2.2.2.2.2.2.2 y33.2.2.1.2.2.1 y33.2.2.1.2.2.2 y33.2.2.2.1 y33.2.1.2.2.2.1 y33.2.1.2.2.2.2.1 y33.2.1.2.2.2.2.2.2.2.1 y33.2.2.1.1 y33.2.2.1.2.1.1 y33.2.2.1.2.1.2 y33.2.2.2.2)
      else (gamehallkeep1_some_api_Move N y8 (gD (0 : Int) t46_ t48_)).bind fun y34 =>
      (board_Board_Do' N ((b_, (b_2, (b_3, (m3_, (m4_, (b_4, (b_5, (m5_, (b_6, (b_7, b_8)))))))))), ((m6_, ((m7_, m8_), (b_9, b_10))), (b_11, m9_))) y34).bind fun y35 =>
      bif (!(eqI y35.1 0)) then some false
      else r0 t46_ t47_ (w64 (t48_ + 1)) y35.2.1.1 y35.2.1.2.1 y35.2.1.2.2.1 y35.2.1.2.2.2.2.2.1 y35.2.1.2.2.2.2.2.2.1 y35.2.1.2.2.2.2.2.2.2.2.1 y35.2.1.2.2.2.2.2.2.2.2.2.1 y35.2.1.2.2.2.2.2.2.2.2.2.2 y35.2.2.1.2.2.1 y35.2.2.1.2.2.2 y35.2.2.2.1 y35.2.1.2.2.2.1 y35.2.1.2.2.2.2.1 y35.2.1.2.2.2.2.2.2.2.1 y35.2.2.1.1 y35.2.2.1.2.1.1 y35.2.2.1.2.1.2 y35.2.2.2.2)
    else bif (eqI (y8.length : Int) 0) then some true
    else bif (eqI (gD (0 : Int) t46_ t48_) (-1)) then ((board_Board_Undo' N ((b_, (b_2, (b_3, (m3_, (m4_, (b_4, (b_5, (m5_, (b_6, (b_7, b_8)))))))))), ((m6_, ((m7_, m8_), (b_9, b_10))), (b_11, m9_)))).bind fun y38 =>
      r0 t46_ t47_ (w64 (t48_ + 1)) y38.2.1.1 y38.2.1.2.1 y38.2.1.2.2.1 y38.2.1.2.2.2.2.2.1 y38.2.1.2.2.2.2.2.2.1 y38.2.1.2.2.2.2.2.2.2.2.1 y38.2.1.2.2.2.2.2.2.2.2.2.1 y38.2.1.2.2.2.2.2.2.2.2.2.2 y38.2.2.1.2.2.1 y38.2.2.1.2.2.2 y38.2.2.2.1 y38.2.1.2.2.2.1 y38.2.1.2.2.2.2.1 y38.2.1.2.2.2.2.2.2.2.1 y38.2.2.1.1 y38.2.2.1.2.1.1 y38.2.2.1.2.1.2 y38.2.2.2.2)
    else (gamehallkeep1_some_api_Move N y8 (gD (0 : Int) t46_ t48_)).bind fun y39 =>
    (board_Board_Do' N ((b_, (b_2, (b_3, (m3_, (m4_, (b_4, (b_5, (m5_, (b_6, (b_7, b_8)))))))))), ((m6_, ((m7_, m8_), (b_9, b_10))), (b_11, m9_))) y39).bind fun y40 =>
    bif (!(eqI y40.1 0)) then some false
    else r0 t46_ t47_ (w64 (t48_ + 1)) y40.2.1.1 y40.2.1.2.1 y40.2.1.2.2.1 y40.2.1.2.2.2.2.2.1 y40.2.1.2.2.2.2.2.2.1 y40.2.1.2.2.2.2.2.2.2.2.1 y40.2.1.2.2.2.2.2.2.2.2.2.1 y40.2.1.2.2.2.2.2.2.2.2.2.2 y40.2.2.1.2.2.1 y40.2.2.1.2.2.2 y40.2.2.2.1 y40.2.1.2.2.2.1 y40.2.1.2.2.2.2.1 y40.2.1.2.2.2.2.2.2.2.1 y40.2.2.1.1 y40.2.2.1.2.1.1 y40.2.2.1.2.1.2 y40.2.2.2.2)
  else some true
def gamehallkeep1_BoardKeys.L (N : Nat) (r_ : (ByteArray × (Int × (Int × ((List (Int × (Int × (Int × (List (Int × (Int × (Int × Int)))))))) × ((List Int) × (Bool × (Bool × ((List (Int × (Int × (Int × Bool)))) × (Int × (Int × Int))))))))))) (p_ : ((List Int) × (((List Int) × (List Int)) × (Int × Int)))) (picks : (List Int)) : Nat → ((List Int) → Int → Int → ByteArray → Int → Int → Bool → Bool → Int → Int → Int → Int → Int → Int → (List (Int × (Int × (Int × (List (Int × (Int × (Int × Int)))))))) → (List Int) → (List (Int × (Int × (Int × Bool)))) → (List Int) → (List Int) → (List Int) → (List ((Int × (Int × Int)) × (Int × (Int × (Bool × (Int × Int)))))) → Option Bool)
  | 0 => fun _ _ _ _ _ _ _ _ _ _ _ _ _ _ _ _ _ _ _ _ _ => none
  | n + 1 => fun t46_ t47_ t48_ b_ b_2 b_3 b_4 b_5 b_6 b_7 b_8 b_9 b_10 b_11 m3_ m4_ m5_ m6_ m7_ m8_ m9_ => gamehallkeep1_BoardKeys.s0 N r_ p_ picks (gamehallkeep1_BoardKeys.L N r_ p_ picks n) t46_ t47_ t48_ b_ b_2 b_3 b_4 b_5 b_6 b_7 b_8 b_9 b_10 b_11 m3_ m4_ m5_ m6_ m7_ m8_ m9_
def gamehallkeep1_BoardKeys.l0 (N : Nat) (r_ : (ByteArray × (Int × (Int × ((List (Int × (Int × (Int × (List (Int × (Int × (Int × Int)))))))) × ((List Int) × (Bool × (Bool × ((List (Int × (Int × (Int × Bool)))) × (Int × (Int × Int))))))))))) (p_ : ((List Int) × (((List Int) × (List Int)) × (Int × Int)))) (picks : (List Int)) (n : Nat) : (List Int) → Int → Int → ByteArray → Int → Int → Bool → Bool → Int → Int → Int → Int → Int → Int → (List (Int × (Int × (Int × (List (Int × (Int × (Int × Int)))))))) → (List Int) → (List (Int × (Int × (Int × Bool)))) → (List Int) → (List Int) → (List Int) → (List ((Int × (Int × Int)) × (Int × (Int × (Bool × (Int × Int)))))) → Option Bool := (gamehallkeep1_BoardKeys.L N r_ p_ picks n)
theorem gamehallkeep1_BoardKeys.l0_s (N : Nat) (r_ : (ByteArray × (Int × (Int × ((List (Int × (Int × (Int × (List (Int × (Int × (Int × Int)))))))) × ((List Int) × (Bool × (Bool × ((List (Int × (Int × (Int × Bool)))) × (Int × (Int × Int))))))))))) (p_ : ((List Int) × (((List Int) × (List Int)) × (Int × Int)))) (picks : (List Int)) (n : Nat) (t46_ : (List Int)) (t47_ : Int) (t48_ : Int) (b_ : ByteArray) (b_2 : Int) (b_3 : Int) (b_4 : Bool) (b_5 : Bool) (b_6 : Int) (b_7 : Int) (b_8 : Int) (b_9 : Int) (b_10 : Int) (b_11 : Int) (m3_ : (List (Int × (Int × (Int × (List (Int × (Int × (Int × Int))))))))) (m4_ : (List Int)) (m5_ : (List (Int × (Int × (Int × Bool))))) (m6_ : (List Int)) (m7_ : (List Int)) (m8_ : (List Int)) (m9_ : (List ((Int × (Int × Int)) × (Int × (Int × (Bool × (Int × Int))))))) : gamehallkeep1_BoardKeys.l0 N r_ p_ picks (n + 1) t46_ t47_ t48_ b_ b_2 b_3 b_4 b_5 b_6 b_7 b_8 b_9 b_10 b_11 m3_ m4_ m5_ m6_ m7_ m8_ m9_ = gamehallkeep1_BoardKeys.s0 N r_ p_ picks (gamehallkeep1_BoardKeys.l0 N r_ p_ picks n) t46_ t47_ t48_ b_ b_2 b_3 b_4 b_5 b_6 b_7 b_8 b_9 b_10 b_11 m3_ m4_ m5_ m6_ m7_ m8_ m9_ := rfl
def gamehallkeep1_BoardKeys (N : Nat) (r_ : (ByteArray × (Int × (Int × ((List (Int × (Int × (Int × (List (Int × (Int × (Int × Int)))))))) × ((List Int) × (Bool × (Bool × ((List (Int × (Int × (Int × Bool)))) × (Int × (Int × Int))))))))))) (p_ : ((List Int) × (((List Int) × (List Int)) × (Int × Int)))) (picks : (List Int)) : Option Bool := gamehallkeep1_BoardKeys.e N (gamehallkeep1_BoardKeys.l0 N r_ p_ picks N) r_ p_ picks
end Go.Proofs.Ythhojealnaiehaa.Am
