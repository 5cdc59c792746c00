/- PRINTED by gen.py: what the functions compute, as plain Lean functions with fuel. -/
import Derived.Test.YtjmcjiklfhmdlaaFng
set_option linter.unusedVariables false
set_option linter.unusedSimpArgs false
namespace Go.Proofs.Ytjmcjiklfhmdlaa.Am
open Go
/-! ### f78: gamehall/zob.Of -/
def zob_Of.e (N : Nat) (r0 : Int → Int → Option Int) (r1 : Int → Int → Option Int) (r2 : Int → Int → Int → (List Int) → Int → Int → Option Int) (p_ : ((List Int) × (((List Int) × (List Int)) × (Int × Int)))) : Option Int :=
  (zob_turn N p_.2.2.1).bind fun y1 =>
  r0 y1 0
def zob_Of.s0 (N : Nat) (p_ : ((List Int) × (((List Int) × (List Int)) × (Int × Int)))) (r0 : Int → Int → Option Int) (r1 : Int → Int → Option Int) (r2 : Int → Int → Int → (List Int) → Int → Int → Option Int) (k_ : Int) (t16_ : Int) : Option Int :=
  bif (ltI t16_ (p_.1.length : Int)) then (chk ((leI 0 t16_) && (ltI t16_ (p_.1.length : Int))) <|
    (zob_square N t16_ (gD (0 : Int) p_.1 t16_)).bind fun y3 =>
    r0 (IntKind.wrap .u64 (k_ + y3)) (w64 (t16_ + 1)))
  else r1 k_ 0
def zob_Of.s1 (N : Nat) (p_ : ((List Int) × (((List Int) × (List Int)) × (Int × Int)))) (r0 : Int → Int → Option Int) (r1 : Int → Int → Option Int) (r2 : Int → Int → Int → (List Int) → Int → Int → Option Int) (k_ : Int) (t29_ : Int) : Option Int :=
  bif (ltI t29_ 2) then (bif (eqI t29_ 0) then (r2 k_ t29_ t29_ p_.2.1.1 (p_.2.1.1.length : Int) 0)
    else bif (eqI t29_ 1) then (r2 k_ t29_ t29_ p_.2.1.2 (p_.2.1.2.length : Int) 0)
    else none)
  else some k_
def zob_Of.s2 (N : Nat) (p_ : ((List Int) × (((List Int) × (List Int)) × (Int × Int)))) (r0 : Int → Int → Option Int) (r1 : Int → Int → Option Int) (r2 : Int → Int → Int → (List Int) → Int → Int → Option Int) (k_ : Int) (o_ : Int) (t29_ : Int) (t33_ : (List Int)) (t34_ : Int) (t35_ : Int) : Option Int :=
  bif (ltI t35_ t34_) then (chk ((leI 0 t35_) && (ltI t35_ (t33_.length : Int))) <|
    (zob_held N o_ t35_ (gD (0 : Int) t33_ t35_)).bind fun y5 =>
    r2 (IntKind.wrap .u64 (k_ + y5)) o_ t29_ t33_ t34_ (w64 (t35_ + 1)))
  else r1 k_ (w64 (t29_ + 1))
def zob_Of.L (N : Nat) (p_ : ((List Int) × (((List Int) × (List Int)) × (Int × Int)))) : Nat → (Int → Int → Option Int) × (Int → Int → Option Int) × (Int → Int → Int → (List Int) → Int → Int → Option Int)
  | 0 => (fun _ _ => none, fun _ _ => none, fun _ _ _ _ _ _ => none)
  | n + 1 => (fun k_ t16_ => zob_Of.s0 N p_ (zob_Of.L N p_ n).1 (zob_Of.L N p_ n).2.1 (zob_Of.L N p_ n).2.2 k_ t16_, fun k_ t29_ => zob_Of.s1 N p_ (zob_Of.L N p_ n).1 (zob_Of.L N p_ n).2.1 (zob_Of.L N p_ n).2.2 k_ t29_, fun k_ o_ t29_ t33_ t34_ t35_ => zob_Of.s2 N p_ (zob_Of.L N p_ n).1 (zob_Of.L N p_ n).2.1 (zob_Of.L N p_ n).2.2 k_ o_ t29_ t33_ t34_ t35_)
def zob_Of.l0 (N : Nat) (p_ : ((List Int) × (((List Int) × (List Int)) × (Int × Int)))) (n : Nat) : Int → Int → Option Int := (zob_Of.L N p_ n).1
def zob_Of.l1 (N : Nat) (p_ : ((List Int) × (((List Int) × (List Int)) × (Int × Int)))) (n : Nat) : Int → Int → Option Int := (zob_Of.L N p_ n).2.1
def zob_Of.l2 (N : Nat) (p_ : ((List Int) × (((List Int) × (List Int)) × (Int × Int)))) (n : Nat) : Int → Int → Int → (List Int) → Int → Int → Option Int := (zob_Of.L N p_ n).2.2
theorem zob_Of.l0_s (N : Nat) (p_ : ((List Int) × (((List Int) × (List Int)) × (Int × Int)))) (n : Nat) (k_ : Int) (t16_ : Int) : zob_Of.l0 N p_ (n + 1) k_ t16_ = zob_Of.s0 N p_ (zob_Of.l0 N p_ n) (zob_Of.l1 N p_ n) (zob_Of.l2 N p_ n) k_ t16_ := rfl
theorem zob_Of.l1_s (N : Nat) (p_ : ((List Int) × (((List Int) × (List Int)) × (Int × Int)))) (n : Nat) (k_ : Int) (t29_ : Int) : zob_Of.l1 N p_ (n + 1) k_ t29_ = zob_Of.s1 N p_ (zob_Of.l0 N p_ n) (zob_Of.l1 N p_ n) (zob_Of.l2 N p_ n) k_ t29_ := rfl
theorem zob_Of.l2_s (N : Nat) (p_ : ((List Int) × (((List Int) × (List Int)) × (Int × Int)))) (n : Nat) (k_ : Int) (o_ : Int) (t29_ : Int) (t33_ : (List Int)) (t34_ : Int) (t35_ : Int) : zob_Of.l2 N p_ (n + 1) k_ o_ t29_ t33_ t34_ t35_ = zob_Of.s2 N p_ (zob_Of.l0 N p_ n) (zob_Of.l1 N p_ n) (zob_Of.l2 N p_ n) k_ o_ t29_ t33_ t34_ t35_ := rfl
def zob_Of (N : Nat) (p_ : ((List Int) × (((List Int) × (List Int)) × (Int × Int)))) : Option Int := zob_Of.e N (zob_Of.l0 N p_ N) (zob_Of.l1 N p_ N) (zob_Of.l2 N p_ N) p_
/-! ### f37: gamehall/zob.Key -/
def zob_Key.e (N : Nat) (r_ : (ByteArray × (Int × (Int × ((List (Int × (Int × (Int × (List (Int × (Int × (Int × Int)))))))) × ((List Int) × (Bool × (Bool × ((List (Int × (Int × (Int × Bool)))) × (Int × (Int × Int))))))))))) (p_ : ((List Int) × (((List Int) × (List Int)) × (Int × Int)))) : Option (Int × Int) :=
  (place_Check N r_ p_).bind fun y1 =>
  bif (!(eqI y1 0)) then (some (0, y1))
  else (zob_Of N p_).bind fun y2 =>
  some (y2, 0)
def zob_Key (N : Nat) (r_ : (ByteArray × (Int × (Int × ((List (Int × (Int × (Int × (List (Int × (Int × (Int × Int)))))))) × ((List Int) × (Bool × (Bool × ((List (Int × (Int × (Int × Bool)))) × (Int × (Int × Int))))))))))) (p_ : ((List Int) × (((List Int) × (List Int)) × (Int × Int)))) : Option (Int × Int) := zob_Key.e N r_ p_
/-! ### f84: gamehall/zob.Next -/
def zob_Next.e (N : Nat) (r_ : (ByteArray × (Int × (Int × ((List (Int × (Int × (Int × (List (Int × (Int × (Int × Int)))))))) × ((List Int) × (Bool × (Bool × ((List (Int × (Int × (Int × Bool)))) × (Int × (Int × Int))))))))))) (p_ : ((List Int) × (((List Int) × (List Int)) × (Int × Int)))) (m_ : (Int × (Int × Int))) (k_ : Int) : Option Int :=
  (zob_turn N (w64 (1 - p_.2.2.1))).bind fun y1 =>
  (zob_turn N p_.2.2.1).bind fun y2 =>
  let v4 : Int := (IntKind.wrap .u64 (k_ + (IntKind.wrap .u64 (y1 - y2))))
  bif (ltI m_.1 0) then ((zob_held N p_.2.2.1 m_.2.2 1).bind fun y5 =>
    let v6 : Int := (IntKind.wrap .u64 (v4 - y5))
    chk ((leI 0 m_.2.1) && (ltI m_.2.1 (p_.1.length : Int))) <|
    bif (!(eqI (gD (0 : Int) p_.1 m_.2.1) 0)) then ((zob_square N m_.2.1 (gD (0 : Int) p_.1 m_.2.1)).bind fun y8 =>
      let v9 : Int := (IntKind.wrap .u64 (v6 - y8))
      bif r_.2.2.2.2.2.2.1 then (bif (eqI p_.2.2.1 0) then ((moves_Kind N (gD (0 : Int) p_.1 m_.2.1)).bind fun y10 =>
          chk ((leI 0 y10) && (ltI y10 (p_.2.1.1.length : Int))) <|
          bif (ltI (gD (0 : Int) p_.2.1.1 y10) 1000) then ((moves_Kind N (gD (0 : Int) p_.1 m_.2.1)).bind fun y12 =>
            (zob_held N p_.2.2.1 y12 1).bind fun y13 =>
            (moves_Cell N m_.2.2 p_.2.2.1).bind fun y15 =>
            (zob_square N m_.2.1 y15).bind fun y16 =>
            some (IntKind.wrap .u64 ((IntKind.wrap .u64 (v9 + y13)) + y16)))
          else (moves_Cell N m_.2.2 p_.2.2.1).bind fun y18 =>
          (zob_square N m_.2.1 y18).bind fun y19 =>
          some (IntKind.wrap .u64 (v9 + y19)))
        else bif (eqI p_.2.2.1 1) then ((moves_Kind N (gD (0 : Int) p_.1 m_.2.1)).bind fun y21 =>
          chk ((leI 0 y21) && (ltI y21 (p_.2.1.2.length : Int))) <|
          bif (ltI (gD (0 : Int) p_.2.1.2 y21) 1000) then ((moves_Kind N (gD (0 : Int) p_.1 m_.2.1)).bind fun y23 =>
            (zob_held N p_.2.2.1 y23 1).bind fun y24 =>
            (moves_Cell N m_.2.2 p_.2.2.1).bind fun y26 =>
            (zob_square N m_.2.1 y26).bind fun y27 =>
            some (IntKind.wrap .u64 ((IntKind.wrap .u64 (v9 + y24)) + y27)))
          else (moves_Cell N m_.2.2 p_.2.2.1).bind fun y29 =>
          (zob_square N m_.2.1 y29).bind fun y30 =>
          some (IntKind.wrap .u64 (v9 + y30)))
        else none)
      else (moves_Cell N m_.2.2 p_.2.2.1).bind fun y32 =>
      (zob_square N m_.2.1 y32).bind fun y33 =>
      some (IntKind.wrap .u64 (v9 + y33)))
    else (moves_Cell N m_.2.2 p_.2.2.1).bind fun y35 =>
    (zob_square N m_.2.1 y35).bind fun y36 =>
    some (IntKind.wrap .u64 (v6 + y36)))
  else chk ((leI 0 m_.1) && (ltI m_.1 (p_.1.length : Int))) <|
  (zob_square N m_.1 (gD (0 : Int) p_.1 m_.1)).bind fun y38 =>
  let v39 : Int := (IntKind.wrap .u64 (v4 - y38))
  chk ((leI 0 m_.2.1) && (ltI m_.2.1 (p_.1.length : Int))) <|
  bif (!(eqI (gD (0 : Int) p_.1 m_.2.1) 0)) then ((zob_square N m_.2.1 (gD (0 : Int) p_.1 m_.2.1)).bind fun y41 =>
    let v42 : Int := (IntKind.wrap .u64 (v39 - y41))
    bif r_.2.2.2.2.2.2.1 then (bif (eqI p_.2.2.1 0) then ((moves_Kind N (gD (0 : Int) p_.1 m_.2.1)).bind fun y43 =>
        chk ((leI 0 y43) && (ltI y43 (p_.2.1.1.length : Int))) <|
        bif (ltI (gD (0 : Int) p_.2.1.1 y43) 1000) then ((moves_Kind N (gD (0 : Int) p_.1 m_.2.1)).bind fun y45 =>
          (zob_held N p_.2.2.1 y45 1).bind fun y46 =>
          (moves_Cell N m_.2.2 p_.2.2.1).bind fun y48 =>
          (zob_square N m_.2.1 y48).bind fun y49 =>
          some (IntKind.wrap .u64 ((IntKind.wrap .u64 (v42 + y46)) + y49)))
        else (moves_Cell N m_.2.2 p_.2.2.1).bind fun y51 =>
        (zob_square N m_.2.1 y51).bind fun y52 =>
        some (IntKind.wrap .u64 (v42 + y52)))
      else bif (eqI p_.2.2.1 1) then ((moves_Kind N (gD (0 : Int) p_.1 m_.2.1)).bind fun y54 =>
        chk ((leI 0 y54) && (ltI y54 (p_.2.1.2.length : Int))) <|
        bif (ltI (gD (0 : Int) p_.2.1.2 y54) 1000) then ((moves_Kind N (gD (0 : Int) p_.1 m_.2.1)).bind fun y56 =>
          (zob_held N p_.2.2.1 y56 1).bind fun y57 =>
          (moves_Cell N m_.2.2 p_.2.2.1).bind fun y59 =>
          (zob_square N m_.2.1 y59).bind fun y60 =>
          some (IntKind.wrap .u64 ((IntKind.wrap .u64 (v42 + y57)) + y60)))
        else (moves_Cell N m_.2.2 p_.2.2.1).bind fun y62 =>
        (zob_square N m_.2.1 y62).bind fun y63 =>
        some (IntKind.wrap .u64 (v42 + y63)))
      else none)
    else (moves_Cell N m_.2.2 p_.2.2.1).bind fun y65 =>
    (zob_square N m_.2.1 y65).bind fun y66 =>
    some (IntKind.wrap .u64 (v42 + y66)))
  else (moves_Cell N m_.2.2 p_.2.2.1).bind fun y68 =>
  (zob_square N m_.2.1 y68).bind fun y69 =>
  some (IntKind.wrap .u64 (v39 + y69))
def zob_Next (N : Nat) (r_ : (ByteArray × (Int × (Int × ((List (Int × (Int × (Int × (List (Int × (Int × (Int × Int)))))))) × ((List Int) × (Bool × (Bool × ((List (Int × (Int × (Int × Bool)))) × (Int × (Int × Int))))))))))) (p_ : ((List Int) × (((List Int) × (List Int)) × (Int × Int)))) (m_ : (Int × (Int × Int))) (k_ : Int) : Option Int := zob_Next.e N r_ p_ m_ k_
/-! ### f49: gamehall/zob.Change -/
def zob_Change.e (N : Nat) (r_ : (ByteArray × (Int × (Int × ((List (Int × (Int × (Int × (List (Int × (Int × (Int × Int)))))))) × ((List Int) × (Bool × (Bool × ((List (Int × (Int × (Int × Bool)))) × (Int × (Int × Int))))))))))) (p_ : ((List Int) × (((List Int) × (List Int)) × (Int × Int)))) (m_ : (Int × (Int × Int))) : Option (Int × Int) :=
  (place_Check N r_ p_).bind fun y1 =>
  bif (!(eqI y1 0)) then (some (0, y1))
  else (moves_Gen N r_ p_).bind fun y2 =>
  (slices_Contains_api_Move_api_Move N y2 m_).bind fun y3 =>
  bif (!y3) then (some (0, 13))
  else (zob_Of N p_).bind fun y4 =>
  (zob_Next N r_ p_ m_ y4).bind fun y5 =>
  some (y5, 0)
def zob_Change (N : Nat) (r_ : (ByteArray × (Int × (Int × ((List (Int × (Int × (Int × (List (Int × (Int × (Int × Int)))))))) × ((List Int) × (Bool × (Bool × ((List (Int × (Int × (Int × Bool)))) × (Int × (Int × Int))))))))))) (p_ : ((List Int) × (((List Int) × (List Int)) × (Int × Int)))) (m_ : (Int × (Int × Int))) : Option (Int × Int) := zob_Change.e N r_ p_ m_
/-! ### f36: gamehall/gamehallkeep1.keyed -/
def gamehallkeep1_keyed.e (N : Nat) : Option Bool :=
  (gamehallkeep1_three N).bind fun y1 =>
  (gamehallkeep1_near N).bind fun y2 =>
  (zob_Key N y1 y2).bind fun y3 =>
  (gamehallkeep1_three N).bind fun y4 =>
  (gamehallkeep1_near N).bind fun y5 =>
  (gamehallkeep1_put N 2).bind fun y6 =>
  (zob_Change N y4 y5 y6).bind fun y7 =>
  (gamehallkeep1_fine N [y3.2, y7.2]).bind fun y8 =>
  bif y8 then ((zob_Mix N 33).bind fun y10 =>
    (zob_Mix N 2000).bind fun y11 =>
    (zob_Mix N 3000).bind fun y13 =>
    bif (eqI (IntKind.wrap .u64 (y7.1 - y3.1)) (IntKind.wrap .u64 ((IntKind.wrap .u64 (y10 - y11)) + y13))) then ((zob_Mix N 33).bind fun y15 =>
      some (!(eqI y15 0)))
    else some false)
  else some false
def gamehallkeep1_keyed (N : Nat) : Option Bool := gamehallkeep1_keyed.e N
/-! ### f48: gamehall/gamehallkeep1.some[gamehall/api.Move] -/
def gamehallkeep1_some_api_Move.e (N : Nat) (l_ : (List (Int × (Int × Int)))) (n_ : Int) : Option (Int × (Int × Int)) :=
  bif (eqI (l_.length : Int) 0) then none
  else bif (eqI (l_.length : Int) 0) then none
  else let v3 : Int := (Int.tmod (w64 ((Int.tmod n_ (l_.length : Int)) + (l_.length : Int))) (l_.length : Int))
  chk ((leI 0 v3) && (ltI v3 (l_.length : Int))) <|
  some (gD ((0 : Int), ((0 : Int), (0 : Int))) l_ v3)
def gamehallkeep1_some_api_Move (N : Nat) (l_ : (List (Int × (Int × Int)))) (n_ : Int) : Option (Int × (Int × Int)) := gamehallkeep1_some_api_Move.e N l_ n_
/-! ### f12: gamehall/gamehallkeep1.ZobChanges -/
def gamehallkeep1_ZobChanges.e (N : Nat) (r_ : (ByteArray × (Int × (Int × ((List (Int × (Int × (Int × (List (Int × (Int × (Int × Int)))))))) × ((List Int) × (Bool × (Bool × ((List (Int × (Int × (Int × Bool)))) × (Int × (Int × Int))))))))))) (p_ : ((List Int) × (((List Int) × (List Int)) × (Int × Int)))) (n_ : Int) : Option Bool :=
  (gamehallkeep1_keyed N).bind fun y1 =>
  bif (!y1) then some false
  else (gamehallkeep1_plays N).bind fun y2 =>
  bif (!y2) then some false
  else (moves_All N r_ p_).bind fun y3 =>
  bif (!(eqI y3.2 0)) then (some (eqI (y3.1.length : Int) 0))
  else bif (eqI (y3.1.length : Int) 0) then (some (eqI (y3.1.length : Int) 0))
  else (gamehallkeep1_some_api_Move N y3.1 n_).bind fun y7 =>
  (moves_After N r_ p_ y7).bind fun y8 =>
  (zob_Key N r_ y8.1).bind fun y9 =>
  (zob_Change N r_ p_ y7).bind fun y10 =>
  (gamehallkeep1_fine N [y8.2, y9.2, y10.2]).bind fun y11 =>
  bif y11 then (some (eqI y9.1 y10.1))
  else some false
def gamehallkeep1_ZobChanges (N : Nat) (r_ : (ByteArray × (Int × (Int × ((List (Int × (Int × (Int × (List (Int × (Int × (Int × Int)))))))) × ((List Int) × (Bool × (Bool × ((List (Int × (Int × (Int × Bool)))) × (Int × (Int × Int))))))))))) (p_ : ((List Int) × (((List Int) × (List Int)) × (Int × Int)))) (n_ : Int) : Option Bool := gamehallkeep1_ZobChanges.e N r_ p_ n_
/-! ### f13: gamehall/gamehallkeep1.EndsOpen -/
def gamehallkeep1_EndsOpen.e (N : Nat) (r_ : (ByteArray × (Int × (Int × ((List (Int × (Int × (Int × (List (Int × (Int × (Int × Int)))))))) × ((List Int) × (Bool × (Bool × ((List (Int × (Int × (Int × Bool)))) × (Int × (Int × Int))))))))))) (p_ : ((List Int) × (((List Int) × (List Int)) × (Int × Int)))) : Option Bool :=
  (gamehallkeep1_three N).bind fun y1 =>
  (gamehallkeep1_near N).bind fun y2 =>
  (ends_Of N y1 y2).bind fun y3 =>
  bif (!(eqI y3.2 0)) then some false
  else bif (!(eqI y3.1 0)) then some false
  else (gamehallkeep1_plays N).bind fun y4 =>
  bif (!y4) then some false
  else (gamehallkeep1_near N).bind fun y5 =>
  chk (true && (ltI 2 (y5.1.length : Int))) <|
  (gamehallkeep1_three N).bind fun y7 =>
  (ends_Of N y7 ((y5.1.set (2 : Int).toNat 1), (y5.2.1, (1, y5.2.2.2)))).bind fun y8 =>
  bif (!(eqI y8.2 0)) then some false
  else bif (!(eqI y8.1 1)) then some false
  else (ends_Of N r_ p_).bind fun y9 =>
  (moves_All N r_ p_).bind fun y10 =>
  bif (!(eqI y9.2 0)) then (bif (eqI y9.2 y10.2) then (some (eqI y9.1 0))
    else some false)
  else bif (eqI y10.2 0) then (bif (leI 0 y9.1) then (bif (leI y9.1 3) then (bif (!(eqI y9.1 0)) then (bif (ltI 0 (y10.1.length : Int)) then some true
          else some (!(eqI y9.1 0)))
        else bif (ltI 0 (y10.1.length : Int)) then (bif (ltI 0 (y10.1.length : Int)) then some true
          else some (!(eqI y9.1 0)))
        else some false)
      else some false)
    else some false)
  else some false
def gamehallkeep1_EndsOpen (N : Nat) (r_ : (ByteArray × (Int × (Int × ((List (Int × (Int × (Int × (List (Int × (Int × (Int × Int)))))))) × ((List Int) × (Bool × (Bool × ((List (Int × (Int × (Int × Bool)))) × (Int × (Int × Int))))))))))) (p_ : ((List Int) × (((List Int) × (List Int)) × (Int × Int)))) : Option Bool := gamehallkeep1_EndsOpen.e N r_ p_
end Go.Proofs.Ytjmcjiklfhmdlaa.Am
