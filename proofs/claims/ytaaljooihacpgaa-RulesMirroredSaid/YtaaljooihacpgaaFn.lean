/- PRINTED by gen.py: what the functions compute, as plain Lean functions with fuel. -/
import Derived.Test.YtaaljooihacpgaaAm14
set_option linter.unusedVariables false
set_option linter.unusedSimpArgs false
namespace Go.Proofs.Ytaaljooihacpgaa.Am
open Go
/-! ### f29: gamehall/symm.Check -/
def symm_Check.e (N : Nat) (width : Int) (height : Int) : Option Int :=
  bif (ltI width 1) then some 4
  else bif (ltI 8 width) then some 4
  else bif (ltI height 1) then some 4
  else bif (ltI 8 height) then some 4
  else some 0
def symm_Check (N : Nat) (width : Int) (height : Int) : Option Int := symm_Check.e N width height
/-! ### f30: gamehall/symm.many -/
def symm_many.e (N : Nat) (width : Int) (height : Int) : Option Int :=
  bif (eqI width height) then some 8
  else some 4
def symm_many (N : Nat) (width : Int) (height : Int) : Option Int := symm_many.e N width height
/-! ### f34: gamehall/symm.check -/
def symm_check.e (N : Nat) (width : Int) (height : Int) (s_ : Int) : Option Int :=
  (symm_Check N width height).bind fun y1 =>
  bif (!(eqI y1 0)) then some y1
  else bif (ltI s_ 0) then some 8
  else (symm_many N width height).bind fun y2 =>
  bif (leI y2 s_) then some 8
  else some 0
def symm_check (N : Nat) (width : Int) (height : Int) (s_ : Int) : Option Int := symm_check.e N width height s_
/-! ### f12: gamehall/symm.Compose -/
def symm_Compose.e (N : Nat) (r0 : Int → Option (Int × Int)) (width : Int) (height : Int) (a_ : Int) (b_ : Int) : Option (Int × Int) :=
  r0 0
def symm_Compose.s0 (N : Nat) (width : Int) (height : Int) (a_ : Int) (b_ : Int) (r0 : Int → Option (Int × Int)) (t16_ : Int) : Option (Int × Int) :=
  bif (ltI t16_ 2) then (bif (eqI t16_ 0) then ((symm_check N width height a_).bind fun y1 =>
      bif (!(eqI y1 0)) then (some (0, y1))
      else r0 (w64 (t16_ + 1)))
    else bif (eqI t16_ 1) then ((symm_check N width height b_).bind fun y2 =>
      bif (!(eqI y2 0)) then (some (0, y2))
      else r0 (w64 (t16_ + 1)))
    else none)
  else bif (!(eqI (Go.bits .and .i64 a_ 4) 0)) then (some ((Go.bits .xor .i64 a_ (Go.bits .or .i64 (Go.bits .or .i64 (Go.bits .and .i64 b_ 4) (Go.bits .and .i64 (Int.fdiv b_ (2 ^ (min (1 : Int).toNat 64))) 1)) (Go.bits .and .i64 (w64 (b_ * 2 ^ (min (1 : Int).toNat 64))) 2))), 0))
  else some ((Go.bits .xor .i64 a_ b_), 0)
def symm_Compose.L (N : Nat) (width : Int) (height : Int) (a_ : Int) (b_ : Int) : Nat → (Int → Option (Int × Int))
  | 0 => fun _ => none
  | n + 1 => fun t16_ => symm_Compose.s0 N width height a_ b_ (symm_Compose.L N width height a_ b_ n) t16_
def symm_Compose.l0 (N : Nat) (width : Int) (height : Int) (a_ : Int) (b_ : Int) (n : Nat) : Int → Option (Int × Int) := (symm_Compose.L N width height a_ b_ n)
theorem symm_Compose.l0_s (N : Nat) (width : Int) (height : Int) (a_ : Int) (b_ : Int) (n : Nat) (t16_ : Int) : symm_Compose.l0 N width height a_ b_ (n + 1) t16_ = symm_Compose.s0 N width height a_ b_ (symm_Compose.l0 N width height a_ b_ n) t16_ := rfl
def symm_Compose (N : Nat) (width : Int) (height : Int) (a_ : Int) (b_ : Int) : Option (Int × Int) := symm_Compose.e N (symm_Compose.l0 N width height a_ b_ N) width height a_ b_
/-! ### f35: gamehall/symm.image -/
def symm_image.e (N : Nat) (width : Int) (height : Int) (s_ : Int) (square : Int) : Option Int :=
  bif (eqI width 0) then none
  else bif (eqI width 0) then none
  else let v1 : Int := (w64 (Int.tdiv square width))
  bif (!(eqI (Go.bits .and .i64 s_ 4) 0)) then (bif (!(eqI (Go.bits .and .i64 s_ 1) 0)) then (let v4 : Int := (w64 ((w64 (width - 1)) - v1))
      bif (!(eqI (Go.bits .and .i64 s_ 2) 0)) then (some (w64 ((w64 ((w64 ((w64 (height - 1)) - (Int.tmod square width))) * width)) + v4)))
      else some (w64 ((w64 ((Int.tmod square width) * width)) + v4)))
    else bif (!(eqI (Go.bits .and .i64 s_ 2) 0)) then (some (w64 ((w64 ((w64 ((w64 (height - 1)) - (Int.tmod square width))) * width)) + v1)))
    else some (w64 ((w64 ((Int.tmod square width) * width)) + v1)))
  else bif (!(eqI (Go.bits .and .i64 s_ 1) 0)) then (let v14 : Int := (w64 ((w64 (width - 1)) - (Int.tmod square width)))
    bif (!(eqI (Go.bits .and .i64 s_ 2) 0)) then (some (w64 ((w64 ((w64 ((w64 (height - 1)) - v1)) * width)) + v14)))
    else some (w64 ((w64 (v1 * width)) + v14)))
  else bif (!(eqI (Go.bits .and .i64 s_ 2) 0)) then (some (w64 ((w64 ((w64 ((w64 (height - 1)) - v1)) * width)) + (Int.tmod square width))))
  else some (w64 ((w64 (v1 * width)) + (Int.tmod square width)))
def symm_image (N : Nat) (width : Int) (height : Int) (s_ : Int) (square : Int) : Option Int := symm_image.e N width height s_ square
/-! ### f15: gamehall/symm.Map -/
def symm_Map.e (N : Nat) (width : Int) (height : Int) (s_ : Int) (square : Int) : Option (Int × Int) :=
  (symm_check N width height s_).bind fun y1 =>
  bif (!(eqI y1 0)) then (some (0, y1))
  else bif (ltI square 0) then (some (0, 4))
  else bif (leI (w64 (width * height)) square) then (some (0, 4))
  else (symm_image N width height s_ square).bind fun y3 =>
  some (y3, 0)
def symm_Map (N : Nat) (width : Int) (height : Int) (s_ : Int) (square : Int) : Option (Int × Int) := symm_Map.e N width height s_ square
/-! ### f23: gamehall/symm.Apply -/
def symm_Apply.e (N : Nat) (r0 : Int → (List Int) → Option ((List Int) × Int)) (width : Int) (height : Int) (s_ : Int) (cells : (List Int)) : Option ((List Int) × Int) :=
  (symm_check N width height s_).bind fun y1 =>
  bif (!(eqI y1 0)) then (some ([], y1))
  else bif (!(eqI (cells.length : Int) (w64 (width * height)))) then (some ([], 3))
  else chk (leI 0 (cells.length : Int) && (decide ((cells.length : Int) < 9223372036854775808) && capOk 8 (cells.length : Int).toNat)) <|
  r0 0 (List.replicate (cells.length : Int).toNat (0 : Int))
def symm_Apply.s0 (N : Nat) (width : Int) (height : Int) (s_ : Int) (cells : (List Int)) (r0 : Int → (List Int) → Option ((List Int) × Int)) (t32_ : Int) (out : (List Int)) : Option ((List Int) × Int) :=
  bif (ltI t32_ (cells.length : Int)) then (chk ((leI 0 t32_) && (ltI t32_ (cells.length : Int))) <|
    (symm_image N width height s_ t32_).bind fun y5 =>
    chk ((leI 0 y5) && (ltI y5 (out.length : Int))) <|
    r0 (w64 (t32_ + 1)) (out.set y5.toNat (gD (0 : Int) cells t32_)))
  else some (out, 0)
def symm_Apply.L (N : Nat) (width : Int) (height : Int) (s_ : Int) (cells : (List Int)) : Nat → (Int → (List Int) → Option ((List Int) × Int))
  | 0 => fun _ _ => none
  | n + 1 => fun t32_ out => symm_Apply.s0 N width height s_ cells (symm_Apply.L N width height s_ cells n) t32_ out
def symm_Apply.l0 (N : Nat) (width : Int) (height : Int) (s_ : Int) (cells : (List Int)) (n : Nat) : Int → (List Int) → Option ((List Int) × Int) := (symm_Apply.L N width height s_ cells n)
theorem symm_Apply.l0_s (N : Nat) (width : Int) (height : Int) (s_ : Int) (cells : (List Int)) (n : Nat) (t32_ : Int) (out : (List Int)) : symm_Apply.l0 N width height s_ cells (n + 1) t32_ out = symm_Apply.s0 N width height s_ cells (symm_Apply.l0 N width height s_ cells n) t32_ out := rfl
def symm_Apply (N : Nat) (width : Int) (height : Int) (s_ : Int) (cells : (List Int)) : Option ((List Int) × Int) := symm_Apply.e N (symm_Apply.l0 N width height s_ cells N) width height s_ cells
/-! ### f22: slices.Equal[[]int,int] -/
def slices_Equal_int_int.e (N : Nat) (r0 : Int → Option Bool) (s1_ : (List Int)) (s2_ : (List Int)) : Option Bool :=
  bif (!(eqI (s1_.length : Int) (s2_.length : Int))) then some false
  else r0 0
def slices_Equal_int_int.s0 (N : Nat) (s1_ : (List Int)) (s2_ : (List Int)) (r0 : Int → Option Bool) (t13_ : Int) : Option Bool :=
  bif (ltI t13_ (s1_.length : Int)) then (chk ((leI 0 t13_) && (ltI t13_ (s1_.length : Int))) <|
    chk ((leI 0 t13_) && (ltI t13_ (s2_.length : Int))) <|
    bif (!(eqI (gD (0 : Int) s1_ t13_) (gD (0 : Int) s2_ t13_))) then some false
    else r0 (w64 (t13_ + 1)))
  else some true
def slices_Equal_int_int.L (N : Nat) (s1_ : (List Int)) (s2_ : (List Int)) : Nat → (Int → Option Bool)
  | 0 => fun _ => none
  | n + 1 => fun t13_ => slices_Equal_int_int.s0 N s1_ s2_ (slices_Equal_int_int.L N s1_ s2_ n) t13_
def slices_Equal_int_int.l0 (N : Nat) (s1_ : (List Int)) (s2_ : (List Int)) (n : Nat) : Int → Option Bool := (slices_Equal_int_int.L N s1_ s2_ n)
theorem slices_Equal_int_int.l0_s (N : Nat) (s1_ : (List Int)) (s2_ : (List Int)) (n : Nat) (t13_ : Int) : slices_Equal_int_int.l0 N s1_ s2_ (n + 1) t13_ = slices_Equal_int_int.s0 N s1_ s2_ (slices_Equal_int_int.l0 N s1_ s2_ n) t13_ := rfl
def slices_Equal_int_int (N : Nat) (s1_ : (List Int)) (s2_ : (List Int)) : Option Bool := slices_Equal_int_int.e N (slices_Equal_int_int.l0 N s1_ s2_ N) s1_ s2_
/-! ### f13: gamehall/gamehallkeep1.moved -/
def gamehallkeep1_moved.e (N : Nat) : Option Bool :=
  (symm_Map N 3 3 5 0).bind fun y1 =>
  (symm_Apply N 2 1 1 [5, 6]).bind fun y2 =>
  bif (eqI y1.2 0) then (bif (eqI y1.1 2) then (bif (eqI y2.2 0) then ((slices_Equal_int_int N y2.1 [6, 5]).bind fun y3 =>
        some y3)
      else some false)
    else some false)
  else some false
def gamehallkeep1_moved (N : Nat) : Option Bool := gamehallkeep1_moved.e N
/-! ### f14: gamehall/symm.Inverse -/
def symm_Inverse.e (N : Nat) (width : Int) (height : Int) (s_ : Int) : Option (Int × Int) :=
  (symm_check N width height s_).bind fun y1 =>
  bif (!(eqI y1 0)) then (some (0, y1))
  else bif (!(eqI (Go.bits .and .i64 s_ 4) 0)) then (some ((Go.bits .or .i64 (Go.bits .or .i64 4 (Go.bits .and .i64 (Int.fdiv s_ (2 ^ (min (1 : Int).toNat 64))) 1)) (Go.bits .and .i64 (w64 (s_ * 2 ^ (min (1 : Int).toNat 64))) 2)), 0))
  else some (s_, 0)
def symm_Inverse (N : Nat) (width : Int) (height : Int) (s_ : Int) : Option (Int × Int) := symm_Inverse.e N width height s_
/-! ### f33: gamehall/gamehallkeep1.fine$1 -/
def gamehallkeep1_fine_1.e (N : Nat) (e_ : Int) : Option Bool :=
  some (!(eqI e_ 0))
def gamehallkeep1_fine_1 (N : Nat) (e_ : Int) : Option Bool := gamehallkeep1_fine_1.e N e_
/-! ### f46: slices.IndexFunc[[]gamehall/api.Errno,gamehall/api.Errno] -/
def slices_IndexFunc_api_Errno_api_Errno.e (N : Nat) (r0 : Int → Option Int) (s_ : (List Int)) : Option Int :=
  r0 0
def slices_IndexFunc_api_Errno_api_Errno.s0 (N : Nat) (s_ : (List Int)) (r0 : Int → Option Int) (t8_ : Int) : Option Int :=
  bif (ltI t8_ (s_.length : Int)) then (chk ((leI 0 t8_) && (ltI t8_ (s_.length : Int))) <|
    (gamehallkeep1_fine_1 N (gD (0 : Int) s_ t8_)).bind fun y2 =>
    bif y2 then some t8_
    else r0 (w64 (t8_ + 1)))
  else some (-1)
def slices_IndexFunc_api_Errno_api_Errno.L (N : Nat) (s_ : (List Int)) : Nat → (Int → Option Int)
  | 0 => fun _ => none
  | n + 1 => fun t8_ => slices_IndexFunc_api_Errno_api_Errno.s0 N s_ (slices_IndexFunc_api_Errno_api_Errno.L N s_ n) t8_
def slices_IndexFunc_api_Errno_api_Errno.l0 (N : Nat) (s_ : (List Int)) (n : Nat) : Int → Option Int := (slices_IndexFunc_api_Errno_api_Errno.L N s_ n)
theorem slices_IndexFunc_api_Errno_api_Errno.l0_s (N : Nat) (s_ : (List Int)) (n : Nat) (t8_ : Int) : slices_IndexFunc_api_Errno_api_Errno.l0 N s_ (n + 1) t8_ = slices_IndexFunc_api_Errno_api_Errno.s0 N s_ (slices_IndexFunc_api_Errno_api_Errno.l0 N s_ n) t8_ := rfl
def slices_IndexFunc_api_Errno_api_Errno (N : Nat) (s_ : (List Int)) : Option Int := slices_IndexFunc_api_Errno_api_Errno.e N (slices_IndexFunc_api_Errno_api_Errno.l0 N s_ N) s_
/-! ### f32: slices.ContainsFunc[[]gamehall/api.Errno,gamehall/api.Errno] -/
def slices_ContainsFunc_api_Errno_api_Errno.e (N : Nat) (s_ : (List Int)) : Option Bool :=
  (slices_IndexFunc_api_Errno_api_Errno N s_).bind fun y1 =>
  some (leI 0 y1)
def slices_ContainsFunc_api_Errno_api_Errno (N : Nat) (s_ : (List Int)) : Option Bool := slices_ContainsFunc_api_Errno_api_Errno.e N s_
/-! ### f11: gamehall/gamehallkeep1.fine -/
def gamehallkeep1_fine.e (N : Nat) (l_ : (List Int)) : Option Bool :=
  (slices_ContainsFunc_api_Errno_api_Errno N l_).bind fun y1 =>
  some (!y1)
def gamehallkeep1_fine (N : Nat) (l_ : (List Int)) : Option Bool := gamehallkeep1_fine.e N l_
/-! ### f4: gamehall/gamehallkeep1.SymmGroup -/
def gamehallkeep1_SymmGroup.e (N : Nat) (width : Int) (height : Int) (a_ : Int) (b_ : Int) (square : Int) : Option Bool :=
  (symm_Compose N 3 3 4 1).bind fun y1 =>
  bif (!(eqI y1.2 0)) then some false
  else bif (!(eqI y1.1 6)) then some false
  else (gamehallkeep1_moved N).bind fun y2 =>
  bif (!y2) then some false
  else (symm_Inverse N 3 3 5).bind fun y3 =>
  bif (!(eqI y3.2 0)) then some false
  else bif (!(eqI y3.1 6)) then some false
  else (symm_Compose N width height a_ b_).bind fun y4 =>
  (symm_Inverse N width height a_).bind fun y5 =>
  (symm_Map N width height b_ square).bind fun y6 =>
  bif (!(eqI y4.2 0)) then (some (eqI y4.1 0))
  else bif (leI 4 a_) then (bif (!(eqI y4.1 (Go.bits .xor .i64 a_ (w64 ((w64 ((w64 ((w64 (Int.tdiv b_ 4)) * 4)) + (w64 ((Int.tmod b_ 2) * 2)))) + (Int.tmod (w64 (Int.tdiv b_ 2)) 2)))))) then some false
    else bif (!(eqI y5.1 (w64 ((w64 (4 + (w64 ((Int.tmod a_ 2) * 2)))) + (Int.tmod (w64 (Int.tdiv a_ 2)) 2))))) then some false
    else bif (!(eqI y6.2 0)) then (some (eqI y5.2 0))
    else (symm_Map N width height a_ y6.1).bind fun y15 =>
    (symm_Map N width height y4.1 square).bind fun y16 =>
    (symm_Map N width height y5.1 y15.1).bind fun y17 =>
    (gamehallkeep1_fine N [y5.2, y15.2, y16.2, y17.2]).bind fun y19 =>
    bif y19 then (bif (eqI y15.1 y16.1) then (some (eqI y17.1 y6.1))
      else some false)
    else some false)
  else bif (!(eqI y4.1 (Go.bits .xor .i64 a_ b_))) then some false
  else bif (!(eqI y5.1 a_)) then some false
  else bif (!(eqI y6.2 0)) then (some (eqI y5.2 0))
  else (symm_Map N width height a_ y6.1).bind fun y21 =>
  (symm_Map N width height y4.1 square).bind fun y22 =>
  (symm_Map N width height y5.1 y21.1).bind fun y23 =>
  (gamehallkeep1_fine N [y5.2, y21.2, y22.2, y23.2]).bind fun y25 =>
  bif y25 then (bif (eqI y21.1 y22.1) then (some (eqI y23.1 y6.1))
    else some false)
  else some false
def gamehallkeep1_SymmGroup (N : Nat) (width : Int) (height : Int) (a_ : Int) (b_ : Int) (square : Int) : Option Bool := gamehallkeep1_SymmGroup.e N width height a_ b_ square
/-! ### f50: cmp.isNaN[int] -/
def cmp_isNaN_int.e (N : Nat) (x_ : Int) : Option Bool :=
  some (!(eqI x_ x_))
def cmp_isNaN_int (N : Nat) (x_ : Int) : Option Bool := cmp_isNaN_int.e N x_
/-! ### f48: cmp.Compare[int] -/
def cmp_Compare_int.e (N : Nat) (x_ : Int) (y_ : Int) : Option Int :=
  (cmp_isNaN_int N x_).bind fun y1 =>
  (cmp_isNaN_int N y_).bind fun y2 =>
  bif y1 then (bif y2 then some 0
    else some (-1))
  else bif y2 then some 1
  else bif (ltI x_ y_) then (some (-1))
  else bif (ltI y_ x_) then some 1
  else some 0
def cmp_Compare_int (N : Nat) (x_ : Int) (y_ : Int) : Option Int := cmp_Compare_int.e N x_ y_
/-! ### f39: slices.Compare[[]int,int] -/
def slices_Compare_int_int.e (N : Nat) (r0 : Int → Option Int) (s1_ : (List Int)) (s2_ : (List Int)) : Option Int :=
  r0 0
def slices_Compare_int_int.s0 (N : Nat) (s1_ : (List Int)) (s2_ : (List Int)) (r0 : Int → Option Int) (t11_ : Int) : Option Int :=
  bif (ltI t11_ (s1_.length : Int)) then (chk ((leI 0 t11_) && (ltI t11_ (s1_.length : Int))) <|
    bif (leI (s2_.length : Int) t11_) then some 1
    else chk ((leI 0 t11_) && (ltI t11_ (s2_.length : Int))) <|
    (cmp_Compare_int N (gD (0 : Int) s1_ t11_) (gD (0 : Int) s2_ t11_)).bind fun y3 =>
    bif (!(eqI y3 0)) then some y3
    else r0 (w64 (t11_ + 1)))
  else bif (ltI (s1_.length : Int) (s2_.length : Int)) then (some (-1))
  else some 0
def slices_Compare_int_int.L (N : Nat) (s1_ : (List Int)) (s2_ : (List Int)) : Nat → (Int → Option Int)
  | 0 => fun _ => none
  | n + 1 => fun t11_ => slices_Compare_int_int.s0 N s1_ s2_ (slices_Compare_int_int.L N s1_ s2_ n) t11_
def slices_Compare_int_int.l0 (N : Nat) (s1_ : (List Int)) (s2_ : (List Int)) (n : Nat) : Int → Option Int := (slices_Compare_int_int.L N s1_ s2_ n)
theorem slices_Compare_int_int.l0_s (N : Nat) (s1_ : (List Int)) (s2_ : (List Int)) (n : Nat) (t11_ : Int) : slices_Compare_int_int.l0 N s1_ s2_ (n + 1) t11_ = slices_Compare_int_int.s0 N s1_ s2_ (slices_Compare_int_int.l0 N s1_ s2_ n) t11_ := rfl
def slices_Compare_int_int (N : Nat) (s1_ : (List Int)) (s2_ : (List Int)) : Option Int := slices_Compare_int_int.e N (slices_Compare_int_int.l0 N s1_ s2_ N) s1_ s2_
/-! ### f21: gamehall/symm.Canon -/
def symm_Canon.e (N : Nat) (r0 : Int → Int → (List Int) → Option ((List Int) × (Int × Int))) (width : Int) (height : Int) (cells : (List Int)) : Option ((List Int) × (Int × Int)) :=
  (symm_Apply N width height 0 cells).bind fun y1 =>
  bif (!(eqI y1.2 0)) then (some ([], (0, y1.2)))
  else r0 0 1 y1.1
def symm_Canon.s0 (N : Nat) (width : Int) (height : Int) (cells : (List Int)) (r0 : Int → Int → (List Int) → Option ((List Int) × (Int × Int))) (by_ : Int) (s_ : Int) (best : (List Int)) : Option ((List Int) × (Int × Int)) :=
  (symm_many N width height).bind fun y2 =>
  bif (ltI s_ y2) then ((symm_Apply N width height s_ cells).bind fun y3 =>
    (slices_Compare_int_int N y3.1 best).bind fun y4 =>
    bif (ltI y4 0) then (r0 s_ (w64 (s_ + 1)) y3.1)
    else r0 by_ (w64 (s_ + 1)) best)
  else some (best, (by_, 0))
def symm_Canon.L (N : Nat) (width : Int) (height : Int) (cells : (List Int)) : Nat → (Int → Int → (List Int) → Option ((List Int) × (Int × Int)))
  | 0 => fun _ _ _ => none
  | n + 1 => fun by_ s_ best => symm_Canon.s0 N width height cells (symm_Canon.L N width height cells n) by_ s_ best
def symm_Canon.l0 (N : Nat) (width : Int) (height : Int) (cells : (List Int)) (n : Nat) : Int → Int → (List Int) → Option ((List Int) × (Int × Int)) := (symm_Canon.L N width height cells n)
theorem symm_Canon.l0_s (N : Nat) (width : Int) (height : Int) (cells : (List Int)) (n : Nat) (by_ : Int) (s_ : Int) (best : (List Int)) : symm_Canon.l0 N width height cells (n + 1) by_ s_ best = symm_Canon.s0 N width height cells (symm_Canon.l0 N width height cells n) by_ s_ best := rfl
def symm_Canon (N : Nat) (width : Int) (height : Int) (cells : (List Int)) : Option ((List Int) × (Int × Int)) := symm_Canon.e N (symm_Canon.l0 N width height cells N) width height cells
/-! ### f7: gamehall/gamehallkeep1.SymmCanonical -/
def gamehallkeep1_SymmCanonical.e (N : Nat) (width : Int) (height : Int) (s_ : Int) (cells : (List Int)) : Option Bool :=
  (symm_Canon N 2 1 [6, 5]).bind fun y1 =>
  bif (!(eqI y1.2.2 0)) then some false
  else bif (!(eqI y1.2.1 1)) then some false
  else (slices_Equal_int_int N y1.1 [5, 6]).bind fun y2 =>
  bif (!y2) then some false
  else (gamehallkeep1_moved N).bind fun y3 =>
  bif (!y3) then some false
  else (symm_Canon N width height cells).bind fun y4 =>
  (symm_Apply N width height s_ cells).bind fun y5 =>
  (gamehallkeep1_fine N [y4.2.2, y5.2]).bind fun y6 =>
  bif (!y6) then (bif (eqI y4.2.2 0) then some true
    else some (eqI (y4.1.length : Int) 0))
  else (symm_Canon N width height y5.1).bind fun y8 =>
  (symm_Canon N width height y4.1).bind fun y9 =>
  (symm_Apply N width height y4.2.1 cells).bind fun y10 =>
  (gamehallkeep1_fine N [y8.2.2, y9.2.2, y10.2]).bind fun y11 =>
  bif y11 then ((slices_Equal_int_int N y4.1 y8.1).bind fun y12 =>
    bif y12 then ((slices_Equal_int_int N y4.1 y9.1).bind fun y13 =>
      bif y13 then (bif (eqI y9.2.1 0) then ((slices_Equal_int_int N y4.1 y10.1).bind fun y14 =>
          some y14)
        else some false)
      else some false)
    else some false)
  else some false
def gamehallkeep1_SymmCanonical (N : Nat) (width : Int) (height : Int) (s_ : Int) (cells : (List Int)) : Option Bool := gamehallkeep1_SymmCanonical.e N width height s_ cells
/-! ### f26: gamehall/gamehallkeep1.three -/
def gamehallkeep1_three.e (N : Nat) : Option (ByteArray × (Int × (Int × ((List (Int × (Int × (Int × (List (Int × (Int × (Int × Int)))))))) × ((List Int) × (Bool × (Bool × ((List (Int × (Int × (Int × Bool)))) × (Int × (Int × Int)))))))))) :=
  chk (leI 0 9 && (decide (9 < 9223372036854775808) && capOk 8 (9 : Int).toNat)) <|
  some ((⟨#[84, 73, 67]⟩ : ByteArray), (3, (3, ([(65, (5, (0, [])))], ((List.replicate (9 : Int).toNat (0 : Int)), (false, (false, ([(0, (0, (3, false)))], (2, (0, 0))))))))))
def gamehallkeep1_three (N : Nat) : Option (ByteArray × (Int × (Int × ((List (Int × (Int × (Int × (List (Int × (Int × (Int × Int)))))))) × ((List Int) × (Bool × (Bool × ((List (Int × (Int × (Int × Bool)))) × (Int × (Int × Int)))))))))) := gamehallkeep1_three.e N
/-! ### f43: gamehall/rules.Name -/
def rules_Name.e (N : Nat) (r0 : Int → Option Bool) (s_ : ByteArray) : Option Bool :=
  bif (s_.toList == (⟨#[]⟩ : ByteArray).toList) then some false
  else bif (ltI 8 (s_.size : Int)) then some false
  else chk (true && ltI 0 (s_.size : Int)) <|
  bif (leI 48 (bt s_ 0)) then (chk (true && ltI 0 (s_.size : Int)) <|
    bif (leI (bt s_ 0) 57) then some false
    else r0 0)
  else r0 0
def rules_Name.s0 (N : Nat) (s_ : ByteArray) (r0 : Int → Option Bool) (t23_ : Int) : Option Bool :=
  bif (ltI t23_ (s_.size : Int)) then (chk ((leI 0 t23_) && ltI t23_ (s_.size : Int)) <|
    bif (ltI (bt s_ t23_) 65) then (chk ((leI 0 t23_) && ltI t23_ (s_.size : Int)) <|
      bif (ltI (bt s_ t23_) 48) then some false
      else chk ((leI 0 t23_) && ltI t23_ (s_.size : Int)) <|
      bif (ltI 57 (bt s_ t23_)) then some false
      else r0 (w64 (t23_ + 1)))
    else chk ((leI 0 t23_) && ltI t23_ (s_.size : Int)) <|
    bif (ltI 90 (bt s_ t23_)) then (chk ((leI 0 t23_) && ltI t23_ (s_.size : Int)) <|
      bif (ltI (bt s_ t23_) 48) then some false
      else chk ((leI 0 t23_) && ltI t23_ (s_.size : Int)) <|
      bif (ltI 57 (bt s_ t23_)) then some false
      else r0 (w64 (t23_ + 1)))
    else r0 (w64 (t23_ + 1)))
  else some true
def rules_Name.L (N : Nat) (s_ : ByteArray) : Nat → (Int → Option Bool)
  | 0 => fun _ => none
  | n + 1 => fun t23_ => rules_Name.s0 N s_ (rules_Name.L N s_ n) t23_
def rules_Name.l0 (N : Nat) (s_ : ByteArray) (n : Nat) : Int → Option Bool := (rules_Name.L N s_ n)
theorem rules_Name.l0_s (N : Nat) (s_ : ByteArray) (n : Nat) (t23_ : Int) : rules_Name.l0 N s_ (n + 1) t23_ = rules_Name.s0 N s_ (rules_Name.l0 N s_ n) t23_ := rfl
def rules_Name (N : Nat) (s_ : ByteArray) : Option Bool := rules_Name.e N (rules_Name.l0 N s_ N) s_
/-! ### f49: gamehall/rules.way -/
def rules_way.e (N : Nat) (w_DX : Int) (w_DY : Int) (w_Most : Int) (w_Take : Int) : Option Int :=
  bif (ltI w_DX (-7)) then some 4
  else bif (ltI 7 w_DX) then some 4
  else bif (ltI w_DY (-7)) then some 4
  else bif (ltI 7 w_DY) then some 4
  else bif (eqI w_DX 0) then (bif (eqI w_DY 0) then some 4
    else bif (ltI w_Most 1) then some 4
    else bif (ltI 7 w_Most) then some 4
    else bif (ltI w_Take 0) then some 4
    else bif (ltI 2 w_Take) then some 4
    else some 0)
  else bif (ltI w_Most 1) then some 4
  else bif (ltI 7 w_Most) then some 4
  else bif (ltI w_Take 0) then some 4
  else bif (ltI 2 w_Take) then some 4
  else some 0
def rules_way (N : Nat) (w_DX : Int) (w_DY : Int) (w_Most : Int) (w_Take : Int) : Option Int := rules_way.e N w_DX w_DY w_Most w_Take
/-! ### f44: gamehall/rules.pieces -/
def rules_pieces.e (N : Nat) (r0 : Int → Option Int) (r1 : Int → (List (Int × (Int × (Int × (List (Int × (Int × (Int × Int)))))))) → Int → Int → Int → Int → Int → (List (Int × (Int × (Int × Int)))) → Option Int) (r2 : Int → (List (Int × (Int × (Int × Int)))) → Int → Int → Option Int) (l_ : (List (Int × (Int × (Int × (List (Int × (Int × (Int × Int))))))))) : Option Int :=
  bif (eqI (l_.length : Int) 0) then some 8
  else bif (ltI 6 (l_.length : Int)) then some 2
  else r0 0
def rules_pieces.s0 (N : Nat) (l_ : (List (Int × (Int × (Int × (List (Int × (Int × (Int × Int))))))))) (r0 : Int → Option Int) (r1 : Int → (List (Int × (Int × (Int × (List (Int × (Int × (Int × Int)))))))) → Int → Int → Int → Int → Int → (List (Int × (Int × (Int × Int)))) → Option Int) (r2 : Int → (List (Int × (Int × (Int × Int)))) → Int → Int → Option Int) (t20_ : Int) : Option Int :=
  bif (ltI t20_ (l_.length : Int)) then (chk ((leI 0 t20_) && (ltI t20_ (l_.length : Int))) <|
    bif (ltI (gD ((0 : Int), ((0 : Int), ((0 : Int), ([] : (List (Int × (Int × (Int × Int)))))))) l_ t20_).1 65) then some 6
    else bif (ltI 90 (gD ((0 : Int), ((0 : Int), ((0 : Int), ([] : (List (Int × (Int × (Int × Int)))))))) l_ t20_).1) then some 6
    else chk (true && ((leI 0 t20_) && (leI t20_ (l_.length : Int)))) <|
    r1 t20_ ((l_.take t20_.toNat).drop (0 : Int).toNat) (((l_.take t20_.toNat).drop (0 : Int).toNat).length : Int) 0 (gD ((0 : Int), ((0 : Int), ((0 : Int), ([] : (List (Int × (Int × (Int × Int)))))))) l_ t20_).1 (gD ((0 : Int), ((0 : Int), ((0 : Int), ([] : (List (Int × (Int × (Int × Int)))))))) l_ t20_).2.1 (gD ((0 : Int), ((0 : Int), ((0 : Int), ([] : (List (Int × (Int × (Int × Int)))))))) l_ t20_).2.2.1 (gD ((0 : Int), ((0 : Int), ((0 : Int), ([] : (List (Int × (Int × (Int × Int)))))))) l_ t20_).2.2.2)
  else some 0
def rules_pieces.s1 (N : Nat) (l_ : (List (Int × (Int × (Int × (List (Int × (Int × (Int × Int))))))))) (r0 : Int → Option Int) (r1 : Int → (List (Int × (Int × (Int × (List (Int × (Int × (Int × Int)))))))) → Int → Int → Int → Int → Int → (List (Int × (Int × (Int × Int)))) → Option Int) (r2 : Int → (List (Int × (Int × (Int × Int)))) → Int → Int → Option Int) (t20_ : Int) (t35_ : (List (Int × (Int × (Int × (List (Int × (Int × (Int × Int))))))))) (t36_ : Int) (t37_ : Int) (p_ : Int) (p_2 : Int) (p_3 : Int) (p_4 : (List (Int × (Int × (Int × Int))))) : Option Int :=
  bif (ltI t37_ t36_) then (chk ((leI 0 t37_) && (ltI t37_ (t35_.length : Int))) <|
    bif (eqI (gD ((0 : Int), ((0 : Int), ((0 : Int), ([] : (List (Int × (Int × (Int × Int)))))))) t35_ t37_).1 p_) then some 7
    else r1 t20_ t35_ t36_ (w64 (t37_ + 1)) p_ p_2 p_3 p_4)
  else bif (ltI p_2 0) then some 4
  else bif (ltI 64 p_2) then some 4
  else bif (ltI p_3 0) then some 4
  else bif (ltI (l_.length : Int) p_3) then some 4
  else bif (ltI 16 (p_4.length : Int)) then some 2
  else r2 t20_ p_4 (p_4.length : Int) 0
def rules_pieces.s2 (N : Nat) (l_ : (List (Int × (Int × (Int × (List (Int × (Int × (Int × Int))))))))) (r0 : Int → Option Int) (r1 : Int → (List (Int × (Int × (Int × (List (Int × (Int × (Int × Int)))))))) → Int → Int → Int → Int → Int → (List (Int × (Int × (Int × Int)))) → Option Int) (r2 : Int → (List (Int × (Int × (Int × Int)))) → Int → Int → Option Int) (t20_ : Int) (t72_ : (List (Int × (Int × (Int × Int))))) (t73_ : Int) (t74_ : Int) : Option Int :=
  bif (ltI t74_ t73_) then (chk ((leI 0 t74_) && (ltI t74_ (t72_.length : Int))) <|
    (rules_way N (gD ((0 : Int), ((0 : Int), ((0 : Int), (0 : Int)))) t72_ t74_).1 (gD ((0 : Int), ((0 : Int), ((0 : Int), (0 : Int)))) t72_ t74_).2.1 (gD ((0 : Int), ((0 : Int), ((0 : Int), (0 : Int)))) t72_ t74_).2.2.1 (gD ((0 : Int), ((0 : Int), ((0 : Int), (0 : Int)))) t72_ t74_).2.2.2).bind fun y10 =>
    bif (!(eqI y10 0)) then some y10
    else r2 t20_ t72_ t73_ (w64 (t74_ + 1)))
  else r0 (w64 (t20_ + 1))
def rules_pieces.L (N : Nat) (l_ : (List (Int × (Int × (Int × (List (Int × (Int × (Int × Int))))))))) : Nat → (Int → Option Int) × (Int → (List (Int × (Int × (Int × (List (Int × (Int × (Int × Int)))))))) → Int → Int → Int → Int → Int → (List (Int × (Int × (Int × Int)))) → Option Int) × (Int → (List (Int × (Int × (Int × Int)))) → Int → Int → Option Int)
  | 0 => (fun _ => none, fun _ _ _ _ _ _ _ _ => none, fun _ _ _ _ => none)
  | n + 1 => (fun t20_ => rules_pieces.s0 N l_ (rules_pieces.L N l_ n).1 (rules_pieces.L N l_ n).2.1 (rules_pieces.L N l_ n).2.2 t20_, fun t20_ t35_ t36_ t37_ p_ p_2 p_3 p_4 => rules_pieces.s1 N l_ (rules_pieces.L N l_ n).1 (rules_pieces.L N l_ n).2.1 (rules_pieces.L N l_ n).2.2 t20_ t35_ t36_ t37_ p_ p_2 p_3 p_4, fun t20_ t72_ t73_ t74_ => rules_pieces.s2 N l_ (rules_pieces.L N l_ n).1 (rules_pieces.L N l_ n).2.1 (rules_pieces.L N l_ n).2.2 t20_ t72_ t73_ t74_)
def rules_pieces.l0 (N : Nat) (l_ : (List (Int × (Int × (Int × (List (Int × (Int × (Int × Int))))))))) (n : Nat) : Int → Option Int := (rules_pieces.L N l_ n).1
def rules_pieces.l1 (N : Nat) (l_ : (List (Int × (Int × (Int × (List (Int × (Int × (Int × Int))))))))) (n : Nat) : Int → (List (Int × (Int × (Int × (List (Int × (Int × (Int × Int)))))))) → Int → Int → Int → Int → Int → (List (Int × (Int × (Int × Int)))) → Option Int := (rules_pieces.L N l_ n).2.1
def rules_pieces.l2 (N : Nat) (l_ : (List (Int × (Int × (Int × (List (Int × (Int × (Int × Int))))))))) (n : Nat) : Int → (List (Int × (Int × (Int × Int)))) → Int → Int → Option Int := (rules_pieces.L N l_ n).2.2
theorem rules_pieces.l0_s (N : Nat) (l_ : (List (Int × (Int × (Int × (List (Int × (Int × (Int × Int))))))))) (n : Nat) (t20_ : Int) : rules_pieces.l0 N l_ (n + 1) t20_ = rules_pieces.s0 N l_ (rules_pieces.l0 N l_ n) (rules_pieces.l1 N l_ n) (rules_pieces.l2 N l_ n) t20_ := rfl
theorem rules_pieces.l1_s (N : Nat) (l_ : (List (Int × (Int × (Int × (List (Int × (Int × (Int × Int))))))))) (n : Nat) (t20_ : Int) (t35_ : (List (Int × (Int × (Int × (List (Int × (Int × (Int × Int))))))))) (t36_ : Int) (t37_ : Int) (p_ : Int) (p_2 : Int) (p_3 : Int) (p_4 : (List (Int × (Int × (Int × Int))))) : rules_pieces.l1 N l_ (n + 1) t20_ t35_ t36_ t37_ p_ p_2 p_3 p_4 = rules_pieces.s1 N l_ (rules_pieces.l0 N l_ n) (rules_pieces.l1 N l_ n) (rules_pieces.l2 N l_ n) t20_ t35_ t36_ t37_ p_ p_2 p_3 p_4 := rfl
theorem rules_pieces.l2_s (N : Nat) (l_ : (List (Int × (Int × (Int × (List (Int × (Int × (Int × Int))))))))) (n : Nat) (t20_ : Int) (t72_ : (List (Int × (Int × (Int × Int))))) (t73_ : Int) (t74_ : Int) : rules_pieces.l2 N l_ (n + 1) t20_ t72_ t73_ t74_ = rules_pieces.s2 N l_ (rules_pieces.l0 N l_ n) (rules_pieces.l1 N l_ n) (rules_pieces.l2 N l_ n) t20_ t72_ t73_ t74_ := rfl
def rules_pieces (N : Nat) (l_ : (List (Int × (Int × (Int × (List (Int × (Int × (Int × Int))))))))) : Option Int := rules_pieces.e N (rules_pieces.l0 N l_ N) (rules_pieces.l1 N l_ N) (rules_pieces.l2 N l_ N) l_
/-! ### f45: gamehall/rules.end -/
def rules_end.e (N : Nat) (x_Kind : Int) (x_Piece : Int) (x_Count : Int) (x_Loses : Bool) (types : Int) : Option Int :=
  bif (eqI x_Kind 0) then (bif (!(eqI x_Piece 0)) then some 4
    else bif (ltI x_Count 1) then some 4
    else bif (ltI 64 x_Count) then some 4
    else some 0)
  else bif (eqI x_Kind 1) then (bif (ltI x_Piece 0) then some 4
    else bif (leI types x_Piece) then some 4
    else bif (!(eqI x_Count 0)) then some 4
    else some 0)
  else bif (eqI x_Kind 2) then (bif (ltI x_Piece 0) then some 4
    else bif (leI types x_Piece) then some 4
    else bif (ltI x_Count 1) then some 4
    else bif (ltI 64 x_Count) then some 4
    else some 0)
  else some 1
def rules_end (N : Nat) (x_Kind : Int) (x_Piece : Int) (x_Count : Int) (x_Loses : Bool) (types : Int) : Option Int := rules_end.e N x_Kind x_Piece x_Count x_Loses types
/-! ### f28: gamehall/rules.Check -/
def rules_Check.e (N : Nat) (r0 : Int → Option Int) (r1 : Int → Option Int) (r_Name : ByteArray) (r_Width : Int) (r_Height : Int) (r_Pieces : (List (Int × (Int × (Int × (List (Int × (Int × (Int × Int))))))))) (r_Start : (List Int)) (r_Falls : Bool) (r_Keeps : Bool) (r_Ends : (List (Int × (Int × (Int × Bool))))) (r_Blocked : Int) (r_Quiet : Int) (r_Repeat : Int) : Option Int :=
  (rules_Name N r_Name).bind fun y1 =>
  bif (!y1) then some 6
  else bif (ltI r_Width 1) then some 4
  else bif (ltI 8 r_Width) then some 4
  else bif (ltI r_Height 1) then some 4
  else bif (ltI 8 r_Height) then some 4
  else (rules_pieces N r_Pieces).bind fun y2 =>
  bif (!(eqI y2 0)) then some y2
  else bif (!(eqI (r_Start.length : Int) (w64 (r_Width * r_Height)))) then some 3
  else r0 0
def rules_Check.s0 (N : Nat) (r_Name : ByteArray) (r_Width : Int) (r_Height : Int) (r_Pieces : (List (Int × (Int × (Int × (List (Int × (Int × (Int × Int))))))))) (r_Start : (List Int)) (r_Falls : Bool) (r_Keeps : Bool) (r_Ends : (List (Int × (Int × (Int × Bool))))) (r_Blocked : Int) (r_Quiet : Int) (r_Repeat : Int) (r0 : Int → Option Int) (r1 : Int → Option Int) (t51_ : Int) : Option Int :=
  bif (ltI t51_ (r_Start.length : Int)) then (chk ((leI 0 t51_) && (ltI t51_ (r_Start.length : Int))) <|
    bif (ltI (gD (0 : Int) r_Start t51_) 0) then some 4
    else bif (ltI (w64 (2 * (r_Pieces.length : Int))) (gD (0 : Int) r_Start t51_)) then some 4
    else r0 (w64 (t51_ + 1)))
  else bif (ltI 6 (r_Ends.length : Int)) then some 2
  else r1 0
def rules_Check.s1 (N : Nat) (r_Name : ByteArray) (r_Width : Int) (r_Height : Int) (r_Pieces : (List (Int × (Int × (Int × (List (Int × (Int × (Int × Int))))))))) (r_Start : (List Int)) (r_Falls : Bool) (r_Keeps : Bool) (r_Ends : (List (Int × (Int × (Int × Bool))))) (r_Blocked : Int) (r_Quiet : Int) (r_Repeat : Int) (r0 : Int → Option Int) (r1 : Int → Option Int) (t73_ : Int) : Option Int :=
  bif (ltI t73_ (r_Ends.length : Int)) then (chk ((leI 0 t73_) && (ltI t73_ (r_Ends.length : Int))) <|
    (rules_end N (gD ((0 : Int), ((0 : Int), ((0 : Int), false))) r_Ends t73_).1 (gD ((0 : Int), ((0 : Int), ((0 : Int), false))) r_Ends t73_).2.1 (gD ((0 : Int), ((0 : Int), ((0 : Int), false))) r_Ends t73_).2.2.1 (gD ((0 : Int), ((0 : Int), ((0 : Int), false))) r_Ends t73_).2.2.2 (r_Pieces.length : Int)).bind fun y11 =>
    bif (!(eqI y11 0)) then some y11
    else r1 (w64 (t73_ + 1)))
  else bif (ltI r_Blocked 0) then some 4
  else bif (ltI 2 r_Blocked) then some 4
  else bif (ltI r_Quiet 0) then some 4
  else bif (ltI 200 r_Quiet) then some 4
  else bif (ltI r_Repeat 0) then some 4
  else bif (eqI r_Repeat 1) then some 4
  else bif (ltI 5 r_Repeat) then some 4
  else some 0
def rules_Check.L (N : Nat) (r_Name : ByteArray) (r_Width : Int) (r_Height : Int) (r_Pieces : (List (Int × (Int × (Int × (List (Int × (Int × (Int × Int))))))))) (r_Start : (List Int)) (r_Falls : Bool) (r_Keeps : Bool) (r_Ends : (List (Int × (Int × (Int × Bool))))) (r_Blocked : Int) (r_Quiet : Int) (r_Repeat : Int) : Nat → (Int → Option Int) × (Int → Option Int)
  | 0 => (fun _ => none, fun _ => none)
  | n + 1 => (fun t51_ => rules_Check.s0 N r_Name r_Width r_Height r_Pieces r_Start r_Falls r_Keeps r_Ends r_Blocked r_Quiet r_Repeat (rules_Check.L N r_Name r_Width r_Height r_Pieces r_Start r_Falls r_Keeps r_Ends r_Blocked r_Quiet r_Repeat n).1 (rules_Check.L N r_Name r_Width r_Height r_Pieces r_Start r_Falls r_Keeps r_Ends r_Blocked r_Quiet r_Repeat n).2 t51_, fun t73_ => rules_Check.s1 N r_Name r_Width r_Height r_Pieces r_Start r_Falls r_Keeps r_Ends r_Blocked r_Quiet r_Repeat (rules_Check.L N r_Name r_Width r_Height r_Pieces r_Start r_Falls r_Keeps r_Ends r_Blocked r_Quiet r_Repeat n).1 (rules_Check.L N r_Name r_Width r_Height r_Pieces r_Start r_Falls r_Keeps r_Ends r_Blocked r_Quiet r_Repeat n).2 t73_)
def rules_Check.l0 (N : Nat) (r_Name : ByteArray) (r_Width : Int) (r_Height : Int) (r_Pieces : (List (Int × (Int × (Int × (List (Int × (Int × (Int × Int))))))))) (r_Start : (List Int)) (r_Falls : Bool) (r_Keeps : Bool) (r_Ends : (List (Int × (Int × (Int × Bool))))) (r_Blocked : Int) (r_Quiet : Int) (r_Repeat : Int) (n : Nat) : Int → Option Int := (rules_Check.L N r_Name r_Width r_Height r_Pieces r_Start r_Falls r_Keeps r_Ends r_Blocked r_Quiet r_Repeat n).1
def rules_Check.l1 (N : Nat) (r_Name : ByteArray) (r_Width : Int) (r_Height : Int) (r_Pieces : (List (Int × (Int × (Int × (List (Int × (Int × (Int × Int))))))))) (r_Start : (List Int)) (r_Falls : Bool) (r_Keeps : Bool) (r_Ends : (List (Int × (Int × (Int × Bool))))) (r_Blocked : Int) (r_Quiet : Int) (r_Repeat : Int) (n : Nat) : Int → Option Int := (rules_Check.L N r_Name r_Width r_Height r_Pieces r_Start r_Falls r_Keeps r_Ends r_Blocked r_Quiet r_Repeat n).2
theorem rules_Check.l0_s (N : Nat) (r_Name : ByteArray) (r_Width : Int) (r_Height : Int) (r_Pieces : (List (Int × (Int × (Int × (List (Int × (Int × (Int × Int))))))))) (r_Start : (List Int)) (r_Falls : Bool) (r_Keeps : Bool) (r_Ends : (List (Int × (Int × (Int × Bool))))) (r_Blocked : Int) (r_Quiet : Int) (r_Repeat : Int) (n : Nat) (t51_ : Int) : rules_Check.l0 N r_Name r_Width r_Height r_Pieces r_Start r_Falls r_Keeps r_Ends r_Blocked r_Quiet r_Repeat (n + 1) t51_ = rules_Check.s0 N r_Name r_Width r_Height r_Pieces r_Start r_Falls r_Keeps r_Ends r_Blocked r_Quiet r_Repeat (rules_Check.l0 N r_Name r_Width r_Height r_Pieces r_Start r_Falls r_Keeps r_Ends r_Blocked r_Quiet r_Repeat n) (rules_Check.l1 N r_Name r_Width r_Height r_Pieces r_Start r_Falls r_Keeps r_Ends r_Blocked r_Quiet r_Repeat n) t51_ := rfl
theorem rules_Check.l1_s (N : Nat) (r_Name : ByteArray) (r_Width : Int) (r_Height : Int) (r_Pieces : (List (Int × (Int × (Int × (List (Int × (Int × (Int × Int))))))))) (r_Start : (List Int)) (r_Falls : Bool) (r_Keeps : Bool) (r_Ends : (List (Int × (Int × (Int × Bool))))) (r_Blocked : Int) (r_Quiet : Int) (r_Repeat : Int) (n : Nat) (t73_ : Int) : rules_Check.l1 N r_Name r_Width r_Height r_Pieces r_Start r_Falls r_Keeps r_Ends r_Blocked r_Quiet r_Repeat (n + 1) t73_ = rules_Check.s1 N r_Name r_Width r_Height r_Pieces r_Start r_Falls r_Keeps r_Ends r_Blocked r_Quiet r_Repeat (rules_Check.l0 N r_Name r_Width r_Height r_Pieces r_Start r_Falls r_Keeps r_Ends r_Blocked r_Quiet r_Repeat n) (rules_Check.l1 N r_Name r_Width r_Height r_Pieces r_Start r_Falls r_Keeps r_Ends r_Blocked r_Quiet r_Repeat n) t73_ := rfl
def rules_Check (N : Nat) (r_Name : ByteArray) (r_Width : Int) (r_Height : Int) (r_Pieces : (List (Int × (Int × (Int × (List (Int × (Int × (Int × Int))))))))) (r_Start : (List Int)) (r_Falls : Bool) (r_Keeps : Bool) (r_Ends : (List (Int × (Int × (Int × Bool))))) (r_Blocked : Int) (r_Quiet : Int) (r_Repeat : Int) : Option Int := rules_Check.e N (rules_Check.l0 N r_Name r_Width r_Height r_Pieces r_Start r_Falls r_Keeps r_Ends r_Blocked r_Quiet r_Repeat N) (rules_Check.l1 N r_Name r_Width r_Height r_Pieces r_Start r_Falls r_Keeps r_Ends r_Blocked r_Quiet r_Repeat N) r_Name r_Width r_Height r_Pieces r_Start r_Falls r_Keeps r_Ends r_Blocked r_Quiet r_Repeat
/-! ### f40: gamehall/rules.Copy -/
def rules_Copy.e (N : Nat) (r0 : Int → (List (Int × (Int × (Int × (List (Int × (Int × (Int × Int)))))))) → Option (ByteArray × (Int × (Int × ((List (Int × (Int × (Int × (List (Int × (Int × (Int × Int)))))))) × ((List Int) × (Bool × (Bool × ((List (Int × (Int × (Int × Bool)))) × (Int × (Int × Int))))))))))) (r_Name : ByteArray) (r_Width : Int) (r_Height : Int) (r_Pieces : (List (Int × (Int × (Int × (List (Int × (Int × (Int × Int))))))))) (r_Start : (List Int)) (r_Falls : Bool) (r_Keeps : Bool) (r_Ends : (List (Int × (Int × (Int × Bool))))) (r_Blocked : Int) (r_Quiet : Int) (r_Repeat : Int) : Option (ByteArray × (Int × (Int × ((List (Int × (Int × (Int × (List (Int × (Int × (Int × Int)))))))) × ((List Int) × (Bool × (Bool × ((List (Int × (Int × (Int × Bool)))) × (Int × (Int × Int)))))))))) :=
  chk (leI 0 (r_Pieces.length : Int) && (decide ((r_Pieces.length : Int) < 9223372036854775808) && capOk 48 (r_Pieces.length : Int).toNat)) <|
  r0 0 (List.replicate (r_Pieces.length : Int).toNat ((0 : Int), ((0 : Int), ((0 : Int), ([] : (List (Int × (Int × (Int × Int)))))))))
def rules_Copy.s0 (N : Nat) (r_Name : ByteArray) (r_Width : Int) (r_Height : Int) (r_Pieces : (List (Int × (Int × (Int × (List (Int × (Int × (Int × Int))))))))) (r_Start : (List Int)) (r_Falls : Bool) (r_Keeps : Bool) (r_Ends : (List (Int × (Int × (Int × Bool))))) (r_Blocked : Int) (r_Quiet : Int) (r_Repeat : Int) (r0 : Int → (List (Int × (Int × (Int × (List (Int × (Int × (Int × Int)))))))) → Option (ByteArray × (Int × (Int × ((List (Int × (Int × (Int × (List (Int × (Int × (Int × Int)))))))) × ((List Int) × (Bool × (Bool × ((List (Int × (Int × (Int × Bool)))) × (Int × (Int × Int))))))))))) (t15_ : Int) (m3_ : (List (Int × (Int × (Int × (List (Int × (Int × (Int × Int))))))))) : Option (ByteArray × (Int × (Int × ((List (Int × (Int × (Int × (List (Int × (Int × (Int × Int)))))))) × ((List Int) × (Bool × (Bool × ((List (Int × (Int × (Int × Bool)))) × (Int × (Int × Int)))))))))) :=
  bif (ltI t15_ (r_Pieces.length : Int)) then (chk ((leI 0 t15_) && (ltI t15_ (r_Pieces.length : Int))) <|
    chk (capOk 32 (gD ((0 : Int), ((0 : Int), ((0 : Int), ([] : (List (Int × (Int × (Int × Int)))))))) r_Pieces t15_).2.2.2.length) <|
    chk ((leI 0 t15_) && (ltI t15_ (m3_.length : Int))) <|
    r0 (w64 (t15_ + 1)) (m3_.set t15_.toNat (gD ((0 : Int), ((0 : Int), ((0 : Int), ([] : (List (Int × (Int × (Int × Int)))))))) r_Pieces t15_)))
  else chk (capOk 8 r_Start.length) <|
  chk (capOk 32 r_Ends.length) <|
  some (r_Name, (r_Width, (r_Height, (m3_, (r_Start, (r_Falls, (r_Keeps, (r_Ends, (r_Blocked, (r_Quiet, r_Repeat))))))))))
def rules_Copy.L (N : Nat) (r_Name : ByteArray) (r_Width : Int) (r_Height : Int) (r_Pieces : (List (Int × (Int × (Int × (List (Int × (Int × (Int × Int))))))))) (r_Start : (List Int)) (r_Falls : Bool) (r_Keeps : Bool) (r_Ends : (List (Int × (Int × (Int × Bool))))) (r_Blocked : Int) (r_Quiet : Int) (r_Repeat : Int) : Nat → (Int → (List (Int × (Int × (Int × (List (Int × (Int × (Int × Int)))))))) → Option (ByteArray × (Int × (Int × ((List (Int × (Int × (Int × (List (Int × (Int × (Int × Int)))))))) × ((List Int) × (Bool × (Bool × ((List (Int × (Int × (Int × Bool)))) × (Int × (Int × Int)))))))))))
  | 0 => fun _ _ => none
  | n + 1 => fun t15_ m3_ => rules_Copy.s0 N r_Name r_Width r_Height r_Pieces r_Start r_Falls r_Keeps r_Ends r_Blocked r_Quiet r_Repeat (rules_Copy.L N r_Name r_Width r_Height r_Pieces r_Start r_Falls r_Keeps r_Ends r_Blocked r_Quiet r_Repeat n) t15_ m3_
def rules_Copy.l0 (N : Nat) (r_Name : ByteArray) (r_Width : Int) (r_Height : Int) (r_Pieces : (List (Int × (Int × (Int × (List (Int × (Int × (Int × Int))))))))) (r_Start : (List Int)) (r_Falls : Bool) (r_Keeps : Bool) (r_Ends : (List (Int × (Int × (Int × Bool))))) (r_Blocked : Int) (r_Quiet : Int) (r_Repeat : Int) (n : Nat) : Int → (List (Int × (Int × (Int × (List (Int × (Int × (Int × Int)))))))) → Option (ByteArray × (Int × (Int × ((List (Int × (Int × (Int × (List (Int × (Int × (Int × Int)))))))) × ((List Int) × (Bool × (Bool × ((List (Int × (Int × (Int × Bool)))) × (Int × (Int × Int)))))))))) := (rules_Copy.L N r_Name r_Width r_Height r_Pieces r_Start r_Falls r_Keeps r_Ends r_Blocked r_Quiet r_Repeat n)
theorem rules_Copy.l0_s (N : Nat) (r_Name : ByteArray) (r_Width : Int) (r_Height : Int) (r_Pieces : (List (Int × (Int × (Int × (List (Int × (Int × (Int × Int))))))))) (r_Start : (List Int)) (r_Falls : Bool) (r_Keeps : Bool) (r_Ends : (List (Int × (Int × (Int × Bool))))) (r_Blocked : Int) (r_Quiet : Int) (r_Repeat : Int) (n : Nat) (t15_ : Int) (m3_ : (List (Int × (Int × (Int × (List (Int × (Int × (Int × Int))))))))) : rules_Copy.l0 N r_Name r_Width r_Height r_Pieces r_Start r_Falls r_Keeps r_Ends r_Blocked r_Quiet r_Repeat (n + 1) t15_ m3_ = rules_Copy.s0 N r_Name r_Width r_Height r_Pieces r_Start r_Falls r_Keeps r_Ends r_Blocked r_Quiet r_Repeat (rules_Copy.l0 N r_Name r_Width r_Height r_Pieces r_Start r_Falls r_Keeps r_Ends r_Blocked r_Quiet r_Repeat n) t15_ m3_ := rfl
def rules_Copy (N : Nat) (r_Name : ByteArray) (r_Width : Int) (r_Height : Int) (r_Pieces : (List (Int × (Int × (Int × (List (Int × (Int × (Int × Int))))))))) (r_Start : (List Int)) (r_Falls : Bool) (r_Keeps : Bool) (r_Ends : (List (Int × (Int × (Int × Bool))))) (r_Blocked : Int) (r_Quiet : Int) (r_Repeat : Int) : Option (ByteArray × (Int × (Int × ((List (Int × (Int × (Int × (List (Int × (Int × (Int × Int)))))))) × ((List Int) × (Bool × (Bool × ((List (Int × (Int × (Int × Bool)))) × (Int × (Int × Int)))))))))) := rules_Copy.e N (rules_Copy.l0 N r_Name r_Width r_Height r_Pieces r_Start r_Falls r_Keeps r_Ends r_Blocked r_Quiet r_Repeat N) r_Name r_Width r_Height r_Pieces r_Start r_Falls r_Keeps r_Ends r_Blocked r_Quiet r_Repeat
/-! ### f42: gamehall/rules.Turned -/
def rules_Turned.e (N : Nat) (r_Name : ByteArray) (r_Width : Int) (r_Height : Int) (r_Pieces : (List (Int × (Int × (Int × (List (Int × (Int × (Int × Int))))))))) (r_Start : (List Int)) (r_Falls : Bool) (r_Keeps : Bool) (r_Ends : (List (Int × (Int × (Int × Bool))))) (r_Blocked : Int) (r_Quiet : Int) (r_Repeat : Int) (square : Int) : Option Int :=
  bif (eqI r_Width 0) then none
  else bif (eqI r_Width 0) then none
  else some (w64 ((w64 ((w64 ((w64 (r_Height - 1)) - (w64 (Int.tdiv square r_Width)))) * r_Width)) + (Int.tmod square r_Width)))
def rules_Turned (N : Nat) (r_Name : ByteArray) (r_Width : Int) (r_Height : Int) (r_Pieces : (List (Int × (Int × (Int × (List (Int × (Int × (Int × Int))))))))) (r_Start : (List Int)) (r_Falls : Bool) (r_Keeps : Bool) (r_Ends : (List (Int × (Int × (Int × Bool))))) (r_Blocked : Int) (r_Quiet : Int) (r_Repeat : Int) (square : Int) : Option Int := rules_Turned.e N r_Name r_Width r_Height r_Pieces r_Start r_Falls r_Keeps r_Ends r_Blocked r_Quiet r_Repeat square
/-! ### f41: gamehall/rules.Swapped -/
def rules_Swapped.e (N : Nat) (c_ : Int) : Option Int :=
  bif (eqI c_ 0) then some 0
  else some (w64 ((Go.bits .xor .i64 (w64 (c_ - 1)) 1) + 1))
def rules_Swapped (N : Nat) (c_ : Int) : Option Int := rules_Swapped.e N c_
/-! ### f27: gamehall/rules.Mirror -/
def rules_Mirror.e (N : Nat) (r0 : Int → (List (Int × (Int × (Int × (List (Int × (Int × (Int × Int)))))))) → (List Int) → (List (Int × (Int × (Int × Bool)))) → ByteArray → Int → Int → Bool → Bool → Int → Int → Int → Option ((ByteArray × (Int × (Int × ((List (Int × (Int × (Int × (List (Int × (Int × (Int × Int)))))))) × ((List Int) × (Bool × (Bool × ((List (Int × (Int × (Int × Bool)))) × (Int × (Int × Int)))))))))) × Int)) (r_Name : ByteArray) (r_Width : Int) (r_Height : Int) (r_Pieces : (List (Int × (Int × (Int × (List (Int × (Int × (Int × Int))))))))) (r_Start : (List Int)) (r_Falls : Bool) (r_Keeps : Bool) (r_Ends : (List (Int × (Int × (Int × Bool))))) (r_Blocked : Int) (r_Quiet : Int) (r_Repeat : Int) : Option ((ByteArray × (Int × (Int × ((List (Int × (Int × (Int × (List (Int × (Int × (Int × Int)))))))) × ((List Int) × (Bool × (Bool × ((List (Int × (Int × (Int × Bool)))) × (Int × (Int × Int)))))))))) × Int) :=
  (rules_Check N r_Name r_Width r_Height r_Pieces r_Start r_Falls r_Keeps r_Ends r_Blocked r_Quiet r_Repeat).bind fun y1 =>
  bif (!(eqI y1 0)) then (some (((⟨#[]⟩ : ByteArray), (0, (0, ([], ([], (false, (false, ([], (0, (0, 0)))))))))), y1))
  else (rules_Copy N r_Name r_Width r_Height r_Pieces r_Start r_Falls r_Keeps r_Ends r_Blocked r_Quiet r_Repeat).bind fun y2 =>
  r0 0 y2.2.2.2.1 y2.2.2.2.2.1 y2.2.2.2.2.2.2.2.1 y2.1 y2.2.1 y2.2.2.1 y2.2.2.2.2.2.1 y2.2.2.2.2.2.2.1 y2.2.2.2.2.2.2.2.2.1 y2.2.2.2.2.2.2.2.2.2.1 y2.2.2.2.2.2.2.2.2.2.2
def rules_Mirror.s0 (N : Nat) (r_Name : ByteArray) (r_Width : Int) (r_Height : Int) (r_Pieces : (List (Int × (Int × (Int × (List (Int × (Int × (Int × Int))))))))) (r_Start : (List Int)) (r_Falls : Bool) (r_Keeps : Bool) (r_Ends : (List (Int × (Int × (Int × Bool))))) (r_Blocked : Int) (r_Quiet : Int) (r_Repeat : Int) (r0 : Int → (List (Int × (Int × (Int × (List (Int × (Int × (Int × Int)))))))) → (List Int) → (List (Int × (Int × (Int × Bool)))) → ByteArray → Int → Int → Bool → Bool → Int → Int → Int → Option ((ByteArray × (Int × (Int × ((List (Int × (Int × (Int × (List (Int × (Int × (Int × Int)))))))) × ((List Int) × (Bool × (Bool × ((List (Int × (Int × (Int × Bool)))) × (Int × (Int × Int)))))))))) × Int)) (t19_ : Int) (m2_ : (List (Int × (Int × (Int × (List (Int × (Int × (Int × Int))))))))) (m3_ : (List Int)) (m4_ : (List (Int × (Int × (Int × Bool))))) (out : ByteArray) (out2 : Int) (out3 : Int) (out4 : Bool) (out5 : Bool) (out6 : Int) (out7 : Int) (out8 : Int) : Option ((ByteArray × (Int × (Int × ((List (Int × (Int × (Int × (List (Int × (Int × (Int × Int)))))))) × ((List Int) × (Bool × (Bool × ((List (Int × (Int × (Int × Bool)))) × (Int × (Int × Int)))))))))) × Int) :=
  bif (ltI t19_ (r_Start.length : Int)) then (chk ((leI 0 t19_) && (ltI t19_ (r_Start.length : Int))) <|
    (rules_Turned N r_Name r_Width r_Height r_Pieces r_Start r_Falls r_Keeps r_Ends r_Blocked r_Quiet r_Repeat t19_).bind fun y4 =>
    (rules_Swapped N (gD (0 : Int) r_Start t19_)).bind fun y5 =>
    chk ((leI 0 y4) && (ltI y4 (m3_.length : Int))) <|
    r0 (w64 (t19_ + 1)) m2_ (m3_.set y4.toNat y5) m4_ out out2 out3 out4 out5 out6 out7 out8)
  else some ((out, (out2, (out3, (m2_, (m3_, (out4, (out5, (m4_, (out6, (out7, out8)))))))))), 0)
def rules_Mirror.L (N : Nat) (r_Name : ByteArray) (r_Width : Int) (r_Height : Int) (r_Pieces : (List (Int × (Int × (Int × (List (Int × (Int × (Int × Int))))))))) (r_Start : (List Int)) (r_Falls : Bool) (r_Keeps : Bool) (r_Ends : (List (Int × (Int × (Int × Bool))))) (r_Blocked : Int) (r_Quiet : Int) (r_Repeat : Int) : Nat → (Int → (List (Int × (Int × (Int × (List (Int × (Int × (Int × Int)))))))) → (List Int) → (List (Int × (Int × (Int × Bool)))) → ByteArray → Int → Int → Bool → Bool → Int → Int → Int → Option ((ByteArray × (Int × (Int × ((List (Int × (Int × (Int × (List (Int × (Int × (Int × Int)))))))) × ((List Int) × (Bool × (Bool × ((List (Int × (Int × (Int × Bool)))) × (Int × (Int × Int)))))))))) × Int))
  | 0 => fun _ _ _ _ _ _ _ _ _ _ _ _ => none
  | n + 1 => fun t19_ m2_ m3_ m4_ out out2 out3 out4 out5 out6 out7 out8 => rules_Mirror.s0 N r_Name r_Width r_Height r_Pieces r_Start r_Falls r_Keeps r_Ends r_Blocked r_Quiet r_Repeat (rules_Mirror.L N r_Name r_Width r_Height r_Pieces r_Start r_Falls r_Keeps r_Ends r_Blocked r_Quiet r_Repeat n) t19_ m2_ m3_ m4_ out out2 out3 out4 out5 out6 out7 out8
def rules_Mirror.l0 (N : Nat) (r_Name : ByteArray) (r_Width : Int) (r_Height : Int) (r_Pieces : (List (Int × (Int × (Int × (List (Int × (Int × (Int × Int))))))))) (r_Start : (List Int)) (r_Falls : Bool) (r_Keeps : Bool) (r_Ends : (List (Int × (Int × (Int × Bool))))) (r_Blocked : Int) (r_Quiet : Int) (r_Repeat : Int) (n : Nat) : Int → (List (Int × (Int × (Int × (List (Int × (Int × (Int × Int)))))))) → (List Int) → (List (Int × (Int × (Int × Bool)))) → ByteArray → Int → Int → Bool → Bool → Int → Int → Int → Option ((ByteArray × (Int × (Int × ((List (Int × (Int × (Int × (List (Int × (Int × (Int × Int)))))))) × ((List Int) × (Bool × (Bool × ((List (Int × (Int × (Int × Bool)))) × (Int × (Int × Int)))))))))) × Int) := (rules_Mirror.L N r_Name r_Width r_Height r_Pieces r_Start r_Falls r_Keeps r_Ends r_Blocked r_Quiet r_Repeat n)
theorem rules_Mirror.l0_s (N : Nat) (r_Name : ByteArray) (r_Width : Int) (r_Height : Int) (r_Pieces : (List (Int × (Int × (Int × (List (Int × (Int × (Int × Int))))))))) (r_Start : (List Int)) (r_Falls : Bool) (r_Keeps : Bool) (r_Ends : (List (Int × (Int × (Int × Bool))))) (r_Blocked : Int) (r_Quiet : Int) (r_Repeat : Int) (n : Nat) (t19_ : Int) (m2_ : (List (Int × (Int × (Int × (List (Int × (Int × (Int × Int))))))))) (m3_ : (List Int)) (m4_ : (List (Int × (Int × (Int × Bool))))) (out : ByteArray) (out2 : Int) (out3 : Int) (out4 : Bool) (out5 : Bool) (out6 : Int) (out7 : Int) (out8 : Int) : rules_Mirror.l0 N r_Name r_Width r_Height r_Pieces r_Start r_Falls r_Keeps r_Ends r_Blocked r_Quiet r_Repeat (n + 1) t19_ m2_ m3_ m4_ out out2 out3 out4 out5 out6 out7 out8 = rules_Mirror.s0 N r_Name r_Width r_Height r_Pieces r_Start r_Falls r_Keeps r_Ends r_Blocked r_Quiet r_Repeat (rules_Mirror.l0 N r_Name r_Width r_Height r_Pieces r_Start r_Falls r_Keeps r_Ends r_Blocked r_Quiet r_Repeat n) t19_ m2_ m3_ m4_ out out2 out3 out4 out5 out6 out7 out8 := rfl
def rules_Mirror (N : Nat) (r_Name : ByteArray) (r_Width : Int) (r_Height : Int) (r_Pieces : (List (Int × (Int × (Int × (List (Int × (Int × (Int × Int))))))))) (r_Start : (List Int)) (r_Falls : Bool) (r_Keeps : Bool) (r_Ends : (List (Int × (Int × (Int × Bool))))) (r_Blocked : Int) (r_Quiet : Int) (r_Repeat : Int) : Option ((ByteArray × (Int × (Int × ((List (Int × (Int × (Int × (List (Int × (Int × (Int × Int)))))))) × ((List Int) × (Bool × (Bool × ((List (Int × (Int × (Int × Bool)))) × (Int × (Int × Int)))))))))) × Int) := rules_Mirror.e N (rules_Mirror.l0 N r_Name r_Width r_Height r_Pieces r_Start r_Falls r_Keeps r_Ends r_Blocked r_Quiet r_Repeat N) r_Name r_Width r_Height r_Pieces r_Start r_Falls r_Keeps r_Ends r_Blocked r_Quiet r_Repeat
/-! ### f9: gamehall/gamehallkeep1.RulesMirrored -/
def gamehallkeep1_RulesMirrored.e (N : Nat) (r_Name : ByteArray) (r_Width : Int) (r_Height : Int) (r_Pieces : (List (Int × (Int × (Int × (List (Int × (Int × (Int × Int))))))))) (r_Start : (List Int)) (r_Falls : Bool) (r_Keeps : Bool) (r_Ends : (List (Int × (Int × (Int × Bool))))) (r_Blocked : Int) (r_Quiet : Int) (r_Repeat : Int) : Option Bool :=
  (gamehallkeep1_three N).bind fun y1 =>
  let v2 : List Int := [1, 0, 0, 0, 0, 0, 0, 0, 2]
  (rules_Mirror N y1.1 y1.2.1 y1.2.2.1 y1.2.2.2.1 v2 y1.2.2.2.2.2.1 y1.2.2.2.2.2.2.1 y1.2.2.2.2.2.2.2.1 y1.2.2.2.2.2.2.2.2.1 y1.2.2.2.2.2.2.2.2.2.1 y1.2.2.2.2.2.2.2.2.2.2).bind fun y3 =>
  bif (!(eqI y3.2 0)) then some false
  else (slices_Equal_int_int N y3.1.2.2.2.2.1 [0, 0, 1, 0, 0, 0, 2, 0, 0]).bind fun y5 =>
  bif (!y5) then some false
  else (rules_Check N y1.1 y1.2.1 y1.2.2.1 y1.2.2.2.1 v2 y1.2.2.2.2.2.1 y1.2.2.2.2.2.2.1 y1.2.2.2.2.2.2.2.1 y1.2.2.2.2.2.2.2.2.1 y1.2.2.2.2.2.2.2.2.2.1 y1.2.2.2.2.2.2.2.2.2.2).bind fun y6 =>
  bif (!(eqI y6 0)) then some false
  else (rules_Mirror N r_Name r_Width r_Height r_Pieces r_Start r_Falls r_Keeps r_Ends r_Blocked r_Quiet r_Repeat).bind fun y7 =>
  bif (!(eqI y7.2 0)) then ((rules_Check N r_Name r_Width r_Height r_Pieces r_Start r_Falls r_Keeps r_Ends r_Blocked r_Quiet r_Repeat).bind fun y8 =>
    bif (eqI y7.2 y8) then (some (eqI (y7.1.2.2.2.2.1.length : Int) 0))
    else some false)
  else (rules_Mirror N y7.1.1 y7.1.2.1 y7.1.2.2.1 y7.1.2.2.2.1 y7.1.2.2.2.2.1 y7.1.2.2.2.2.2.1 y7.1.2.2.2.2.2.2.1 y7.1.2.2.2.2.2.2.2.1 y7.1.2.2.2.2.2.2.2.2.1 y7.1.2.2.2.2.2.2.2.2.2.1 y7.1.2.2.2.2.2.2.2.2.2.2).bind fun y10 =>
  bif (eqI y10.2 0) then ((rules_Check N y7.1.1 y7.1.2.1 y7.1.2.2.1 y7.1.2.2.2.1 y7.1.2.2.2.2.1 y7.1.2.2.2.2.2.1 y7.1.2.2.2.2.2.2.1 y7.1.2.2.2.2.2.2.2.1 y7.1.2.2.2.2.2.2.2.2.1 y7.1.2.2.2.2.2.2.2.2.2.1 y7.1.2.2.2.2.2.2.2.2.2.2).bind fun y11 =>
    bif (eqI y11 0) then ((slices_Equal_int_int N y10.1.2.2.2.2.1 r_Start).bind fun y12 =>
      bif y12 then (some (y10.1.1.toList == r_Name.toList))
      else some false)
    else some false)
  else some false
def gamehallkeep1_RulesMirrored (N : Nat) (r_Name : ByteArray) (r_Width : Int) (r_Height : Int) (r_Pieces : (List (Int × (Int × (Int × (List (Int × (Int × (Int × Int))))))))) (r_Start : (List Int)) (r_Falls : Bool) (r_Keeps : Bool) (r_Ends : (List (Int × (Int × (Int × Bool))))) (r_Blocked : Int) (r_Quiet : Int) (r_Repeat : Int) : Option Bool := gamehallkeep1_RulesMirrored.e N r_Name r_Width r_Height r_Pieces r_Start r_Falls r_Keeps r_Ends r_Blocked r_Quiet r_Repeat
end Go.Proofs.Ytaaljooihacpgaa.Am
