/- PRINTED by gen.py: what the functions compute, as plain Lean functions with fuel. -/
import Derived.Test.YtaaljooihacpgaaAm14
set_option linter.unusedVariables false
set_option linter.unusedSimpArgs false
namespace Go.Proofs.Ytaaljooihacpgaa.Am
open Go
/-! ### f29: gamehall/symm.Check -/
def symm_Check.e (N : Nat) (width : Int) (height : Int) : Option Int :=
  bif (ltI width 1) then some 4
  else bif (ltI 8 width) then some 4
  else bif (ltI height 1) then some 4
  else bif (ltI 8 height) then some 4
  else some 0
def symm_Check (N : Nat) (width : Int) (height : Int) : Option Int := symm_Check.e N width height
/-! ### f30: gamehall/symm.many -/
def symm_many.e (N : Nat) (width : Int) (height : Int) : Option Int :=
  bif (eqI width height) then some 8
  else some 4
def symm_many (N : Nat) (width : Int) (height : Int) : Option Int := symm_many.e N width height
/-! ### f35: gamehall/symm.image -/
def symm_image.e (N : Nat) (width : Int) (height : Int) (s_ : Int) (square : Int) : Option Int :=
  bif (eqI width 0) then none
  else bif (eqI width 0) then none
  else let v1 : Int := (w64 (Int.tdiv square width))
  bif (!(eqI (Go.bits .and .i64 s_ 4) 0)) then (bif (!(eqI (Go.bits .and .i64 s_ 1) 0)) then (let v4 : Int := (w64 ((w64 (width - 1)) - v1))
      bif (!(eqI (Go.bits .and .i64 s_ 2) 0)) then (some (w64 ((w64 ((w64 ((w64 (height - 1)) - (Int.tmod square width))) * width)) + v4)))
      else some (w64 ((w64 ((Int.tmod square width) * width)) + v4)))
    else bif (!(eqI (Go.bits .and .i64 s_ 2) 0)) then (some (w64 ((w64 ((w64 ((w64 (height - 1)) - (Int.tmod square width))) * width)) + v1)))
    else some (w64 ((w64 ((Int.tmod square width) * width)) + v1)))
  else bif (!(eqI (Go.bits .and .i64 s_ 1) 0)) then (let v14 : Int := (w64 ((w64 (width - 1)) - (Int.tmod square width)))
    bif (!(eqI (Go.bits .and .i64 s_ 2) 0)) then (some (w64 ((w64 ((w64 ((w64 (height - 1)) - v1)) * width)) + v14)))
    else some (w64 ((w64 (v1 * width)) + v14)))
  else bif (!(eqI (Go.bits .and .i64 s_ 2) 0)) then (some (w64 ((w64 ((w64 ((w64 (height - 1)) - v1)) * width)) + (Int.tmod square width))))
  else some (w64 ((w64 (v1 * width)) + (Int.tmod square width)))
def symm_image (N : Nat) (width : Int) (height : Int) (s_ : Int) (square : Int) : Option Int := symm_image.e N width height s_ square
/-! ### f31: gamehall/symm.cycles -/
def symm_cycles.e (N : Nat) (r0 : Int → Int → Int → Int → Int → Int → (List Bool) → Option Int) (r1 : Int → Int → Int → Int → Int → Int → Int → (List Bool) → Option Int) (width : Int) (height : Int) (s_ : Int) : Option Int :=
  chk (leI 0 (w64 (width * height)) && (decide ((w64 (width * height)) < 9223372036854775808) && capOk 1 (w64 (width * height)).toNat)) <|
  let v1 : List Bool := (List.replicate (w64 (width * height)).toNat false)
  r0 width height s_ 0 (v1.length : Int) 0 v1
def symm_cycles.s0 (N : Nat) (r0 : Int → Int → Int → Int → Int → Int → (List Bool) → Option Int) (r1 : Int → Int → Int → Int → Int → Int → Int → (List Bool) → Option Int) (width : Int) (height : Int) (s_ : Int) (n_ : Int) (t15_ : Int) (t16_ : Int) (seen : (List Bool)) : Option Int :=
  bif (ltI t16_ t15_) then (chk ((leI 0 t16_) && (ltI t16_ (seen.length : Int))) <|
    bif (gD false seen t16_) then (r0 width height s_ n_ t15_ (w64 (t16_ + 1)) seen)
    else r1 width height s_ (w64 (n_ + 1)) t16_ t15_ t16_ seen)
  else some n_
def symm_cycles.s1 (N : Nat) (r0 : Int → Int → Int → Int → Int → Int → (List Bool) → Option Int) (r1 : Int → Int → Int → Int → Int → Int → Int → (List Bool) → Option Int) (width : Int) (height : Int) (s_ : Int) (n_ : Int) (k_ : Int) (t15_ : Int) (t16_ : Int) (seen : (List Bool)) : Option Int :=
  chk ((leI 0 k_) && (ltI k_ (seen.length : Int))) <|
  bif (!(gD false seen k_)) then (chk ((leI 0 k_) && (ltI k_ (seen.length : Int))) <|
    (symm_image N width height s_ k_).bind fun y2 =>
    r1 width height s_ n_ y2 t15_ t16_ (seen.set k_.toNat true))
  else r0 width height s_ n_ t15_ (w64 (t16_ + 1)) seen
def symm_cycles.L (N : Nat) : Nat → (Int → Int → Int → Int → Int → Int → (List Bool) → Option Int) × (Int → Int → Int → Int → Int → Int → Int → (List Bool) → Option Int)
  | 0 => (fun _ _ _ _ _ _ _ => none, fun _ _ _ _ _ _ _ _ => none)
  | n + 1 => (fun width height s_ n_ t15_ t16_ seen => symm_cycles.s0 N (symm_cycles.L N n).1 (symm_cycles.L N n).2 width height s_ n_ t15_ t16_ seen, fun width height s_ n_ k_ t15_ t16_ seen => symm_cycles.s1 N (symm_cycles.L N n).1 (symm_cycles.L N n).2 width height s_ n_ k_ t15_ t16_ seen)
def symm_cycles.l0 (N : Nat) (n : Nat) : Int → Int → Int → Int → Int → Int → (List Bool) → Option Int := (symm_cycles.L N n).1
def symm_cycles.l1 (N : Nat) (n : Nat) : Int → Int → Int → Int → Int → Int → Int → (List Bool) → Option Int := (symm_cycles.L N n).2
theorem symm_cycles.l0_s (N n : Nat) (width : Int) (height : Int) (s_ : Int) (n_ : Int) (t15_ : Int) (t16_ : Int) (seen : (List Bool)) : symm_cycles.l0 N (n + 1) width height s_ n_ t15_ t16_ seen = symm_cycles.s0 N (symm_cycles.l0 N n) (symm_cycles.l1 N n) width height s_ n_ t15_ t16_ seen := rfl
theorem symm_cycles.l1_s (N n : Nat) (width : Int) (height : Int) (s_ : Int) (n_ : Int) (k_ : Int) (t15_ : Int) (t16_ : Int) (seen : (List Bool)) : symm_cycles.l1 N (n + 1) width height s_ n_ k_ t15_ t16_ seen = symm_cycles.s1 N (symm_cycles.l0 N n) (symm_cycles.l1 N n) width height s_ n_ k_ t15_ t16_ seen := rfl
def symm_cycles (N : Nat) (width : Int) (height : Int) (s_ : Int) : Option Int := symm_cycles.e N (symm_cycles.l0 N N) (symm_cycles.l1 N N) width height s_
/-! ### f10: gamehall/symm.Colours -/
def symm_Colours.e (N : Nat) (r0 : Int → Int → Int → Int → Int → Int → Option (Int × Int)) (r1 : Int → Int → Int → Int → Int → Int → Int → Int → Int → Option (Int × Int)) (width : Int) (height : Int) (colours : Int) : Option (Int × Int) :=
  (symm_Check N width height).bind fun y1 =>
  bif (!(eqI y1 0)) then (some (0, y1))
  else bif (ltI colours 0) then (some (0, 1))
  else bif (ltI 16 colours) then (some (0, 1))
  else (symm_many N width height).bind fun y2 =>
  r0 width height colours 0 y2 0
def symm_Colours.s0 (N : Nat) (r0 : Int → Int → Int → Int → Int → Int → Option (Int × Int)) (r1 : Int → Int → Int → Int → Int → Int → Int → Int → Int → Option (Int × Int)) (width : Int) (height : Int) (colours : Int) (sum : Int) (t26_ : Int) (t27_ : Int) : Option (Int × Int) :=
  bif (ltI t27_ t26_) then ((symm_cycles N width height t27_).bind fun y3 =>
    r1 width height colours sum 1 t26_ t27_ y3 0)
  else (symm_many N width height).bind fun y4 =>
  bif (eqI y4 0) then none
  else some ((w64 (Int.tdiv sum y4)), 0)
def symm_Colours.s1 (N : Nat) (r0 : Int → Int → Int → Int → Int → Int → Option (Int × Int)) (r1 : Int → Int → Int → Int → Int → Int → Int → Int → Int → Option (Int × Int)) (width : Int) (height : Int) (colours : Int) (sum : Int) (n_ : Int) (t26_ : Int) (t27_ : Int) (t33_ : Int) (t34_ : Int) : Option (Int × Int) :=
  bif (ltI t34_ t33_) then (bif (ltI 281474976710656 (w64 (n_ * colours))) then (some (0, 2))
    else r1 width height colours sum (w64 (n_ * colours)) t26_ t27_ t33_ (w64 (t34_ + 1)))
  else r0 width height colours (w64 (sum + n_)) t26_ (w64 (t27_ + 1))
def symm_Colours.L (N : Nat) : Nat → (Int → Int → Int → Int → Int → Int → Option (Int × Int)) × (Int → Int → Int → Int → Int → Int → Int → Int → Int → Option (Int × Int))
  | 0 => (fun _ _ _ _ _ _ => none, fun _ _ _ _ _ _ _ _ _ => none)
  | n + 1 => (fun width height colours sum t26_ t27_ => symm_Colours.s0 N (symm_Colours.L N n).1 (symm_Colours.L N n).2 width height colours sum t26_ t27_, fun width height colours sum n_ t26_ t27_ t33_ t34_ => symm_Colours.s1 N (symm_Colours.L N n).1 (symm_Colours.L N n).2 width height colours sum n_ t26_ t27_ t33_ t34_)
def symm_Colours.l0 (N : Nat) (n : Nat) : Int → Int → Int → Int → Int → Int → Option (Int × Int) := (symm_Colours.L N n).1
def symm_Colours.l1 (N : Nat) (n : Nat) : Int → Int → Int → Int → Int → Int → Int → Int → Int → Option (Int × Int) := (symm_Colours.L N n).2
theorem symm_Colours.l0_s (N n : Nat) (width : Int) (height : Int) (colours : Int) (sum : Int) (t26_ : Int) (t27_ : Int) : symm_Colours.l0 N (n + 1) width height colours sum t26_ t27_ = symm_Colours.s0 N (symm_Colours.l0 N n) (symm_Colours.l1 N n) width height colours sum t26_ t27_ := rfl
theorem symm_Colours.l1_s (N n : Nat) (width : Int) (height : Int) (colours : Int) (sum : Int) (n_ : Int) (t26_ : Int) (t27_ : Int) (t33_ : Int) (t34_ : Int) : symm_Colours.l1 N (n + 1) width height colours sum n_ t26_ t27_ t33_ t34_ = symm_Colours.s1 N (symm_Colours.l0 N n) (symm_Colours.l1 N n) width height colours sum n_ t26_ t27_ t33_ t34_ := rfl
def symm_Colours (N : Nat) (width : Int) (height : Int) (colours : Int) : Option (Int × Int) := symm_Colours.e N (symm_Colours.l0 N N) (symm_Colours.l1 N N) width height colours
/-! ### f33: gamehall/gamehallkeep1.fine$1 -/
def gamehallkeep1_fine_1.e (N : Nat) (e_ : Int) : Option Bool :=
  some (!(eqI e_ 0))
def gamehallkeep1_fine_1 (N : Nat) (e_ : Int) : Option Bool := gamehallkeep1_fine_1.e N e_
/-! ### f46: slices.IndexFunc[[]gamehall/api.Errno,gamehall/api.Errno] -/
def slices_IndexFunc_api_Errno_api_Errno.e (N : Nat) (r0 : (List Int) → Int → Int → Option Int) (s_ : (List Int)) : Option Int :=
  r0 s_ (s_.length : Int) 0
def slices_IndexFunc_api_Errno_api_Errno.s0 (N : Nat) (r0 : (List Int) → Int → Int → Option Int) (s_ : (List Int)) (t7_ : Int) (t8_ : Int) : Option Int :=
  bif (ltI t8_ t7_) then (chk ((leI 0 t8_) && (ltI t8_ (s_.length : Int))) <|
    (gamehallkeep1_fine_1 N (gD (0 : Int) s_ t8_)).bind fun y1 =>
    bif y1 then some t8_
    else r0 s_ t7_ (w64 (t8_ + 1)))
  else some (-1)
def slices_IndexFunc_api_Errno_api_Errno.L (N : Nat) : Nat → ((List Int) → Int → Int → Option Int)
  | 0 => fun _ _ _ => none
  | n + 1 => fun s_ t7_ t8_ => slices_IndexFunc_api_Errno_api_Errno.s0 N (slices_IndexFunc_api_Errno_api_Errno.L N n) s_ t7_ t8_
def slices_IndexFunc_api_Errno_api_Errno.l0 (N : Nat) (n : Nat) : (List Int) → Int → Int → Option Int := (slices_IndexFunc_api_Errno_api_Errno.L N n)
theorem slices_IndexFunc_api_Errno_api_Errno.l0_s (N n : Nat) (s_ : (List Int)) (t7_ : Int) (t8_ : Int) : slices_IndexFunc_api_Errno_api_Errno.l0 N (n + 1) s_ t7_ t8_ = slices_IndexFunc_api_Errno_api_Errno.s0 N (slices_IndexFunc_api_Errno_api_Errno.l0 N n) s_ t7_ t8_ := rfl
def slices_IndexFunc_api_Errno_api_Errno (N : Nat) (s_ : (List Int)) : Option Int := slices_IndexFunc_api_Errno_api_Errno.e N (slices_IndexFunc_api_Errno_api_Errno.l0 N N) s_
/-! ### f32: slices.ContainsFunc[[]gamehall/api.Errno,gamehall/api.Errno] -/
def slices_ContainsFunc_api_Errno_api_Errno.e (N : Nat) (s_ : (List Int)) : Option Bool :=
  (slices_IndexFunc_api_Errno_api_Errno N s_).bind fun y1 =>
  some (leI 0 y1)
def slices_ContainsFunc_api_Errno_api_Errno (N : Nat) (s_ : (List Int)) : Option Bool := slices_ContainsFunc_api_Errno_api_Errno.e N s_
/-! ### f11: gamehall/gamehallkeep1.fine -/
def gamehallkeep1_fine.e (N : Nat) (l_ : (List Int)) : Option Bool :=
  (slices_ContainsFunc_api_Errno_api_Errno N l_).bind fun y1 =>
  some (!y1)
def gamehallkeep1_fine (N : Nat) (l_ : (List Int)) : Option Bool := gamehallkeep1_fine.e N l_
/-! ### f3: gamehall/gamehallkeep1.SymmTurned -/
def gamehallkeep1_SymmTurned.e (N : Nat) (width : Int) (height : Int) (colours : Int) : Option Bool :=
  (symm_Colours N 2 2 2).bind fun y1 =>
  bif (!(eqI y1.2 0)) then some false
  else bif (!(eqI y1.1 6)) then some false
  else (symm_Colours N width height colours).bind fun y2 =>
  (symm_Colours N height width colours).bind fun y3 =>
  (symm_Colours N width height (w64 (colours + 1))).bind fun y4 =>
  bif (eqI y2.2 y3.2) then (bif (eqI y2.1 y3.1) then ((gamehallkeep1_fine N [y2.2, y4.2]).bind fun y5 =>
      bif (!y5) then some true
      else some (ltI y2.1 y4.1))
    else some false)
  else some false
def gamehallkeep1_SymmTurned (N : Nat) (width : Int) (height : Int) (colours : Int) : Option Bool := gamehallkeep1_SymmTurned.e N width height colours
/-! ### f34: gamehall/symm.check -/
def symm_check.e (N : Nat) (width : Int) (height : Int) (s_ : Int) : Option Int :=
  (symm_Check N width height).bind fun y1 =>
  bif (!(eqI y1 0)) then some y1
  else bif (ltI s_ 0) then some 8
  else (symm_many N width height).bind fun y2 =>
  bif (leI y2 s_) then some 8
  else some 0
def symm_check (N : Nat) (width : Int) (height : Int) (s_ : Int) : Option Int := symm_check.e N width height s_
/-! ### f12: gamehall/symm.Compose -/
def symm_Compose.e (N : Nat) (r0 : Int → Int → Int → Int → Int → Int → Int → Option (Int × Int)) (width : Int) (height : Int) (a_ : Int) (b_ : Int) : Option (Int × Int) :=
  r0 width height a_ b_ a_ b_ 0
def symm_Compose.s0 (N : Nat) (r0 : Int → Int → Int → Int → Int → Int → Int → Option (Int × Int)) (width : Int) (height : Int) (a_ : Int) (b_ : Int) (t15_ : Int) (t15_2 : Int) (t16_ : Int) : Option (Int × Int) :=
  bif (ltI t16_ 2) then (bif (eqI t16_ 0) then ((symm_check N width height t15_).bind fun y1 =>
      bif (!(eqI y1 0)) then (some (0, y1))
      else r0 width height a_ b_ t15_ t15_2 (w64 (t16_ + 1)))
    else bif (eqI t16_ 1) then ((symm_check N width height t15_2).bind fun y2 =>
      bif (!(eqI y2 0)) then (some (0, y2))
      else r0 width height a_ b_ t15_ t15_2 (w64 (t16_ + 1)))
    else none)
  else bif (!(eqI (Go.bits .and .i64 a_ 4) 0)) then (some ((Go.bits .xor .i64 a_ (Go.bits .or .i64 (Go.bits .or .i64 (Go.bits .and .i64 b_ 4) (Go.bits .and .i64 (Int.fdiv b_ (2 ^ (min (1 : Int).toNat 64))) 1)) (Go.bits .and .i64 (w64 (b_ * 2 ^ (min (1 : Int).toNat 64))) 2))), 0))
  else some ((Go.bits .xor .i64 a_ b_), 0)
def symm_Compose.L (N : Nat) : Nat → (Int → Int → Int → Int → Int → Int → Int → Option (Int × Int))
  | 0 => fun _ _ _ _ _ _ _ => none
  | n + 1 => fun width height a_ b_ t15_ t15_2 t16_ => symm_Compose.s0 N (symm_Compose.L N n) width height a_ b_ t15_ t15_2 t16_
def symm_Compose.l0 (N : Nat) (n : Nat) : Int → Int → Int → Int → Int → Int → Int → Option (Int × Int) := (symm_Compose.L N n)
theorem symm_Compose.l0_s (N n : Nat) (width : Int) (height : Int) (a_ : Int) (b_ : Int) (t15_ : Int) (t15_2 : Int) (t16_ : Int) : symm_Compose.l0 N (n + 1) width height a_ b_ t15_ t15_2 t16_ = symm_Compose.s0 N (symm_Compose.l0 N n) width height a_ b_ t15_ t15_2 t16_ := rfl
def symm_Compose (N : Nat) (width : Int) (height : Int) (a_ : Int) (b_ : Int) : Option (Int × Int) := symm_Compose.e N (symm_Compose.l0 N N) width height a_ b_
/-! ### f15: gamehall/symm.Map -/
def symm_Map.e (N : Nat) (width : Int) (height : Int) (s_ : Int) (square : Int) : Option (Int × Int) :=
  (symm_check N width height s_).bind fun y1 =>
  bif (!(eqI y1 0)) then (some (0, y1))
  else bif (ltI square 0) then (some (0, 4))
  else bif (leI (w64 (width * height)) square) then (some (0, 4))
  else (symm_image N width height s_ square).bind fun y3 =>
  some (y3, 0)
def symm_Map (N : Nat) (width : Int) (height : Int) (s_ : Int) (square : Int) : Option (Int × Int) := symm_Map.e N width height s_ square
/-! ### f23: gamehall/symm.Apply -/
def symm_Apply.e (N : Nat) (r0 : Int → Int → Int → (List Int) → Int → Int → (List Int) → Option ((List Int) × Int)) (width : Int) (height : Int) (s_ : Int) (cells : (List Int)) : Option ((List Int) × Int) :=
  (symm_check N width height s_).bind fun y1 =>
  bif (!(eqI y1 0)) then (some ([], y1))
  else bif (!(eqI (cells.length : Int) (w64 (width * height)))) then (some ([], 3))
  else chk (leI 0 (cells.length : Int) && (decide ((cells.length : Int) < 9223372036854775808) && capOk 8 (cells.length : Int).toNat)) <|
  r0 width height s_ cells (cells.length : Int) 0 (List.replicate (cells.length : Int).toNat (0 : Int))
def symm_Apply.s0 (N : Nat) (r0 : Int → Int → Int → (List Int) → Int → Int → (List Int) → Option ((List Int) × Int)) (width : Int) (height : Int) (s_ : Int) (t30_ : (List Int)) (t31_ : Int) (t32_ : Int) (out : (List Int)) : Option ((List Int) × Int) :=
  bif (ltI t32_ t31_) then (chk ((leI 0 t32_) && (ltI t32_ (t30_.length : Int))) <|
    (symm_image N width height s_ t32_).bind fun y4 =>
    chk ((leI 0 y4) && (ltI y4 (out.length : Int))) <|
    r0 width height s_ t30_ t31_ (w64 (t32_ + 1)) (out.set y4.toNat (gD (0 : Int) t30_ t32_)))
  else some (out, 0)
def symm_Apply.L (N : Nat) : Nat → (Int → Int → Int → (List Int) → Int → Int → (List Int) → Option ((List Int) × Int))
  | 0 => fun _ _ _ _ _ _ _ => none
  | n + 1 => fun width height s_ t30_ t31_ t32_ out => symm_Apply.s0 N (symm_Apply.L N n) width height s_ t30_ t31_ t32_ out
def symm_Apply.l0 (N : Nat) (n : Nat) : Int → Int → Int → (List Int) → Int → Int → (List Int) → Option ((List Int) × Int) := (symm_Apply.L N n)
theorem symm_Apply.l0_s (N n : Nat) (width : Int) (height : Int) (s_ : Int) (t30_ : (List Int)) (t31_ : Int) (t32_ : Int) (out : (List Int)) : symm_Apply.l0 N (n + 1) width height s_ t30_ t31_ t32_ out = symm_Apply.s0 N (symm_Apply.l0 N n) width height s_ t30_ t31_ t32_ out := rfl
def symm_Apply (N : Nat) (width : Int) (height : Int) (s_ : Int) (cells : (List Int)) : Option ((List Int) × Int) := symm_Apply.e N (symm_Apply.l0 N N) width height s_ cells
/-! ### f22: slices.Equal[[]int,int] -/
def slices_Equal_int_int.e (N : Nat) (r0 : (List Int) → (List Int) → Int → Int → Option Bool) (s1_ : (List Int)) (s2_ : (List Int)) : Option Bool :=
  bif (!(eqI (s1_.length : Int) (s2_.length : Int))) then some false
  else r0 s1_ s2_ (s1_.length : Int) 0
def slices_Equal_int_int.s0 (N : Nat) (r0 : (List Int) → (List Int) → Int → Int → Option Bool) (s1_ : (List Int)) (s2_ : (List Int)) (t12_ : Int) (t13_ : Int) : Option Bool :=
  bif (ltI t13_ t12_) then (chk ((leI 0 t13_) && (ltI t13_ (s1_.length : Int))) <|
    chk ((leI 0 t13_) && (ltI t13_ (s2_.length : Int))) <|
    bif (!(eqI (gD (0 : Int) s1_ t13_) (gD (0 : Int) s2_ t13_))) then some false
    else r0 s1_ s2_ t12_ (w64 (t13_ + 1)))
  else some true
def slices_Equal_int_int.L (N : Nat) : Nat → ((List Int) → (List Int) → Int → Int → Option Bool)
  | 0 => fun _ _ _ _ => none
  | n + 1 => fun s1_ s2_ t12_ t13_ => slices_Equal_int_int.s0 N (slices_Equal_int_int.L N n) s1_ s2_ t12_ t13_
def slices_Equal_int_int.l0 (N : Nat) (n : Nat) : (List Int) → (List Int) → Int → Int → Option Bool := (slices_Equal_int_int.L N n)
theorem slices_Equal_int_int.l0_s (N n : Nat) (s1_ : (List Int)) (s2_ : (List Int)) (t12_ : Int) (t13_ : Int) : slices_Equal_int_int.l0 N (n + 1) s1_ s2_ t12_ t13_ = slices_Equal_int_int.s0 N (slices_Equal_int_int.l0 N n) s1_ s2_ t12_ t13_ := rfl
def slices_Equal_int_int (N : Nat) (s1_ : (List Int)) (s2_ : (List Int)) : Option Bool := slices_Equal_int_int.e N (slices_Equal_int_int.l0 N N) s1_ s2_
/-! ### f13: gamehall/gamehallkeep1.moved -/
def gamehallkeep1_moved.e (N : Nat) : Option Bool :=
  (symm_Map N 3 3 5 0).bind fun y1 =>
  (symm_Apply N 2 1 1 [5, 6]).bind fun y2 =>
  bif (eqI y1.2 0) then (bif (eqI y1.1 2) then (bif (eqI y2.2 0) then ((slices_Equal_int_int N y2.1 [6, 5]).bind fun y3 =>
        some y3)
      else some false)
    else some false)
  else some false
def gamehallkeep1_moved (N : Nat) : Option Bool := gamehallkeep1_moved.e N
/-! ### f14: gamehall/symm.Inverse -/
def symm_Inverse.e (N : Nat) (width : Int) (height : Int) (s_ : Int) : Option (Int × Int) :=
  (symm_check N width height s_).bind fun y1 =>
  bif (!(eqI y1 0)) then (some (0, y1))
  else bif (!(eqI (Go.bits .and .i64 s_ 4) 0)) then (some ((Go.bits .or .i64 (Go.bits .or .i64 4 (Go.bits .and .i64 (Int.fdiv s_ (2 ^ (min (1 : Int).toNat 64))) 1)) (Go.bits .and .i64 (w64 (s_ * 2 ^ (min (1 : Int).toNat 64))) 2)), 0))
  else some (s_, 0)
def symm_Inverse (N : Nat) (width : Int) (height : Int) (s_ : Int) : Option (Int × Int) := symm_Inverse.e N width height s_
/-! ### f4: gamehall/gamehallkeep1.SymmGroup -/
def gamehallkeep1_SymmGroup.e (N : Nat) (width : Int) (height : Int) (a_ : Int) (b_ : Int) (square : Int) : Option Bool :=
  (symm_Compose N 3 3 4 1).bind fun y1 =>
  bif (!(eqI y1.2 0)) then some false
  else bif (!(eqI y1.1 6)) then some false
  else (gamehallkeep1_moved N).bind fun y2 =>
  bif (!y2) then some false
  else (symm_Inverse N 3 3 5).bind fun y3 =>
  bif (!(eqI y3.2 0)) then some false
  else bif (!(eqI y3.1 6)) then some false
  else (symm_Compose N width height a_ b_).bind fun y4 =>
  (symm_Inverse N width height a_).bind fun y5 =>
  (symm_Map N width height b_ square).bind fun y6 =>
  bif (!(eqI y4.2 0)) then (some (eqI y4.1 0))
  else bif (leI 4 a_) then (bif (!(eqI y4.1 (Go.bits .xor .i64 a_ (w64 ((w64 ((w64 ((w64 (Int.tdiv b_ 4)) * 4)) + (w64 ((Int.tmod b_ 2) * 2)))) + (Int.tmod (w64 (Int.tdiv b_ 2)) 2)))))) then some false
    else bif (!(eqI y5.1 (w64 ((w64 (4 + (w64 ((Int.tmod a_ 2) * 2)))) + (Int.tmod (w64 (Int.tdiv a_ 2)) 2))))) then some false
    else bif (!(eqI y6.2 0)) then (some (eqI y5.2 0))
    else (symm_Map N width height a_ y6.1).bind fun y15 =>
    (symm_Map N width height y4.1 square).bind fun y16 =>
    (symm_Map N width height y5.1 y15.1).bind fun y17 =>
    (gamehallkeep1_fine N [y5.2, y15.2, y16.2, y17.2]).bind fun y19 =>
    bif y19 then (bif (eqI y15.1 y16.1) then (some (eqI y17.1 y6.1))
      else some false)
    else some false)
  else bif (!(eqI y4.1 (Go.bits .xor .i64 a_ b_))) then some false
  else bif (!(eqI y5.1 a_)) then some false
  else bif (!(eqI y6.2 0)) then (some (eqI y5.2 0))
  else (symm_Map N width height a_ y6.1).bind fun y21 =>
  (symm_Map N width height y4.1 square).bind fun y22 =>
  (symm_Map N width height y5.1 y21.1).bind fun y23 =>
  (gamehallkeep1_fine N [y5.2, y21.2, y22.2, y23.2]).bind fun y25 =>
  bif y25 then (bif (eqI y21.1 y22.1) then (some (eqI y23.1 y6.1))
    else some false)
  else some false
def gamehallkeep1_SymmGroup (N : Nat) (width : Int) (height : Int) (a_ : Int) (b_ : Int) (square : Int) : Option Bool := gamehallkeep1_SymmGroup.e N width height a_ b_ square
/-! ### f50: cmp.isNaN[int] -/
def cmp_isNaN_int.e (N : Nat) (x_ : Int) : Option Bool :=
  some (!(eqI x_ x_))
def cmp_isNaN_int (N : Nat) (x_ : Int) : Option Bool := cmp_isNaN_int.e N x_
/-! ### f48: cmp.Compare[int] -/
def cmp_Compare_int.e (N : Nat) (x_ : Int) (y_ : Int) : Option Int :=
  (cmp_isNaN_int N x_).bind fun y1 =>
  (cmp_isNaN_int N y_).bind fun y2 =>
  bif y1 then (bif y2 then some 0
    else some (-1))
  else bif y2 then some 1
  else bif (ltI x_ y_) then (some (-1))
  else bif (ltI y_ x_) then some 1
  else some 0
def cmp_Compare_int (N : Nat) (x_ : Int) (y_ : Int) : Option Int := cmp_Compare_int.e N x_ y_
/-! ### f39: slices.Compare[[]int,int] -/
def slices_Compare_int_int.e (N : Nat) (r0 : (List Int) → (List Int) → (List Int) → Int → Int → Option Int) (s1_ : (List Int)) (s2_ : (List Int)) : Option Int :=
  r0 s1_ s2_ s1_ (s1_.length : Int) 0
def slices_Compare_int_int.s0 (N : Nat) (r0 : (List Int) → (List Int) → (List Int) → Int → Int → Option Int) (s1_ : (List Int)) (s2_ : (List Int)) (t9_ : (List Int)) (t10_ : Int) (t11_ : Int) : Option Int :=
  bif (ltI t11_ t10_) then (chk ((leI 0 t11_) && (ltI t11_ (t9_.length : Int))) <|
    bif (leI (s2_.length : Int) t11_) then some 1
    else chk ((leI 0 t11_) && (ltI t11_ (s2_.length : Int))) <|
    (cmp_Compare_int N (gD (0 : Int) t9_ t11_) (gD (0 : Int) s2_ t11_)).bind fun y2 =>
    bif (!(eqI y2 0)) then some y2
    else r0 s1_ s2_ t9_ t10_ (w64 (t11_ + 1)))
  else bif (ltI (s1_.length : Int) (s2_.length : Int)) then (some (-1))
  else some 0
def slices_Compare_int_int.L (N : Nat) : Nat → ((List Int) → (List Int) → (List Int) → Int → Int → Option Int)
  | 0 => fun _ _ _ _ _ => none
  | n + 1 => fun s1_ s2_ t9_ t10_ t11_ => slices_Compare_int_int.s0 N (slices_Compare_int_int.L N n) s1_ s2_ t9_ t10_ t11_
def slices_Compare_int_int.l0 (N : Nat) (n : Nat) : (List Int) → (List Int) → (List Int) → Int → Int → Option Int := (slices_Compare_int_int.L N n)
theorem slices_Compare_int_int.l0_s (N n : Nat) (s1_ : (List Int)) (s2_ : (List Int)) (t9_ : (List Int)) (t10_ : Int) (t11_ : Int) : slices_Compare_int_int.l0 N (n + 1) s1_ s2_ t9_ t10_ t11_ = slices_Compare_int_int.s0 N (slices_Compare_int_int.l0 N n) s1_ s2_ t9_ t10_ t11_ := rfl
def slices_Compare_int_int (N : Nat) (s1_ : (List Int)) (s2_ : (List Int)) : Option Int := slices_Compare_int_int.e N (slices_Compare_int_int.l0 N N) s1_ s2_
/-! ### f21: gamehall/symm.Canon -/
def symm_Canon.e (N : Nat) (r0 : Int → Int → (List Int) → Int → Int → (List Int) → Option ((List Int) × (Int × Int))) (width : Int) (height : Int) (cells : (List Int)) : Option ((List Int) × (Int × Int)) :=
  (symm_Apply N width height 0 cells).bind fun y1 =>
  bif (!(eqI y1.2 0)) then (some ([], (0, y1.2)))
  else r0 width height cells 0 1 y1.1
def symm_Canon.s0 (N : Nat) (r0 : Int → Int → (List Int) → Int → Int → (List Int) → Option ((List Int) × (Int × Int))) (width : Int) (height : Int) (cells : (List Int)) (by_ : Int) (s_ : Int) (best : (List Int)) : Option ((List Int) × (Int × Int)) :=
  (symm_many N width height).bind fun y2 =>
  bif (ltI s_ y2) then ((symm_Apply N width height s_ cells).bind fun y3 =>
    (slices_Compare_int_int N y3.1 best).bind fun y4 =>
    bif (ltI y4 0) then (r0 width height cells s_ (w64 (s_ + 1)) y3.1)
    else r0 width height cells by_ (w64 (s_ + 1)) best)
  else some (best, (by_, 0))
def symm_Canon.L (N : Nat) : Nat → (Int → Int → (List Int) → Int → Int → (List Int) → Option ((List Int) × (Int × Int)))
  | 0 => fun _ _ _ _ _ _ => none
  | n + 1 => fun width height cells by_ s_ best => symm_Canon.s0 N (symm_Canon.L N n) width height cells by_ s_ best
def symm_Canon.l0 (N : Nat) (n : Nat) : Int → Int → (List Int) → Int → Int → (List Int) → Option ((List Int) × (Int × Int)) := (symm_Canon.L N n)
theorem symm_Canon.l0_s (N n : Nat) (width : Int) (height : Int) (cells : (List Int)) (by_ : Int) (s_ : Int) (best : (List Int)) : symm_Canon.l0 N (n + 1) width height cells by_ s_ best = symm_Canon.s0 N (symm_Canon.l0 N n) width height cells by_ s_ best := rfl
def symm_Canon (N : Nat) (width : Int) (height : Int) (cells : (List Int)) : Option ((List Int) × (Int × Int)) := symm_Canon.e N (symm_Canon.l0 N N) width height cells
/-! ### f7: gamehall/gamehallkeep1.SymmCanonical -/
def gamehallkeep1_SymmCanonical.e (N : Nat) (width : Int) (height : Int) (s_ : Int) (cells : (List Int)) : Option Bool :=
  (symm_Canon N 2 1 [6, 5]).bind fun y1 =>
  bif (!(eqI y1.2.2 0)) then some false
  else bif (!(eqI y1.2.1 1)) then some false
  else (slices_Equal_int_int N y1.1 [5, 6]).bind fun y2 =>
  bif (!y2) then some false
  else (gamehallkeep1_moved N).bind fun y3 =>
  bif (!y3) then some false
  else (symm_Canon N width height cells).bind fun y4 =>
  (symm_Apply N width height s_ cells).bind fun y5 =>
  (gamehallkeep1_fine N [y4.2.2, y5.2]).bind fun y6 =>
  bif (!y6) then (bif (eqI y4.2.2 0) then some true
    else some (eqI (y4.1.length : Int) 0))
  else (symm_Canon N width height y5.1).bind fun y8 =>
  (symm_Canon N width height y4.1).bind fun y9 =>
  (symm_Apply N width height y4.2.1 cells).bind fun y10 =>
  (gamehallkeep1_fine N [y8.2.2, y9.2.2, y10.2]).bind fun y11 =>
  bif y11 then ((slices_Equal_int_int N y4.1 y8.1).bind fun y12 =>
    bif y12 then ((slices_Equal_int_int N y4.1 y9.1).bind fun y13 =>
      bif y13 then (bif (eqI y9.2.1 0) then ((slices_Equal_int_int N y4.1 y10.1).bind fun y14 =>
          some y14)
        else some false)
      else some false)
    else some false)
  else some false
def gamehallkeep1_SymmCanonical (N : Nat) (width : Int) (height : Int) (s_ : Int) (cells : (List Int)) : Option Bool := gamehallkeep1_SymmCanonical.e N width height s_ cells
end Go.Proofs.Ytaaljooihacpgaa.Am
