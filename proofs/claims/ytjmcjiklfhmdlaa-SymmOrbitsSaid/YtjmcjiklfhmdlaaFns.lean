/- PRINTED by gen.py: what the functions compute, as plain Lean functions with fuel. -/
import Derived.Test.YtjmcjiklfhmdlaaAm14
set_option linter.unusedVariables false
set_option linter.unusedSimpArgs false
namespace Go.Proofs.Ytjmcjiklfhmdlaa.Am
open Go
/-! ### f73: gamehall/symm.Check -/
def symm_Check.e (N : Nat) (width : Int) (height : Int) : Option Int :=
  bif (ltI width 1) then some 4
  else bif (ltI 8 width) then some 4
  else bif (ltI height 1) then some 4
  else bif (ltI 8 height) then some 4
  else some 0
def symm_Check (N : Nat) (width : Int) (height : Int) : Option Int := symm_Check.e N width height
/-! ### f69: gamehall/symm.many -/
def symm_many.e (N : Nat) (width : Int) (height : Int) : Option Int :=
  bif (eqI width height) then some 8
  else some 4
def symm_many (N : Nat) (width : Int) (height : Int) : Option Int := symm_many.e N width height
/-! ### f94: gamehall/symm.check -/
def symm_check.e (N : Nat) (width : Int) (height : Int) (s_ : Int) : Option Int :=
  (symm_Check N width height).bind fun y1 =>
  bif (!(eqI y1 0)) then some y1
  else bif (ltI s_ 0) then some 8
  else (symm_many N width height).bind fun y2 =>
  bif (leI y2 s_) then some 8
  else some 0
def symm_check (N : Nat) (width : Int) (height : Int) (s_ : Int) : Option Int := symm_check.e N width height s_
/-! ### f70: gamehall/symm.image -/
def symm_image.e (N : Nat) (width : Int) (height : Int) (s_ : Int) (square : Int) : Option Int :=
  bif (eqI width 0) then none
  else bif (eqI width 0) then none
  else let v1 : Int := (w64 (Int.tdiv square width))
  bif (!(eqI (Go.bits .and .i64 s_ 4) 0)) then (bif (!(eqI (Go.bits .and .i64 s_ 1) 0)) then (let v4 : Int := (w64 ((w64 (width - 1)) - v1))
      bif (!(eqI (Go.bits .and .i64 s_ 2) 0)) then (some (w64 ((w64 ((w64 ((w64 (height - 1)) - (Int.tmod square width))) * width)) + v4)))
      else some (w64 ((w64 ((Int.tmod square width) * width)) + v4)))
    else bif (!(eqI (Go.bits .and .i64 s_ 2) 0)) then (some (w64 ((w64 ((w64 ((w64 (height - 1)) - (Int.tmod square width))) * width)) + v1)))
    else some (w64 ((w64 ((Int.tmod square width) * width)) + v1)))
  else bif (!(eqI (Go.bits .and .i64 s_ 1) 0)) then (let v14 : Int := (w64 ((w64 (width - 1)) - (Int.tmod square width)))
    bif (!(eqI (Go.bits .and .i64 s_ 2) 0)) then (some (w64 ((w64 ((w64 ((w64 (height - 1)) - v1)) * width)) + v14)))
    else some (w64 ((w64 (v1 * width)) + v14)))
  else bif (!(eqI (Go.bits .and .i64 s_ 2) 0)) then (some (w64 ((w64 ((w64 ((w64 (height - 1)) - v1)) * width)) + (Int.tmod square width))))
  else some (w64 ((w64 (v1 * width)) + (Int.tmod square width)))
def symm_image (N : Nat) (width : Int) (height : Int) (s_ : Int) (square : Int) : Option Int := symm_image.e N width height s_ square
/-! ### f68: gamehall/symm.Map -/
def symm_Map.e (N : Nat) (width : Int) (height : Int) (s_ : Int) (square : Int) : Option (Int × Int) :=
  (symm_check N width height s_).bind fun y1 =>
  bif (!(eqI y1 0)) then (some (0, y1))
  else bif (ltI square 0) then (some (0, 4))
  else bif (leI (w64 (width * height)) square) then (some (0, 4))
  else (symm_image N width height s_ square).bind fun y3 =>
  some (y3, 0)
def symm_Map (N : Nat) (width : Int) (height : Int) (s_ : Int) (square : Int) : Option (Int × Int) := symm_Map.e N width height s_ square
/-! ### f106: math/bits.Len64 -/
def math_bits_Len64.e (N : Nat) (x_ : Int) : Option Int :=
  bif (leI 4294967296 x_) then (let v1 : Int := (Int.fdiv x_ (2 ^ (min (32 : Int).toNat 64)))
    bif (leI 65536 v1) then (let v2 : Int := (Int.fdiv v1 (2 ^ (min (16 : Int).toNat 64)))
      bif (leI 256 v2) then (let v3 : Int := (Int.fdiv v2 (2 ^ (min (8 : Int).toNat 64)))
        chk ((leI 0 (IntKind.wrap .u8 v3)) && ltI (IntKind.wrap .u8 v3) ((⟨#[0, 1, 2, 2, 3, 3, 3, 3, 4, 4, 4, 4, 4, 4, 4, 4, 5, 5, 5, 5, 5, 5, 5, 5, 5, 5, 5, 5, 5, 5, 5, 5, 6, 6, 6, 6, 6, 6, 6, 6, 6, 6, 6, 6, 6, 6, 6, 6, 6, 6, 6, 6, 6, 6, 6, 6, 6, 6, 6, 6, 6, 6, 6, 6, 7, 7, 7, 7, 7, 7, 7, 7, 7, 7, 7, 7, 7, 7, 7, 7, 7, 7, 7, 7, 7, 7, 7, 7, 7, 7, 7, 7, 7, 7, 7, 7, 7, 7, 7, 7, 7, 7, 7, 7, 7, 7, 7, 7, 7, 7, 7, 7, 7, 7, 7, 7, 7, 7, 7, 7, 7, 7, 7, 7, 7, 7, 7, 7, 8, 8, 8, 8, 8, 8, 8, 8, 8, 8, 8, 8, 8, 8, 8, 8, 8, 8, 8, 8, 8, 8, 8, 8, 8, 8, 8, 8, 8, 8, 8, 8, 8, 8, 8, 8, 8, 8, 8, 8, 8, 8, 8, 8, 8, 8, 8, 8, 8, 8, 8, 8, 8, 8, 8, 8, 8, 8, 8, 8, 8, 8, 8, 8, 8, 8, 8, 8, 8, 8, 8, 8, 8, 8, 8, 8, 8, 8, 8, 8, 8, 8, 8, 8, 8, 8, 8, 8, 8, 8, 8, 8, 8, 8, 8, 8, 8, 8, 8, 8, 8, 8, 8, 8, 8, 8, 8, 8, 8, 8, 8, 8, 8, 8, 8, 8, 8, 8, 8, 8, 8, 8, 8, 8, 8, 8, 8, 8]⟩ : ByteArray).size : Int)) <|
        some (w64 (56 + (w64 (bt (⟨#[0, 1, 2, 2, 3, 3, 3, 3, 4, 4, 4, 4, 4, 4, 4, 4, 5, 5, 5, 5, 5, 5, 5, 5, 5, 5, 5, 5, 5, 5, 5, 5, 6, 6, 6, 6, 6, 6, 6, 6, 6, 6, 6, 6, 6, 6, 6, 6, 6, 6, 6, 6, 6, 6, 6, 6, 6, 6, 6, 6, 6, 6, 6, 6, 7, 7, 7, 7, 7, 7, 7, 7, 7, 7, 7, 7, 7, 7, 7, 7, 7, 7, 7, 7, 7, 7, 7, 7, 7, 7, 7, 7, 7, 7, 7, 7, 7, 7, 7, 7, 7, 7, 7, 7, 7, 7, 7, 7, 7, 7, 7, 7, 7, 7, 7, 7, 7, 7, 7, 7, 7, 7, 7, 7, 7, 7, 7, 7, 8, 8, 8, 8, 8, 8, 8, 8, 8, 8, 8, 8, 8, 8, 8, 8, 8, 8, 8, 8, 8, 8, 8, 8, 8, 8, 8, 8, 8, 8, 8, 8, 8, 8, 8, 8, 8, 8, 8, 8, 8, 8, 8, 8, 8, 8, 8, 8, 8, 8, 8, 8, 8, 8, 8, 8, 8, 8, 8, 8, 8, 8, 8, 8, 8, 8, 8, 8, 8, 8, 8, 8, 8, 8, 8, 8, 8, 8, 8, 8, 8, 8, 8, 8, 8, 8, 8, 8, 8, 8, 8, 8, 8, 8, 8, 8, 8, 8, 8, 8, 8, 8, 8, 8, 8, 8, 8, 8, 8, 8, 8, 8, 8, 8, 8, 8, 8, 8, 8, 8, 8, 8, 8, 8, 8, 8, 8, 8]⟩ : ByteArray) (IntKind.wrap .u8 v3))))))
      else chk ((leI 0 (IntKind.wrap .u8 v2)) && ltI (IntKind.wrap .u8 v2) ((⟨#[0, 1, 2, 2, 3, 3, 3, 3, 4, 4, 4, 4, 4, 4, 4, 4, 5, 5, 5, 5, 5, 5, 5, 5, 5, 5, 5, 5, 5, 5, 5, 5, 6, 6, 6, 6, 6, 6, 6, 6, 6, 6, 6, 6, 6, 6, 6, 6, 6, 6, 6, 6, 6, 6, 6, 6, 6, 6, 6, 6, 6, 6, 6, 6, 7, 7, 7, 7, 7, 7, 7, 7, 7, 7, 7, 7, 7, 7, 7, 7, 7, 7, 7, 7, 7, 7, 7, 7, 7, 7, 7, 7, 7, 7, 7, 7, 7, 7, 7, 7, 7, 7, 7, 7, 7, 7, 7, 7, 7, 7, 7, 7, 7, 7, 7, 7, 7, 7, 7, 7, 7, 7, 7, 7, 7, 7, 7, 7, 8, 8, 8, 8, 8, 8, 8, 8, 8, 8, 8, 8, 8, 8, 8, 8, 8, 8, 8, 8, 8, 8, 8, 8, 8, 8, 8, 8, 8, 8, 8, 8, 8, 8, 8, 8, 8, 8, 8, 8, 8, 8, 8, 8, 8, 8, 8, 8, 8, 8, 8, 8, 8, 8, 8, 8, 8, 8, 8, 8, 8, 8, 8, 8, 8, 8, 8, 8, 8, 8, 8, 8, 8, 8, 8, 8, 8, 8, 8, 8, 8, 8, 8, 8, 8, 8, 8, 8, 8, 8, 8, 8, 8, 8, 8, 8, 8, 8, 8, 8, 8, 8, 8, 8, 8, 8, 8, 8, 8, 8, 8, 8, 8, 8, 8, 8, 8, 8, 8, 8, 8, 8, 8, 8, 8, 8, 8, 8]⟩ : ByteArray).size : Int)) <|
      some (w64 (48 + (w64 (bt (⟨#[0, 1, 2, 2, 3, 3, 3, 3, 4, 4, 4, 4, 4, 4, 4, 4, 5, 5, 5, 5, 5, 5, 5, 5, 5, 5, 5, 5, 5, 5, 5, 5, 6, 6, 6, 6, 6, 6, 6, 6, 6, 6, 6, 6, 6, 6, 6, 6, 6, 6, 6, 6, 6, 6, 6, 6, 6, 6, 6, 6, 6, 6, 6, 6, 7, 7, 7, 7, 7, 7, 7, 7, 7, 7, 7, 7, 7, 7, 7, 7, 7, 7, 7, 7, 7, 7, 7, 7, 7, 7, 7, 7, 7, 7, 7, 7, 7, 7, 7, 7, 7, 7, 7, 7, 7, 7, 7, 7, 7, 7, 7, 7, 7, 7, 7, 7, 7, 7, 7, 7, 7, 7, 7, 7, 7, 7, 7, 7, 8, 8, 8, 8, 8, 8, 8, 8, 8, 8, 8, 8, 8, 8, 8, 8, 8, 8, 8, 8, 8, 8, 8, 8, 8, 8, 8, 8, 8, 8, 8, 8, 8, 8, 8, 8, 8, 8, 8, 8, 8, 8, 8, 8, 8, 8, 8, 8, 8, 8, 8, 8, 8, 8, 8, 8, 8, 8, 8, 8, 8, 8, 8, 8, 8, 8, 8, 8, 8, 8, 8, 8, 8, 8, 8, 8, 8, 8, 8, 8, 8, 8, 8, 8, 8, 8, 8, 8, 8, 8, 8, 8, 8, 8, 8, 8, 8, 8, 8, 8, 8, 8, 8, 8, 8, 8, 8, 8, 8, 8, 8, 8, 8, 8, 8, 8, 8, 8, 8, 8, 8, 8, 8, 8, 8, 8, 8, 8]⟩ : ByteArray) (IntKind.wrap .u8 v2))))))
    else bif (leI 256 v1) then (let v6 : Int := (Int.fdiv v1 (2 ^ (min (8 : Int).toNat 64)))
      chk ((leI 0 (IntKind.wrap .u8 v6)) && ltI (IntKind.wrap .u8 v6) ((⟨#[0, 1, 2, 2, 3, 3, 3, 3, 4, 4, 4, 4, 4, 4, 4, 4, 5, 5, 5, 5, 5, 5, 5, 5, 5, 5, 5, 5, 5, 5, 5, 5, 6, 6, 6, 6, 6, 6, 6, 6, 6, 6, 6, 6, 6, 6, 6, 6, 6, 6, 6, 6, 6, 6, 6, 6, 6, 6, 6, 6, 6, 6, 6, 6, 7, 7, 7, 7, 7, 7, 7, 7, 7, 7, 7, 7, 7, 7, 7, 7, 7, 7, 7, 7, 7, 7, 7, 7, 7, 7, 7, 7, 7, 7, 7, 7, 7, 7, 7, 7, 7, 7, 7, 7, 7, 7, 7, 7, 7, 7, 7, 7, 7, 7, 7, 7, 7, 7, 7, 7, 7, 7, 7, 7, 7, 7, 7, 7, 8, 8, 8, 8, 8, 8, 8, 8, 8, 8, 8, 8, 8, 8, 8, 8, 8, 8, 8, 8, 8, 8, 8, 8, 8, 8, 8, 8, 8, 8, 8, 8, 8, 8, 8, 8, 8, 8, 8, 8, 8, 8, 8, 8, 8, 8, 8, 8, 8, 8, 8, 8, 8, 8, 8, 8, 8, 8, 8, 8, 8, 8, 8, 8, 8, 8, 8, 8, 8, 8, 8, 8, 8, 8, 8, 8, 8, 8, 8, 8, 8, 8, 8, 8, 8, 8, 8, 8, 8, 8, 8, 8, 8, 8, 8, 8, 8, 8, 8, 8, 8, 8, 8, 8, 8, 8, 8, 8, 8, 8, 8, 8, 8, 8, 8, 8, 8, 8, 8, 8, 8, 8, 8, 8, 8, 8, 8, 8]⟩ : ByteArray).size : Int)) <|
      some (w64 (40 + (w64 (bt (⟨#[0, 1, 2, 2, 3, 3, 3, 3, 4, 4, 4, 4, 4, 4, 4, 4, 5, 5, 5, 5, 5, 5, 5, 5, 5, 5, 5, 5, 5, 5, 5, 5, 6, 6, 6, 6, 6, 6, 6, 6, 6, 6, 6, 6, 6, 6, 6, 6, 6, 6, 6, 6, 6, 6, 6, 6, 6, 6, 6, 6, 6, 6, 6, 6, 7, 7, 7, 7, 7, 7, 7, 7, 7, 7, 7, 7, 7, 7, 7, 7, 7, 7, 7, 7, 7, 7, 7, 7, 7, 7, 7, 7, 7, 7, 7, 7, 7, 7, 7, 7, 7, 7, 7, 7, 7, 7, 7, 7, 7, 7, 7, 7, 7, 7, 7, 7, 7, 7, 7, 7, 7, 7, 7, 7, 7, 7, 7, 7, 8, 8, 8, 8, 8, 8, 8, 8, 8, 8, 8, 8, 8, 8, 8, 8, 8, 8, 8, 8, 8, 8, 8, 8, 8, 8, 8, 8, 8, 8, 8, 8, 8, 8, 8, 8, 8, 8, 8, 8, 8, 8, 8, 8, 8, 8, 8, 8, 8, 8, 8, 8, 8, 8, 8, 8, 8, 8, 8, 8, 8, 8, 8, 8, 8, 8, 8, 8, 8, 8, 8, 8, 8, 8, 8, 8, 8, 8, 8, 8, 8, 8, 8, 8, 8, 8, 8, 8, 8, 8, 8, 8, 8, 8, 8, 8, 8, 8, 8, 8, 8, 8, 8, 8, 8, 8, 8, 8, 8, 8, 8, 8, 8, 8, 8, 8, 8, 8, 8, 8, 8, 8, 8, 8, 8, 8, 8, 8]⟩ : ByteArray) (IntKind.wrap .u8 v6))))))
    else chk ((leI 0 (IntKind.wrap .u8 v1)) && ltI (IntKind.wrap .u8 v1) ((⟨#[0, 1, 2, 2, 3, 3, 3, 3, 4, 4, 4, 4, 4, 4, 4, 4, 5, 5, 5, 5, 5, 5, 5, 5, 5, 5, 5, 5, 5, 5, 5, 5, 6, 6, 6, 6, 6, 6, 6, 6, 6, 6, 6, 6, 6, 6, 6, 6, 6, 6, 6, 6, 6, 6, 6, 6, 6, 6, 6, 6, 6, 6, 6, 6, 7, 7, 7, 7, 7, 7, 7, 7, 7, 7, 7, 7, 7, 7, 7, 7, 7, 7, 7, 7, 7, 7, 7, 7, 7, 7, 7, 7, 7, 7, 7, 7, 7, 7, 7, 7, 7, 7, 7, 7, 7, 7, 7, 7, 7, 7, 7, 7, 7, 7, 7, 7, 7, 7, 7, 7, 7, 7, 7, 7, 7, 7, 7, 7, 8, 8, 8, 8, 8, 8, 8, 8, 8, 8, 8, 8, 8, 8, 8, 8, 8, 8, 8, 8, 8, 8, 8, 8, 8, 8, 8, 8, 8, 8, 8, 8, 8, 8, 8, 8, 8, 8, 8, 8, 8, 8, 8, 8, 8, 8, 8, 8, 8, 8, 8, 8, 8, 8, 8, 8, 8, 8, 8, 8, 8, 8, 8, 8, 8, 8, 8, 8, 8, 8, 8, 8, 8, 8, 8, 8, 8, 8, 8, 8, 8, 8, 8, 8, 8, 8, 8, 8, 8, 8, 8, 8, 8, 8, 8, 8, 8, 8, 8, 8, 8, 8, 8, 8, 8, 8, 8, 8, 8, 8, 8, 8, 8, 8, 8, 8, 8, 8, 8, 8, 8, 8, 8, 8, 8, 8, 8, 8]⟩ : ByteArray).size : Int)) <|
    some (w64 (32 + (w64 (bt (⟨#[0, 1, 2, 2, 3, 3, 3, 3, 4, 4, 4, 4, 4, 4, 4, 4, 5, 5, 5, 5, 5, 5, 5, 5, 5, 5, 5, 5, 5, 5, 5, 5, 6, 6, 6, 6, 6, 6, 6, 6, 6, 6, 6, 6, 6, 6, 6, 6, 6, 6, 6, 6, 6, 6, 6, 6, 6, 6, 6, 6, 6, 6, 6, 6, 7, 7, 7, 7, 7, 7, 7, 7, 7, 7, 7, 7, 7, 7, 7, 7, 7, 7, 7, 7, 7, 7, 7, 7, 7, 7, 7, 7, 7, 7, 7, 7, 7, 7, 7, 7, 7, 7, 7, 7, 7, 7, 7, 7, 7, 7, 7, 7, 7, 7, 7, 7, 7, 7, 7, 7, 7, 7, 7, 7, 7, 7, 7, 7, 8, 8, 8, 8, 8, 8, 8, 8, 8, 8, 8, 8, 8, 8, 8, 8, 8, 8, 8, 8, 8, 8, 8, 8, 8, 8, 8, 8, 8, 8, 8, 8, 8, 8, 8, 8, 8, 8, 8, 8, 8, 8, 8, 8, 8, 8, 8, 8, 8, 8, 8, 8, 8, 8, 8, 8, 8, 8, 8, 8, 8, 8, 8, 8, 8, 8, 8, 8, 8, 8, 8, 8, 8, 8, 8, 8, 8, 8, 8, 8, 8, 8, 8, 8, 8, 8, 8, 8, 8, 8, 8, 8, 8, 8, 8, 8, 8, 8, 8, 8, 8, 8, 8, 8, 8, 8, 8, 8, 8, 8, 8, 8, 8, 8, 8, 8, 8, 8, 8, 8, 8, 8, 8, 8, 8, 8, 8, 8]⟩ : ByteArray) (IntKind.wrap .u8 v1))))))
  else bif (leI 65536 x_) then (let v9 : Int := (Int.fdiv x_ (2 ^ (min (16 : Int).toNat 64)))
    bif (leI 256 v9) then (let v10 : Int := (Int.fdiv v9 (2 ^ (min (8 : Int).toNat 64)))
      chk ((leI 0 (IntKind.wrap .u8 v10)) && ltI (IntKind.wrap .u8 v10) ((⟨#[0, 1, 2, 2, 3, 3, 3, 3, 4, 4, 4, 4, 4, 4, 4, 4, 5, 5, 5, 5, 5, 5, 5, 5, 5, 5, 5, 5, 5, 5, 5, 5, 6, 6, 6, 6, 6, 6, 6, 6, 6, 6, 6, 6, 6, 6, 6, 6, 6, 6, 6, 6, 6, 6, 6, 6, 6, 6, 6, 6, 6, 6, 6, 6, 7, 7, 7, 7, 7, 7, 7, 7, 7, 7, 7, 7, 7, 7, 7, 7, 7, 7, 7, 7, 7, 7, 7, 7, 7, 7, 7, 7, 7, 7, 7, 7, 7, 7, 7, 7, 7, 7, 7, 7, 7, 7, 7, 7, 7, 7, 7, 7, 7, 7, 7, 7, 7, 7, 7, 7, 7, 7, 7, 7, 7, 7, 7, 7, 8, 8, 8, 8, 8, 8, 8, 8, 8, 8, 8, 8, 8, 8, 8, 8, 8, 8, 8, 8, 8, 8, 8, 8, 8, 8, 8, 8, 8, 8, 8, 8, 8, 8, 8, 8, 8, 8, 8, 8, 8, 8, 8, 8, 8, 8, 8, 8, 8, 8, 8, 8, 8, 8, 8, 8, 8, 8, 8, 8, 8, 8, 8, 8, 8, 8, 8, 8, 8, 8, 8, 8, 8, 8, 8, 8, 8, 8, 8, 8, 8, 8, 8, 8, 8, 8, 8, 8, 8, 8, 8, 8, 8, 8, 8, 8, 8, 8, 8, 8, 8, 8, 8, 8, 8, 8, 8, 8, 8, 8, 8, 8, 8, 8, 8, 8, 8, 8, 8, 8, 8, 8, 8, 8, 8, 8, 8, 8]⟩ : ByteArray).size : Int)) <|
      some (w64 (24 + (w64 (bt (⟨#[0, 1, 2, 2, 3, 3, 3, 3, 4, 4, 4, 4, 4, 4, 4, 4, 5, 5, 5, 5, 5, 5, 5, 5, 5, 5, 5, 5, 5, 5, 5, 5, 6, 6, 6, 6, 6, 6, 6, 6, 6, 6, 6, 6, 6, 6, 6, 6, 6, 6, 6, 6, 6, 6, 6, 6, 6, 6, 6, 6, 6, 6, 6, 6, 7, 7, 7, 7, 7, 7, 7, 7, 7, 7, 7, 7, 7, 7, 7, 7, 7, 7, 7, 7, 7, 7, 7, 7, 7, 7, 7, 7, 7, 7, 7, 7, 7, 7, 7, 7, 7, 7, 7, 7, 7, 7, 7, 7, 7, 7, 7, 7, 7, 7, 7, 7, 7, 7, 7, 7, 7, 7, 7, 7, 7, 7, 7, 7, 8, 8, 8, 8, 8, 8, 8, 8, 8, 8, 8, 8, 8, 8, 8, 8, 8, 8, 8, 8, 8, 8, 8, 8, 8, 8, 8, 8, 8, 8, 8, 8, 8, 8, 8, 8, 8, 8, 8, 8, 8, 8, 8, 8, 8, 8, 8, 8, 8, 8, 8, 8, 8, 8, 8, 8, 8, 8, 8, 8, 8, 8, 8, 8, 8, 8, 8, 8, 8, 8, 8, 8, 8, 8, 8, 8, 8, 8, 8, 8, 8, 8, 8, 8, 8, 8, 8, 8, 8, 8, 8, 8, 8, 8, 8, 8, 8, 8, 8, 8, 8, 8, 8, 8, 8, 8, 8, 8, 8, 8, 8, 8, 8, 8, 8, 8, 8, 8, 8, 8, 8, 8, 8, 8, 8, 8, 8, 8]⟩ : ByteArray) (IntKind.wrap .u8 v10))))))
    else chk ((leI 0 (IntKind.wrap .u8 v9)) && ltI (IntKind.wrap .u8 v9) ((⟨#[0, 1, 2, 2, 3, 3, 3, 3, 4, 4, 4, 4, 4, 4, 4, 4, 5, 5, 5, 5, 5, 5, 5, 5, 5, 5, 5, 5, 5, 5, 5, 5, 6, 6, 6, 6, 6, 6, 6, 6, 6, 6, 6, 6, 6, 6, 6, 6, 6, 6, 6, 6, 6, 6, 6, 6, 6, 6, 6, 6, 6, 6, 6, 6, 7, 7, 7, 7, 7, 7, 7, 7, 7, 7, 7, 7, 7, 7, 7, 7, 7, 7, 7, 7, 7, 7, 7, 7, 7, 7, 7, 7, 7, 7, 7, 7, 7, 7, 7, 7, 7, 7, 7, 7, 7, 7, 7, 7, 7, 7, 7, 7, 7, 7, 7, 7, 7, 7, 7, 7, 7, 7, 7, 7, 7, 7, 7, 7, 8, 8, 8, 8, 8, 8, 8, 8, 8, 8, 8, 8, 8, 8, 8, 8, 8, 8, 8, 8, 8, 8, 8, 8, 8, 8, 8, 8, 8, 8, 8, 8, 8, 8, 8, 8, 8, 8, 8, 8, 8, 8, 8, 8, 8, 8, 8, 8, 8, 8, 8, 8, 8, 8, 8, 8, 8, 8, 8, 8, 8, 8, 8, 8, 8, 8, 8, 8, 8, 8, 8, 8, 8, 8, 8, 8, 8, 8, 8, 8, 8, 8, 8, 8, 8, 8, 8, 8, 8, 8, 8, 8, 8, 8, 8, 8, 8, 8, 8, 8, 8, 8, 8, 8, 8, 8, 8, 8, 8, 8, 8, 8, 8, 8, 8, 8, 8, 8, 8, 8, 8, 8, 8, 8, 8, 8, 8, 8]⟩ : ByteArray).size : Int)) <|
    some (w64 (16 + (w64 (bt (⟨#[0, 1, 2, 2, 3, 3, 3, 3, 4, 4, 4, 4, 4, 4, 4, 4, 5, 5, 5, 5, 5, 5, 5, 5, 5, 5, 5, 5, 5, 5, 5, 5, 6, 6, 6, 6, 6, 6, 6, 6, 6, 6, 6, 6, 6, 6, 6, 6, 6, 6, 6, 6, 6, 6, 6, 6, 6, 6, 6, 6, 6, 6, 6, 6, 7, 7, 7, 7, 7, 7, 7, 7, 7, 7, 7, 7, 7, 7, 7, 7, 7, 7, 7, 7, 7, 7, 7, 7, 7, 7, 7, 7, 7, 7, 7, 7, 7, 7, 7, 7, 7, 7, 7, 7, 7, 7, 7, 7, 7, 7, 7, 7, 7, 7, 7, 7, 7, 7, 7, 7, 7, 7, 7, 7, 7, 7, 7, 7, 8, 8, 8, 8, 8, 8, 8, 8, 8, 8, 8, 8, 8, 8, 8, 8, 8, 8, 8, 8, 8, 8, 8, 8, 8, 8, 8, 8, 8, 8, 8, 8, 8, 8, 8, 8, 8, 8, 8, 8, 8, 8, 8, 8, 8, 8, 8, 8, 8, 8, 8, 8, 8, 8, 8, 8, 8, 8, 8, 8, 8, 8, 8, 8, 8, 8, 8, 8, 8, 8, 8, 8, 8, 8, 8, 8, 8, 8, 8, 8, 8, 8, 8, 8, 8, 8, 8, 8, 8, 8, 8, 8, 8, 8, 8, 8, 8, 8, 8, 8, 8, 8, 8, 8, 8, 8, 8, 8, 8, 8, 8, 8, 8, 8, 8, 8, 8, 8, 8, 8, 8, 8, 8, 8, 8, 8, 8, 8]⟩ : ByteArray) (IntKind.wrap .u8 v9))))))
  else bif (leI 256 x_) then (let v13 : Int := (Int.fdiv x_ (2 ^ (min (8 : Int).toNat 64)))
    chk ((leI 0 (IntKind.wrap .u8 v13)) && ltI (IntKind.wrap .u8 v13) ((⟨#[0, 1, 2, 2, 3, 3, 3, 3, 4, 4, 4, 4, 4, 4, 4, 4, 5, 5, 5, 5, 5, 5, 5, 5, 5, 5, 5, 5, 5, 5, 5, 5, 6, 6, 6, 6, 6, 6, 6, 6, 6, 6, 6, 6, 6, 6, 6, 6, 6, 6, 6, 6, 6, 6, 6, 6, 6, 6, 6, 6, 6, 6, 6, 6, 7, 7, 7, 7, 7, 7, 7, 7, 7, 7, 7, 7, 7, 7, 7, 7, 7, 7, 7, 7, 7, 7, 7, 7, 7, 7, 7, 7, 7, 7, 7, 7, 7, 7, 7, 7, 7, 7, 7, 7, 7, 7, 7, 7, 7, 7, 7, 7, 7, 7, 7, 7, 7, 7, 7, 7, 7, 7, 7, 7, 7, 7, 7, 7, 8, 8, 8, 8, 8, 8, 8, 8, 8, 8, 8, 8, 8, 8, 8, 8, 8, 8, 8, 8, 8, 8, 8, 8, 8, 8, 8, 8, 8, 8, 8, 8, 8, 8, 8, 8, 8, 8, 8, 8, 8, 8, 8, 8, 8, 8, 8, 8, 8, 8, 8, 8, 8, 8, 8, 8, 8, 8, 8, 8, 8, 8, 8, 8, 8, 8, 8, 8, 8, 8, 8, 8, 8, 8, 8, 8, 8, 8, 8, 8, 8, 8, 8, 8, 8, 8, 8, 8, 8, 8, 8, 8, 8, 8, 8, 8, 8, 8, 8, 8, 8, 8, 8, 8, 8, 8, 8, 8, 8, 8, 8, 8, 8, 8, 8, 8, 8, 8, 8, 8, 8, 8, 8, 8, 8, 8, 8, 8]⟩ : ByteArray).size : Int)) <|
    some (w64 (8 + (w64 (bt (⟨#[0, 1, 2, 2, 3, 3, 3, 3, 4, 4, 4, 4, 4, 4, 4, 4, 5, 5, 5, 5, 5, 5, 5, 5, 5, 5, 5, 5, 5, 5, 5, 5, 6, 6, 6, 6, 6, 6, 6, 6, 6, 6, 6, 6, 6, 6, 6, 6, 6, 6, 6, 6, 6, 6, 6, 6, 6, 6, 6, 6, 6, 6, 6, 6, 7, 7, 7, 7, 7, 7, 7, 7, 7, 7, 7, 7, 7, 7, 7, 7, 7, 7, 7, 7, 7, 7, 7, 7, 7, 7, 7, 7, 7, 7, 7, 7, 7, 7, 7, 7, 7, 7, 7, 7, 7, 7, 7, 7, 7, 7, 7, 7, 7, 7, 7, 7, 7, 7, 7, 7, 7, 7, 7, 7, 7, 7, 7, 7, 8, 8, 8, 8, 8, 8, 8, 8, 8, 8, 8, 8, 8, 8, 8, 8, 8, 8, 8, 8, 8, 8, 8, 8, 8, 8, 8, 8, 8, 8, 8, 8, 8, 8, 8, 8, 8, 8, 8, 8, 8, 8, 8, 8, 8, 8, 8, 8, 8, 8, 8, 8, 8, 8, 8, 8, 8, 8, 8, 8, 8, 8, 8, 8, 8, 8, 8, 8, 8, 8, 8, 8, 8, 8, 8, 8, 8, 8, 8, 8, 8, 8, 8, 8, 8, 8, 8, 8, 8, 8, 8, 8, 8, 8, 8, 8, 8, 8, 8, 8, 8, 8, 8, 8, 8, 8, 8, 8, 8, 8, 8, 8, 8, 8, 8, 8, 8, 8, 8, 8, 8, 8, 8, 8, 8, 8, 8, 8]⟩ : ByteArray) (IntKind.wrap .u8 v13))))))
  else chk ((leI 0 (IntKind.wrap .u8 x_)) && ltI (IntKind.wrap .u8 x_) ((⟨#[0, 1, 2, 2, 3, 3, 3, 3, 4, 4, 4, 4, 4, 4, 4, 4, 5, 5, 5, 5, 5, 5, 5, 5, 5, 5, 5, 5, 5, 5, 5, 5, 6, 6, 6, 6, 6, 6, 6, 6, 6, 6, 6, 6, 6, 6, 6, 6, 6, 6, 6, 6, 6, 6, 6, 6, 6, 6, 6, 6, 6, 6, 6, 6, 7, 7, 7, 7, 7, 7, 7, 7, 7, 7, 7, 7, 7, 7, 7, 7, 7, 7, 7, 7, 7, 7, 7, 7, 7, 7, 7, 7, 7, 7, 7, 7, 7, 7, 7, 7, 7, 7, 7, 7, 7, 7, 7, 7, 7, 7, 7, 7, 7, 7, 7, 7, 7, 7, 7, 7, 7, 7, 7, 7, 7, 7, 7, 7, 8, 8, 8, 8, 8, 8, 8, 8, 8, 8, 8, 8, 8, 8, 8, 8, 8, 8, 8, 8, 8, 8, 8, 8, 8, 8, 8, 8, 8, 8, 8, 8, 8, 8, 8, 8, 8, 8, 8, 8, 8, 8, 8, 8, 8, 8, 8, 8, 8, 8, 8, 8, 8, 8, 8, 8, 8, 8, 8, 8, 8, 8, 8, 8, 8, 8, 8, 8, 8, 8, 8, 8, 8, 8, 8, 8, 8, 8, 8, 8, 8, 8, 8, 8, 8, 8, 8, 8, 8, 8, 8, 8, 8, 8, 8, 8, 8, 8, 8, 8, 8, 8, 8, 8, 8, 8, 8, 8, 8, 8, 8, 8, 8, 8, 8, 8, 8, 8, 8, 8, 8, 8, 8, 8, 8, 8, 8, 8]⟩ : ByteArray).size : Int)) <|
  some (w64 (0 + (w64 (bt (⟨#[0, 1, 2, 2, 3, 3, 3, 3, 4, 4, 4, 4, 4, 4, 4, 4, 5, 5, 5, 5, 5, 5, 5, 5, 5, 5, 5, 5, 5, 5, 5, 5, 6, 6, 6, 6, 6, 6, 6, 6, 6, 6, 6, 6, 6, 6, 6, 6, 6, 6, 6, 6, 6, 6, 6, 6, 6, 6, 6, 6, 6, 6, 6, 6, 7, 7, 7, 7, 7, 7, 7, 7, 7, 7, 7, 7, 7, 7, 7, 7, 7, 7, 7, 7, 7, 7, 7, 7, 7, 7, 7, 7, 7, 7, 7, 7, 7, 7, 7, 7, 7, 7, 7, 7, 7, 7, 7, 7, 7, 7, 7, 7, 7, 7, 7, 7, 7, 7, 7, 7, 7, 7, 7, 7, 7, 7, 7, 7, 8, 8, 8, 8, 8, 8, 8, 8, 8, 8, 8, 8, 8, 8, 8, 8, 8, 8, 8, 8, 8, 8, 8, 8, 8, 8, 8, 8, 8, 8, 8, 8, 8, 8, 8, 8, 8, 8, 8, 8, 8, 8, 8, 8, 8, 8, 8, 8, 8, 8, 8, 8, 8, 8, 8, 8, 8, 8, 8, 8, 8, 8, 8, 8, 8, 8, 8, 8, 8, 8, 8, 8, 8, 8, 8, 8, 8, 8, 8, 8, 8, 8, 8, 8, 8, 8, 8, 8, 8, 8, 8, 8, 8, 8, 8, 8, 8, 8, 8, 8, 8, 8, 8, 8, 8, 8, 8, 8, 8, 8, 8, 8, 8, 8, 8, 8, 8, 8, 8, 8, 8, 8, 8, 8, 8, 8, 8, 8]⟩ : ByteArray) (IntKind.wrap .u8 x_)))))
def math_bits_Len64 (N : Nat) (x_ : Int) : Option Int := math_bits_Len64.e N x_
/-! ### f76: math/bits.Len -/
def math_bits_Len.e (N : Nat) (x_ : Int) : Option Int :=
  (math_bits_Len64 N x_).bind fun y1 =>
  some y1
def math_bits_Len (N : Nat) (x_ : Int) : Option Int := math_bits_Len.e N x_
/-! ### f145: cmp.isNaN[int] -/
def cmp_isNaN_int.e (N : Nat) (x_ : Int) : Option Bool :=
  some (!(eqI x_ x_))
def cmp_isNaN_int (N : Nat) (x_ : Int) : Option Bool := cmp_isNaN_int.e N x_
/-! ### f127: cmp.Less[int] -/
def cmp_Less_int.e (N : Nat) (x_ : Int) (y_ : Int) : Option Bool :=
  (cmp_isNaN_int N x_).bind fun y1 =>
  bif y1 then ((cmp_isNaN_int N y_).bind fun y2 =>
    bif (!y2) then some true
    else some (ltI x_ y_))
  else some (ltI x_ y_)
def cmp_Less_int (N : Nat) (x_ : Int) (y_ : Int) : Option Bool := cmp_Less_int.e N x_ y_
/-! ### f121: slices.insertionSortOrdered[int] -/
def slices_insertionSortOrdered_int'.e (N : Nat) (r0 : Int → (List Int) → Option (List Int)) (r1 : Int → Int → (List Int) → Option (List Int)) (data : (List Int)) (a_ : Int) (b_ : Int) : Option (List Int) :=
  r0 (w64 (a_ + 1)) data
def slices_insertionSortOrdered_int'.s0 (N : Nat) (data : (List Int)) (a_ : Int) (b_ : Int) (r0 : Int → (List Int) → Option (List Int)) (r1 : Int → Int → (List Int) → Option (List Int)) (i_ : Int) (data2 : (List Int)) : Option (List Int) :=
  bif (ltI i_ b_) then r1 i_ i_ data2
  else some data2
def slices_insertionSortOrdered_int'.s1 (N : Nat) (data : (List Int)) (a_ : Int) (b_ : Int) (r0 : Int → (List Int) → Option (List Int)) (r1 : Int → Int → (List Int) → Option (List Int)) (i_ : Int) (j_ : Int) (data2 : (List Int)) : Option (List Int) :=
  bif (ltI a_ j_) then (chk ((leI 0 j_) && (ltI j_ (data2.length : Int))) <|
    chk ((leI 0 (w64 (j_ - 1))) && (ltI (w64 (j_ - 1)) (data2.length : Int))) <|
    (cmp_Less_int N (gD (0 : Int) data2 j_) (gD (0 : Int) data2 (w64 (j_ - 1)))).bind fun y1 =>
    bif y1 then (chk ((leI 0 (w64 (j_ - 1))) && (ltI (w64 (j_ - 1)) (data2.length : Int))) <|
      chk ((leI 0 j_) && (ltI j_ (data2.length : Int))) <|
      chk ((leI 0 j_) && (ltI j_ (data2.length : Int))) <|
      let v2 : List Int := (data2.set j_.toNat (gD (0 : Int) data2 (w64 (j_ - 1))))
      chk ((leI 0 (w64 (j_ - 1))) && (ltI (w64 (j_ - 1)) (v2.length : Int))) <|
      r1 i_ (w64 (j_ - 1)) (v2.set (w64 (j_ - 1)).toNat (gD (0 : Int) data2 j_)))
    else r0 (w64 (i_ + 1)) data2)
  else r0 (w64 (i_ + 1)) data2
def slices_insertionSortOrdered_int'.L (N : Nat) (data : (List Int)) (a_ : Int) (b_ : Int) : Nat → (Int → (List Int) → Option (List Int)) × (Int → Int → (List Int) → Option (List Int))
  | 0 => (fun _ _ => none, fun _ _ _ => none)
  | n + 1 => (fun i_ data2 => slices_insertionSortOrdered_int'.s0 N data a_ b_ (slices_insertionSortOrdered_int'.L N data a_ b_ n).1 (slices_insertionSortOrdered_int'.L N data a_ b_ n).2 i_ data2, fun i_ j_ data2 => slices_insertionSortOrdered_int'.s1 N data a_ b_ (slices_insertionSortOrdered_int'.L N data a_ b_ n).1 (slices_insertionSortOrdered_int'.L N data a_ b_ n).2 i_ j_ data2)
def slices_insertionSortOrdered_int'.l0 (N : Nat) (data : (List Int)) (a_ : Int) (b_ : Int) (n : Nat) : Int → (List Int) → Option (List Int) := (slices_insertionSortOrdered_int'.L N data a_ b_ n).1
def slices_insertionSortOrdered_int'.l1 (N : Nat) (data : (List Int)) (a_ : Int) (b_ : Int) (n : Nat) : Int → Int → (List Int) → Option (List Int) := (slices_insertionSortOrdered_int'.L N data a_ b_ n).2
theorem slices_insertionSortOrdered_int'.l0_s (N : Nat) (data : (List Int)) (a_ : Int) (b_ : Int) (n : Nat) (i_ : Int) (data2 : (List Int)) : slices_insertionSortOrdered_int'.l0 N data a_ b_ (n + 1) i_ data2 = slices_insertionSortOrdered_int'.s0 N data a_ b_ (slices_insertionSortOrdered_int'.l0 N data a_ b_ n) (slices_insertionSortOrdered_int'.l1 N data a_ b_ n) i_ data2 := rfl
theorem slices_insertionSortOrdered_int'.l1_s (N : Nat) (data : (List Int)) (a_ : Int) (b_ : Int) (n : Nat) (i_ : Int) (j_ : Int) (data2 : (List Int)) : slices_insertionSortOrdered_int'.l1 N data a_ b_ (n + 1) i_ j_ data2 = slices_insertionSortOrdered_int'.s1 N data a_ b_ (slices_insertionSortOrdered_int'.l0 N data a_ b_ n) (slices_insertionSortOrdered_int'.l1 N data a_ b_ n) i_ j_ data2 := rfl
def slices_insertionSortOrdered_int' (N : Nat) (data : (List Int)) (a_ : Int) (b_ : Int) : Option (List Int) := slices_insertionSortOrdered_int'.e N (slices_insertionSortOrdered_int'.l0 N data a_ b_ N) (slices_insertionSortOrdered_int'.l1 N data a_ b_ N) data a_ b_
/-! ### f142: slices.siftDownOrdered[int] -/
def slices_siftDownOrdered_int'.e (N : Nat) (r0 : Int → (List Int) → Option (List Int)) (data : (List Int)) (lo : Int) (hi : Int) (first : Int) : Option (List Int) :=
  r0 lo data
def slices_siftDownOrdered_int'.s0 (N : Nat) (data : (List Int)) (lo : Int) (hi : Int) (first : Int) (r0 : Int → (List Int) → Option (List Int)) (root : Int) (data2 : (List Int)) : Option (List Int) :=
  let v1 : Int := (w64 ((w64 (2 * root)) + 1))
  bif (leI hi v1) then some data2
  else bif (ltI (w64 (v1 + 1)) hi) then (chk ((leI 0 (w64 (first + v1))) && (ltI (w64 (first + v1)) (data2.length : Int))) <|
    let v2 : Int := (w64 ((w64 (first + v1)) + 1))
    chk ((leI 0 v2) && (ltI v2 (data2.length : Int))) <|
    (cmp_Less_int N (gD (0 : Int) data2 (w64 (first + v1))) (gD (0 : Int) data2 v2)).bind fun y3 =>
    bif y3 then (chk ((leI 0 (w64 (first + root))) && (ltI (w64 (first + root)) (data2.length : Int))) <|
      let v4 : Int := (w64 (first + (w64 (v1 + 1))))
      chk ((leI 0 v4) && (ltI v4 (data2.length : Int))) <|
      (cmp_Less_int N (gD (0 : Int) data2 (w64 (first + root))) (gD (0 : Int) data2 v4)).bind fun y5 =>
      bif (!y5) then some data2
      else let v6 : Int := (w64 (first + (w64 (v1 + 1))))
      let v7 : Int := (w64 (first + (w64 (v1 + 1))))
      chk ((leI 0 v7) && (ltI v7 (data2.length : Int))) <|
      chk ((leI 0 (w64 (first + root))) && (ltI (w64 (first + root)) (data2.length : Int))) <|
      chk ((leI 0 (w64 (first + root))) && (ltI (w64 (first + root)) (data2.length : Int))) <|
      let v8 : List Int := (data2.set (w64 (first + root)).toNat (gD (0 : Int) data2 v7))
      chk ((leI 0 v6) && (ltI v6 (v8.length : Int))) <|
      r0 (w64 (v1 + 1)) (v8.set v6.toNat (gD (0 : Int) data2 (w64 (first + root)))))
    else chk ((leI 0 (w64 (first + root))) && (ltI (w64 (first + root)) (data2.length : Int))) <|
    chk ((leI 0 (w64 (first + v1))) && (ltI (w64 (first + v1)) (data2.length : Int))) <|
    (cmp_Less_int N (gD (0 : Int) data2 (w64 (first + root))) (gD (0 : Int) data2 (w64 (first + v1)))).bind fun y10 =>
    bif (!y10) then some data2
    else chk ((leI 0 (w64 (first + v1))) && (ltI (w64 (first + v1)) (data2.length : Int))) <|
    chk ((leI 0 (w64 (first + root))) && (ltI (w64 (first + root)) (data2.length : Int))) <|
    chk ((leI 0 (w64 (first + root))) && (ltI (w64 (first + root)) (data2.length : Int))) <|
    let v11 : List Int := (data2.set (w64 (first + root)).toNat (gD (0 : Int) data2 (w64 (first + v1))))
    chk ((leI 0 (w64 (first + v1))) && (ltI (w64 (first + v1)) (v11.length : Int))) <|
    r0 v1 (v11.set (w64 (first + v1)).toNat (gD (0 : Int) data2 (w64 (first + root)))))
  else chk ((leI 0 (w64 (first + root))) && (ltI (w64 (first + root)) (data2.length : Int))) <|
  chk ((leI 0 (w64 (first + v1))) && (ltI (w64 (first + v1)) (data2.length : Int))) <|
  (cmp_Less_int N (gD (0 : Int) data2 (w64 (first + root))) (gD (0 : Int) data2 (w64 (first + v1)))).bind fun y13 =>
  bif (!y13) then some data2
  else chk ((leI 0 (w64 (first + v1))) && (ltI (w64 (first + v1)) (data2.length : Int))) <|
  chk ((leI 0 (w64 (first + root))) && (ltI (w64 (first + root)) (data2.length : Int))) <|
  chk ((leI 0 (w64 (first + root))) && (ltI (w64 (first + root)) (data2.length : Int))) <|
  let v14 : List Int := (data2.set (w64 (first + root)).toNat (gD (0 : Int) data2 (w64 (first + v1))))
  chk ((leI 0 (w64 (first + v1))) && (ltI (w64 (first + v1)) (v14.length : Int))) <|
  r0 v1 (v14.set (w64 (first + v1)).toNat (gD (0 : Int) data2 (w64 (first + root))))
def slices_siftDownOrdered_int'.L (N : Nat) (data : (List Int)) (lo : Int) (hi : Int) (first : Int) : Nat → (Int → (List Int) → Option (List Int))
  | 0 => fun _ _ => none
  | n + 1 => fun root data2 => slices_siftDownOrdered_int'.s0 N data lo hi first (slices_siftDownOrdered_int'.L N data lo hi first n) root data2
def slices_siftDownOrdered_int'.l0 (N : Nat) (data : (List Int)) (lo : Int) (hi : Int) (first : Int) (n : Nat) : Int → (List Int) → Option (List Int) := (slices_siftDownOrdered_int'.L N data lo hi first n)
theorem slices_siftDownOrdered_int'.l0_s (N : Nat) (data : (List Int)) (lo : Int) (hi : Int) (first : Int) (n : Nat) (root : Int) (data2 : (List Int)) : slices_siftDownOrdered_int'.l0 N data lo hi first (n + 1) root data2 = slices_siftDownOrdered_int'.s0 N data lo hi first (slices_siftDownOrdered_int'.l0 N data lo hi first n) root data2 := rfl
def slices_siftDownOrdered_int' (N : Nat) (data : (List Int)) (lo : Int) (hi : Int) (first : Int) : Option (List Int) := slices_siftDownOrdered_int'.e N (slices_siftDownOrdered_int'.l0 N data lo hi first N) data lo hi first
/-! ### f122: slices.heapSortOrdered[int] -/
def slices_heapSortOrdered_int'.e (N : Nat) (r0 : Int → (List Int) → Option (List Int)) (r1 : Int → (List Int) → Option (List Int)) (data : (List Int)) (a_ : Int) (b_ : Int) : Option (List Int) :=
  r0 (w64 (Int.tdiv (w64 ((w64 (b_ - a_)) - 1)) 2)) data
def slices_heapSortOrdered_int'.s0 (N : Nat) (data : (List Int)) (a_ : Int) (b_ : Int) (r0 : Int → (List Int) → Option (List Int)) (r1 : Int → (List Int) → Option (List Int)) (i_ : Int) (data2 : (List Int)) : Option (List Int) :=
  bif (leI 0 i_) then ((slices_siftDownOrdered_int' N data2 i_ (w64 (b_ - a_)) a_).bind fun y2 =>
    r0 (w64 (i_ - 1)) y2)
  else r1 (w64 ((w64 (b_ - a_)) - 1)) data2
def slices_heapSortOrdered_int'.s1 (N : Nat) (data : (List Int)) (a_ : Int) (b_ : Int) (r0 : Int → (List Int) → Option (List Int)) (r1 : Int → (List Int) → Option (List Int)) (i_ : Int) (data2 : (List Int)) : Option (List Int) :=
  bif (leI 0 i_) then (chk ((leI 0 (w64 (a_ + i_))) && (ltI (w64 (a_ + i_)) (data2.length : Int))) <|
    chk ((leI 0 a_) && (ltI a_ (data2.length : Int))) <|
    chk ((leI 0 a_) && (ltI a_ (data2.length : Int))) <|
    let v4 : List Int := (data2.set a_.toNat (gD (0 : Int) data2 (w64 (a_ + i_))))
    chk ((leI 0 (w64 (a_ + i_))) && (ltI (w64 (a_ + i_)) (v4.length : Int))) <|
    (slices_siftDownOrdered_int' N (v4.set (w64 (a_ + i_)).toNat (gD (0 : Int) data2 a_)) 0 i_ a_).bind fun y6 =>
    r1 (w64 (i_ - 1)) y6)
  else some data2
def slices_heapSortOrdered_int'.L (N : Nat) (data : (List Int)) (a_ : Int) (b_ : Int) : Nat → (Int → (List Int) → Option (List Int)) × (Int → (List Int) → Option (List Int))
  | 0 => (fun _ _ => none, fun _ _ => none)
  | n + 1 => (fun i_ data2 => slices_heapSortOrdered_int'.s0 N data a_ b_ (slices_heapSortOrdered_int'.L N data a_ b_ n).1 (slices_heapSortOrdered_int'.L N data a_ b_ n).2 i_ data2, fun i_ data2 => slices_heapSortOrdered_int'.s1 N data a_ b_ (slices_heapSortOrdered_int'.L N data a_ b_ n).1 (slices_heapSortOrdered_int'.L N data a_ b_ n).2 i_ data2)
def slices_heapSortOrdered_int'.l0 (N : Nat) (data : (List Int)) (a_ : Int) (b_ : Int) (n : Nat) : Int → (List Int) → Option (List Int) := (slices_heapSortOrdered_int'.L N data a_ b_ n).1
def slices_heapSortOrdered_int'.l1 (N : Nat) (data : (List Int)) (a_ : Int) (b_ : Int) (n : Nat) : Int → (List Int) → Option (List Int) := (slices_heapSortOrdered_int'.L N data a_ b_ n).2
theorem slices_heapSortOrdered_int'.l0_s (N : Nat) (data : (List Int)) (a_ : Int) (b_ : Int) (n : Nat) (i_ : Int) (data2 : (List Int)) : slices_heapSortOrdered_int'.l0 N data a_ b_ (n + 1) i_ data2 = slices_heapSortOrdered_int'.s0 N data a_ b_ (slices_heapSortOrdered_int'.l0 N data a_ b_ n) (slices_heapSortOrdered_int'.l1 N data a_ b_ n) i_ data2 := rfl
theorem slices_heapSortOrdered_int'.l1_s (N : Nat) (data : (List Int)) (a_ : Int) (b_ : Int) (n : Nat) (i_ : Int) (data2 : (List Int)) : slices_heapSortOrdered_int'.l1 N data a_ b_ (n + 1) i_ data2 = slices_heapSortOrdered_int'.s1 N data a_ b_ (slices_heapSortOrdered_int'.l0 N data a_ b_ n) (slices_heapSortOrdered_int'.l1 N data a_ b_ n) i_ data2 := rfl
def slices_heapSortOrdered_int' (N : Nat) (data : (List Int)) (a_ : Int) (b_ : Int) : Option (List Int) := slices_heapSortOrdered_int'.e N (slices_heapSortOrdered_int'.l0 N data a_ b_ N) (slices_heapSortOrdered_int'.l1 N data a_ b_ N) data a_ b_
/-! ### f155: slices.order2Ordered[int] -/
def slices_order2Ordered_int.e (N : Nat) (data : (List Int)) (a_ : Int) (b_ : Int) (swaps : Int) : Option (Int × Int × Int) :=
  chk ((leI 0 b_) && (ltI b_ (data.length : Int))) <|
  chk ((leI 0 a_) && (ltI a_ (data.length : Int))) <|
  (cmp_Less_int N (gD (0 : Int) data b_) (gD (0 : Int) data a_)).bind fun y1 =>
  bif y1 then (some (b_, (a_, (w64 (swaps + 1)))))
  else some (a_, (b_, swaps))
def slices_order2Ordered_int (N : Nat) (data : (List Int)) (a_ : Int) (b_ : Int) (swaps : Int) : Option (Int × Int × Int) := slices_order2Ordered_int.e N data a_ b_ swaps
/-! ### f144: slices.medianOrdered[int] -/
def slices_medianOrdered_int.e (N : Nat) (data : (List Int)) (a_ : Int) (b_ : Int) (c_ : Int) (swaps : Int) : Option (Int × Int) :=
  (slices_order2Ordered_int N data a_ b_ swaps).bind fun y1 =>
  (slices_order2Ordered_int N data y1.2.1 c_ y1.2.2).bind fun y2 =>
  (slices_order2Ordered_int N data y1.1 y2.1 y2.2.2).bind fun y3 =>
  some y3.2
def slices_medianOrdered_int (N : Nat) (data : (List Int)) (a_ : Int) (b_ : Int) (c_ : Int) (swaps : Int) : Option (Int × Int) := slices_medianOrdered_int.e N data a_ b_ c_ swaps
/-! ### f143: slices.medianAdjacentOrdered[int] -/
def slices_medianAdjacentOrdered_int.e (N : Nat) (data : (List Int)) (a_ : Int) (swaps : Int) : Option (Int × Int) :=
  (slices_medianOrdered_int N data (w64 (a_ - 1)) a_ (w64 (a_ + 1)) swaps).bind fun y1 =>
  some y1
def slices_medianAdjacentOrdered_int (N : Nat) (data : (List Int)) (a_ : Int) (swaps : Int) : Option (Int × Int) := slices_medianAdjacentOrdered_int.e N data a_ swaps
/-! ### f124: slices.choosePivotOrdered[int] -/
def slices_choosePivotOrdered_int.e (N : Nat) (data : (List Int)) (a_ : Int) (b_ : Int) : Option (Int × Int) :=
  let v2 : Int := (w64 (a_ + (w64 ((w64 (Int.tdiv (w64 (b_ - a_)) 4)) * 1))))
  let v4 : Int := (w64 (a_ + (w64 ((w64 (Int.tdiv (w64 (b_ - a_)) 4)) * 2))))
  let v6 : Int := (w64 (a_ + (w64 ((w64 (Int.tdiv (w64 (b_ - a_)) 4)) * 3))))
  bif (leI 8 (w64 (b_ - a_))) then (bif (leI 50 (w64 (b_ - a_))) then ((slices_medianAdjacentOrdered_int N data v2 0).bind fun y7 =>
      (slices_medianAdjacentOrdered_int N data v4 y7.2).bind fun y8 =>
      (slices_medianAdjacentOrdered_int N data v6 y8.2).bind fun y9 =>
      (slices_medianOrdered_int N data y7.1 y8.1 y9.1 y9.2).bind fun y10 =>
      bif (eqI y10.2 0) then (some (y10.1, 1))
      else bif (eqI y10.2 12) then (some (y10.1, 2))
      else some (y10.1, 0))
    else (slices_medianOrdered_int N data v2 v4 v6 0).bind fun y11 =>
    bif (eqI y11.2 0) then (some (y11.1, 1))
    else bif (eqI y11.2 12) then (some (y11.1, 2))
    else some (y11.1, 0))
  else some (v4, 1)
def slices_choosePivotOrdered_int (N : Nat) (data : (List Int)) (a_ : Int) (b_ : Int) : Option (Int × Int) := slices_choosePivotOrdered_int.e N data a_ b_
/-! ### f125: slices.reverseRangeOrdered[int] -/
def slices_reverseRangeOrdered_int'.e (N : Nat) (r0 : Int → Int → (List Int) → Option (List Int)) (data : (List Int)) (a_ : Int) (b_ : Int) : Option (List Int) :=
  r0 a_ (w64 (b_ - 1)) data
def slices_reverseRangeOrdered_int'.s0 (N : Nat) (data : (List Int)) (a_ : Int) (b_ : Int) (r0 : Int → Int → (List Int) → Option (List Int)) (i_ : Int) (j_ : Int) (data2 : (List Int)) : Option (List Int) :=
  bif (ltI i_ j_) then (chk ((leI 0 j_) && (ltI j_ (data2.length : Int))) <|
    chk ((leI 0 i_) && (ltI i_ (data2.length : Int))) <|
    chk ((leI 0 i_) && (ltI i_ (data2.length : Int))) <|
    let v1 : List Int := (data2.set i_.toNat (gD (0 : Int) data2 j_))
    chk ((leI 0 j_) && (ltI j_ (v1.length : Int))) <|
    r0 (w64 (i_ + 1)) (w64 (j_ - 1)) (v1.set j_.toNat (gD (0 : Int) data2 i_)))
  else some data2
def slices_reverseRangeOrdered_int'.L (N : Nat) (data : (List Int)) (a_ : Int) (b_ : Int) : Nat → (Int → Int → (List Int) → Option (List Int))
  | 0 => fun _ _ _ => none
  | n + 1 => fun i_ j_ data2 => slices_reverseRangeOrdered_int'.s0 N data a_ b_ (slices_reverseRangeOrdered_int'.L N data a_ b_ n) i_ j_ data2
def slices_reverseRangeOrdered_int'.l0 (N : Nat) (data : (List Int)) (a_ : Int) (b_ : Int) (n : Nat) : Int → Int → (List Int) → Option (List Int) := (slices_reverseRangeOrdered_int'.L N data a_ b_ n)
theorem slices_reverseRangeOrdered_int'.l0_s (N : Nat) (data : (List Int)) (a_ : Int) (b_ : Int) (n : Nat) (i_ : Int) (j_ : Int) (data2 : (List Int)) : slices_reverseRangeOrdered_int'.l0 N data a_ b_ (n + 1) i_ j_ data2 = slices_reverseRangeOrdered_int'.s0 N data a_ b_ (slices_reverseRangeOrdered_int'.l0 N data a_ b_ n) i_ j_ data2 := rfl
def slices_reverseRangeOrdered_int' (N : Nat) (data : (List Int)) (a_ : Int) (b_ : Int) : Option (List Int) := slices_reverseRangeOrdered_int'.e N (slices_reverseRangeOrdered_int'.l0 N data a_ b_ N) data a_ b_
/-! ### f126: slices.partialInsertionSortOrdered[int] -/
def slices_partialInsertionSortOrdered_int'.e (N : Nat) (r0 : Int → Int → (List Int) → Option (Bool × (List Int))) (r1 : Int → Int → (List Int) → Option (Bool × (List Int))) (r2 : Int → Int → Int → (List Int) → Option (Bool × (List Int))) (r3 : Int → Int → Int → (List Int) → Option (Bool × (List Int))) (data : (List Int)) (a_ : Int) (b_ : Int) : Option (Bool × (List Int)) :=
  r0 (w64 (a_ + 1)) 0 data
def slices_partialInsertionSortOrdered_int'.s0 (N : Nat) (data : (List Int)) (a_ : Int) (b_ : Int) (r0 : Int → Int → (List Int) → Option (Bool × (List Int))) (r1 : Int → Int → (List Int) → Option (Bool × (List Int))) (r2 : Int → Int → Int → (List Int) → Option (Bool × (List Int))) (r3 : Int → Int → Int → (List Int) → Option (Bool × (List Int))) (i_ : Int) (j_ : Int) (data2 : (List Int)) : Option (Bool × (List Int)) :=
  bif (ltI j_ 5) then r1 i_ j_ data2
  else some (false, data2)
def slices_partialInsertionSortOrdered_int'.s1 (N : Nat) (data : (List Int)) (a_ : Int) (b_ : Int) (r0 : Int → Int → (List Int) → Option (Bool × (List Int))) (r1 : Int → Int → (List Int) → Option (Bool × (List Int))) (r2 : Int → Int → Int → (List Int) → Option (Bool × (List Int))) (r3 : Int → Int → Int → (List Int) → Option (Bool × (List Int))) (i_ : Int) (j_ : Int) (data2 : (List Int)) : Option (Bool × (List Int)) :=
  bif (ltI i_ b_) then (chk ((leI 0 i_) && (ltI i_ (data2.length : Int))) <|
    chk ((leI 0 (w64 (i_ - 1))) && (ltI (w64 (i_ - 1)) (data2.length : Int))) <|
    (cmp_Less_int N (gD (0 : Int) data2 i_) (gD (0 : Int) data2 (w64 (i_ - 1)))).bind fun y1 =>
    bif (!y1) then (r1 (w64 (i_ + 1)) j_ data2)
    else bif (eqI i_ b_) then (some (true, data2))
    else bif (ltI (w64 (b_ - a_)) 50) then (some (false, data2))
    else chk ((leI 0 (w64 (i_ - 1))) && (ltI (w64 (i_ - 1)) (data2.length : Int))) <|
    chk ((leI 0 i_) && (ltI i_ (data2.length : Int))) <|
    chk ((leI 0 i_) && (ltI i_ (data2.length : Int))) <|
    let v2 : List Int := (data2.set i_.toNat (gD (0 : Int) data2 (w64 (i_ - 1))))
    chk ((leI 0 (w64 (i_ - 1))) && (ltI (w64 (i_ - 1)) (v2.length : Int))) <|
    let v3 : List Int := (v2.set (w64 (i_ - 1)).toNat (gD (0 : Int) data2 i_))
    bif (leI 2 (w64 (i_ - a_))) then (r2 i_ j_ (w64 (i_ - 1)) v3)
    else bif (leI 2 (w64 (b_ - i_))) then (r3 i_ j_ (w64 (i_ + 1)) v3)
    else r0 i_ (w64 (j_ + 1)) v3)
  else bif (eqI i_ b_) then (some (true, data2))
  else bif (ltI (w64 (b_ - a_)) 50) then (some (false, data2))
  else chk ((leI 0 (w64 (i_ - 1))) && (ltI (w64 (i_ - 1)) (data2.length : Int))) <|
  chk ((leI 0 i_) && (ltI i_ (data2.length : Int))) <|
  chk ((leI 0 i_) && (ltI i_ (data2.length : Int))) <|
  let v4 : List Int := (data2.set i_.toNat (gD (0 : Int) data2 (w64 (i_ - 1))))
  chk ((leI 0 (w64 (i_ - 1))) && (ltI (w64 (i_ - 1)) (v4.length : Int))) <|
  let v5 : List Int := (v4.set (w64 (i_ - 1)).toNat (gD (0 : Int) data2 i_))
  bif (leI 2 (w64 (i_ - a_))) then (r2 i_ j_ (w64 (i_ - 1)) v5)
  else bif (leI 2 (w64 (b_ - i_))) then (r3 i_ j_ (w64 (i_ + 1)) v5)
  else r0 i_ (w64 (j_ + 1)) v5
def slices_partialInsertionSortOrdered_int'.s2 (N : Nat) (data : (List Int)) (a_ : Int) (b_ : Int) (r0 : Int → Int → (List Int) → Option (Bool × (List Int))) (r1 : Int → Int → (List Int) → Option (Bool × (List Int))) (r2 : Int → Int → Int → (List Int) → Option (Bool × (List Int))) (r3 : Int → Int → Int → (List Int) → Option (Bool × (List Int))) (i_ : Int) (j_ : Int) (j_2 : Int) (data2 : (List Int)) : Option (Bool × (List Int)) :=
  bif (leI 1 j_2) then (chk ((leI 0 j_2) && (ltI j_2 (data2.length : Int))) <|
    chk ((leI 0 (w64 (j_2 - 1))) && (ltI (w64 (j_2 - 1)) (data2.length : Int))) <|
    (cmp_Less_int N (gD (0 : Int) data2 j_2) (gD (0 : Int) data2 (w64 (j_2 - 1)))).bind fun y9 =>
    bif (!y9) then (bif (leI 2 (w64 (b_ - i_))) then (r3 i_ j_ (w64 (i_ + 1)) data2)
      else r0 i_ (w64 (j_ + 1)) data2)
    else chk ((leI 0 (w64 (j_2 - 1))) && (ltI (w64 (j_2 - 1)) (data2.length : Int))) <|
    chk ((leI 0 j_2) && (ltI j_2 (data2.length : Int))) <|
    chk ((leI 0 j_2) && (ltI j_2 (data2.length : Int))) <|
    let v10 : List Int := (data2.set j_2.toNat (gD (0 : Int) data2 (w64 (j_2 - 1))))
    chk ((leI 0 (w64 (j_2 - 1))) && (ltI (w64 (j_2 - 1)) (v10.length : Int))) <|
    r2 i_ j_ (w64 (j_2 - 1)) (v10.set (w64 (j_2 - 1)).toNat (gD (0 : Int) data2 j_2)))
  else bif (leI 2 (w64 (b_ - i_))) then (r3 i_ j_ (w64 (i_ + 1)) data2)
  else r0 i_ (w64 (j_ + 1)) data2
def slices_partialInsertionSortOrdered_int'.s3 (N : Nat) (data : (List Int)) (a_ : Int) (b_ : Int) (r0 : Int → Int → (List Int) → Option (Bool × (List Int))) (r1 : Int → Int → (List Int) → Option (Bool × (List Int))) (r2 : Int → Int → Int → (List Int) → Option (Bool × (List Int))) (r3 : Int → Int → Int → (List Int) → Option (Bool × (List Int))) (i_ : Int) (j_ : Int) (j_2 : Int) (data2 : (List Int)) : Option (Bool × (List Int)) :=
  bif (ltI j_2 b_) then (chk ((leI 0 j_2) && (ltI j_2 (data2.length : Int))) <|
    chk ((leI 0 (w64 (j_2 - 1))) && (ltI (w64 (j_2 - 1)) (data2.length : Int))) <|
    (cmp_Less_int N (gD (0 : Int) data2 j_2) (gD (0 : Int) data2 (w64 (j_2 - 1)))).bind fun y6 =>
    bif (!y6) then (r0 i_ (w64 (j_ + 1)) data2)
    else chk ((leI 0 (w64 (j_2 - 1))) && (ltI (w64 (j_2 - 1)) (data2.length : Int))) <|
    chk ((leI 0 j_2) && (ltI j_2 (data2.length : Int))) <|
    chk ((leI 0 j_2) && (ltI j_2 (data2.length : Int))) <|
    let v7 : List Int := (data2.set j_2.toNat (gD (0 : Int) data2 (w64 (j_2 - 1))))
    chk ((leI 0 (w64 (j_2 - 1))) && (ltI (w64 (j_2 - 1)) (v7.length : Int))) <|
    r3 i_ j_ (w64 (j_2 + 1)) (v7.set (w64 (j_2 - 1)).toNat (gD (0 : Int) data2 j_2)))
  else r0 i_ (w64 (j_ + 1)) data2
def slices_partialInsertionSortOrdered_int'.L (N : Nat) (data : (List Int)) (a_ : Int) (b_ : Int) : Nat → (Int → Int → (List Int) → Option (Bool × (List Int))) × (Int → Int → (List Int) → Option (Bool × (List Int))) × (Int → Int → Int → (List Int) → Option (Bool × (List Int))) × (Int → Int → Int → (List Int) → Option (Bool × (List Int)))
  | 0 => (fun _ _ _ => none, fun _ _ _ => none, fun _ _ _ _ => none, fun _ _ _ _ => none)
  | n + 1 => (fun i_ j_ data2 => slices_partialInsertionSortOrdered_int'.s0 N data a_ b_ (slices_partialInsertionSortOrdered_int'.L N data a_ b_ n).1 (slices_partialInsertionSortOrdered_int'.L N data a_ b_ n).2.1 (slices_partialInsertionSortOrdered_int'.L N data a_ b_ n).2.2.1 (slices_partialInsertionSortOrdered_int'.L N data a_ b_ n).2.2.2 i_ j_ data2, fun i_ j_ data2 => slices_partialInsertionSortOrdered_int'.s1 N data a_ b_ (slices_partialInsertionSortOrdered_int'.L N data a_ b_ n).1 (slices_partialInsertionSortOrdered_int'.L N data a_ b_ n).2.1 (slices_partialInsertionSortOrdered_int'.L N data a_ b_ n).2.2.1 (slices_partialInsertionSortOrdered_int'.L N data a_ b_ n).2.2.2 i_ j_ data2, fun i_ j_ j_2 data2 => slices_partialInsertionSortOrdered_int'.s2 N data a_ b_ (slices_partialInsertionSortOrdered_int'.L N data a_ b_ n).1 (slices_partialInsertionSortOrdered_int'.L N data a_ b_ n).2.1 (slices_partialInsertionSortOrdered_int'.L N data a_ b_ n).2.2.1 (slices_partialInsertionSortOrdered_int'.L N data a_ b_ n).2.2.2 i_ j_ j_2 data2, fun i_ j_ j_2 data2 => slices_partialInsertionSortOrdered_int'.s3 N data a_ b_ (slices_partialInsertionSortOrdered_int'.L N data a_ b_ n).1 (slices_partialInsertionSortOrdered_int'.L N data a_ b_ n).2.1 (slices_partialInsertionSortOrdered_int'.L N data a_ b_ n).2.2.1 (slices_partialInsertionSortOrdered_int'.L N data a_ b_ n).2.2.2 i_ j_ j_2 data2)
def slices_partialInsertionSortOrdered_int'.l0 (N : Nat) (data : (List Int)) (a_ : Int) (b_ : Int) (n : Nat) : Int → Int → (List Int) → Option (Bool × (List Int)) := (slices_partialInsertionSortOrdered_int'.L N data a_ b_ n).1
def slices_partialInsertionSortOrdered_int'.l1 (N : Nat) (data : (List Int)) (a_ : Int) (b_ : Int) (n : Nat) : Int → Int → (List Int) → Option (Bool × (List Int)) := (slices_partialInsertionSortOrdered_int'.L N data a_ b_ n).2.1
def slices_partialInsertionSortOrdered_int'.l2 (N : Nat) (data : (List Int)) (a_ : Int) (b_ : Int) (n : Nat) : Int → Int → Int → (List Int) → Option (Bool × (List Int)) := (slices_partialInsertionSortOrdered_int'.L N data a_ b_ n).2.2.1
def slices_partialInsertionSortOrdered_int'.l3 (N : Nat) (data : (List Int)) (a_ : Int) (b_ : Int) (n : Nat) : Int → Int → Int → (List Int) → Option (Bool × (List Int)) := (slices_partialInsertionSortOrdered_int'.L N data a_ b_ n).2.2.2
theorem slices_partialInsertionSortOrdered_int'.l0_s (N : Nat) (data : (List Int)) (a_ : Int) (b_ : Int) (n : Nat) (i_ : Int) (j_ : Int) (data2 : (List Int)) : slices_partialInsertionSortOrdered_int'.l0 N data a_ b_ (n + 1) i_ j_ data2 = slices_partialInsertionSortOrdered_int'.s0 N data a_ b_ (slices_partialInsertionSortOrdered_int'.l0 N data a_ b_ n) (slices_partialInsertionSortOrdered_int'.l1 N data a_ b_ n) (slices_partialInsertionSortOrdered_int'.l2 N data a_ b_ n) (slices_partialInsertionSortOrdered_int'.l3 N data a_ b_ n) i_ j_ data2 := rfl
theorem slices_partialInsertionSortOrdered_int'.l1_s (N : Nat) (data : (List Int)) (a_ : Int) (b_ : Int) (n : Nat) (i_ : Int) (j_ : Int) (data2 : (List Int)) : slices_partialInsertionSortOrdered_int'.l1 N data a_ b_ (n + 1) i_ j_ data2 = slices_partialInsertionSortOrdered_int'.s1 N data a_ b_ (slices_partialInsertionSortOrdered_int'.l0 N data a_ b_ n) (slices_partialInsertionSortOrdered_int'.l1 N data a_ b_ n) (slices_partialInsertionSortOrdered_int'.l2 N data a_ b_ n) (slices_partialInsertionSortOrdered_int'.l3 N data a_ b_ n) i_ j_ data2 := rfl
theorem slices_partialInsertionSortOrdered_int'.l2_s (N : Nat) (data : (List Int)) (a_ : Int) (b_ : Int) (n : Nat) (i_ : Int) (j_ : Int) (j_2 : Int) (data2 : (List Int)) : slices_partialInsertionSortOrdered_int'.l2 N data a_ b_ (n + 1) i_ j_ j_2 data2 = slices_partialInsertionSortOrdered_int'.s2 N data a_ b_ (slices_partialInsertionSortOrdered_int'.l0 N data a_ b_ n) (slices_partialInsertionSortOrdered_int'.l1 N data a_ b_ n) (slices_partialInsertionSortOrdered_int'.l2 N data a_ b_ n) (slices_partialInsertionSortOrdered_int'.l3 N data a_ b_ n) i_ j_ j_2 data2 := rfl
theorem slices_partialInsertionSortOrdered_int'.l3_s (N : Nat) (data : (List Int)) (a_ : Int) (b_ : Int) (n : Nat) (i_ : Int) (j_ : Int) (j_2 : Int) (data2 : (List Int)) : slices_partialInsertionSortOrdered_int'.l3 N data a_ b_ (n + 1) i_ j_ j_2 data2 = slices_partialInsertionSortOrdered_int'.s3 N data a_ b_ (slices_partialInsertionSortOrdered_int'.l0 N data a_ b_ n) (slices_partialInsertionSortOrdered_int'.l1 N data a_ b_ n) (slices_partialInsertionSortOrdered_int'.l2 N data a_ b_ n) (slices_partialInsertionSortOrdered_int'.l3 N data a_ b_ n) i_ j_ j_2 data2 := rfl
def slices_partialInsertionSortOrdered_int' (N : Nat) (data : (List Int)) (a_ : Int) (b_ : Int) : Option (Bool × (List Int)) := slices_partialInsertionSortOrdered_int'.e N (slices_partialInsertionSortOrdered_int'.l0 N data a_ b_ N) (slices_partialInsertionSortOrdered_int'.l1 N data a_ b_ N) (slices_partialInsertionSortOrdered_int'.l2 N data a_ b_ N) (slices_partialInsertionSortOrdered_int'.l3 N data a_ b_ N) data a_ b_
/-! ### f128: slices.partitionEqualOrdered[int] -/
def slices_partitionEqualOrdered_int'.e (N : Nat) (r0 : Int → Int → (List Int) → Option (Int × (List Int))) (r1 : Int → Int → (List Int) → Option (Int × (List Int))) (r2 : Int → Int → (List Int) → Option (Int × (List Int))) (data : (List Int)) (a_ : Int) (b_ : Int) (pivot : Int) : Option (Int × (List Int)) :=
  chk ((leI 0 pivot) && (ltI pivot (data.length : Int))) <|
  chk ((leI 0 a_) && (ltI a_ (data.length : Int))) <|
  chk ((leI 0 a_) && (ltI a_ (data.length : Int))) <|
  let v1 : List Int := (data.set a_.toNat (gD (0 : Int) data pivot))
  chk ((leI 0 pivot) && (ltI pivot (v1.length : Int))) <|
  r0 (w64 (a_ + 1)) (w64 (b_ - 1)) (v1.set pivot.toNat (gD (0 : Int) data a_))
def slices_partitionEqualOrdered_int'.s0 (N : Nat) (data : (List Int)) (a_ : Int) (b_ : Int) (pivot : Int) (r0 : Int → Int → (List Int) → Option (Int × (List Int))) (r1 : Int → Int → (List Int) → Option (Int × (List Int))) (r2 : Int → Int → (List Int) → Option (Int × (List Int))) (i_ : Int) (j_ : Int) (data2 : (List Int)) : Option (Int × (List Int)) :=
  r1 i_ j_ data2
def slices_partitionEqualOrdered_int'.s1 (N : Nat) (data : (List Int)) (a_ : Int) (b_ : Int) (pivot : Int) (r0 : Int → Int → (List Int) → Option (Int × (List Int))) (r1 : Int → Int → (List Int) → Option (Int × (List Int))) (r2 : Int → Int → (List Int) → Option (Int × (List Int))) (i_ : Int) (j_ : Int) (data2 : (List Int)) : Option (Int × (List Int)) :=
  bif (leI i_ j_) then (chk ((leI 0 a_) && (ltI a_ (data2.length : Int))) <|
    chk ((leI 0 i_) && (ltI i_ (data2.length : Int))) <|
    (cmp_Less_int N (gD (0 : Int) data2 a_) (gD (0 : Int) data2 i_)).bind fun y3 =>
    bif (!y3) then (r1 (w64 (i_ + 1)) j_ data2)
    else r2 i_ j_ data2)
  else r2 i_ j_ data2
def slices_partitionEqualOrdered_int'.s2 (N : Nat) (data : (List Int)) (a_ : Int) (b_ : Int) (pivot : Int) (r0 : Int → Int → (List Int) → Option (Int × (List Int))) (r1 : Int → Int → (List Int) → Option (Int × (List Int))) (r2 : Int → Int → (List Int) → Option (Int × (List Int))) (i_ : Int) (j_ : Int) (data2 : (List Int)) : Option (Int × (List Int)) :=
  bif (leI i_ j_) then (chk ((leI 0 a_) && (ltI a_ (data2.length : Int))) <|
    chk ((leI 0 j_) && (ltI j_ (data2.length : Int))) <|
    (cmp_Less_int N (gD (0 : Int) data2 a_) (gD (0 : Int) data2 j_)).bind fun y4 =>
    bif y4 then (r2 i_ (w64 (j_ - 1)) data2)
    else bif (ltI j_ i_) then (some (i_, data2))
    else chk ((leI 0 j_) && (ltI j_ (data2.length : Int))) <|
    chk ((leI 0 i_) && (ltI i_ (data2.length : Int))) <|
    chk ((leI 0 i_) && (ltI i_ (data2.length : Int))) <|
    let v5 : List Int := (data2.set i_.toNat (gD (0 : Int) data2 j_))
    chk ((leI 0 j_) && (ltI j_ (v5.length : Int))) <|
    r0 (w64 (i_ + 1)) (w64 (j_ - 1)) (v5.set j_.toNat (gD (0 : Int) data2 i_)))
  else bif (ltI j_ i_) then (some (i_, data2))
  else chk ((leI 0 j_) && (ltI j_ (data2.length : Int))) <|
  chk ((leI 0 i_) && (ltI i_ (data2.length : Int))) <|
  chk ((leI 0 i_) && (ltI i_ (data2.length : Int))) <|
  let v7 : List Int := (data2.set i_.toNat (gD (0 : Int) data2 j_))
  chk ((leI 0 j_) && (ltI j_ (v7.length : Int))) <|
  r0 (w64 (i_ + 1)) (w64 (j_ - 1)) (v7.set j_.toNat (gD (0 : Int) data2 i_))
def slices_partitionEqualOrdered_int'.L (N : Nat) (data : (List Int)) (a_ : Int) (b_ : Int) (pivot : Int) : Nat → (Int → Int → (List Int) → Option (Int × (List Int))) × (Int → Int → (List Int) → Option (Int × (List Int))) × (Int → Int → (List Int) → Option (Int × (List Int)))
  | 0 => (fun _ _ _ => none, fun _ _ _ => none, fun _ _ _ => none)
  | n + 1 => (fun i_ j_ data2 => slices_partitionEqualOrdered_int'.s0 N data a_ b_ pivot (slices_partitionEqualOrdered_int'.L N data a_ b_ pivot n).1 (slices_partitionEqualOrdered_int'.L N data a_ b_ pivot n).2.1 (slices_partitionEqualOrdered_int'.L N data a_ b_ pivot n).2.2 i_ j_ data2, fun i_ j_ data2 => slices_partitionEqualOrdered_int'.s1 N data a_ b_ pivot (slices_partitionEqualOrdered_int'.L N data a_ b_ pivot n).1 (slices_partitionEqualOrdered_int'.L N data a_ b_ pivot n).2.1 (slices_partitionEqualOrdered_int'.L N data a_ b_ pivot n).2.2 i_ j_ data2, fun i_ j_ data2 => slices_partitionEqualOrdered_int'.s2 N data a_ b_ pivot (slices_partitionEqualOrdered_int'.L N data a_ b_ pivot n).1 (slices_partitionEqualOrdered_int'.L N data a_ b_ pivot n).2.1 (slices_partitionEqualOrdered_int'.L N data a_ b_ pivot n).2.2 i_ j_ data2)
def slices_partitionEqualOrdered_int'.l0 (N : Nat) (data : (List Int)) (a_ : Int) (b_ : Int) (pivot : Int) (n : Nat) : Int → Int → (List Int) → Option (Int × (List Int)) := (slices_partitionEqualOrdered_int'.L N data a_ b_ pivot n).1
def slices_partitionEqualOrdered_int'.l1 (N : Nat) (data : (List Int)) (a_ : Int) (b_ : Int) (pivot : Int) (n : Nat) : Int → Int → (List Int) → Option (Int × (List Int)) := (slices_partitionEqualOrdered_int'.L N data a_ b_ pivot n).2.1
def slices_partitionEqualOrdered_int'.l2 (N : Nat) (data : (List Int)) (a_ : Int) (b_ : Int) (pivot : Int) (n : Nat) : Int → Int → (List Int) → Option (Int × (List Int)) := (slices_partitionEqualOrdered_int'.L N data a_ b_ pivot n).2.2
theorem slices_partitionEqualOrdered_int'.l0_s (N : Nat) (data : (List Int)) (a_ : Int) (b_ : Int) (pivot : Int) (n : Nat) (i_ : Int) (j_ : Int) (data2 : (List Int)) : slices_partitionEqualOrdered_int'.l0 N data a_ b_ pivot (n + 1) i_ j_ data2 = slices_partitionEqualOrdered_int'.s0 N data a_ b_ pivot (slices_partitionEqualOrdered_int'.l0 N data a_ b_ pivot n) (slices_partitionEqualOrdered_int'.l1 N data a_ b_ pivot n) (slices_partitionEqualOrdered_int'.l2 N data a_ b_ pivot n) i_ j_ data2 := rfl
theorem slices_partitionEqualOrdered_int'.l1_s (N : Nat) (data : (List Int)) (a_ : Int) (b_ : Int) (pivot : Int) (n : Nat) (i_ : Int) (j_ : Int) (data2 : (List Int)) : slices_partitionEqualOrdered_int'.l1 N data a_ b_ pivot (n + 1) i_ j_ data2 = slices_partitionEqualOrdered_int'.s1 N data a_ b_ pivot (slices_partitionEqualOrdered_int'.l0 N data a_ b_ pivot n) (slices_partitionEqualOrdered_int'.l1 N data a_ b_ pivot n) (slices_partitionEqualOrdered_int'.l2 N data a_ b_ pivot n) i_ j_ data2 := rfl
theorem slices_partitionEqualOrdered_int'.l2_s (N : Nat) (data : (List Int)) (a_ : Int) (b_ : Int) (pivot : Int) (n : Nat) (i_ : Int) (j_ : Int) (data2 : (List Int)) : slices_partitionEqualOrdered_int'.l2 N data a_ b_ pivot (n + 1) i_ j_ data2 = slices_partitionEqualOrdered_int'.s2 N data a_ b_ pivot (slices_partitionEqualOrdered_int'.l0 N data a_ b_ pivot n) (slices_partitionEqualOrdered_int'.l1 N data a_ b_ pivot n) (slices_partitionEqualOrdered_int'.l2 N data a_ b_ pivot n) i_ j_ data2 := rfl
def slices_partitionEqualOrdered_int' (N : Nat) (data : (List Int)) (a_ : Int) (b_ : Int) (pivot : Int) : Option (Int × (List Int)) := slices_partitionEqualOrdered_int'.e N (slices_partitionEqualOrdered_int'.l0 N data a_ b_ pivot N) (slices_partitionEqualOrdered_int'.l1 N data a_ b_ pivot N) (slices_partitionEqualOrdered_int'.l2 N data a_ b_ pivot N) data a_ b_ pivot
/-! ### f129: slices.partitionOrdered[int] -/
def slices_partitionOrdered_int'.e (N : Nat) (r0 : Int → (List Int) → Option (Int × Bool × (List Int))) (r1 : Int → Int → (List Int) → Option (Int × Bool × (List Int))) (r2 : Int → Int → (List Int) → Option (Int × Bool × (List Int))) (r3 : Int → Int → (List Int) → Option (Int × Bool × (List Int))) (r4 : Int → Int → (List Int) → Option (Int × Bool × (List Int))) (data : (List Int)) (a_ : Int) (b_ : Int) (pivot : Int) : Option (Int × Bool × (List Int)) :=
  chk ((leI 0 pivot) && (ltI pivot (data.length : Int))) <|
  chk ((leI 0 a_) && (ltI a_ (data.length : Int))) <|
  chk ((leI 0 a_) && (ltI a_ (data.length : Int))) <|
  let v1 : List Int := (data.set a_.toNat (gD (0 : Int) data pivot))
  chk ((leI 0 pivot) && (ltI pivot (v1.length : Int))) <|
  r0 (w64 (a_ + 1)) (v1.set pivot.toNat (gD (0 : Int) data a_))
def slices_partitionOrdered_int'.s0 (N : Nat) (data : (List Int)) (a_ : Int) (b_ : Int) (pivot : Int) (r0 : Int → (List Int) → Option (Int × Bool × (List Int))) (r1 : Int → Int → (List Int) → Option (Int × Bool × (List Int))) (r2 : Int → Int → (List Int) → Option (Int × Bool × (List Int))) (r3 : Int → Int → (List Int) → Option (Int × Bool × (List Int))) (r4 : Int → Int → (List Int) → Option (Int × Bool × (List Int))) (i_ : Int) (data2 : (List Int)) : Option (Int × Bool × (List Int)) :=
  bif (leI i_ (w64 (b_ - 1))) then (chk ((leI 0 i_) && (ltI i_ (data2.length : Int))) <|
    chk ((leI 0 a_) && (ltI a_ (data2.length : Int))) <|
    (cmp_Less_int N (gD (0 : Int) data2 i_) (gD (0 : Int) data2 a_)).bind fun y3 =>
    bif y3 then (r0 (w64 (i_ + 1)) data2)
    else r1 i_ (w64 (b_ - 1)) data2)
  else r1 i_ (w64 (b_ - 1)) data2
def slices_partitionOrdered_int'.s1 (N : Nat) (data : (List Int)) (a_ : Int) (b_ : Int) (pivot : Int) (r0 : Int → (List Int) → Option (Int × Bool × (List Int))) (r1 : Int → Int → (List Int) → Option (Int × Bool × (List Int))) (r2 : Int → Int → (List Int) → Option (Int × Bool × (List Int))) (r3 : Int → Int → (List Int) → Option (Int × Bool × (List Int))) (r4 : Int → Int → (List Int) → Option (Int × Bool × (List Int))) (i_ : Int) (j_ : Int) (data2 : (List Int)) : Option (Int × Bool × (List Int)) :=
  bif (leI i_ j_) then (chk ((leI 0 j_) && (ltI j_ (data2.length : Int))) <|
    chk ((leI 0 a_) && (ltI a_ (data2.length : Int))) <|
    (cmp_Less_int N (gD (0 : Int) data2 j_) (gD (0 : Int) data2 a_)).bind fun y4 =>
    bif (!y4) then (r1 i_ (w64 (j_ - 1)) data2)
    else bif (ltI j_ i_) then (chk ((leI 0 a_) && (ltI a_ (data2.length : Int))) <|
      chk ((leI 0 j_) && (ltI j_ (data2.length : Int))) <|
      chk ((leI 0 j_) && (ltI j_ (data2.length : Int))) <|
      let v5 : List Int := (data2.set j_.toNat (gD (0 : Int) data2 a_))
      chk ((leI 0 a_) && (ltI a_ (v5.length : Int))) <|
      some (j_, (true, (v5.set a_.toNat (gD (0 : Int) data2 j_)))))
    else chk ((leI 0 j_) && (ltI j_ (data2.length : Int))) <|
    chk ((leI 0 i_) && (ltI i_ (data2.length : Int))) <|
    chk ((leI 0 i_) && (ltI i_ (data2.length : Int))) <|
    let v7 : List Int := (data2.set i_.toNat (gD (0 : Int) data2 j_))
    chk ((leI 0 j_) && (ltI j_ (v7.length : Int))) <|
    r2 (w64 (i_ + 1)) (w64 (j_ - 1)) (v7.set j_.toNat (gD (0 : Int) data2 i_)))
  else bif (ltI j_ i_) then (chk ((leI 0 a_) && (ltI a_ (data2.length : Int))) <|
    chk ((leI 0 j_) && (ltI j_ (data2.length : Int))) <|
    chk ((leI 0 j_) && (ltI j_ (data2.length : Int))) <|
    let v9 : List Int := (data2.set j_.toNat (gD (0 : Int) data2 a_))
    chk ((leI 0 a_) && (ltI a_ (v9.length : Int))) <|
    some (j_, (true, (v9.set a_.toNat (gD (0 : Int) data2 j_)))))
  else chk ((leI 0 j_) && (ltI j_ (data2.length : Int))) <|
  chk ((leI 0 i_) && (ltI i_ (data2.length : Int))) <|
  chk ((leI 0 i_) && (ltI i_ (data2.length : Int))) <|
  let v11 : List Int := (data2.set i_.toNat (gD (0 : Int) data2 j_))
  chk ((leI 0 j_) && (ltI j_ (v11.length : Int))) <|
  r2 (w64 (i_ + 1)) (w64 (j_ - 1)) (v11.set j_.toNat (gD (0 : Int) data2 i_))
def slices_partitionOrdered_int'.s2 (N : Nat) (data : (List Int)) (a_ : Int) (b_ : Int) (pivot : Int) (r0 : Int → (List Int) → Option (Int × Bool × (List Int))) (r1 : Int → Int → (List Int) → Option (Int × Bool × (List Int))) (r2 : Int → Int → (List Int) → Option (Int × Bool × (List Int))) (r3 : Int → Int → (List Int) → Option (Int × Bool × (List Int))) (r4 : Int → Int → (List Int) → Option (Int × Bool × (List Int))) (i_ : Int) (j_ : Int) (data2 : (List Int)) : Option (Int × Bool × (List Int)) :=
  r3 i_ j_ data2
def slices_partitionOrdered_int'.s3 (N : Nat) (data : (List Int)) (a_ : Int) (b_ : Int) (pivot : Int) (r0 : Int → (List Int) → Option (Int × Bool × (List Int))) (r1 : Int → Int → (List Int) → Option (Int × Bool × (List Int))) (r2 : Int → Int → (List Int) → Option (Int × Bool × (List Int))) (r3 : Int → Int → (List Int) → Option (Int × Bool × (List Int))) (r4 : Int → Int → (List Int) → Option (Int × Bool × (List Int))) (i_ : Int) (j_ : Int) (data2 : (List Int)) : Option (Int × Bool × (List Int)) :=
  bif (leI i_ j_) then (chk ((leI 0 i_) && (ltI i_ (data2.length : Int))) <|
    chk ((leI 0 a_) && (ltI a_ (data2.length : Int))) <|
    (cmp_Less_int N (gD (0 : Int) data2 i_) (gD (0 : Int) data2 a_)).bind fun y13 =>
    bif y13 then (r3 (w64 (i_ + 1)) j_ data2)
    else r4 i_ j_ data2)
  else r4 i_ j_ data2
def slices_partitionOrdered_int'.s4 (N : Nat) (data : (List Int)) (a_ : Int) (b_ : Int) (pivot : Int) (r0 : Int → (List Int) → Option (Int × Bool × (List Int))) (r1 : Int → Int → (List Int) → Option (Int × Bool × (List Int))) (r2 : Int → Int → (List Int) → Option (Int × Bool × (List Int))) (r3 : Int → Int → (List Int) → Option (Int × Bool × (List Int))) (r4 : Int → Int → (List Int) → Option (Int × Bool × (List Int))) (i_ : Int) (j_ : Int) (data2 : (List Int)) : Option (Int × Bool × (List Int)) :=
  bif (leI i_ j_) then (chk ((leI 0 j_) && (ltI j_ (data2.length : Int))) <|
    chk ((leI 0 a_) && (ltI a_ (data2.length : Int))) <|
    (cmp_Less_int N (gD (0 : Int) data2 j_) (gD (0 : Int) data2 a_)).bind fun y14 =>
    bif (!y14) then (r4 i_ (w64 (j_ - 1)) data2)
    else bif (ltI j_ i_) then (chk ((leI 0 a_) && (ltI a_ (data2.length : Int))) <|
      chk ((leI 0 j_) && (ltI j_ (data2.length : Int))) <|
      chk ((leI 0 j_) && (ltI j_ (data2.length : Int))) <|
      let v15 : List Int := (data2.set j_.toNat (gD (0 : Int) data2 a_))
      chk ((leI 0 a_) && (ltI a_ (v15.length : Int))) <|
      some (j_, (false, (v15.set a_.toNat (gD (0 : Int) data2 j_)))))
    else chk ((leI 0 j_) && (ltI j_ (data2.length : Int))) <|
    chk ((leI 0 i_) && (ltI i_ (data2.length : Int))) <|
    chk ((leI 0 i_) && (ltI i_ (data2.length : Int))) <|
    let v17 : List Int := (data2.set i_.toNat (gD (0 : Int) data2 j_))
    chk ((leI 0 j_) && (ltI j_ (v17.length : Int))) <|
    r2 (w64 (i_ + 1)) (w64 (j_ - 1)) (v17.set j_.toNat (gD (0 : Int) data2 i_)))
  else bif (ltI j_ i_) then (chk ((leI 0 a_) && (ltI a_ (data2.length : Int))) <|
    chk ((leI 0 j_) && (ltI j_ (data2.length : Int))) <|
    chk ((leI 0 j_) && (ltI j_ (data2.length : Int))) <|
    let v19 : List Int := (data2.set j_.toNat (gD (0 : Int) data2 a_))
    chk ((leI 0 a_) && (ltI a_ (v19.length : Int))) <|
    some (j_, (false, (v19.set a_.toNat (gD (0 : Int) data2 j_)))))
  else chk ((leI 0 j_) && (ltI j_ (data2.length : Int))) <|
  chk ((leI 0 i_) && (ltI i_ (data2.length : Int))) <|
  chk ((leI 0 i_) && (ltI i_ (data2.length : Int))) <|
  let v21 : List Int := (data2.set i_.toNat (gD (0 : Int) data2 j_))
  chk ((leI 0 j_) && (ltI j_ (v21.length : Int))) <|
  r2 (w64 (i_ + 1)) (w64 (j_ - 1)) (v21.set j_.toNat (gD (0 : Int) data2 i_))
def slices_partitionOrdered_int'.L (N : Nat) (data : (List Int)) (a_ : Int) (b_ : Int) (pivot : Int) : Nat → (Int → (List Int) → Option (Int × Bool × (List Int))) × (Int → Int → (List Int) → Option (Int × Bool × (List Int))) × (Int → Int → (List Int) → Option (Int × Bool × (List Int))) × (Int → Int → (List Int) → Option (Int × Bool × (List Int))) × (Int → Int → (List Int) → Option (Int × Bool × (List Int)))
  | 0 => (fun _ _ => none, fun _ _ _ => none, fun _ _ _ => none, fun _ _ _ => none, fun _ _ _ => none)
  | n + 1 => (fun i_ data2 => slices_partitionOrdered_int'.s0 N data a_ b_ pivot (slices_partitionOrdered_int'.L N data a_ b_ pivot n).1 (slices_partitionOrdered_int'.L N data a_ b_ pivot n).2.1 (slices_partitionOrdered_int'.L N data a_ b_ pivot n).2.2.1 (slices_partitionOrdered_int'.L N data a_ b_ pivot n).2.2.2.1 (slices_partitionOrdered_int'.L N data a_ b_ pivot n).2.2.2.2 i_ data2, fun i_ j_ data2 => slices_partitionOrdered_int'.s1 N data a_ b_ pivot (slices_partitionOrdered_int'.L N data a_ b_ pivot n).1 (slices_partitionOrdered_int'.L N data a_ b_ pivot n).2.1 (slices_partitionOrdered_int'.L N data a_ b_ pivot n).2.2.1 (slices_partitionOrdered_int'.L N data a_ b_ pivot n).2.2.2.1 (slices_partitionOrdered_int'.L N data a_ b_ pivot n).2.2.2.2 i_ j_ data2, fun i_ j_ data2 => slices_partitionOrdered_int'.s2 N data a_ b_ pivot (slices_partitionOrdered_int'.L N data a_ b_ pivot n).1 (slices_partitionOrdered_int'.L N data a_ b_ pivot n).2.1 (slices_partitionOrdered_int'.L N data a_ b_ pivot n).2.2.1 (slices_partitionOrdered_int'.L N data a_ b_ pivot n).2.2.2.1 (slices_partitionOrdered_int'.L N data a_ b_ pivot n).2.2.2.2 i_ j_ data2, fun i_ j_ data2 => slices_partitionOrdered_int'.s3 N data a_ b_ pivot (slices_partitionOrdered_int'.L N data a_ b_ pivot n).1 (slices_partitionOrdered_int'.L N data a_ b_ pivot n).2.1 (slices_partitionOrdered_int'.L N data a_ b_ pivot n).2.2.1 (slices_partitionOrdered_int'.L N data a_ b_ pivot n).2.2.2.1 (slices_partitionOrdered_int'.L N data a_ b_ pivot n).2.2.2.2 i_ j_ data2, fun i_ j_ data2 => slices_partitionOrdered_int'.s4 N data a_ b_ pivot (slices_partitionOrdered_int'.L N data a_ b_ pivot n).1 (slices_partitionOrdered_int'.L N data a_ b_ pivot n).2.1 (slices_partitionOrdered_int'.L N data a_ b_ pivot n).2.2.1 (slices_partitionOrdered_int'.L N data a_ b_ pivot n).2.2.2.1 (slices_partitionOrdered_int'.L N data a_ b_ pivot n).2.2.2.2 i_ j_ data2)
def slices_partitionOrdered_int'.l0 (N : Nat) (data : (List Int)) (a_ : Int) (b_ : Int) (pivot : Int) (n : Nat) : Int → (List Int) → Option (Int × Bool × (List Int)) := (slices_partitionOrdered_int'.L N data a_ b_ pivot n).1
def slices_partitionOrdered_int'.l1 (N : Nat) (data : (List Int)) (a_ : Int) (b_ : Int) (pivot : Int) (n : Nat) : Int → Int → (List Int) → Option (Int × Bool × (List Int)) := (slices_partitionOrdered_int'.L N data a_ b_ pivot n).2.1
def slices_partitionOrdered_int'.l2 (N : Nat) (data : (List Int)) (a_ : Int) (b_ : Int) (pivot : Int) (n : Nat) : Int → Int → (List Int) → Option (Int × Bool × (List Int)) := (slices_partitionOrdered_int'.L N data a_ b_ pivot n).2.2.1
def slices_partitionOrdered_int'.l3 (N : Nat) (data : (List Int)) (a_ : Int) (b_ : Int) (pivot : Int) (n : Nat) : Int → Int → (List Int) → Option (Int × Bool × (List Int)) := (slices_partitionOrdered_int'.L N data a_ b_ pivot n).2.2.2.1
def slices_partitionOrdered_int'.l4 (N : Nat) (data : (List Int)) (a_ : Int) (b_ : Int) (pivot : Int) (n : Nat) : Int → Int → (List Int) → Option (Int × Bool × (List Int)) := (slices_partitionOrdered_int'.L N data a_ b_ pivot n).2.2.2.2
theorem slices_partitionOrdered_int'.l0_s (N : Nat) (data : (List Int)) (a_ : Int) (b_ : Int) (pivot : Int) (n : Nat) (i_ : Int) (data2 : (List Int)) : slices_partitionOrdered_int'.l0 N data a_ b_ pivot (n + 1) i_ data2 = slices_partitionOrdered_int'.s0 N data a_ b_ pivot (slices_partitionOrdered_int'.l0 N data a_ b_ pivot n) (slices_partitionOrdered_int'.l1 N data a_ b_ pivot n) (slices_partitionOrdered_int'.l2 N data a_ b_ pivot n) (slices_partitionOrdered_int'.l3 N data a_ b_ pivot n) (slices_partitionOrdered_int'.l4 N data a_ b_ pivot n) i_ data2 := rfl
theorem slices_partitionOrdered_int'.l1_s (N : Nat) (data : (List Int)) (a_ : Int) (b_ : Int) (pivot : Int) (n : Nat) (i_ : Int) (j_ : Int) (data2 : (List Int)) : slices_partitionOrdered_int'.l1 N data a_ b_ pivot (n + 1) i_ j_ data2 = slices_partitionOrdered_int'.s1 N data a_ b_ pivot (slices_partitionOrdered_int'.l0 N data a_ b_ pivot n) (slices_partitionOrdered_int'.l1 N data a_ b_ pivot n) (slices_partitionOrdered_int'.l2 N data a_ b_ pivot n) (slices_partitionOrdered_int'.l3 N data a_ b_ pivot n) (slices_partitionOrdered_int'.l4 N data a_ b_ pivot n) i_ j_ data2 := rfl
theorem slices_partitionOrdered_int'.l2_s (N : Nat) (data : (List Int)) (a_ : Int) (b_ : Int) (pivot : Int) (n : Nat) (i_ : Int) (j_ : Int) (data2 : (List Int)) : slices_partitionOrdered_int'.l2 N data a_ b_ pivot (n + 1) i_ j_ data2 = slices_partitionOrdered_int'.s2 N data a_ b_ pivot (slices_partitionOrdered_int'.l0 N data a_ b_ pivot n) (slices_partitionOrdered_int'.l1 N data a_ b_ pivot n) (slices_partitionOrdered_int'.l2 N data a_ b_ pivot n) (slices_partitionOrdered_int'.l3 N data a_ b_ pivot n) (slices_partitionOrdered_int'.l4 N data a_ b_ pivot n) i_ j_ data2 := rfl
theorem slices_partitionOrdered_int'.l3_s (N : Nat) (data : (List Int)) (a_ : Int) (b_ : Int) (pivot : Int) (n : Nat) (i_ : Int) (j_ : Int) (data2 : (List Int)) : slices_partitionOrdered_int'.l3 N data a_ b_ pivot (n + 1) i_ j_ data2 = slices_partitionOrdered_int'.s3 N data a_ b_ pivot (slices_partitionOrdered_int'.l0 N data a_ b_ pivot n) (slices_partitionOrdered_int'.l1 N data a_ b_ pivot n) (slices_partitionOrdered_int'.l2 N data a_ b_ pivot n) (slices_partitionOrdered_int'.l3 N data a_ b_ pivot n) (slices_partitionOrdered_int'.l4 N data a_ b_ pivot n) i_ j_ data2 := rfl
theorem slices_partitionOrdered_int'.l4_s (N : Nat) (data : (List Int)) (a_ : Int) (b_ : Int) (pivot : Int) (n : Nat) (i_ : Int) (j_ : Int) (data2 : (List Int)) : slices_partitionOrdered_int'.l4 N data a_ b_ pivot (n + 1) i_ j_ data2 = slices_partitionOrdered_int'.s4 N data a_ b_ pivot (slices_partitionOrdered_int'.l0 N data a_ b_ pivot n) (slices_partitionOrdered_int'.l1 N data a_ b_ pivot n) (slices_partitionOrdered_int'.l2 N data a_ b_ pivot n) (slices_partitionOrdered_int'.l3 N data a_ b_ pivot n) (slices_partitionOrdered_int'.l4 N data a_ b_ pivot n) i_ j_ data2 := rfl
def slices_partitionOrdered_int' (N : Nat) (data : (List Int)) (a_ : Int) (b_ : Int) (pivot : Int) : Option (Int × Bool × (List Int)) := slices_partitionOrdered_int'.e N (slices_partitionOrdered_int'.l0 N data a_ b_ pivot N) (slices_partitionOrdered_int'.l1 N data a_ b_ pivot N) (slices_partitionOrdered_int'.l2 N data a_ b_ pivot N) (slices_partitionOrdered_int'.l3 N data a_ b_ pivot N) (slices_partitionOrdered_int'.l4 N data a_ b_ pivot N) data a_ b_ pivot
/-! ### f131: slices.nextPowerOfTwo -/
def slices_nextPowerOfTwo.e (N : Nat) (length : Int) : Option Int :=
  (math_bits_Len N (IntKind.wrap .u64 length)).bind fun y2 =>
  bif (ltI y2 0) then none
  else some (IntKind.wrap .u64 (1 * 2 ^ (min (y2 : Int).toNat 64)))
def slices_nextPowerOfTwo (N : Nat) (length : Int) : Option Int := slices_nextPowerOfTwo.e N length
/-! ### f132: (*slices.xorshift).Next -/
def slices_xorshift_Next.e (N : Nat) (r_ : Int) : Option (Int × Int) :=
  let v2 : Int := (Go.bits .xor .u64 r_ (IntKind.wrap .u64 (r_ * 2 ^ (min (13 : Int).toNat 64))))
  let v4 : Int := (Go.bits .xor .u64 v2 (Int.fdiv v2 (2 ^ (min (7 : Int).toNat 64))))
  let v6 : Int := (Go.bits .xor .u64 v4 (IntKind.wrap .u64 (v4 * 2 ^ (min (17 : Int).toNat 64))))
  some (v6, v6)
def slices_xorshift_Next (N : Nat) (r_ : Int) : Option (Int × Int) := slices_xorshift_Next.e N r_
/-! ### f123: slices.breakPatternsOrdered[int] -/
def slices_breakPatternsOrdered_int'.e (N : Nat) (r0 : Int → Int → (List Int) → Int → Option (List Int)) (data : (List Int)) (a_ : Int) (b_ : Int) : Option (List Int) :=
  bif (leI 8 (w64 (b_ - a_))) then ((slices_nextPowerOfTwo N (w64 (b_ - a_))).bind fun y2 =>
    r0 y2 (w64 ((w64 (a_ + (w64 ((w64 (Int.tdiv (w64 (b_ - a_)) 4)) * 2)))) - 1)) data (IntKind.wrap .u64 (w64 (b_ - a_))))
  else some data
def slices_breakPatternsOrdered_int'.s0 (N : Nat) (data : (List Int)) (a_ : Int) (b_ : Int) (r0 : Int → Int → (List Int) → Int → Option (List Int)) (modulus : Int) (idx : Int) (data2 : (List Int)) (random : Int) : Option (List Int) :=
  bif (leI idx (w64 ((w64 (a_ + (w64 ((w64 (Int.tdiv (w64 (b_ - a_)) 4)) * 2)))) + 1))) then ((slices_xorshift_Next N random).bind fun y7 =>
    let v9 : Int := (Go.bits .and .u64 y7.1 (IntKind.wrap .u64 (modulus - 1)))
    bif (leI (w64 (b_ - a_)) (w64 v9)) then (let v11 : Int := (w64 ((w64 v9) - (w64 (b_ - a_))))
      chk ((leI 0 (w64 (a_ + v11))) && (ltI (w64 (a_ + v11)) (data2.length : Int))) <|
      chk ((leI 0 idx) && (ltI idx (data2.length : Int))) <|
      chk ((leI 0 idx) && (ltI idx (data2.length : Int))) <|
      let v12 : List Int := (data2.set idx.toNat (gD (0 : Int) data2 (w64 (a_ + v11))))
      chk ((leI 0 (w64 (a_ + v11))) && (ltI (w64 (a_ + v11)) (v12.length : Int))) <|
      r0 modulus (w64 (idx + 1)) (v12.set (w64 (a_ + v11)).toNat (gD (0 : Int) data2 idx)) y7.2)
    else chk ((leI 0 (w64 (a_ + (w64 v9)))) && (ltI (w64 (a_ + (w64 v9))) (data2.length : Int))) <|
    chk ((leI 0 idx) && (ltI idx (data2.length : Int))) <|
    chk ((leI 0 idx) && (ltI idx (data2.length : Int))) <|
    let v14 : List Int := (data2.set idx.toNat (gD (0 : Int) data2 (w64 (a_ + (w64 v9)))))
    chk ((leI 0 (w64 (a_ + (w64 v9)))) && (ltI (w64 (a_ + (w64 v9))) (v14.length : Int))) <|
    r0 modulus (w64 (idx + 1)) (v14.set (w64 (a_ + (w64 v9))).toNat (gD (0 : Int) data2 idx)) y7.2)
  else some data2
def slices_breakPatternsOrdered_int'.L (N : Nat) (data : (List Int)) (a_ : Int) (b_ : Int) : Nat → (Int → Int → (List Int) → Int → Option (List Int))
  | 0 => fun _ _ _ _ => none
  | n + 1 => fun modulus idx data2 random => slices_breakPatternsOrdered_int'.s0 N data a_ b_ (slices_breakPatternsOrdered_int'.L N data a_ b_ n) modulus idx data2 random
def slices_breakPatternsOrdered_int'.l0 (N : Nat) (data : (List Int)) (a_ : Int) (b_ : Int) (n : Nat) : Int → Int → (List Int) → Int → Option (List Int) := (slices_breakPatternsOrdered_int'.L N data a_ b_ n)
theorem slices_breakPatternsOrdered_int'.l0_s (N : Nat) (data : (List Int)) (a_ : Int) (b_ : Int) (n : Nat) (modulus : Int) (idx : Int) (data2 : (List Int)) (random : Int) : slices_breakPatternsOrdered_int'.l0 N data a_ b_ (n + 1) modulus idx data2 random = slices_breakPatternsOrdered_int'.s0 N data a_ b_ (slices_breakPatternsOrdered_int'.l0 N data a_ b_ n) modulus idx data2 random := rfl
def slices_breakPatternsOrdered_int' (N : Nat) (data : (List Int)) (a_ : Int) (b_ : Int) : Option (List Int) := slices_breakPatternsOrdered_int'.e N (slices_breakPatternsOrdered_int'.l0 N data a_ b_ N) data a_ b_
/-! ### f95: slices.pdqsortOrdered[int] -/
def slices_pdqsortOrdered_int'.e (N : Nat) (self : (List Int) → Int → Int → Int → Option (List Int)) (r0 : Int → Int → Int → Bool → Bool → (List Int) → Option (List Int)) (data : (List Int)) (a_ : Int) (b_ : Int) (limit : Int) : Option (List Int) :=
  r0 a_ b_ limit true true data
def slices_pdqsortOrdered_int'.s0 (N : Nat) (self : (List Int) → Int → Int → Int → Option (List Int)) (data : (List Int)) (a_ : Int) (b_ : Int) (limit : Int) (r0 : Int → Int → Int → Bool → Bool → (List Int) → Option (List Int)) (a_2 : Int) (b_2 : Int) (limit2 : Int) (wasBalanced : Bool) (wasPartitioned : Bool) (data2 : (List Int)) : Option (List Int) :=
  bif (leI (w64 (b_2 - a_2)) 12) then ((slices_insertionSortOrdered_int' N data2 a_2 b_2).bind fun y2 =>
    some y2)
  else bif (eqI limit2 0) then ((slices_heapSortOrdered_int' N data2 a_2 b_2).bind fun y3 =>
    some y3)
  else bif (!wasBalanced) then ((slices_breakPatternsOrdered_int' N data2 a_2 b_2).bind fun y4 =>
    (slices_choosePivotOrdered_int N y4 a_2 b_2).bind fun y5 =>
    bif (eqI y5.2 2) then ((slices_reverseRangeOrdered_int' N y4 a_2 b_2).bind fun y6 =>
      let v7 : Int := (w64 ((w64 (b_2 - 1)) - (w64 (y5.1 - a_2))))
      bif wasBalanced then (bif wasPartitioned then ((slices_partialInsertionSortOrdered_int' N y6 a_2 b_2).bind fun y8 =>
          bif y8.1 then some y8.2
          else bif (ltI 0 a_2) then (chk ((leI 0 (w64 (a_2 - 1))) && (ltI (w64 (a_2 - 1)) (y8.2.length : Int))) <|
            chk ((leI 0 v7) && (ltI v7 (y8.2.length : Int))) <|
            (cmp_Less_int N (gD (0 : Int) y8.2 (w64 (a_2 - 1))) (gD (0 : Int) y8.2 v7)).bind fun y9 =>
            bif (!y9) then ((slices_partitionEqualOrdered_int' N y8.2 a_2 b_2 v7).bind fun y10 =>
              r0 y10.1 b_2 (w64 (limit2 - 1)) wasBalanced wasPartitioned y10.2)
            else (slices_partitionOrdered_int' N y8.2 a_2 b_2 v7).bind fun y11 =>
            let v12 : Int := (w64 (Int.tdiv (w64 (b_2 - a_2)) 8))
            bif (ltI (w64 (y11.1 - a_2)) (w64 (b_2 - y11.1))) then ((self y11.2.2 a_2 y11.1 (w64 (limit2 - 1))).bind fun y15 =>
              r0 (w64 (y11.1 + 1)) b_2 (w64 (limit2 - 1)) (leI v12 (w64 (y11.1 - a_2))) y11.2.1 y15)
            else (self y11.2.2 (w64 (y11.1 + 1)) b_2 (w64 (limit2 - 1))).bind fun y17 =>
            r0 a_2 y11.1 (w64 (limit2 - 1)) (leI v12 (w64 (b_2 - y11.1))) y11.2.1 y17)
          else (slices_partitionOrdered_int' N y8.2 a_2 b_2 v7).bind fun y18 =>
          let v19 : Int := (w64 (Int.tdiv (w64 (b_2 - a_2)) 8))
          bif (ltI (w64 (y18.1 - a_2)) (w64 (b_2 - y18.1))) then ((self y18.2.2 a_2 y18.1 (w64 (limit2 - 1))).bind fun y22 =>
            r0 (w64 (y18.1 + 1)) b_2 (w64 (limit2 - 1)) (leI v19 (w64 (y18.1 - a_2))) y18.2.1 y22)
          else (self y18.2.2 (w64 (y18.1 + 1)) b_2 (w64 (limit2 - 1))).bind fun y24 =>
          r0 a_2 y18.1 (w64 (limit2 - 1)) (leI v19 (w64 (b_2 - y18.1))) y18.2.1 y24)
        else bif (ltI 0 a_2) then (chk ((leI 0 (w64 (a_2 - 1))) && (ltI (w64 (a_2 - 1)) (y6.length : Int))) <|
          chk ((leI 0 v7) && (ltI v7 (y6.length : Int))) <|
          (cmp_Less_int N (gD (0 : Int) y6 (w64 (a_2 - 1))) (gD (0 : Int) y6 v7)).bind fun y25 =>
          bif (!y25) then ((slices_partitionEqualOrdered_int' N y6 a_2 b_2 v7).bind fun y26 =>
            r0 y26.1 b_2 (w64 (limit2 - 1)) wasBalanced wasPartitioned y26.2)
          else (slices_partitionOrdered_int' N y6 a_2 b_2 v7).bind fun y27 =>
          let v28 : Int := (w64 (Int.tdiv (w64 (b_2 - a_2)) 8))
          bif (ltI (w64 (y27.1 - a_2)) (w64 (b_2 - y27.1))) then ((self y27.2.2 a_2 y27.1 (w64 (limit2 - 1))).bind fun y31 =>
            r0 (w64 (y27.1 + 1)) b_2 (w64 (limit2 - 1)) (leI v28 (w64 (y27.1 - a_2))) y27.2.1 y31)
          else (self y27.2.2 (w64 (y27.1 + 1)) b_2 (w64 (limit2 - 1))).bind fun y33 =>
          r0 a_2 y27.1 (w64 (limit2 - 1)) (leI v28 (w64 (b_2 - y27.1))) y27.2.1 y33)
        else (slices_partitionOrdered_int' N y6 a_2 b_2 v7).bind fun y34 =>
        let v35 : Int := (w64 (Int.tdiv (w64 (b_2 - a_2)) 8))
        bif (ltI (w64 (y34.1 - a_2)) (w64 (b_2 - y34.1))) then ((self y34.2.2 a_2 y34.1 (w64 (limit2 - 1))).bind fun y38 =>
          r0 (w64 (y34.1 + 1)) b_2 (w64 (limit2 - 1)) (leI v35 (w64 (y34.1 - a_2))) y34.2.1 y38)
        else (self y34.2.2 (w64 (y34.1 + 1)) b_2 (w64 (limit2 - 1))).bind fun y40 =>
        r0 a_2 y34.1 (w64 (limit2 - 1)) (leI v35 (w64 (b_2 - y34.1))) y34.2.1 y40)
      else bif (ltI 0 a_2) then (chk ((leI 0 (w64 (a_2 - 1))) && (ltI (w64 (a_2 - 1)) (y6.length : Int))) <|
        chk ((leI 0 v7) && (ltI v7 (y6.length : Int))) <|
        (cmp_Less_int N (gD (0 : Int) y6 (w64 (a_2 - 1))) (gD (0 : Int) y6 v7)).bind fun y41 =>
        bif (!y41) then ((slices_partitionEqualOrdered_int' N y6 a_2 b_2 v7).bind fun y42 =>
          r0 y42.1 b_2 (w64 (limit2 - 1)) wasBalanced wasPartitioned y42.2)
        else (slices_partitionOrdered_int' N y6 a_2 b_2 v7).bind fun y43 =>
        let v44 : Int := (w64 (Int.tdiv (w64 (b_2 - a_2)) 8))
        bif (ltI (w64 (y43.1 - a_2)) (w64 (b_2 - y43.1))) then ((self y43.2.2 a_2 y43.1 (w64 (limit2 - 1))).bind fun y47 =>
          r0 (w64 (y43.1 + 1)) b_2 (w64 (limit2 - 1)) (leI v44 (w64 (y43.1 - a_2))) y43.2.1 y47)
        else (self y43.2.2 (w64 (y43.1 + 1)) b_2 (w64 (limit2 - 1))).bind fun y49 =>
        r0 a_2 y43.1 (w64 (limit2 - 1)) (leI v44 (w64 (b_2 - y43.1))) y43.2.1 y49)
      else (slices_partitionOrdered_int' N y6 a_2 b_2 v7).bind fun y50 =>
      let v51 : Int := (w64 (Int.tdiv (w64 (b_2 - a_2)) 8))
      bif (ltI (w64 (y50.1 - a_2)) (w64 (b_2 - y50.1))) then ((self y50.2.2 a_2 y50.1 (w64 (limit2 - 1))).bind fun y54 =>
        r0 (w64 (y50.1 + 1)) b_2 (w64 (limit2 - 1)) (leI v51 (w64 (y50.1 - a_2))) y50.2.1 y54)
      else (self y50.2.2 (w64 (y50.1 + 1)) b_2 (w64 (limit2 - 1))).bind fun y56 =>
      r0 a_2 y50.1 (w64 (limit2 - 1)) (leI v51 (w64 (b_2 - y50.1))) y50.2.1 y56)
    else bif wasBalanced then (bif wasPartitioned then (bif (eqI y5.2 1) then ((slices_partialInsertionSortOrdered_int' N y4 a_2 b_2).bind fun y57 =>
          bif y57.1 then some y57.2
          else bif (ltI 0 a_2) then (chk ((leI 0 (w64 (a_2 - 1))) && (ltI (w64 (a_2 - 1)) (y57.2.length : Int))) <|
            chk ((leI 0 y5.1) && (ltI y5.1 (y57.2.length : Int))) <|
            (cmp_Less_int N (gD (0 : Int) y57.2 (w64 (a_2 - 1))) (gD (0 : Int) y57.2 y5.1)).bind fun y58 =>
            bif (!y58) then ((slices_partitionEqualOrdered_int' N y57.2 a_2 b_2 y5.1).bind fun y59 =>
              r0 y59.1 b_2 (w64 (limit2 - 1)) wasBalanced wasPartitioned y59.2)
            else (slices_partitionOrdered_int' N y57.2 a_2 b_2 y5.1).bind fun y60 =>
            let v61 : Int := (w64 (Int.tdiv (w64 (b_2 - a_2)) 8))
            bif (ltI (w64 (y60.1 - a_2)) (w64 (b_2 - y60.1))) then ((self y60.2.2 a_2 y60.1 (w64 (limit2 - 1))).bind fun y64 =>
              r0 (w64 (y60.1 + 1)) b_2 (w64 (limit2 - 1)) (leI v61 (w64 (y60.1 - a_2))) y60.2.1 y64)
            else (self y60.2.2 (w64 (y60.1 + 1)) b_2 (w64 (limit2 - 1))).bind fun y66 =>
            r0 a_2 y60.1 (w64 (limit2 - 1)) (leI v61 (w64 (b_2 - y60.1))) y60.2.1 y66)
          else (slices_partitionOrdered_int' N y57.2 a_2 b_2 y5.1).bind fun y67 =>
          let v68 : Int := (w64 (Int.tdiv (w64 (b_2 - a_2)) 8))
          bif (ltI (w64 (y67.1 - a_2)) (w64 (b_2 - y67.1))) then ((self y67.2.2 a_2 y67.1 (w64 (limit2 - 1))).bind fun y71 =>
            r0 (w64 (y67.1 + 1)) b_2 (w64 (limit2 - 1)) (leI v68 (w64 (y67.1 - a_2))) y67.2.1 y71)
          else (self y67.2.2 (w64 (y67.1 + 1)) b_2 (w64 (limit2 - 1))).bind fun y73 =>
          r0 a_2 y67.1 (w64 (limit2 - 1)) (leI v68 (w64 (b_2 - y67.1))) y67.2.1 y73)
        else bif (ltI 0 a_2) then (chk ((leI 0 (w64 (a_2 - 1))) && (ltI (w64 (a_2 - 1)) (y4.length : Int))) <|
          chk ((leI 0 y5.1) && (ltI y5.1 (y4.length : Int))) <|
          (cmp_Less_int N (gD (0 : Int) y4 (w64 (a_2 - 1))) (gD (0 : Int) y4 y5.1)).bind fun y74 =>
          bif (!y74) then ((slices_partitionEqualOrdered_int' N y4 a_2 b_2 y5.1).bind fun y75 =>
            r0 y75.1 b_2 (w64 (limit2 - 1)) wasBalanced wasPartitioned y75.2)
          else (slices_partitionOrdered_int' N y4 a_2 b_2 y5.1).bind fun y76 =>
          let v77 : Int := (w64 (Int.tdiv (w64 (b_2 - a_2)) 8))
          bif (ltI (w64 (y76.1 - a_2)) (w64 (b_2 - y76.1))) then ((self y76.2.2 a_2 y76.1 (w64 (limit2 - 1))).bind fun y80 =>
            r0 (w64 (y76.1 + 1)) b_2 (w64 (limit2 - 1)) (leI v77 (w64 (y76.1 - a_2))) y76.2.1 y80)
          else (self y76.2.2 (w64 (y76.1 + 1)) b_2 (w64 (limit2 - 1))).bind fun y82 =>
          r0 a_2 y76.1 (w64 (limit2 - 1)) (leI v77 (w64 (b_2 - y76.1))) y76.2.1 y82)
        else (slices_partitionOrdered_int' N y4 a_2 b_2 y5.1).bind fun y83 =>
        let v84 : Int := (w64 (Int.tdiv (w64 (b_2 - a_2)) 8))
        bif (ltI (w64 (y83.1 - a_2)) (w64 (b_2 - y83.1))) then ((self y83.2.2 a_2 y83.1 (w64 (limit2 - 1))).bind fun y87 =>
          r0 (w64 (y83.1 + 1)) b_2 (w64 (limit2 - 1)) (leI v84 (w64 (y83.1 - a_2))) y83.2.1 y87)
        else (self y83.2.2 (w64 (y83.1 + 1)) b_2 (w64 (limit2 - 1))).bind fun y89 =>
        r0 a_2 y83.1 (w64 (limit2 - 1)) (leI v84 (w64 (b_2 - y83.1))) y83.2.1 y89)
      else bif (ltI 0 a_2) then (chk ((leI 0 (w64 (a_2 - 1))) && (ltI (w64 (a_2 - 1)) (y4.length : Int))) <|
        chk ((leI 0 y5.1) && (ltI y5.1 (y4.length : Int))) <|
        (cmp_Less_int N (gD (0 : Int) y4 (w64 (a_2 - 1))) (gD (0 : Int) y4 y5.1)).bind fun y90 =>
        bif (!y90) then ((slices_partitionEqualOrdered_int' N y4 a_2 b_2 y5.1).bind fun y91 =>
          r0 y91.1 b_2 (w64 (limit2 - 1)) wasBalanced wasPartitioned y91.2)
        else (slices_partitionOrdered_int' N y4 a_2 b_2 y5.1).bind fun y92 =>
        let v93 : Int := (w64 (Int.tdiv (w64 (b_2 - a_2)) 8))
        bif (ltI (w64 (y92.1 - a_2)) (w64 (b_2 - y92.1))) then ((self y92.2.2 a_2 y92.1 (w64 (limit2 - 1))).bind fun y96 =>
          r0 (w64 (y92.1 + 1)) b_2 (w64 (limit2 - 1)) (leI v93 (w64 (y92.1 - a_2))) y92.2.1 y96)
        else (self y92.2.2 (w64 (y92.1 + 1)) b_2 (w64 (limit2 - 1))).bind fun y98 =>
        r0 a_2 y92.1 (w64 (limit2 - 1)) (leI v93 (w64 (b_2 - y92.1))) y92.2.1 y98)
      else (slices_partitionOrdered_int' N y4 a_2 b_2 y5.1).bind fun y99 =>
      let v100 : Int := (w64 (Int.tdiv (w64 (b_2 - a_2)) 8))
      bif (ltI (w64 (y99.1 - a_2)) (w64 (b_2 - y99.1))) then ((self y99.2.2 a_2 y99.1 (w64 (limit2 - 1))).bind fun y103 =>
        r0 (w64 (y99.1 + 1)) b_2 (w64 (limit2 - 1)) (leI v100 (w64 (y99.1 - a_2))) y99.2.1 y103)
      else (self y99.2.2 (w64 (y99.1 + 1)) b_2 (w64 (limit2 - 1))).bind fun y105 =>
      r0 a_2 y99.1 (w64 (limit2 - 1)) (leI v100 (w64 (b_2 - y99.1))) y99.2.1 y105)
    else bif (ltI 0 a_2) then (chk ((leI 0 (w64 (a_2 - 1))) && (ltI (w64 (a_2 - 1)) (y4.length : Int))) <|
      chk ((leI 0 y5.1) && (ltI y5.1 (y4.length : Int))) <|
      (cmp_Less_int N (gD (0 : Int) y4 (w64 (a_2 - 1))) (gD (0 : Int) y4 y5.1)).bind fun y106 =>
      bif (!y106) then ((slices_partitionEqualOrdered_int' N y4 a_2 b_2 y5.1).bind fun y107 =>
        r0 y107.1 b_2 (w64 (limit2 - 1)) wasBalanced wasPartitioned y107.2)
      else (slices_partitionOrdered_int' N y4 a_2 b_2 y5.1).bind fun y108 =>
      let v109 : Int := (w64 (Int.tdiv (w64 (b_2 - a_2)) 8))
      bif (ltI (w64 (y108.1 - a_2)) (w64 (b_2 - y108.1))) then ((self y108.2.2 a_2 y108.1 (w64 (limit2 - 1))).bind fun y112 =>
        r0 (w64 (y108.1 + 1)) b_2 (w64 (limit2 - 1)) (leI v109 (w64 (y108.1 - a_2))) y108.2.1 y112)
      else (self y108.2.2 (w64 (y108.1 + 1)) b_2 (w64 (limit2 - 1))).bind fun y114 =>
      r0 a_2 y108.1 (w64 (limit2 - 1)) (leI v109 (w64 (b_2 - y108.1))) y108.2.1 y114)
    else (slices_partitionOrdered_int' N y4 a_2 b_2 y5.1).bind fun y115 =>
    let v116 : Int := (w64 (Int.tdiv (w64 (b_2 - a_2)) 8))
    bif (ltI (w64 (y115.1 - a_2)) (w64 (b_2 - y115.1))) then ((self y115.2.2 a_2 y115.1 (w64 (limit2 - 1))).bind fun y119 =>
      r0 (w64 (y115.1 + 1)) b_2 (w64 (limit2 - 1)) (leI v116 (w64 (y115.1 - a_2))) y115.2.1 y119)
    else (self y115.2.2 (w64 (y115.1 + 1)) b_2 (w64 (limit2 - 1))).bind fun y121 =>
    r0 a_2 y115.1 (w64 (limit2 - 1)) (leI v116 (w64 (b_2 - y115.1))) y115.2.1 y121)
  else (slices_choosePivotOrdered_int N data2 a_2 b_2).bind fun y122 =>
  bif (eqI y122.2 2) then ((slices_reverseRangeOrdered_int' N data2 a_2 b_2).bind fun y123 =>
    let v124 : Int := (w64 ((w64 (b_2 - 1)) - (w64 (y122.1 - a_2))))
    bif wasBalanced then (bif wasPartitioned then ((slices_partialInsertionSortOrdered_int' N y123 a_2 b_2).bind fun y125 =>
        bif y125.1 then some y125.2
        else bif (ltI 0 a_2) then (chk ((leI 0 (w64 (a_2 - 1))) && (ltI (w64 (a_2 - 1)) (y125.2.length : Int))) <|
          chk ((leI 0 v124) && (ltI v124 (y125.2.length : Int))) <|
          (cmp_Less_int N (gD (0 : Int) y125.2 (w64 (a_2 - 1))) (gD (0 : Int) y125.2 v124)).bind fun y126 =>
          bif (!y126) then ((slices_partitionEqualOrdered_int' N y125.2 a_2 b_2 v124).bind fun y127 =>
            r0 y127.1 b_2 limit2 wasBalanced wasPartitioned y127.2)
          else (slices_partitionOrdered_int' N y125.2 a_2 b_2 v124).bind fun y128 =>
          let v129 : Int := (w64 (Int.tdiv (w64 (b_2 - a_2)) 8))
          bif (ltI (w64 (y128.1 - a_2)) (w64 (b_2 - y128.1))) then ((self y128.2.2 a_2 y128.1 limit2).bind fun y132 =>
            r0 (w64 (y128.1 + 1)) b_2 limit2 (leI v129 (w64 (y128.1 - a_2))) y128.2.1 y132)
          else (self y128.2.2 (w64 (y128.1 + 1)) b_2 limit2).bind fun y134 =>
          r0 a_2 y128.1 limit2 (leI v129 (w64 (b_2 - y128.1))) y128.2.1 y134)
        else (slices_partitionOrdered_int' N y125.2 a_2 b_2 v124).bind fun y135 =>
        let v136 : Int := (w64 (Int.tdiv (w64 (b_2 - a_2)) 8))
        bif (ltI (w64 (y135.1 - a_2)) (w64 (b_2 - y135.1))) then ((self y135.2.2 a_2 y135.1 limit2).bind fun y139 =>
          r0 (w64 (y135.1 + 1)) b_2 limit2 (leI v136 (w64 (y135.1 - a_2))) y135.2.1 y139)
        else (self y135.2.2 (w64 (y135.1 + 1)) b_2 limit2).bind fun y141 =>
        r0 a_2 y135.1 limit2 (leI v136 (w64 (b_2 - y135.1))) y135.2.1 y141)
      else bif (ltI 0 a_2) then (chk ((leI 0 (w64 (a_2 - 1))) && (ltI (w64 (a_2 - 1)) (y123.length : Int))) <|
        chk ((leI 0 v124) && (ltI v124 (y123.length : Int))) <|
        (cmp_Less_int N (gD (0 : Int) y123 (w64 (a_2 - 1))) (gD (0 : Int) y123 v124)).bind fun y142 =>
        bif (!y142) then ((slices_partitionEqualOrdered_int' N y123 a_2 b_2 v124).bind fun y143 =>
          r0 y143.1 b_2 limit2 wasBalanced wasPartitioned y143.2)
        else (slices_partitionOrdered_int' N y123 a_2 b_2 v124).bind fun y144 =>
        let v145 : Int := (w64 (Int.tdiv (w64 (b_2 - a_2)) 8))
        bif (ltI (w64 (y144.1 - a_2)) (w64 (b_2 - y144.1))) then ((self y144.2.2 a_2 y144.1 limit2).bind fun y148 =>
          r0 (w64 (y144.1 + 1)) b_2 limit2 (leI v145 (w64 (y144.1 - a_2))) y144.2.1 y148)
        else (self y144.2.2 (w64 (y144.1 + 1)) b_2 limit2).bind fun y150 =>
        r0 a_2 y144.1 limit2 (leI v145 (w64 (b_2 - y144.1))) y144.2.1 y150)
      else (slices_partitionOrdered_int' N y123 a_2 b_2 v124).bind fun y151 =>
      let v152 : Int := (w64 (Int.tdiv (w64 (b_2 - a_2)) 8))
      bif (ltI (w64 (y151.1 - a_2)) (w64 (b_2 - y151.1))) then ((self y151.2.2 a_2 y151.1 limit2).bind fun y155 =>
        r0 (w64 (y151.1 + 1)) b_2 limit2 (leI v152 (w64 (y151.1 - a_2))) y151.2.1 y155)
      else (self y151.2.2 (w64 (y151.1 + 1)) b_2 limit2).bind fun y157 =>
      r0 a_2 y151.1 limit2 (leI v152 (w64 (b_2 - y151.1))) y151.2.1 y157)
    else bif (ltI 0 a_2) then (chk ((leI 0 (w64 (a_2 - 1))) && (ltI (w64 (a_2 - 1)) (y123.length : Int))) <|
      chk ((leI 0 v124) && (ltI v124 (y123.length : Int))) <|
      (cmp_Less_int N (gD (0 : Int) y123 (w64 (a_2 - 1))) (gD (0 : Int) y123 v124)).bind fun y158 =>
      bif (!y158) then ((slices_partitionEqualOrdered_int' N y123 a_2 b_2 v124).bind fun y159 =>
        r0 y159.1 b_2 limit2 wasBalanced wasPartitioned y159.2)
      else (slices_partitionOrdered_int' N y123 a_2 b_2 v124).bind fun y160 =>
      let v161 : Int := (w64 (Int.tdiv (w64 (b_2 - a_2)) 8))
      bif (ltI (w64 (y160.1 - a_2)) (w64 (b_2 - y160.1))) then ((self y160.2.2 a_2 y160.1 limit2).bind fun y164 =>
        r0 (w64 (y160.1 + 1)) b_2 limit2 (leI v161 (w64 (y160.1 - a_2))) y160.2.1 y164)
      else (self y160.2.2 (w64 (y160.1 + 1)) b_2 limit2).bind fun y166 =>
      r0 a_2 y160.1 limit2 (leI v161 (w64 (b_2 - y160.1))) y160.2.1 y166)
    else (slices_partitionOrdered_int' N y123 a_2 b_2 v124).bind fun y167 =>
    let v168 : Int := (w64 (Int.tdiv (w64 (b_2 - a_2)) 8))
    bif (ltI (w64 (y167.1 - a_2)) (w64 (b_2 - y167.1))) then ((self y167.2.2 a_2 y167.1 limit2).bind fun y171 =>
      r0 (w64 (y167.1 + 1)) b_2 limit2 (leI v168 (w64 (y167.1 - a_2))) y167.2.1 y171)
    else (self y167.2.2 (w64 (y167.1 + 1)) b_2 limit2).bind fun y173 =>
    r0 a_2 y167.1 limit2 (leI v168 (w64 (b_2 - y167.1))) y167.2.1 y173)
  else bif wasBalanced then (bif wasPartitioned then (bif (eqI y122.2 1) then ((slices_partialInsertionSortOrdered_int' N data2 a_2 b_2).bind fun y174 =>
        bif y174.1 then some y174.2
        else bif (ltI 0 a_2) then (chk ((leI 0 (w64 (a_2 - 1))) && (ltI (w64 (a_2 - 1)) (y174.2.length : Int))) <|
          chk ((leI 0 y122.1) && (ltI y122.1 (y174.2.length : Int))) <|
          (cmp_Less_int N (gD (0 : Int) y174.2 (w64 (a_2 - 1))) (gD (0 : Int) y174.2 y122.1)).bind fun y175 =>
          bif (!y175) then ((slices_partitionEqualOrdered_int' N y174.2 a_2 b_2 y122.1).bind fun y176 =>
            r0 y176.1 b_2 limit2 wasBalanced wasPartitioned y176.2)
          else (slices_partitionOrdered_int' N y174.2 a_2 b_2 y122.1).bind fun y177 =>
          let v178 : Int := (w64 (Int.tdiv (w64 (b_2 - a_2)) 8))
          bif (ltI (w64 (y177.1 - a_2)) (w64 (b_2 - y177.1))) then ((self y177.2.2 a_2 y177.1 limit2).bind fun y181 =>
            r0 (w64 (y177.1 + 1)) b_2 limit2 (leI v178 (w64 (y177.1 - a_2))) y177.2.1 y181)
          else (self y177.2.2 (w64 (y177.1 + 1)) b_2 limit2).bind fun y183 =>
          r0 a_2 y177.1 limit2 (leI v178 (w64 (b_2 - y177.1))) y177.2.1 y183)
        else (slices_partitionOrdered_int' N y174.2 a_2 b_2 y122.1).bind fun y184 =>
        let v185 : Int := (w64 (Int.tdiv (w64 (b_2 - a_2)) 8))
        bif (ltI (w64 (y184.1 - a_2)) (w64 (b_2 - y184.1))) then ((self y184.2.2 a_2 y184.1 limit2).bind fun y188 =>
          r0 (w64 (y184.1 + 1)) b_2 limit2 (leI v185 (w64 (y184.1 - a_2))) y184.2.1 y188)
        else (self y184.2.2 (w64 (y184.1 + 1)) b_2 limit2).bind fun y190 =>
        r0 a_2 y184.1 limit2 (leI v185 (w64 (b_2 - y184.1))) y184.2.1 y190)
      else bif (ltI 0 a_2) then (chk ((leI 0 (w64 (a_2 - 1))) && (ltI (w64 (a_2 - 1)) (data2.length : Int))) <|
        chk ((leI 0 y122.1) && (ltI y122.1 (data2.length : Int))) <|
        (cmp_Less_int N (gD (0 : Int) data2 (w64 (a_2 - 1))) (gD (0 : Int) data2 y122.1)).bind fun y191 =>
        bif (!y191) then ((slices_partitionEqualOrdered_int' N data2 a_2 b_2 y122.1).bind fun y192 =>
          r0 y192.1 b_2 limit2 wasBalanced wasPartitioned y192.2)
        else (slices_partitionOrdered_int' N data2 a_2 b_2 y122.1).bind fun y193 =>
        let v194 : Int := (w64 (Int.tdiv (w64 (b_2 - a_2)) 8))
        bif (ltI (w64 (y193.1 - a_2)) (w64 (b_2 - y193.1))) then ((self y193.2.2 a_2 y193.1 limit2).bind fun y197 =>
          r0 (w64 (y193.1 + 1)) b_2 limit2 (leI v194 (w64 (y193.1 - a_2))) y193.2.1 y197)
        else (self y193.2.2 (w64 (y193.1 + 1)) b_2 limit2).bind fun y199 =>
        r0 a_2 y193.1 limit2 (leI v194 (w64 (b_2 - y193.1))) y193.2.1 y199)
      else (slices_partitionOrdered_int' N data2 a_2 b_2 y122.1).bind fun y200 =>
      let v201 : Int := (w64 (Int.tdiv (w64 (b_2 - a_2)) 8))
      bif (ltI (w64 (y200.1 - a_2)) (w64 (b_2 - y200.1))) then ((self y200.2.2 a_2 y200.1 limit2).bind fun y204 =>
        r0 (w64 (y200.1 + 1)) b_2 limit2 (leI v201 (w64 (y200.1 - a_2))) y200.2.1 y204)
      else (self y200.2.2 (w64 (y200.1 + 1)) b_2 limit2).bind fun y206 =>
      r0 a_2 y200.1 limit2 (leI v201 (w64 (b_2 - y200.1))) y200.2.1 y206)
    else bif (ltI 0 a_2) then (chk ((leI 0 (w64 (a_2 - 1))) && (ltI (w64 (a_2 - 1)) (data2.length : Int))) <|
      chk ((leI 0 y122.1) && (ltI y122.1 (data2.length : Int))) <|
      (cmp_Less_int N (gD (0 : Int) data2 (w64 (a_2 - 1))) (gD (0 : Int) data2 y122.1)).bind fun y207 =>
      bif (!y207) then ((slices_partitionEqualOrdered_int' N data2 a_2 b_2 y122.1).bind fun y208 =>
        r0 y208.1 b_2 limit2 wasBalanced wasPartitioned y208.2)
      else (slices_partitionOrdered_int' N data2 a_2 b_2 y122.1).bind fun y209 =>
      let v210 : Int := (w64 (Int.tdiv (w64 (b_2 - a_2)) 8))
      bif (ltI (w64 (y209.1 - a_2)) (w64 (b_2 - y209.1))) then ((self y209.2.2 a_2 y209.1 limit2).bind fun y213 =>
        r0 (w64 (y209.1 + 1)) b_2 limit2 (leI v210 (w64 (y209.1 - a_2))) y209.2.1 y213)
      else (self y209.2.2 (w64 (y209.1 + 1)) b_2 limit2).bind fun y215 =>
      r0 a_2 y209.1 limit2 (leI v210 (w64 (b_2 - y209.1))) y209.2.1 y215)
    else (slices_partitionOrdered_int' N data2 a_2 b_2 y122.1).bind fun y216 =>
    let v217 : Int := (w64 (Int.tdiv (w64 (b_2 - a_2)) 8))
    bif (ltI (w64 (y216.1 - a_2)) (w64 (b_2 - y216.1))) then ((self y216.2.2 a_2 y216.1 limit2).bind fun y220 =>
      r0 (w64 (y216.1 + 1)) b_2 limit2 (leI v217 (w64 (y216.1 - a_2))) y216.2.1 y220)
    else (self y216.2.2 (w64 (y216.1 + 1)) b_2 limit2).bind fun y222 =>
    r0 a_2 y216.1 limit2 (leI v217 (w64 (b_2 - y216.1))) y216.2.1 y222)
  else bif (ltI 0 a_2) then (chk ((leI 0 (w64 (a_2 - 1))) && (ltI (w64 (a_2 - 1)) (data2.length : Int))) <|
    chk ((leI 0 y122.1) && (ltI y122.1 (data2.length : Int))) <|
    (cmp_Less_int N (gD (0 : Int) data2 (w64 (a_2 - 1))) (gD (0 : Int) data2 y122.1)).bind fun y223 =>
    bif (!y223) then ((slices_partitionEqualOrdered_int' N data2 a_2 b_2 y122.1).bind fun y224 =>
      r0 y224.1 b_2 limit2 wasBalanced wasPartitioned y224.2)
    else (slices_partitionOrdered_int' N data2 a_2 b_2 y122.1).bind fun y225 =>
    let v226 : Int := (w64 (Int.tdiv (w64 (b_2 - a_2)) 8))
    bif (ltI (w64 (y225.1 - a_2)) (w64 (b_2 - y225.1))) then ((self y225.2.2 a_2 y225.1 limit2).bind fun y229 =>
      r0 (w64 (y225.1 + 1)) b_2 limit2 (leI v226 (w64 (y225.1 - a_2))) y225.2.1 y229)
    else (self y225.2.2 (w64 (y225.1 + 1)) b_2 limit2).bind fun y231 =>
    r0 a_2 y225.1 limit2 (leI v226 (w64 (b_2 - y225.1))) y225.2.1 y231)
  else (slices_partitionOrdered_int' N data2 a_2 b_2 y122.1).bind fun y232 =>
  let v233 : Int := (w64 (Int.tdiv (w64 (b_2 - a_2)) 8))
  bif (ltI (w64 (y232.1 - a_2)) (w64 (b_2 - y232.1))) then ((self y232.2.2 a_2 y232.1 limit2).bind fun y236 =>
    r0 (w64 (y232.1 + 1)) b_2 limit2 (leI v233 (w64 (y232.1 - a_2))) y232.2.1 y236)
  else (self y232.2.2 (w64 (y232.1 + 1)) b_2 limit2).bind fun y238 =>
  r0 a_2 y232.1 limit2 (leI v233 (w64 (b_2 - y232.1))) y232.2.1 y238
def slices_pdqsortOrdered_int'.L (N : Nat) (self : (List Int) → Int → Int → Int → Option (List Int)) (data : (List Int)) (a_ : Int) (b_ : Int) (limit : Int) : Nat → (Int → Int → Int → Bool → Bool → (List Int) → Option (List Int))
  | 0 => fun _ _ _ _ _ _ => none
  | n + 1 => fun a_2 b_2 limit2 wasBalanced wasPartitioned data2 => slices_pdqsortOrdered_int'.s0 N self data a_ b_ limit (slices_pdqsortOrdered_int'.L N self data a_ b_ limit n) a_2 b_2 limit2 wasBalanced wasPartitioned data2
def slices_pdqsortOrdered_int'.l0 (N : Nat) (self : (List Int) → Int → Int → Int → Option (List Int)) (data : (List Int)) (a_ : Int) (b_ : Int) (limit : Int) (n : Nat) : Int → Int → Int → Bool → Bool → (List Int) → Option (List Int) := (slices_pdqsortOrdered_int'.L N self data a_ b_ limit n)
theorem slices_pdqsortOrdered_int'.l0_s (N : Nat) (self : (List Int) → Int → Int → Int → Option (List Int)) (data : (List Int)) (a_ : Int) (b_ : Int) (limit : Int) (n : Nat) (a_2 : Int) (b_2 : Int) (limit2 : Int) (wasBalanced : Bool) (wasPartitioned : Bool) (data2 : (List Int)) : slices_pdqsortOrdered_int'.l0 N self data a_ b_ limit (n + 1) a_2 b_2 limit2 wasBalanced wasPartitioned data2 = slices_pdqsortOrdered_int'.s0 N self data a_ b_ limit (slices_pdqsortOrdered_int'.l0 N self data a_ b_ limit n) a_2 b_2 limit2 wasBalanced wasPartitioned data2 := rfl
def slices_pdqsortOrdered_int' : Nat → (List Int) → Int → Int → Int → Option (List Int)
  | 0 => fun _ _ _ _ => none
  | N + 1 => fun data a_ b_ limit => slices_pdqsortOrdered_int'.e N (slices_pdqsortOrdered_int' N) (slices_pdqsortOrdered_int'.l0 N (slices_pdqsortOrdered_int' N) data a_ b_ limit N) data a_ b_ limit
theorem slices_pdqsortOrdered_int'_s (N : Nat) (data : (List Int)) (a_ : Int) (b_ : Int) (limit : Int) : slices_pdqsortOrdered_int' (N + 1) data a_ b_ limit = slices_pdqsortOrdered_int'.e N (slices_pdqsortOrdered_int' N) (slices_pdqsortOrdered_int'.l0 N (slices_pdqsortOrdered_int' N) data a_ b_ limit N) data a_ b_ limit := rfl
/-! ### f71: slices.Sort[[]int,int] -/
def slices_Sort_int_int'.e (N : Nat) (x_ : (List Int)) : Option (List Int) :=
  (math_bits_Len N (IntKind.wrap .u64 (x_.length : Int))).bind fun y2 =>
  (slices_pdqsortOrdered_int' N x_ 0 (x_.length : Int) y2).bind fun y3 =>
  some y3
def slices_Sort_int_int' (N : Nat) (x_ : (List Int)) : Option (List Int) := slices_Sort_int_int'.e N x_
/-! ### f72: slices.Compact[[]int,int] -/
def slices_Compact_int_int''.e (N : Nat) (r0 : Int → Option (List Int)) (r1 : Int → Int → Int → (List Int) → Option (List Int)) (s_ : (List Int)) : Option (List Int) :=
  bif (ltI (s_.length : Int) 2) then some s_
  else r0 1
def slices_Compact_int_int''.s0 (N : Nat) (s_ : (List Int)) (r0 : Int → Option (List Int)) (r1 : Int → Int → Int → (List Int) → Option (List Int)) (k_ : Int) : Option (List Int) :=
  bif (ltI k_ (s_.length : Int)) then (chk ((leI 0 k_) && (ltI k_ (s_.length : Int))) <|
    chk ((leI 0 (w64 (k_ - 1))) && (ltI (w64 (k_ - 1)) (s_.length : Int))) <|
    bif (eqI (gD (0 : Int) s_ k_) (gD (0 : Int) s_ (w64 (k_ - 1)))) then (chk ((leI 0 k_) && (leI k_ (s_.length : Int))) <|
      r1 k_ k_ 1 s_)
    else r0 (w64 (k_ + 1)))
  else some s_
def slices_Compact_int_int''.s1 (N : Nat) (s_ : (List Int)) (r0 : Int → Option (List Int)) (r1 : Int → Int → Int → (List Int) → Option (List Int)) (k_ : Int) (s2_ : Int) (k2_ : Int) (s_2 : (List Int)) : Option (List Int) :=
  bif (ltI k2_ ((s_2.length : Int) - s2_)) then (chk ((leI 0 k2_) && (ltI (s2_ + k2_) (s_2.length : Int))) <|
    chk ((leI 0 (w64 (k2_ - 1))) && (ltI (s2_ + (w64 (k2_ - 1))) (s_2.length : Int))) <|
    bif (!(eqI (gD (0 : Int) s_2 (s2_ + k2_)) (gD (0 : Int) s_2 (s2_ + (w64 (k2_ - 1)))))) then (chk ((leI 0 k2_) && (ltI (s2_ + k2_) (s_2.length : Int))) <|
      chk ((leI 0 k_) && (ltI k_ (s_2.length : Int))) <|
      r1 (w64 (k_ + 1)) s2_ (w64 (k2_ + 1)) (s_2.set k_.toNat (gD (0 : Int) s_2 (s2_ + k2_))))
    else r1 k_ s2_ (w64 (k2_ + 1)) s_2)
  else chk ((leI 0 k_) && (leI k_ (s_2.length : Int))) <|
  let v7 : List Int := (s_2.take k_.toNat ++ List.replicate (s_2.length - k_.toNat) (0 : Int))
  chk ((leI 0 k_) && (leI k_ (v7.length : Int))) <|
  some (v7.take k_.toNat)
def slices_Compact_int_int''.L (N : Nat) (s_ : (List Int)) : Nat → (Int → Option (List Int)) × (Int → Int → Int → (List Int) → Option (List Int))
  | 0 => (fun _ => none, fun _ _ _ _ => none)
  | n + 1 => (fun k_ => slices_Compact_int_int''.s0 N s_ (slices_Compact_int_int''.L N s_ n).1 (slices_Compact_int_int''.L N s_ n).2 k_, fun k_ s2_ k2_ s_2 => slices_Compact_int_int''.s1 N s_ (slices_Compact_int_int''.L N s_ n).1 (slices_Compact_int_int''.L N s_ n).2 k_ s2_ k2_ s_2)
def slices_Compact_int_int''.l0 (N : Nat) (s_ : (List Int)) (n : Nat) : Int → Option (List Int) := (slices_Compact_int_int''.L N s_ n).1
def slices_Compact_int_int''.l1 (N : Nat) (s_ : (List Int)) (n : Nat) : Int → Int → Int → (List Int) → Option (List Int) := (slices_Compact_int_int''.L N s_ n).2
theorem slices_Compact_int_int''.l0_s (N : Nat) (s_ : (List Int)) (n : Nat) (k_ : Int) : slices_Compact_int_int''.l0 N s_ (n + 1) k_ = slices_Compact_int_int''.s0 N s_ (slices_Compact_int_int''.l0 N s_ n) (slices_Compact_int_int''.l1 N s_ n) k_ := rfl
theorem slices_Compact_int_int''.l1_s (N : Nat) (s_ : (List Int)) (n : Nat) (k_ : Int) (s2_ : Int) (k2_ : Int) (s_2 : (List Int)) : slices_Compact_int_int''.l1 N s_ (n + 1) k_ s2_ k2_ s_2 = slices_Compact_int_int''.s1 N s_ (slices_Compact_int_int''.l0 N s_ n) (slices_Compact_int_int''.l1 N s_ n) k_ s2_ k2_ s_2 := rfl
def slices_Compact_int_int'' (N : Nat) (s_ : (List Int)) : Option (List Int) := slices_Compact_int_int''.e N (slices_Compact_int_int''.l0 N s_ N) (slices_Compact_int_int''.l1 N s_ N) s_
/-! ### f29: gamehall/symm.Orbit -/
def symm_Orbit.e (N : Nat) (r0 : Int → Int → (List Int) → Option ((List Int) × Int)) (width : Int) (height : Int) (square : Int) : Option ((List Int) × Int) :=
  (symm_Map N width height 0 square).bind fun y1 =>
  bif (!(eqI y1.2 0)) then (some ([], y1.2))
  else (symm_many N width height).bind fun y2 =>
  r0 y2 0 []
def symm_Orbit.s0 (N : Nat) (width : Int) (height : Int) (square : Int) (r0 : Int → Int → (List Int) → Option ((List Int) × Int)) (t24_ : Int) (t25_ : Int) (out : (List Int)) : Option ((List Int) × Int) :=
  bif (ltI t25_ t24_) then ((symm_image N width height t25_ square).bind fun y3 =>
    chk (capOk 8 (out.length + ([y3] : List Int).length)) <|
    r0 t24_ (w64 (t25_ + 1)) (out ++ [y3]))
  else (slices_Sort_int_int' N out).bind fun y4 =>
  (slices_Compact_int_int'' N y4).bind fun y5 =>
  some (y5, 0)
def symm_Orbit.L (N : Nat) (width : Int) (height : Int) (square : Int) : Nat → (Int → Int → (List Int) → Option ((List Int) × Int))
  | 0 => fun _ _ _ => none
  | n + 1 => fun t24_ t25_ out => symm_Orbit.s0 N width height square (symm_Orbit.L N width height square n) t24_ t25_ out
def symm_Orbit.l0 (N : Nat) (width : Int) (height : Int) (square : Int) (n : Nat) : Int → Int → (List Int) → Option ((List Int) × Int) := (symm_Orbit.L N width height square n)
theorem symm_Orbit.l0_s (N : Nat) (width : Int) (height : Int) (square : Int) (n : Nat) (t24_ : Int) (t25_ : Int) (out : (List Int)) : symm_Orbit.l0 N width height square (n + 1) t24_ t25_ out = symm_Orbit.s0 N width height square (symm_Orbit.l0 N width height square n) t24_ t25_ out := rfl
def symm_Orbit (N : Nat) (width : Int) (height : Int) (square : Int) : Option ((List Int) × Int) := symm_Orbit.e N (symm_Orbit.l0 N width height square N) width height square
/-! ### f24: slices.Equal[[]int,int] -/
def slices_Equal_int_int.e (N : Nat) (r0 : Int → Option Bool) (s1_ : (List Int)) (s2_ : (List Int)) : Option Bool :=
  bif (!(eqI (s1_.length : Int) (s2_.length : Int))) then some false
  else r0 0
def slices_Equal_int_int.s0 (N : Nat) (s1_ : (List Int)) (s2_ : (List Int)) (r0 : Int → Option Bool) (t13_ : Int) : Option Bool :=
  bif (ltI t13_ (s1_.length : Int)) then (chk ((leI 0 t13_) && (ltI t13_ (s1_.length : Int))) <|
    chk ((leI 0 t13_) && (ltI t13_ (s2_.length : Int))) <|
    bif (!(eqI (gD (0 : Int) s1_ t13_) (gD (0 : Int) s2_ t13_))) then some false
    else r0 (w64 (t13_ + 1)))
  else some true
def slices_Equal_int_int.L (N : Nat) (s1_ : (List Int)) (s2_ : (List Int)) : Nat → (Int → Option Bool)
  | 0 => fun _ => none
  | n + 1 => fun t13_ => slices_Equal_int_int.s0 N s1_ s2_ (slices_Equal_int_int.L N s1_ s2_ n) t13_
def slices_Equal_int_int.l0 (N : Nat) (s1_ : (List Int)) (s2_ : (List Int)) (n : Nat) : Int → Option Bool := (slices_Equal_int_int.L N s1_ s2_ n)
theorem slices_Equal_int_int.l0_s (N : Nat) (s1_ : (List Int)) (s2_ : (List Int)) (n : Nat) (t13_ : Int) : slices_Equal_int_int.l0 N s1_ s2_ (n + 1) t13_ = slices_Equal_int_int.s0 N s1_ s2_ (slices_Equal_int_int.l0 N s1_ s2_ n) t13_ := rfl
def slices_Equal_int_int (N : Nat) (s1_ : (List Int)) (s2_ : (List Int)) : Option Bool := slices_Equal_int_int.e N (slices_Equal_int_int.l0 N s1_ s2_ N) s1_ s2_
/-! ### f30: gamehall/symm.All -/
def symm_All.e (N : Nat) (r0 : Int → Int → (List Int) → Option ((List Int) × Int)) (width : Int) (height : Int) : Option ((List Int) × Int) :=
  (symm_Check N width height).bind fun y1 =>
  bif (!(eqI y1 0)) then (some ([], y1))
  else (symm_many N width height).bind fun y2 =>
  chk (leI 0 y2 && (decide (y2 < 9223372036854775808) && capOk 8 y2.toNat)) <|
  let v3 : List Int := (List.replicate y2.toNat (0 : Int))
  r0 (v3.length : Int) 0 v3
def symm_All.s0 (N : Nat) (width : Int) (height : Int) (r0 : Int → Int → (List Int) → Option ((List Int) × Int)) (t20_ : Int) (t21_ : Int) (out : (List Int)) : Option ((List Int) × Int) :=
  bif (ltI t21_ t20_) then (chk ((leI 0 t21_) && (ltI t21_ (out.length : Int))) <|
    r0 t20_ (w64 (t21_ + 1)) (out.set t21_.toNat t21_))
  else some (out, 0)
def symm_All.L (N : Nat) (width : Int) (height : Int) : Nat → (Int → Int → (List Int) → Option ((List Int) × Int))
  | 0 => fun _ _ _ => none
  | n + 1 => fun t20_ t21_ out => symm_All.s0 N width height (symm_All.L N width height n) t20_ t21_ out
def symm_All.l0 (N : Nat) (width : Int) (height : Int) (n : Nat) : Int → Int → (List Int) → Option ((List Int) × Int) := (symm_All.L N width height n)
theorem symm_All.l0_s (N : Nat) (width : Int) (height : Int) (n : Nat) (t20_ : Int) (t21_ : Int) (out : (List Int)) : symm_All.l0 N width height (n + 1) t20_ t21_ out = symm_All.s0 N width height (symm_All.l0 N width height n) t20_ t21_ out := rfl
def symm_All (N : Nat) (width : Int) (height : Int) : Option ((List Int) × Int) := symm_All.e N (symm_All.l0 N width height N) width height
/-! ### f31: gamehall/gamehallkeep1.some[int] -/
def gamehallkeep1_some_int.e (N : Nat) (l_ : (List Int)) (n_ : Int) : Option Int :=
  bif (eqI (l_.length : Int) 0) then none
  else bif (eqI (l_.length : Int) 0) then none
  else let v3 : Int := (Int.tmod (w64 ((Int.tmod n_ (l_.length : Int)) + (l_.length : Int))) (l_.length : Int))
  chk ((leI 0 v3) && (ltI v3 (l_.length : Int))) <|
  some (gD (0 : Int) l_ v3)
def gamehallkeep1_some_int (N : Nat) (l_ : (List Int)) (n_ : Int) : Option Int := gamehallkeep1_some_int.e N l_ n_
/-! ### f61: gamehall/gamehallkeep1.fine$1 -/
def gamehallkeep1_fine_1.e (N : Nat) (e_ : Int) : Option Bool :=
  some (!(eqI e_ 0))
def gamehallkeep1_fine_1 (N : Nat) (e_ : Int) : Option Bool := gamehallkeep1_fine_1.e N e_
/-! ### f89: slices.IndexFunc[[]gamehall/api.Errno,gamehall/api.Errno] -/
def slices_IndexFunc_api_Errno_api_Errno.e (N : Nat) (r0 : Int → Option Int) (s_ : (List Int)) : Option Int :=
  r0 0
def slices_IndexFunc_api_Errno_api_Errno.s0 (N : Nat) (s_ : (List Int)) (r0 : Int → Option Int) (t8_ : Int) : Option Int :=
  bif (ltI t8_ (s_.length : Int)) then (chk ((leI 0 t8_) && (ltI t8_ (s_.length : Int))) <|
    (gamehallkeep1_fine_1 N (gD (0 : Int) s_ t8_)).bind fun y2 =>
    bif y2 then some t8_
    else r0 (w64 (t8_ + 1)))
  else some (-1)
def slices_IndexFunc_api_Errno_api_Errno.L (N : Nat) (s_ : (List Int)) : Nat → (Int → Option Int)
  | 0 => fun _ => none
  | n + 1 => fun t8_ => slices_IndexFunc_api_Errno_api_Errno.s0 N s_ (slices_IndexFunc_api_Errno_api_Errno.L N s_ n) t8_
def slices_IndexFunc_api_Errno_api_Errno.l0 (N : Nat) (s_ : (List Int)) (n : Nat) : Int → Option Int := (slices_IndexFunc_api_Errno_api_Errno.L N s_ n)
theorem slices_IndexFunc_api_Errno_api_Errno.l0_s (N : Nat) (s_ : (List Int)) (n : Nat) (t8_ : Int) : slices_IndexFunc_api_Errno_api_Errno.l0 N s_ (n + 1) t8_ = slices_IndexFunc_api_Errno_api_Errno.s0 N s_ (slices_IndexFunc_api_Errno_api_Errno.l0 N s_ n) t8_ := rfl
def slices_IndexFunc_api_Errno_api_Errno (N : Nat) (s_ : (List Int)) : Option Int := slices_IndexFunc_api_Errno_api_Errno.e N (slices_IndexFunc_api_Errno_api_Errno.l0 N s_ N) s_
/-! ### f60: slices.ContainsFunc[[]gamehall/api.Errno,gamehall/api.Errno] -/
def slices_ContainsFunc_api_Errno_api_Errno.e (N : Nat) (s_ : (List Int)) : Option Bool :=
  (slices_IndexFunc_api_Errno_api_Errno N s_).bind fun y1 =>
  some (leI 0 y1)
def slices_ContainsFunc_api_Errno_api_Errno (N : Nat) (s_ : (List Int)) : Option Bool := slices_ContainsFunc_api_Errno_api_Errno.e N s_
/-! ### f18: gamehall/gamehallkeep1.fine -/
def gamehallkeep1_fine.e (N : Nat) (l_ : (List Int)) : Option Bool :=
  (slices_ContainsFunc_api_Errno_api_Errno N l_).bind fun y1 =>
  some (!y1)
def gamehallkeep1_fine (N : Nat) (l_ : (List Int)) : Option Bool := gamehallkeep1_fine.e N l_
/-! ### f62: slices.Index[[]int,int] -/
def slices_Index_int_int.e (N : Nat) (r0 : Int → Option Int) (s_ : (List Int)) (v_ : Int) : Option Int :=
  r0 0
def slices_Index_int_int.s0 (N : Nat) (s_ : (List Int)) (v_ : Int) (r0 : Int → Option Int) (t8_ : Int) : Option Int :=
  bif (ltI t8_ (s_.length : Int)) then (chk ((leI 0 t8_) && (ltI t8_ (s_.length : Int))) <|
    bif (eqI v_ (gD (0 : Int) s_ t8_)) then some t8_
    else r0 (w64 (t8_ + 1)))
  else some (-1)
def slices_Index_int_int.L (N : Nat) (s_ : (List Int)) (v_ : Int) : Nat → (Int → Option Int)
  | 0 => fun _ => none
  | n + 1 => fun t8_ => slices_Index_int_int.s0 N s_ v_ (slices_Index_int_int.L N s_ v_ n) t8_
def slices_Index_int_int.l0 (N : Nat) (s_ : (List Int)) (v_ : Int) (n : Nat) : Int → Option Int := (slices_Index_int_int.L N s_ v_ n)
theorem slices_Index_int_int.l0_s (N : Nat) (s_ : (List Int)) (v_ : Int) (n : Nat) (t8_ : Int) : slices_Index_int_int.l0 N s_ v_ (n + 1) t8_ = slices_Index_int_int.s0 N s_ v_ (slices_Index_int_int.l0 N s_ v_ n) t8_ := rfl
def slices_Index_int_int (N : Nat) (s_ : (List Int)) (v_ : Int) : Option Int := slices_Index_int_int.e N (slices_Index_int_int.l0 N s_ v_ N) s_ v_
/-! ### f19: slices.Contains[[]int,int] -/
def slices_Contains_int_int.e (N : Nat) (s_ : (List Int)) (v_ : Int) : Option Bool :=
  (slices_Index_int_int N s_ v_).bind fun y1 =>
  some (leI 0 y1)
def slices_Contains_int_int (N : Nat) (s_ : (List Int)) (v_ : Int) : Option Bool := slices_Contains_int_int.e N s_ v_
/-! ### f5: gamehall/gamehallkeep1.SymmOrbits -/
def gamehallkeep1_SymmOrbits.e (N : Nat) (width : Int) (height : Int) (square : Int) (n_ : Int) : Option Bool :=
  (symm_Orbit N 3 2 0).bind fun y1 =>
  bif (!(eqI y1.2 0)) then some false
  else (slices_Equal_int_int N y1.1 [0, 2, 3, 5]).bind fun y2 =>
  bif (!y2) then some false
  else (symm_All N 3 2).bind fun y3 =>
  bif (!(eqI y3.2 0)) then some false
  else bif (!(eqI (y3.1.length : Int) 4)) then some false
  else (symm_Orbit N width height square).bind fun y5 =>
  (symm_All N width height).bind fun y6 =>
  bif (!(eqI y5.2 0)) then (some (eqI (y5.1.length : Int) 0))
  else bif (eqI (y5.1.length : Int) 0) then some false
  else (gamehallkeep1_some_int N y5.1 n_).bind fun y9 =>
  (symm_Orbit N width height y9).bind fun y10 =>
  (gamehallkeep1_fine N [y6.2, y10.2]).bind fun y11 =>
  bif y11 then (bif (eqI (y5.1.length : Int) 0) then none
    else bif (eqI (Int.tmod (y6.1.length : Int) (y5.1.length : Int)) 0) then ((slices_Equal_int_int N y5.1 y10.1).bind fun y13 =>
      bif y13 then ((slices_Contains_int_int N y5.1 square).bind fun y14 =>
        some y14)
      else some false)
    else some false)
  else some false
def gamehallkeep1_SymmOrbits (N : Nat) (width : Int) (height : Int) (square : Int) (n_ : Int) : Option Bool := gamehallkeep1_SymmOrbits.e N width height square n_
end Go.Proofs.Ytjmcjiklfhmdlaa.Am
