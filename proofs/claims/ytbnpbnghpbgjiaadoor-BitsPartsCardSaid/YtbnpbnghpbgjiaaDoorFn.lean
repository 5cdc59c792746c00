/- PRINTED by gen.py: what the functions compute, as plain Lean functions with fuel. -/
import Derived.Test.YtbnpbnghpbgjiaaDoorAm14
import Derived.Test.YtbnpbnghpbgjiaaDoorAm21
set_option linter.unusedVariables false
set_option linter.unusedSimpArgs false
namespace Go.Proofs.YtbnpbnghpbgjiaaDoor.Am
open Go
/-! ### f8: gamehall/bits.Count -/
def bits_Count.e (N : Nat) (r0 : Int → Int → Option Int) (r1 : Int → Option Int) (b_ : Int) : Option Int :=
  r0 b_ 0
def bits_Count.s0 (N : Nat) (b_ : Int) (r0 : Int → Int → Option Int) (r1 : Int → Option Int) (rest : Int) (n_ : Int) : Option Int :=
  bif (eqI rest 0) then r1 n_
  else (tzF rest).bind fun y1 =>
  r0 (Go.bits .and .u64 rest (IntKind.wrap .u64 (rest - 1))) (w64 (n_ + 1))
def bits_Count.s1 (N : Nat) (b_ : Int) (r0 : Int → Int → Option Int) (r1 : Int → Option Int) (n_ : Int) : Option Int :=
  some n_
def bits_Count.L (N : Nat) (b_ : Int) : Nat → (Int → Int → Option Int) × (Int → Option Int)
  | 0 => (fun _ _ => none, fun _ => none)
  | n + 1 => (fun rest n_ => bits_Count.s0 N b_ (bits_Count.L N b_ n).1 (bits_Count.L N b_ n).2 rest n_, fun n_ => bits_Count.s1 N b_ (bits_Count.L N b_ n).1 (bits_Count.L N b_ n).2 n_)
def bits_Count.l0 (N : Nat) (b_ : Int) (n : Nat) : Int → Int → Option Int := (bits_Count.L N b_ n).1
def bits_Count.l1 (N : Nat) (b_ : Int) (n : Nat) : Int → Option Int := (bits_Count.L N b_ n).2
theorem bits_Count.l0_s (N : Nat) (b_ : Int) (n : Nat) (rest : Int) (n_ : Int) : bits_Count.l0 N b_ (n + 1) rest n_ = bits_Count.s0 N b_ (bits_Count.l0 N b_ n) (bits_Count.l1 N b_ n) rest n_ := rfl
theorem bits_Count.l1_s (N : Nat) (b_ : Int) (n : Nat) (n_ : Int) : bits_Count.l1 N b_ (n + 1) n_ = bits_Count.s1 N b_ (bits_Count.l0 N b_ n) (bits_Count.l1 N b_ n) n_ := rfl
def bits_Count (N : Nat) (b_ : Int) : Option Int := bits_Count.e N (bits_Count.l0 N b_ N) (bits_Count.l1 N b_ N) b_
/-! ### f3: gamehall/gamehallkeep1.BitsSubsets -/
def gamehallkeep1_BitsSubsets.e (N : Nat) (r0 : Int → Option Bool) (r1 : Int → Int → Int → Int → Int → Option Bool) (r2 : Int → Int → Option Bool) (b_ : Int) : Option Bool :=
  (bits_Count N 513).bind fun y1 =>
  bif (!(eqI y1 2)) then some false
  else r0 b_
def gamehallkeep1_BitsSubsets.s0 (N : Nat) (b_ : Int) (r0 : Int → Option Bool) (r1 : Int → Int → Int → Int → Int → Option Bool) (r2 : Int → Int → Option Bool) (b_2 : Int) : Option Bool :=
  (bits_Count N b_2).bind fun y2 =>
  bif (ltI 8 y2) then (r0 (Go.bits .and .u64 b_2 (IntKind.wrap .u64 (b_2 - 1))))
  else r1 b_2 0 b_2 0 0
def gamehallkeep1_BitsSubsets.s1 (N : Nat) (b_ : Int) (r0 : Int → Option Bool) (r1 : Int → Int → Int → Int → Int → Option Bool) (r2 : Int → Int → Option Bool) (rest : Int) (loc : Int) (b_2 : Int) (n_ : Int) (last : Int) : Option Bool :=
  bif (!(eqI (Go.bits .andNot .u64 loc b_2) 0)) then some false
  else bif (ltI 0 n_) then (bif (leI loc last) then some false
    else bif (ltI 300 n_) then some false
    else bif (eqI loc rest) then (r2 b_2 (w64 (n_ + 1)))
    else r1 rest (Go.bits .and .u64 (IntKind.wrap .u64 (loc - rest)) rest) b_2 (w64 (n_ + 1)) loc)
  else bif (ltI 300 n_) then some false
  else bif (eqI loc rest) then (r2 b_2 (w64 (n_ + 1)))
  else r1 rest (Go.bits .and .u64 (IntKind.wrap .u64 (loc - rest)) rest) b_2 (w64 (n_ + 1)) loc
def gamehallkeep1_BitsSubsets.s2 (N : Nat) (b_ : Int) (r0 : Int → Option Bool) (r1 : Int → Int → Int → Int → Int → Option Bool) (r2 : Int → Int → Option Bool) (b_2 : Int) (n_ : Int) : Option Bool :=
  (bits_Count N b_2).bind fun y6 =>
  bif (ltI y6 0) then none
  else some (eqI n_ (w64 (1 * 2 ^ (min (y6 : Int).toNat 64))))
def gamehallkeep1_BitsSubsets.L (N : Nat) (b_ : Int) : Nat → (Int → Option Bool) × (Int → Int → Int → Int → Int → Option Bool) × (Int → Int → Option Bool)
  | 0 => (fun _ => none, fun _ _ _ _ _ => none, fun _ _ => none)
  | n + 1 => (fun b_2 => gamehallkeep1_BitsSubsets.s0 N b_ (gamehallkeep1_BitsSubsets.L N b_ n).1 (gamehallkeep1_BitsSubsets.L N b_ n).2.1 (gamehallkeep1_BitsSubsets.L N b_ n).2.2 b_2, fun rest loc b_2 n_ last => gamehallkeep1_BitsSubsets.s1 N b_ (gamehallkeep1_BitsSubsets.L N b_ n).1 (gamehallkeep1_BitsSubsets.L N b_ n).2.1 (gamehallkeep1_BitsSubsets.L N b_ n).2.2 rest loc b_2 n_ last, fun b_2 n_ => gamehallkeep1_BitsSubsets.s2 N b_ (gamehallkeep1_BitsSubsets.L N b_ n).1 (gamehallkeep1_BitsSubsets.L N b_ n).2.1 (gamehallkeep1_BitsSubsets.L N b_ n).2.2 b_2 n_)
def gamehallkeep1_BitsSubsets.l0 (N : Nat) (b_ : Int) (n : Nat) : Int → Option Bool := (gamehallkeep1_BitsSubsets.L N b_ n).1
def gamehallkeep1_BitsSubsets.l1 (N : Nat) (b_ : Int) (n : Nat) : Int → Int → Int → Int → Int → Option Bool := (gamehallkeep1_BitsSubsets.L N b_ n).2.1
def gamehallkeep1_BitsSubsets.l2 (N : Nat) (b_ : Int) (n : Nat) : Int → Int → Option Bool := (gamehallkeep1_BitsSubsets.L N b_ n).2.2
theorem gamehallkeep1_BitsSubsets.l0_s (N : Nat) (b_ : Int) (n : Nat) (b_2 : Int) : gamehallkeep1_BitsSubsets.l0 N b_ (n + 1) b_2 = gamehallkeep1_BitsSubsets.s0 N b_ (gamehallkeep1_BitsSubsets.l0 N b_ n) (gamehallkeep1_BitsSubsets.l1 N b_ n) (gamehallkeep1_BitsSubsets.l2 N b_ n) b_2 := rfl
theorem gamehallkeep1_BitsSubsets.l1_s (N : Nat) (b_ : Int) (n : Nat) (rest : Int) (loc : Int) (b_2 : Int) (n_ : Int) (last : Int) : gamehallkeep1_BitsSubsets.l1 N b_ (n + 1) rest loc b_2 n_ last = gamehallkeep1_BitsSubsets.s1 N b_ (gamehallkeep1_BitsSubsets.l0 N b_ n) (gamehallkeep1_BitsSubsets.l1 N b_ n) (gamehallkeep1_BitsSubsets.l2 N b_ n) rest loc b_2 n_ last := rfl
theorem gamehallkeep1_BitsSubsets.l2_s (N : Nat) (b_ : Int) (n : Nat) (b_2 : Int) (n_ : Int) : gamehallkeep1_BitsSubsets.l2 N b_ (n + 1) b_2 n_ = gamehallkeep1_BitsSubsets.s2 N b_ (gamehallkeep1_BitsSubsets.l0 N b_ n) (gamehallkeep1_BitsSubsets.l1 N b_ n) (gamehallkeep1_BitsSubsets.l2 N b_ n) b_2 n_ := rfl
def gamehallkeep1_BitsSubsets (N : Nat) (b_ : Int) : Option Bool := gamehallkeep1_BitsSubsets.e N (gamehallkeep1_BitsSubsets.l0 N b_ N) (gamehallkeep1_BitsSubsets.l1 N b_ N) (gamehallkeep1_BitsSubsets.l2 N b_ N) b_
/-! ### f11: gamehall/bits.List -/
def bits_List.e (N : Nat) (r0 : Int → (List Int) → Option (List Int)) (r1 : (List Int) → Option (List Int)) (b_ : Int) : Option (List Int) :=
  r0 b_ []
def bits_List.s0 (N : Nat) (b_ : Int) (r0 : Int → (List Int) → Option (List Int)) (r1 : (List Int) → Option (List Int)) (rest : Int) (m2_ : (List Int)) : Option (List Int) :=
  bif (eqI rest 0) then r1 m2_
  else (tzF rest).bind fun y1 =>
  chk (capOk 8 (m2_.length + ([y1] : List Int).length)) <|
  r0 (Go.bits .and .u64 rest (IntKind.wrap .u64 (rest - 1))) (m2_ ++ [y1])
def bits_List.s1 (N : Nat) (b_ : Int) (r0 : Int → (List Int) → Option (List Int)) (r1 : (List Int) → Option (List Int)) (m2_ : (List Int)) : Option (List Int) :=
  some m2_
def bits_List.L (N : Nat) (b_ : Int) : Nat → (Int → (List Int) → Option (List Int)) × ((List Int) → Option (List Int))
  | 0 => (fun _ _ => none, fun _ => none)
  | n + 1 => (fun rest m2_ => bits_List.s0 N b_ (bits_List.L N b_ n).1 (bits_List.L N b_ n).2 rest m2_, fun m2_ => bits_List.s1 N b_ (bits_List.L N b_ n).1 (bits_List.L N b_ n).2 m2_)
def bits_List.l0 (N : Nat) (b_ : Int) (n : Nat) : Int → (List Int) → Option (List Int) := (bits_List.L N b_ n).1
def bits_List.l1 (N : Nat) (b_ : Int) (n : Nat) : (List Int) → Option (List Int) := (bits_List.L N b_ n).2
theorem bits_List.l0_s (N : Nat) (b_ : Int) (n : Nat) (rest : Int) (m2_ : (List Int)) : bits_List.l0 N b_ (n + 1) rest m2_ = bits_List.s0 N b_ (bits_List.l0 N b_ n) (bits_List.l1 N b_ n) rest m2_ := rfl
theorem bits_List.l1_s (N : Nat) (b_ : Int) (n : Nat) (m2_ : (List Int)) : bits_List.l1 N b_ (n + 1) m2_ = bits_List.s1 N b_ (bits_List.l0 N b_ n) (bits_List.l1 N b_ n) m2_ := rfl
def bits_List (N : Nat) (b_ : Int) : Option (List Int) := bits_List.e N (bits_List.l0 N b_ N) (bits_List.l1 N b_ N) b_
/-! ### f10: slices.Equal[[]int,int] -/
def slices_Equal_int_int.e (N : Nat) (r0 : Int → Option Bool) (s1_ : (List Int)) (s2_ : (List Int)) : Option Bool :=
  bif (!(eqI (s1_.length : Int) (s2_.length : Int))) then some false
  else r0 0
def slices_Equal_int_int.s0 (N : Nat) (s1_ : (List Int)) (s2_ : (List Int)) (r0 : Int → Option Bool) (t13_ : Int) : Option Bool :=
  bif (ltI t13_ (s1_.length : Int)) then (chk ((leI 0 t13_) && (ltI t13_ (s1_.length : Int))) <|
    chk ((leI 0 t13_) && (ltI t13_ (s2_.length : Int))) <|
    bif (!(eqI (gD (0 : Int) s1_ t13_) (gD (0 : Int) s2_ t13_))) then some false
    else r0 (w64 (t13_ + 1)))
  else some true
def slices_Equal_int_int.L (N : Nat) (s1_ : (List Int)) (s2_ : (List Int)) : Nat → (Int → Option Bool)
  | 0 => fun _ => none
  | n + 1 => fun t13_ => slices_Equal_int_int.s0 N s1_ s2_ (slices_Equal_int_int.L N s1_ s2_ n) t13_
def slices_Equal_int_int.l0 (N : Nat) (s1_ : (List Int)) (s2_ : (List Int)) (n : Nat) : Int → Option Bool := (slices_Equal_int_int.L N s1_ s2_ n)
theorem slices_Equal_int_int.l0_s (N : Nat) (s1_ : (List Int)) (s2_ : (List Int)) (n : Nat) (t13_ : Int) : slices_Equal_int_int.l0 N s1_ s2_ (n + 1) t13_ = slices_Equal_int_int.s0 N s1_ s2_ (slices_Equal_int_int.l0 N s1_ s2_ n) t13_ := rfl
def slices_Equal_int_int (N : Nat) (s1_ : (List Int)) (s2_ : (List Int)) : Option Bool := slices_Equal_int_int.e N (slices_Equal_int_int.l0 N s1_ s2_ N) s1_ s2_
/-! ### f12: gamehall/bits.Of -/
def bits_Of.e (N : Nat) (r0 : Int → Int → Option (Int × Int)) (l_ : (List Int)) : Option (Int × Int) :=
  r0 0 0
def bits_Of.s0 (N : Nat) (l_ : (List Int)) (r0 : Int → Int → Option (Int × Int)) (out : Int) (t9_ : Int) : Option (Int × Int) :=
  bif (ltI t9_ (l_.length : Int)) then (chk ((leI 0 t9_) && (ltI t9_ (l_.length : Int))) <|
    bif (ltI (gD (0 : Int) l_ t9_) 0) then (some (0, 4))
    else bif (leI 64 (gD (0 : Int) l_ t9_)) then (some (0, 4))
    else bif (ltI (gD (0 : Int) l_ t9_) 0) then none
    else bif (eqI (Go.bits .and .u64 (Int.fdiv out (2 ^ (min ((gD (0 : Int) l_ t9_) : Int).toNat 64))) 1) 1) then (some (0, 7))
    else bif (ltI (gD (0 : Int) l_ t9_) 0) then none
    else r0 (Go.bits .or .u64 out (IntKind.wrap .u64 (1 * 2 ^ (min ((gD (0 : Int) l_ t9_) : Int).toNat 64)))) (w64 (t9_ + 1)))
  else some (out, 0)
def bits_Of.L (N : Nat) (l_ : (List Int)) : Nat → (Int → Int → Option (Int × Int))
  | 0 => fun _ _ => none
  | n + 1 => fun out t9_ => bits_Of.s0 N l_ (bits_Of.L N l_ n) out t9_
def bits_Of.l0 (N : Nat) (l_ : (List Int)) (n : Nat) : Int → Int → Option (Int × Int) := (bits_Of.L N l_ n)
theorem bits_Of.l0_s (N : Nat) (l_ : (List Int)) (n : Nat) (out : Int) (t9_ : Int) : bits_Of.l0 N l_ (n + 1) out t9_ = bits_Of.s0 N l_ (bits_Of.l0 N l_ n) out t9_ := rfl
def bits_Of (N : Nat) (l_ : (List Int)) : Option (Int × Int) := bits_Of.e N (bits_Of.l0 N l_ N) l_
/-! ### f4: gamehall/gamehallkeep1.BitsBack -/
def gamehallkeep1_BitsBack.e (N : Nat) (r0 : Int → (List Int) → (List Int) → Option Bool) (r1 : (List Int) → (List Int) → Option Bool) (b_ : Int) : Option Bool :=
  (bits_Count N 513).bind fun y1 =>
  bif (!(eqI y1 2)) then some false
  else (bits_List N 513).bind fun y2 =>
  (slices_Equal_int_int N y2 [0, 9]).bind fun y3 =>
  bif (!y3) then some false
  else (bits_List N b_).bind fun y4 =>
  (bits_Of N y4).bind fun y5 =>
  bif (!(eqI y5.2 0)) then some false
  else bif (!(eqI y5.1 b_)) then some false
  else (bits_Count N b_).bind fun y6 =>
  bif (!(eqI (y4.length : Int) y6)) then some false
  else r0 b_ y4 []
def gamehallkeep1_BitsBack.s0 (N : Nat) (b_ : Int) (r0 : Int → (List Int) → (List Int) → Option Bool) (r1 : (List Int) → (List Int) → Option Bool) (rest : Int) (l_ : (List Int)) (m5_ : (List Int)) : Option Bool :=
  bif (eqI rest 0) then r1 l_ m5_
  else (tzF rest).bind fun y8 =>
  bif (eqI (m5_.length : Int) 3) then r1 l_ m5_
  else chk (capOk 8 (m5_.length + ([y8] : List Int).length)) <|
  r0 (Go.bits .and .u64 rest (IntKind.wrap .u64 (rest - 1))) l_ (m5_ ++ [y8])
def gamehallkeep1_BitsBack.s1 (N : Nat) (b_ : Int) (r0 : Int → (List Int) → (List Int) → Option Bool) (r1 : (List Int) → (List Int) → Option Bool) (l_ : (List Int)) (m5_ : (List Int)) : Option Bool :=
  let v10 : Int := (bif (ltI (l_.length : Int) 3) then (l_.length : Int) else 3)
  chk ((leI 0 v10) && (leI v10 (l_.length : Int))) <|
  (slices_Equal_int_int N m5_ (l_.take v10.toNat)).bind fun y11 =>
  some y11
def gamehallkeep1_BitsBack.L (N : Nat) (b_ : Int) : Nat → (Int → (List Int) → (List Int) → Option Bool) × ((List Int) → (List Int) → Option Bool)
  | 0 => (fun _ _ _ => none, fun _ _ => none)
  | n + 1 => (fun rest l_ m5_ => gamehallkeep1_BitsBack.s0 N b_ (gamehallkeep1_BitsBack.L N b_ n).1 (gamehallkeep1_BitsBack.L N b_ n).2 rest l_ m5_, fun l_ m5_ => gamehallkeep1_BitsBack.s1 N b_ (gamehallkeep1_BitsBack.L N b_ n).1 (gamehallkeep1_BitsBack.L N b_ n).2 l_ m5_)
def gamehallkeep1_BitsBack.l0 (N : Nat) (b_ : Int) (n : Nat) : Int → (List Int) → (List Int) → Option Bool := (gamehallkeep1_BitsBack.L N b_ n).1
def gamehallkeep1_BitsBack.l1 (N : Nat) (b_ : Int) (n : Nat) : (List Int) → (List Int) → Option Bool := (gamehallkeep1_BitsBack.L N b_ n).2
theorem gamehallkeep1_BitsBack.l0_s (N : Nat) (b_ : Int) (n : Nat) (rest : Int) (l_ : (List Int)) (m5_ : (List Int)) : gamehallkeep1_BitsBack.l0 N b_ (n + 1) rest l_ m5_ = gamehallkeep1_BitsBack.s0 N b_ (gamehallkeep1_BitsBack.l0 N b_ n) (gamehallkeep1_BitsBack.l1 N b_ n) rest l_ m5_ := rfl
theorem gamehallkeep1_BitsBack.l1_s (N : Nat) (b_ : Int) (n : Nat) (l_ : (List Int)) (m5_ : (List Int)) : gamehallkeep1_BitsBack.l1 N b_ (n + 1) l_ m5_ = gamehallkeep1_BitsBack.s1 N b_ (gamehallkeep1_BitsBack.l0 N b_ n) (gamehallkeep1_BitsBack.l1 N b_ n) l_ m5_ := rfl
def gamehallkeep1_BitsBack (N : Nat) (b_ : Int) : Option Bool := gamehallkeep1_BitsBack.e N (gamehallkeep1_BitsBack.l0 N b_ N) (gamehallkeep1_BitsBack.l1 N b_ N) b_
/-! ### f23: gamehall/bits.column -/
def bits_column.e (N : Nat) (x_ : Int) : Option Int :=
  bif (ltI x_ 0) then none
  else some (IntKind.wrap .u64 (72340172838076673 * 2 ^ (min (x_ : Int).toNat 64)))
def bits_column (N : Nat) (x_ : Int) : Option Int := bits_column.e N x_
/-! ### f15: gamehall/bits.Shift -/
def bits_Shift.e (N : Nat) (r0 : Int → Int → Option Int) (b_ : Int) (dx : Int) (dy : Int) : Option Int :=
  bif (leI dx (-8)) then some 0
  else bif (leI 8 dx) then some 0
  else bif (leI dy (-8)) then some 0
  else bif (leI 8 dy) then some 0
  else r0 b_ 0
def bits_Shift.s0 (N : Nat) (b_ : Int) (dx : Int) (dy : Int) (r0 : Int → Int → Option Int) (b_2 : Int) (t23_ : Int) : Option Int :=
  bif (ltI t23_ 8) then (bif (ltI (w64 (t23_ + dx)) 0) then ((bits_column N t23_).bind fun y2 =>
      r0 (Go.bits .andNot .u64 b_2 y2) (w64 (t23_ + 1)))
    else bif (leI 8 (w64 (t23_ + dx))) then ((bits_column N t23_).bind fun y5 =>
      r0 (Go.bits .andNot .u64 b_2 y5) (w64 (t23_ + 1)))
    else r0 b_2 (w64 (t23_ + 1)))
  else let v7 : Int := (w64 ((w64 (8 * dy)) + dx))
  bif (leI 0 v7) then (bif (ltI v7 0) then none
    else some (IntKind.wrap .u64 (b_2 * 2 ^ (min (v7 : Int).toNat 64))))
  else bif (ltI (w64 (0 - v7)) 0) then none
  else some (Int.fdiv b_2 (2 ^ (min ((w64 (0 - v7)) : Int).toNat 64)))
def bits_Shift.L (N : Nat) (b_ : Int) (dx : Int) (dy : Int) : Nat → (Int → Int → Option Int)
  | 0 => fun _ _ => none
  | n + 1 => fun b_2 t23_ => bits_Shift.s0 N b_ dx dy (bits_Shift.L N b_ dx dy n) b_2 t23_
def bits_Shift.l0 (N : Nat) (b_ : Int) (dx : Int) (dy : Int) (n : Nat) : Int → Int → Option Int := (bits_Shift.L N b_ dx dy n)
theorem bits_Shift.l0_s (N : Nat) (b_ : Int) (dx : Int) (dy : Int) (n : Nat) (b_2 : Int) (t23_ : Int) : bits_Shift.l0 N b_ dx dy (n + 1) b_2 t23_ = bits_Shift.s0 N b_ dx dy (bits_Shift.l0 N b_ dx dy n) b_2 t23_ := rfl
def bits_Shift (N : Nat) (b_ : Int) (dx : Int) (dy : Int) : Option Int := bits_Shift.e N (bits_Shift.l0 N b_ dx dy N) b_ dx dy
/-! ### f16: gamehall/bits.Ray -/
def bits_Ray.e (N : Nat) (r0 : Int → Int → Option (Int × Int)) (square : Int) (dx : Int) (dy : Int) (occupied : Int) : Option (Int × Int) :=
  bif (ltI square 0) then (some (0, 4))
  else bif (leI 64 square) then (some (0, 4))
  else bif (ltI dx (-1)) then (some (0, 1))
  else bif (ltI 1 dx) then (some (0, 1))
  else bif (ltI dy (-1)) then (some (0, 1))
  else bif (ltI 1 dy) then (some (0, 1))
  else bif (eqI dx 0) then (bif (eqI dy 0) then (some (0, 1))
    else bif (ltI square 0) then none
    else (bits_Shift N (IntKind.wrap .u64 (1 * 2 ^ (min (square : Int).toNat 64))) dx dy).bind fun y2 =>
    r0 0 y2)
  else bif (ltI square 0) then none
  else (bits_Shift N (IntKind.wrap .u64 (1 * 2 ^ (min (square : Int).toNat 64))) dx dy).bind fun y4 =>
  r0 0 y4
def bits_Ray.s0 (N : Nat) (square : Int) (dx : Int) (dy : Int) (occupied : Int) (r0 : Int → Int → Option (Int × Int)) (out : Int) (at_ : Int) : Option (Int × Int) :=
  bif (!(eqI at_ 0)) then (let v5 : Int := (Go.bits .or .u64 out at_)
    bif (!(eqI (Go.bits .and .u64 at_ occupied) 0)) then (some (v5, 0))
    else (bits_Shift N at_ dx dy).bind fun y7 =>
    r0 v5 y7)
  else some (out, 0)
def bits_Ray.L (N : Nat) (square : Int) (dx : Int) (dy : Int) (occupied : Int) : Nat → (Int → Int → Option (Int × Int))
  | 0 => fun _ _ => none
  | n + 1 => fun out at_ => bits_Ray.s0 N square dx dy occupied (bits_Ray.L N square dx dy occupied n) out at_
def bits_Ray.l0 (N : Nat) (square : Int) (dx : Int) (dy : Int) (occupied : Int) (n : Nat) : Int → Int → Option (Int × Int) := (bits_Ray.L N square dx dy occupied n)
theorem bits_Ray.l0_s (N : Nat) (square : Int) (dx : Int) (dy : Int) (occupied : Int) (n : Nat) (out : Int) (at_ : Int) : bits_Ray.l0 N square dx dy occupied (n + 1) out at_ = bits_Ray.s0 N square dx dy occupied (bits_Ray.l0 N square dx dy occupied n) out at_ := rfl
def bits_Ray (N : Nat) (square : Int) (dx : Int) (dy : Int) (occupied : Int) : Option (Int × Int) := bits_Ray.e N (bits_Ray.l0 N square dx dy occupied N) square dx dy occupied
/-! ### f14: gamehall/gamehallkeep1.shifts -/
def gamehallkeep1_shifts.e (N : Nat) : Option Bool :=
  (bits_Ray N 0 1 0 4).bind fun y1 =>
  (bits_Shift N 128 1 0).bind fun y2 =>
  bif (eqI y2 0) then ((bits_Shift N 1 1 1).bind fun y3 =>
    bif (eqI y3 512) then (bif (eqI y1.2 0) then (some (eqI y1.1 6))
      else some false)
    else some false)
  else some false
def gamehallkeep1_shifts (N : Nat) : Option Bool := gamehallkeep1_shifts.e N
/-! ### f5: gamehall/gamehallkeep1.BitsThere -/
def gamehallkeep1_BitsThere.e (N : Nat) (b_ : Int) (dx : Int) (dy : Int) : Option Bool :=
  (gamehallkeep1_shifts N).bind fun y1 =>
  bif (!y1) then some false
  else (bits_Count N 513).bind fun y2 =>
  bif (!(eqI y2 2)) then some false
  else let v4 : Int := (w64 ((Int.tmod (w64 ((Int.tmod dx 9) + 9)) 9) - 4))
  let v6 : Int := (w64 ((Int.tmod (w64 ((Int.tmod dy 9) + 9)) 9) - 4))
  (bits_Shift N b_ v4 v6).bind fun y7 =>
  (bits_Shift N y7 (w64 (0 - v4)) (w64 (0 - v6))).bind fun y8 =>
  bif (eqI (Go.bits .andNot .u64 y8 b_) 0) then ((bits_Count N y8).bind fun y10 =>
    (bits_Count N y7).bind fun y11 =>
    bif (eqI y10 y11) then ((bits_Shift N y8 v4 v6).bind fun y12 =>
      some (eqI y12 y7))
    else some false)
  else some false
def gamehallkeep1_BitsThere (N : Nat) (b_ : Int) (dx : Int) (dy : Int) : Option Bool := gamehallkeep1_BitsThere.e N b_ dx dy
/-! ### f6: gamehall/gamehallkeep1.BitsRays -/
def gamehallkeep1_BitsRays.e (N : Nat) (square : Int) (dx : Int) (dy : Int) (occupied : Int) (more : Int) : Option Bool :=
  (gamehallkeep1_shifts N).bind fun y1 =>
  bif (!y1) then some false
  else (bits_Ray N square dx dy occupied).bind fun y2 =>
  (bits_Ray N square dx dy (Go.bits .or .u64 occupied more)).bind fun y4 =>
  bif (!(eqI y2.2 0)) then (bif (eqI y2.2 y4.2) then (bif (eqI y2.1 0) then (some (eqI y4.1 0))
      else some false)
    else some false)
  else bif (eqI y4.2 0) then (bif (eqI (Go.bits .andNot .u64 y4.1 y2.1) 0) then ((bits_Count N (Go.bits .and .u64 y2.1 occupied)).bind fun y7 =>
      bif (leI y7 1) then ((bits_Count N (Go.bits .and .u64 y4.1 (Go.bits .or .u64 occupied more))).bind fun y10 =>
        bif (leI y10 1) then (some ((eqI y2.1 0) == (eqI y4.1 0)))
        else some false)
      else some false)
    else some false)
  else some false
def gamehallkeep1_BitsRays (N : Nat) (square : Int) (dx : Int) (dy : Int) (occupied : Int) (more : Int) : Option Bool := gamehallkeep1_BitsRays.e N square dx dy occupied more
/-! ### f18: gamehall/bits.Fill -/
def bits_Fill.e (N : Nat) (r0 : Int → Option Int) (b_ : Int) (within : Int) : Option Int :=
  r0 (Go.bits .and .u64 b_ within)
def bits_Fill.s0 (N : Nat) (b_ : Int) (within : Int) (r0 : Int → Option Int) (b_2 : Int) : Option Int :=
  (bits_Shift N b_2 1 0).bind fun y2 =>
  (bits_Shift N b_2 (-1) 0).bind fun y4 =>
  (bits_Shift N b_2 0 1).bind fun y5 =>
  (bits_Shift N b_2 0 (-1)).bind fun y7 =>
  let v8 : Int := (Go.bits .and .u64 (Go.bits .or .u64 (Go.bits .or .u64 (Go.bits .or .u64 (Go.bits .or .u64 b_2 y2) y4) y5) y7) within)
  bif (eqI v8 b_2) then some b_2
  else r0 v8
def bits_Fill.L (N : Nat) (b_ : Int) (within : Int) : Nat → (Int → Option Int)
  | 0 => fun _ => none
  | n + 1 => fun b_2 => bits_Fill.s0 N b_ within (bits_Fill.L N b_ within n) b_2
def bits_Fill.l0 (N : Nat) (b_ : Int) (within : Int) (n : Nat) : Int → Option Int := (bits_Fill.L N b_ within n)
theorem bits_Fill.l0_s (N : Nat) (b_ : Int) (within : Int) (n : Nat) (b_2 : Int) : bits_Fill.l0 N b_ within (n + 1) b_2 = bits_Fill.s0 N b_ within (bits_Fill.l0 N b_ within n) b_2 := rfl
def bits_Fill (N : Nat) (b_ : Int) (within : Int) : Option Int := bits_Fill.e N (bits_Fill.l0 N b_ within N) b_ within
/-! ### f17: gamehall/bits.Parts -/
def bits_Parts.e (N : Nat) (r0 : Int → (List Int) → Option (List Int)) (b_ : Int) : Option (List Int) :=
  r0 b_ []
def bits_Parts.s0 (N : Nat) (b_ : Int) (r0 : Int → (List Int) → Option (List Int)) (b_2 : Int) (out : (List Int)) : Option (List Int) :=
  bif (!(eqI b_2 0)) then ((bits_Fill N (Go.bits .and .u64 b_2 (IntKind.wrap .u64 (0 - b_2))) b_2).bind fun y3 =>
    chk (capOk 8 (out.length + ([y3] : List Int).length)) <|
    r0 (Go.bits .andNot .u64 b_2 y3) (out ++ [y3]))
  else some out
def bits_Parts.L (N : Nat) (b_ : Int) : Nat → (Int → (List Int) → Option (List Int))
  | 0 => fun _ _ => none
  | n + 1 => fun b_2 out => bits_Parts.s0 N b_ (bits_Parts.L N b_ n) b_2 out
def bits_Parts.l0 (N : Nat) (b_ : Int) (n : Nat) : Int → (List Int) → Option (List Int) := (bits_Parts.L N b_ n)
theorem bits_Parts.l0_s (N : Nat) (b_ : Int) (n : Nat) (b_2 : Int) (out : (List Int)) : bits_Parts.l0 N b_ (n + 1) b_2 out = bits_Parts.s0 N b_ (bits_Parts.l0 N b_ n) b_2 out := rfl
def bits_Parts (N : Nat) (b_ : Int) : Option (List Int) := bits_Parts.e N (bits_Parts.l0 N b_ N) b_
/-! ### f19: gamehall/gamehallkeep1.some[int] -/
def gamehallkeep1_some_int.e (N : Nat) (l_ : (List Int)) (n_ : Int) : Option Int :=
  bif (eqI (l_.length : Int) 0) then none
  else bif (eqI (l_.length : Int) 0) then none
  else let v3 : Int := (Int.tmod (w64 ((Int.tmod n_ (l_.length : Int)) + (l_.length : Int))) (l_.length : Int))
  chk ((leI 0 v3) && (ltI v3 (l_.length : Int))) <|
  some (gD (0 : Int) l_ v3)
def gamehallkeep1_some_int (N : Nat) (l_ : (List Int)) (n_ : Int) : Option Int := gamehallkeep1_some_int.e N l_ n_
/-! ### f7: gamehall/gamehallkeep1.BitsParts -/
def gamehallkeep1_BitsParts.e (N : Nat) (r0 : Int → Int → Int → (List Int) → Option Bool) (r1 : Int → Int → Int → Int → Int → (List Int) → Option Bool) (b_ : Int) (n_ : Int) : Option Bool :=
  (bits_Parts N 32769).bind fun y1 =>
  bif (!(eqI (y1.length : Int) 2)) then some false
  else (bits_Fill N 1 3).bind fun y3 =>
  bif (!(eqI y3 3)) then some false
  else (gamehallkeep1_shifts N).bind fun y4 =>
  bif (!y4) then some false
  else (bits_Parts N b_).bind fun y5 =>
  r0 0 (y5.length : Int) 0 y5
def gamehallkeep1_BitsParts.s0 (N : Nat) (b_ : Int) (n_ : Int) (r0 : Int → Int → Int → (List Int) → Option Bool) (r1 : Int → Int → Int → Int → Int → (List Int) → Option Bool) (all : Int) (t26_ : Int) (t27_ : Int) (m1_ : (List Int)) : Option Bool :=
  bif (ltI t27_ t26_) then (chk ((leI 0 t27_) && (ltI t27_ (m1_.length : Int))) <|
    bif (eqI (gD (0 : Int) m1_ t27_) 0) then some false
    else bif (!(eqI (Go.bits .and .u64 all (gD (0 : Int) m1_ t27_)) 0)) then some false
    else (bits_List N (gD (0 : Int) m1_ t27_)).bind fun y8 =>
    (gamehallkeep1_some_int N y8 n_).bind fun y9 =>
    bif (ltI y9 0) then none
    else (bits_Fill N (IntKind.wrap .u64 (1 * 2 ^ (min (y9 : Int).toNat 64))) b_).bind fun y11 =>
    bif (!(eqI y11 (gD (0 : Int) m1_ t27_))) then some false
    else r1 all (gD (0 : Int) m1_ t27_) t26_ t27_ 0 m1_)
  else some (eqI all b_)
def gamehallkeep1_BitsParts.s1 (N : Nat) (b_ : Int) (n_ : Int) (r0 : Int → Int → Int → (List Int) → Option Bool) (r1 : Int → Int → Int → Int → Int → (List Int) → Option Bool) (all : Int) (p_ : Int) (t26_ : Int) (t27_ : Int) (t54_ : Int) (m1_ : (List Int)) : Option Bool :=
  bif (ltI t54_ 4) then (bif (eqI t54_ 0) then ((bits_Shift N p_ 1 0).bind fun y13 =>
      bif (!(eqI (Go.bits .and .u64 y13 all) 0)) then some false
      else r1 all p_ t26_ t27_ (w64 (t54_ + 1)) m1_)
    else bif (eqI t54_ 1) then ((bits_Shift N p_ (-1) 0).bind fun y15 =>
      bif (!(eqI (Go.bits .and .u64 y15 all) 0)) then some false
      else r1 all p_ t26_ t27_ (w64 (t54_ + 1)) m1_)
    else bif (eqI t54_ 2) then ((bits_Shift N p_ 0 1).bind fun y17 =>
      bif (!(eqI (Go.bits .and .u64 y17 all) 0)) then some false
      else r1 all p_ t26_ t27_ (w64 (t54_ + 1)) m1_)
    else bif (eqI t54_ 3) then ((bits_Shift N p_ 0 (-1)).bind fun y19 =>
      bif (!(eqI (Go.bits .and .u64 y19 all) 0)) then some false
      else r1 all p_ t26_ t27_ (w64 (t54_ + 1)) m1_)
    else none)
  else r0 (Go.bits .or .u64 all p_) t26_ (w64 (t27_ + 1)) m1_
def gamehallkeep1_BitsParts.L (N : Nat) (b_ : Int) (n_ : Int) : Nat → (Int → Int → Int → (List Int) → Option Bool) × (Int → Int → Int → Int → Int → (List Int) → Option Bool)
  | 0 => (fun _ _ _ _ => none, fun _ _ _ _ _ _ => none)
  | n + 1 => (fun all t26_ t27_ m1_ => gamehallkeep1_BitsParts.s0 N b_ n_ (gamehallkeep1_BitsParts.L N b_ n_ n).1 (gamehallkeep1_BitsParts.L N b_ n_ n).2 all t26_ t27_ m1_, fun all p_ t26_ t27_ t54_ m1_ => gamehallkeep1_BitsParts.s1 N b_ n_ (gamehallkeep1_BitsParts.L N b_ n_ n).1 (gamehallkeep1_BitsParts.L N b_ n_ n).2 all p_ t26_ t27_ t54_ m1_)
def gamehallkeep1_BitsParts.l0 (N : Nat) (b_ : Int) (n_ : Int) (n : Nat) : Int → Int → Int → (List Int) → Option Bool := (gamehallkeep1_BitsParts.L N b_ n_ n).1
def gamehallkeep1_BitsParts.l1 (N : Nat) (b_ : Int) (n_ : Int) (n : Nat) : Int → Int → Int → Int → Int → (List Int) → Option Bool := (gamehallkeep1_BitsParts.L N b_ n_ n).2
theorem gamehallkeep1_BitsParts.l0_s (N : Nat) (b_ : Int) (n_ : Int) (n : Nat) (all : Int) (t26_ : Int) (t27_ : Int) (m1_ : (List Int)) : gamehallkeep1_BitsParts.l0 N b_ n_ (n + 1) all t26_ t27_ m1_ = gamehallkeep1_BitsParts.s0 N b_ n_ (gamehallkeep1_BitsParts.l0 N b_ n_ n) (gamehallkeep1_BitsParts.l1 N b_ n_ n) all t26_ t27_ m1_ := rfl
theorem gamehallkeep1_BitsParts.l1_s (N : Nat) (b_ : Int) (n_ : Int) (n : Nat) (all : Int) (p_ : Int) (t26_ : Int) (t27_ : Int) (t54_ : Int) (m1_ : (List Int)) : gamehallkeep1_BitsParts.l1 N b_ n_ (n + 1) all p_ t26_ t27_ t54_ m1_ = gamehallkeep1_BitsParts.s1 N b_ n_ (gamehallkeep1_BitsParts.l0 N b_ n_ n) (gamehallkeep1_BitsParts.l1 N b_ n_ n) all p_ t26_ t27_ t54_ m1_ := rfl
def gamehallkeep1_BitsParts (N : Nat) (b_ : Int) (n_ : Int) : Option Bool := gamehallkeep1_BitsParts.e N (gamehallkeep1_BitsParts.l0 N b_ n_ N) (gamehallkeep1_BitsParts.l1 N b_ n_ N) b_ n_
end Go.Proofs.YtbnpbnghpbgjiaaDoor.Am
