/- PRINTED by gen.py: what the functions compute, as plain Lean functions with fuel. -/
import Derived.Test.YtbnpbnghpbgjiaaAm14
set_option linter.unusedVariables false
set_option linter.unusedSimpArgs false
namespace Go.Proofs.Ytbnpbnghpbgjiaa.Am
open Go
/-! ### f13: (gamehall/nimsum.Heap).Next -/
def nimsum_Heap_Next.e (N : Nat) (r0 : Int → (List Int) → Option (List Int)) (h_ : Int) (n_ : Int) : Option (List Int) :=
  bif (ltI 20000 n_) then (some [])
  else r0 1 []
def nimsum_Heap_Next.s0 (N : Nat) (h_ : Int) (n_ : Int) (r0 : Int → (List Int) → Option (List Int)) (k_ : Int) (out : (List Int)) : Option (List Int) :=
  bif (leI k_ n_) then (bif (leI h_ 0) then (chk (capOk 8 (out.length + ([(w64 (n_ - k_))] : List Int).length)) <|
      r0 (w64 (k_ + 1)) (out ++ [(w64 (n_ - k_))]))
    else bif (leI k_ h_) then (chk (capOk 8 (out.length + ([(w64 (n_ - k_))] : List Int).length)) <|
      r0 (w64 (k_ + 1)) (out ++ [(w64 (n_ - k_))]))
    else some out)
  else some out
def nimsum_Heap_Next.L (N : Nat) (h_ : Int) (n_ : Int) : Nat → (Int → (List Int) → Option (List Int))
  | 0 => fun _ _ => none
  | n + 1 => fun k_ out => nimsum_Heap_Next.s0 N h_ n_ (nimsum_Heap_Next.L N h_ n_ n) k_ out
def nimsum_Heap_Next.l0 (N : Nat) (h_ : Int) (n_ : Int) (n : Nat) : Int → (List Int) → Option (List Int) := (nimsum_Heap_Next.L N h_ n_ n)
theorem nimsum_Heap_Next.l0_s (N : Nat) (h_ : Int) (n_ : Int) (n : Nat) (k_ : Int) (out : (List Int)) : nimsum_Heap_Next.l0 N h_ n_ (n + 1) k_ out = nimsum_Heap_Next.s0 N h_ n_ (nimsum_Heap_Next.l0 N h_ n_ n) k_ out := rfl
def nimsum_Heap_Next (N : Nat) (h_ : Int) (n_ : Int) : Option (List Int) := nimsum_Heap_Next.e N (nimsum_Heap_Next.l0 N h_ n_ N) h_ n_
/-! ### f22: (*gamehall/nimsum.solver[int]).value -/
def nimsum_solver_int_value.e (N : Nat) (self : (Int × ((List (Int × Int)) × ((List (Int × Int)) × (Int × Int)))) → Int → Option (Int × (Int × ((List (Int × Int)) × ((List (Int × Int)) × (Int × Int)))))) (r0 : Int → Int → Int → Int → Int → (List Int) → (List Bool) → (List (Int × Int)) → (List (Int × Int)) → Option (Int × (Int × ((List (Int × Int)) × ((List (Int × Int)) × (Int × Int)))))) (r1 : Int → Int → Int → Int → Int → Int → (List Int) → (List Bool) → (List (Int × Int)) → (List (Int × Int)) → Option (Int × (Int × ((List (Int × Int)) × ((List (Int × Int)) × (Int × Int)))))) (r2 : Int → Int → Int → Int → (List Bool) → (List (Int × Int)) → (List (Int × Int)) → Option (Int × (Int × ((List (Int × Int)) × ((List (Int × Int)) × (Int × Int)))))) (x_ : (Int × ((List (Int × Int)) × ((List (Int × Int)) × (Int × Int))))) (s_ : Int) : Option (Int × (Int × ((List (Int × Int)) × ((List (Int × Int)) × (Int × Int))))) :=
  chk (Lit.int .i64 s_).wf <|
  bif (mget eqDI x_.2.1 s_).isSome then (some (((mget eqDI x_.2.1 s_).getD (0 : Int)), x_))
  else bif (!(eqI x_.2.2.2.2 0)) then (some (((mget eqDI x_.2.1 s_).getD (0 : Int)), x_))
  else chk (Lit.int .i64 s_).wf <|
  bif (eqI ((mget eqDI x_.2.2.1 s_).getD (0 : Int)) 1) then (some (0, (x_.1, (x_.2.1, (x_.2.2.1, (x_.2.2.2.1, 19))))))
  else bif (ltI (w64 (x_.2.2.2.1 - 1)) 0) then (some (0, (x_.1, (x_.2.1, (x_.2.2.1, ((w64 (x_.2.2.2.1 - 1)), 17))))))
  else chk (Lit.int .i64 s_).wf <|
  (nimsum_Heap_Next N x_.1 s_).bind fun y4 =>
  r0 (y4.length : Int) 0 x_.1 (w64 (x_.2.2.2.1 - 1)) x_.2.2.2.2 y4 [] x_.2.1 (mput eqDI x_.2.2.1 s_ 1)
def nimsum_solver_int_value.s0 (N : Nat) (self : (Int × ((List (Int × Int)) × ((List (Int × Int)) × (Int × Int)))) → Int → Option (Int × (Int × ((List (Int × Int)) × ((List (Int × Int)) × (Int × Int)))))) (x_ : (Int × ((List (Int × Int)) × ((List (Int × Int)) × (Int × Int))))) (s_ : Int) (r0 : Int → Int → Int → Int → Int → (List Int) → (List Bool) → (List (Int × Int)) → (List (Int × Int)) → Option (Int × (Int × ((List (Int × Int)) × ((List (Int × Int)) × (Int × Int)))))) (r1 : Int → Int → Int → Int → Int → Int → (List Int) → (List Bool) → (List (Int × Int)) → (List (Int × Int)) → Option (Int × (Int × ((List (Int × Int)) × ((List (Int × Int)) × (Int × Int)))))) (r2 : Int → Int → Int → Int → (List Bool) → (List (Int × Int)) → (List (Int × Int)) → Option (Int × (Int × ((List (Int × Int)) × ((List (Int × Int)) × (Int × Int)))))) (t66_ : Int) (t67_ : Int) (x_2 : Int) (x_3 : Int) (x_4 : Int) (m3_ : (List Int)) (met : (List Bool)) (m5_ : (List (Int × Int))) (m6_ : (List (Int × Int))) : Option (Int × (Int × ((List (Int × Int)) × ((List (Int × Int)) × (Int × Int))))) :=
  bif (ltI t67_ t66_) then (chk ((leI 0 t67_) && (ltI t67_ (m3_.length : Int))) <|
    (self (x_2, (m5_, (m6_, (x_3, x_4)))) (gD (0 : Int) m3_ t67_)).bind fun y5 =>
    bif (!(eqI y5.2.2.2.2.2 0)) then (some (0, y5.2))
    else r1 y5.1 t66_ t67_ y5.2.1 y5.2.2.2.2.1 y5.2.2.2.2.2 m3_ met y5.2.2.1 y5.2.2.2.1)
  else chk (Lit.int .i64 s_).wf <|
  r2 0 x_2 x_3 x_4 met m5_ (mput eqDI m6_ s_ 0)
def nimsum_solver_int_value.s1 (N : Nat) (self : (Int × ((List (Int × Int)) × ((List (Int × Int)) × (Int × Int)))) → Int → Option (Int × (Int × ((List (Int × Int)) × ((List (Int × Int)) × (Int × Int)))))) (x_ : (Int × ((List (Int × Int)) × ((List (Int × Int)) × (Int × Int))))) (s_ : Int) (r0 : Int → Int → Int → Int → Int → (List Int) → (List Bool) → (List (Int × Int)) → (List (Int × Int)) → Option (Int × (Int × ((List (Int × Int)) × ((List (Int × Int)) × (Int × Int)))))) (r1 : Int → Int → Int → Int → Int → Int → (List Int) → (List Bool) → (List (Int × Int)) → (List (Int × Int)) → Option (Int × (Int × ((List (Int × Int)) × ((List (Int × Int)) × (Int × Int)))))) (r2 : Int → Int → Int → Int → (List Bool) → (List (Int × Int)) → (List (Int × Int)) → Option (Int × (Int × ((List (Int × Int)) × ((List (Int × Int)) × (Int × Int)))))) (n_ : Int) (t66_ : Int) (t67_ : Int) (x_2 : Int) (x_3 : Int) (x_4 : Int) (m3_ : (List Int)) (met : (List Bool)) (m7_ : (List (Int × Int))) (m8_ : (List (Int × Int))) : Option (Int × (Int × ((List (Int × Int)) × ((List (Int × Int)) × (Int × Int))))) :=
  bif (leI (met.length : Int) n_) then (chk (capOk 1 (met.length + ([false] : List Bool).length)) <|
    r1 n_ t66_ t67_ x_2 x_3 x_4 m3_ (met ++ [false]) m7_ m8_)
  else chk ((leI 0 n_) && (ltI n_ (met.length : Int))) <|
  r0 t66_ (w64 (t67_ + 1)) x_2 x_3 x_4 m3_ (met.set n_.toNat true) m7_ m8_
def nimsum_solver_int_value.s2 (N : Nat) (self : (Int × ((List (Int × Int)) × ((List (Int × Int)) × (Int × Int)))) → Int → Option (Int × (Int × ((List (Int × Int)) × ((List (Int × Int)) × (Int × Int)))))) (x_ : (Int × ((List (Int × Int)) × ((List (Int × Int)) × (Int × Int))))) (s_ : Int) (r0 : Int → Int → Int → Int → Int → (List Int) → (List Bool) → (List (Int × Int)) → (List (Int × Int)) → Option (Int × (Int × ((List (Int × Int)) × ((List (Int × Int)) × (Int × Int)))))) (r1 : Int → Int → Int → Int → Int → Int → (List Int) → (List Bool) → (List (Int × Int)) → (List (Int × Int)) → Option (Int × (Int × ((List (Int × Int)) × ((List (Int × Int)) × (Int × Int)))))) (r2 : Int → Int → Int → Int → (List Bool) → (List (Int × Int)) → (List (Int × Int)) → Option (Int × (Int × ((List (Int × Int)) × ((List (Int × Int)) × (Int × Int)))))) (out : Int) (x_2 : Int) (x_3 : Int) (x_4 : Int) (met : (List Bool)) (m5_ : (List (Int × Int))) (m6_ : (List (Int × Int))) : Option (Int × (Int × ((List (Int × Int)) × ((List (Int × Int)) × (Int × Int))))) :=
  bif (ltI out (met.length : Int)) then (chk ((leI 0 out) && (ltI out (met.length : Int))) <|
    bif (gD false met out) then (r2 (w64 (out + 1)) x_2 x_3 x_4 met m5_ m6_)
    else chk (Lit.int .i64 s_).wf <|
    some (out, (x_2, ((mput eqDI m5_ s_ out), (m6_, (x_3, x_4))))))
  else chk (Lit.int .i64 s_).wf <|
  some (out, (x_2, ((mput eqDI m5_ s_ out), (m6_, (x_3, x_4)))))
def nimsum_solver_int_value.L (N : Nat) (self : (Int × ((List (Int × Int)) × ((List (Int × Int)) × (Int × Int)))) → Int → Option (Int × (Int × ((List (Int × Int)) × ((List (Int × Int)) × (Int × Int)))))) (x_ : (Int × ((List (Int × Int)) × ((List (Int × Int)) × (Int × Int))))) (s_ : Int) : Nat → (Int → Int → Int → Int → Int → (List Int) → (List Bool) → (List (Int × Int)) → (List (Int × Int)) → Option (Int × (Int × ((List (Int × Int)) × ((List (Int × Int)) × (Int × Int)))))) × (Int → Int → Int → Int → Int → Int → (List Int) → (List Bool) → (List (Int × Int)) → (List (Int × Int)) → Option (Int × (Int × ((List (Int × Int)) × ((List (Int × Int)) × (Int × Int)))))) × (Int → Int → Int → Int → (List Bool) → (List (Int × Int)) → (List (Int × Int)) → Option (Int × (Int × ((List (Int × Int)) × ((List (Int × Int)) × (Int × Int))))))
  | 0 => (fun _ _ _ _ _ _ _ _ _ => none, fun _ _ _ _ _ _ _ _ _ _ => none, fun _ _ _ _ _ _ _ => none)
  | n + 1 => (fun t66_ t67_ x_2 x_3 x_4 m3_ met m5_ m6_ => nimsum_solver_int_value.s0 N self x_ s_ (nimsum_solver_int_value.L N self x_ s_ n).1 (nimsum_solver_int_value.L N self x_ s_ n).2.1 (nimsum_solver_int_value.L N self x_ s_ n).2.2 t66_ t67_ x_2 x_3 x_4 m3_ met m5_ m6_, fun n_ t66_ t67_ x_2 x_3 x_4 m3_ met m7_ m8_ => nimsum_solver_int_value.s1 N self x_ s_ (nimsum_solver_int_value.L N self x_ s_ n).1 (nimsum_solver_int_value.L N self x_ s_ n).2.1 (nimsum_solver_int_value.L N self x_ s_ n).2.2 n_ t66_ t67_ x_2 x_3 x_4 m3_ met m7_ m8_, fun out x_2 x_3 x_4 met m5_ m6_ => nimsum_solver_int_value.s2 N self x_ s_ (nimsum_solver_int_value.L N self x_ s_ n).1 (nimsum_solver_int_value.L N self x_ s_ n).2.1 (nimsum_solver_int_value.L N self x_ s_ n).2.2 out x_2 x_3 x_4 met m5_ m6_)
def nimsum_solver_int_value.l0 (N : Nat) (self : (Int × ((List (Int × Int)) × ((List (Int × Int)) × (Int × Int)))) → Int → Option (Int × (Int × ((List (Int × Int)) × ((List (Int × Int)) × (Int × Int)))))) (x_ : (Int × ((List (Int × Int)) × ((List (Int × Int)) × (Int × Int))))) (s_ : Int) (n : Nat) : Int → Int → Int → Int → Int → (List Int) → (List Bool) → (List (Int × Int)) → (List (Int × Int)) → Option (Int × (Int × ((List (Int × Int)) × ((List (Int × Int)) × (Int × Int))))) := (nimsum_solver_int_value.L N self x_ s_ n).1
def nimsum_solver_int_value.l1 (N : Nat) (self : (Int × ((List (Int × Int)) × ((List (Int × Int)) × (Int × Int)))) → Int → Option (Int × (Int × ((List (Int × Int)) × ((List (Int × Int)) × (Int × Int)))))) (x_ : (Int × ((List (Int × Int)) × ((List (Int × Int)) × (Int × Int))))) (s_ : Int) (n : Nat) : Int → Int → Int → Int → Int → Int → (List Int) → (List Bool) → (List (Int × Int)) → (List (Int × Int)) → Option (Int × (Int × ((List (Int × Int)) × ((List (Int × Int)) × (Int × Int))))) := (nimsum_solver_int_value.L N self x_ s_ n).2.1
def nimsum_solver_int_value.l2 (N : Nat) (self : (Int × ((List (Int × Int)) × ((List (Int × Int)) × (Int × Int)))) → Int → Option (Int × (Int × ((List (Int × Int)) × ((List (Int × Int)) × (Int × Int)))))) (x_ : (Int × ((List (Int × Int)) × ((List (Int × Int)) × (Int × Int))))) (s_ : Int) (n : Nat) : Int → Int → Int → Int → (List Bool) → (List (Int × Int)) → (List (Int × Int)) → Option (Int × (Int × ((List (Int × Int)) × ((List (Int × Int)) × (Int × Int))))) := (nimsum_solver_int_value.L N self x_ s_ n).2.2
theorem nimsum_solver_int_value.l0_s (N : Nat) (self : (Int × ((List (Int × Int)) × ((List (Int × Int)) × (Int × Int)))) → Int → Option (Int × (Int × ((List (Int × Int)) × ((List (Int × Int)) × (Int × Int)))))) (x_ : (Int × ((List (Int × Int)) × ((List (Int × Int)) × (Int × Int))))) (s_ : Int) (n : Nat) (t66_ : Int) (t67_ : Int) (x_2 : Int) (x_3 : Int) (x_4 : Int) (m3_ : (List Int)) (met : (List Bool)) (m5_ : (List (Int × Int))) (m6_ : (List (Int × Int))) : nimsum_solver_int_value.l0 N self x_ s_ (n + 1) t66_ t67_ x_2 x_3 x_4 m3_ met m5_ m6_ = nimsum_solver_int_value.s0 N self x_ s_ (nimsum_solver_int_value.l0 N self x_ s_ n) (nimsum_solver_int_value.l1 N self x_ s_ n) (nimsum_solver_int_value.l2 N self x_ s_ n) t66_ t67_ x_2 x_3 x_4 m3_ met m5_ m6_ := rfl
theorem nimsum_solver_int_value.l1_s (N : Nat) (self : (Int × ((List (Int × Int)) × ((List (Int × Int)) × (Int × Int)))) → Int → Option (Int × (Int × ((List (Int × Int)) × ((List (Int × Int)) × (Int × Int)))))) (x_ : (Int × ((List (Int × Int)) × ((List (Int × Int)) × (Int × Int))))) (s_ : Int) (n : Nat) (n_ : Int) (t66_ : Int) (t67_ : Int) (x_2 : Int) (x_3 : Int) (x_4 : Int) (m3_ : (List Int)) (met : (List Bool)) (m7_ : (List (Int × Int))) (m8_ : (List (Int × Int))) : nimsum_solver_int_value.l1 N self x_ s_ (n + 1) n_ t66_ t67_ x_2 x_3 x_4 m3_ met m7_ m8_ = nimsum_solver_int_value.s1 N self x_ s_ (nimsum_solver_int_value.l0 N self x_ s_ n) (nimsum_solver_int_value.l1 N self x_ s_ n) (nimsum_solver_int_value.l2 N self x_ s_ n) n_ t66_ t67_ x_2 x_3 x_4 m3_ met m7_ m8_ := rfl
theorem nimsum_solver_int_value.l2_s (N : Nat) (self : (Int × ((List (Int × Int)) × ((List (Int × Int)) × (Int × Int)))) → Int → Option (Int × (Int × ((List (Int × Int)) × ((List (Int × Int)) × (Int × Int)))))) (x_ : (Int × ((List (Int × Int)) × ((List (Int × Int)) × (Int × Int))))) (s_ : Int) (n : Nat) (out : Int) (x_2 : Int) (x_3 : Int) (x_4 : Int) (met : (List Bool)) (m5_ : (List (Int × Int))) (m6_ : (List (Int × Int))) : nimsum_solver_int_value.l2 N self x_ s_ (n + 1) out x_2 x_3 x_4 met m5_ m6_ = nimsum_solver_int_value.s2 N self x_ s_ (nimsum_solver_int_value.l0 N self x_ s_ n) (nimsum_solver_int_value.l1 N self x_ s_ n) (nimsum_solver_int_value.l2 N self x_ s_ n) out x_2 x_3 x_4 met m5_ m6_ := rfl
def nimsum_solver_int_value : Nat → (Int × ((List (Int × Int)) × ((List (Int × Int)) × (Int × Int)))) → Int → Option (Int × (Int × ((List (Int × Int)) × ((List (Int × Int)) × (Int × Int)))))
  | 0 => fun _ _ => none
  | N + 1 => fun x_ s_ => nimsum_solver_int_value.e N (nimsum_solver_int_value N) (nimsum_solver_int_value.l0 N (nimsum_solver_int_value N) x_ s_ N) (nimsum_solver_int_value.l1 N (nimsum_solver_int_value N) x_ s_ N) (nimsum_solver_int_value.l2 N (nimsum_solver_int_value N) x_ s_ N) x_ s_
theorem nimsum_solver_int_value_s (N : Nat) (x_ : (Int × ((List (Int × Int)) × ((List (Int × Int)) × (Int × Int))))) (s_ : Int) : nimsum_solver_int_value (N + 1) x_ s_ = nimsum_solver_int_value.e N (nimsum_solver_int_value N) (nimsum_solver_int_value.l0 N (nimsum_solver_int_value N) x_ s_ N) (nimsum_solver_int_value.l1 N (nimsum_solver_int_value N) x_ s_ N) (nimsum_solver_int_value.l2 N (nimsum_solver_int_value N) x_ s_ N) x_ s_ := rfl
/-! ### f10: gamehall/nimsum.Value[int] -/
def nimsum_Value_int.e (N : Nat) (g_ : Int) (s_ : Int) (most : Int) : Option (Int × Int) :=
  bif (ltI most 1) then (some (0, 1))
  else bif (ltI 20000 most) then (some (0, 1))
  else (nimsum_solver_int_value N (g_, ([], ([], (most, 0)))) s_).bind fun y1 =>
  bif (!(eqI y1.2.2.2.2.2 0)) then (some (0, y1.2.2.2.2.2))
  else some (y1.1, 0)
def nimsum_Value_int (N : Nat) (g_ : Int) (s_ : Int) (most : Int) : Option (Int × Int) := nimsum_Value_int.e N g_ s_ most
/-! ### f65: gamehall/nimsum.large -/
def nimsum_large.e (N : Nat) (r0 : Int → Int → Option Bool) (s_ : ByteArray) : Option Bool :=
  r0 0 0
def nimsum_large.s0 (N : Nat) (s_ : ByteArray) (r0 : Int → Int → Option Bool) (n_ : Int) (t7_ : Int) : Option Bool :=
  bif (ltI t7_ (s_.size : Int)) then (chk ((leI 0 t7_) && ltI t7_ (s_.size : Int)) <|
    r0 (w64 (n_ + (w64 (bt s_ t7_)))) (w64 (t7_ + 1)))
  else bif (ltI 64 (s_.size : Int)) then some true
  else some (ltI 64 n_)
def nimsum_large.L (N : Nat) (s_ : ByteArray) : Nat → (Int → Int → Option Bool)
  | 0 => fun _ _ => none
  | n + 1 => fun n_ t7_ => nimsum_large.s0 N s_ (nimsum_large.L N s_ n) n_ t7_
def nimsum_large.l0 (N : Nat) (s_ : ByteArray) (n : Nat) : Int → Int → Option Bool := (nimsum_large.L N s_ n)
theorem nimsum_large.l0_s (N : Nat) (s_ : ByteArray) (n : Nat) (n_ : Int) (t7_ : Int) : nimsum_large.l0 N s_ (n + 1) n_ t7_ = nimsum_large.s0 N s_ (nimsum_large.l0 N s_ n) n_ t7_ := rfl
def nimsum_large (N : Nat) (s_ : ByteArray) : Option Bool := nimsum_large.e N (nimsum_large.l0 N s_ N) s_
/-! ### f66: gamehall/nimsum.sorted -/
def nimsum_sorted.e (N : Nat) (r0 : ByteArray → Int → Option ByteArray) (r1 : ByteArray → Int → Int → Int → Option ByteArray) (s_ : ByteArray) (a_ : Int) (b_ : Int) : Option ByteArray :=
  r0 s_ 0
def nimsum_sorted.s0 (N : Nat) (s_ : ByteArray) (a_ : Int) (b_ : Int) (r0 : ByteArray → Int → Option ByteArray) (r1 : ByteArray → Int → Int → Int → Option ByteArray) (s_2 : ByteArray) (t13_ : Int) : Option ByteArray :=
  bif (ltI t13_ 2) then (bif (eqI t13_ 0) then r1 s_2 a_ 0 t13_
    else bif (eqI t13_ 1) then r1 s_2 b_ 0 t13_
    else none)
  else some s_2
def nimsum_sorted.s1 (N : Nat) (s_ : ByteArray) (a_ : Int) (b_ : Int) (r0 : ByteArray → Int → Option ByteArray) (r1 : ByteArray → Int → Int → Int → Option ByteArray) (s_2 : ByteArray) (x_ : Int) (i_ : Int) (t13_ : Int) : Option ByteArray :=
  bif (ltI i_ (s_2.size : Int)) then (chk ((leI 0 i_) && ltI i_ (s_2.size : Int)) <|
    bif (ltI (bt s_2 i_) x_) then (r1 s_2 x_ (w64 (i_ + 1)) t13_)
    else chk (true && ((leI 0 i_) && (leI i_ (s_2.size : Int)))) <|
    chk ((leI 0 i_) && ((leI i_ (s_2.size : Int)) && (leI (s_2.size : Int) (s_2.size : Int)))) <|
    chk (decide ((s_2.extract (0 : Int).toNat i_.toNat).size + (strOfNums [x_]).size ≤ 9223372036854775807)) <|
    let v2 : ByteArray := ((s_2.extract (0 : Int).toNat i_.toNat) ++ (strOfNums [x_]))
    chk (decide (v2.size + (s_2.extract i_.toNat (s_2.size : Int).toNat).size ≤ 9223372036854775807)) <|
    r0 (v2 ++ (s_2.extract i_.toNat (s_2.size : Int).toNat)) (w64 (t13_ + 1)))
  else chk (true && ((leI 0 i_) && (leI i_ (s_2.size : Int)))) <|
  chk ((leI 0 i_) && ((leI i_ (s_2.size : Int)) && (leI (s_2.size : Int) (s_2.size : Int)))) <|
  chk (decide ((s_2.extract (0 : Int).toNat i_.toNat).size + (strOfNums [x_]).size ≤ 9223372036854775807)) <|
  let v4 : ByteArray := ((s_2.extract (0 : Int).toNat i_.toNat) ++ (strOfNums [x_]))
  chk (decide (v4.size + (s_2.extract i_.toNat (s_2.size : Int).toNat).size ≤ 9223372036854775807)) <|
  r0 (v4 ++ (s_2.extract i_.toNat (s_2.size : Int).toNat)) (w64 (t13_ + 1))
def nimsum_sorted.L (N : Nat) (s_ : ByteArray) (a_ : Int) (b_ : Int) : Nat → (ByteArray → Int → Option ByteArray) × (ByteArray → Int → Int → Int → Option ByteArray)
  | 0 => (fun _ _ => none, fun _ _ _ _ => none)
  | n + 1 => (fun s_2 t13_ => nimsum_sorted.s0 N s_ a_ b_ (nimsum_sorted.L N s_ a_ b_ n).1 (nimsum_sorted.L N s_ a_ b_ n).2 s_2 t13_, fun s_2 x_ i_ t13_ => nimsum_sorted.s1 N s_ a_ b_ (nimsum_sorted.L N s_ a_ b_ n).1 (nimsum_sorted.L N s_ a_ b_ n).2 s_2 x_ i_ t13_)
def nimsum_sorted.l0 (N : Nat) (s_ : ByteArray) (a_ : Int) (b_ : Int) (n : Nat) : ByteArray → Int → Option ByteArray := (nimsum_sorted.L N s_ a_ b_ n).1
def nimsum_sorted.l1 (N : Nat) (s_ : ByteArray) (a_ : Int) (b_ : Int) (n : Nat) : ByteArray → Int → Int → Int → Option ByteArray := (nimsum_sorted.L N s_ a_ b_ n).2
theorem nimsum_sorted.l0_s (N : Nat) (s_ : ByteArray) (a_ : Int) (b_ : Int) (n : Nat) (s_2 : ByteArray) (t13_ : Int) : nimsum_sorted.l0 N s_ a_ b_ (n + 1) s_2 t13_ = nimsum_sorted.s0 N s_ a_ b_ (nimsum_sorted.l0 N s_ a_ b_ n) (nimsum_sorted.l1 N s_ a_ b_ n) s_2 t13_ := rfl
theorem nimsum_sorted.l1_s (N : Nat) (s_ : ByteArray) (a_ : Int) (b_ : Int) (n : Nat) (s_2 : ByteArray) (x_ : Int) (i_ : Int) (t13_ : Int) : nimsum_sorted.l1 N s_ a_ b_ (n + 1) s_2 x_ i_ t13_ = nimsum_sorted.s1 N s_ a_ b_ (nimsum_sorted.l0 N s_ a_ b_ n) (nimsum_sorted.l1 N s_ a_ b_ n) s_2 x_ i_ t13_ := rfl
def nimsum_sorted (N : Nat) (s_ : ByteArray) (a_ : Int) (b_ : Int) : Option ByteArray := nimsum_sorted.e N (nimsum_sorted.l0 N s_ a_ b_ N) (nimsum_sorted.l1 N s_ a_ b_ N) s_ a_ b_
/-! ### f64: (gamehall/nimsum.Split).Next -/
def nimsum_Split_Next.e (N : Nat) (r0 : Int → (List ByteArray) → Option (List ByteArray)) (r1 : Int → Int → Int → Int → (List ByteArray) → Option (List ByteArray)) (p0_ : Unit) (s_ : ByteArray) : Option (List ByteArray) :=
  (nimsum_large N s_).bind fun y1 =>
  bif y1 then (some [])
  else r0 0 []
def nimsum_Split_Next.s0 (N : Nat) (p0_ : Unit) (s_ : ByteArray) (r0 : Int → (List ByteArray) → Option (List ByteArray)) (r1 : Int → Int → Int → Int → (List ByteArray) → Option (List ByteArray)) (t13_ : Int) (out : (List ByteArray)) : Option (List ByteArray) :=
  bif (ltI t13_ (s_.size : Int)) then (chk ((leI 0 t13_) && ltI t13_ (s_.size : Int)) <|
    r1 t13_ (w64 (bt s_ t13_)) 1 t13_ out)
  else some out
def nimsum_Split_Next.s1 (N : Nat) (p0_ : Unit) (s_ : ByteArray) (r0 : Int → (List ByteArray) → Option (List ByteArray)) (r1 : Int → Int → Int → Int → (List ByteArray) → Option (List ByteArray)) (i_ : Int) (n_ : Int) (k_ : Int) (t13_ : Int) (out : (List ByteArray)) : Option (List ByteArray) :=
  bif (ltI (w64 (2 * k_)) n_) then (chk (true && ((leI 0 i_) && (leI i_ (s_.size : Int)))) <|
    chk ((leI 0 (w64 (i_ + 1))) && ((leI (w64 (i_ + 1)) (s_.size : Int)) && (leI (s_.size : Int) (s_.size : Int)))) <|
    chk (decide ((s_.extract (0 : Int).toNat i_.toNat).size + (s_.extract (w64 (i_ + 1)).toNat (s_.size : Int).toNat).size ≤ 9223372036854775807)) <|
    (nimsum_sorted N ((s_.extract (0 : Int).toNat i_.toNat) ++ (s_.extract (w64 (i_ + 1)).toNat (s_.size : Int).toNat)) (IntKind.wrap .u8 k_) (IntKind.wrap .u8 (w64 (n_ - k_)))).bind fun y5 =>
    chk (capOk 16 (out.length + ([y5] : List ByteArray).length)) <|
    r1 i_ n_ (w64 (k_ + 1)) t13_ (out ++ [y5]))
  else r0 (w64 (t13_ + 1)) out
def nimsum_Split_Next.L (N : Nat) (p0_ : Unit) (s_ : ByteArray) : Nat → (Int → (List ByteArray) → Option (List ByteArray)) × (Int → Int → Int → Int → (List ByteArray) → Option (List ByteArray))
  | 0 => (fun _ _ => none, fun _ _ _ _ _ => none)
  | n + 1 => (fun t13_ out => nimsum_Split_Next.s0 N p0_ s_ (nimsum_Split_Next.L N p0_ s_ n).1 (nimsum_Split_Next.L N p0_ s_ n).2 t13_ out, fun i_ n_ k_ t13_ out => nimsum_Split_Next.s1 N p0_ s_ (nimsum_Split_Next.L N p0_ s_ n).1 (nimsum_Split_Next.L N p0_ s_ n).2 i_ n_ k_ t13_ out)
def nimsum_Split_Next.l0 (N : Nat) (p0_ : Unit) (s_ : ByteArray) (n : Nat) : Int → (List ByteArray) → Option (List ByteArray) := (nimsum_Split_Next.L N p0_ s_ n).1
def nimsum_Split_Next.l1 (N : Nat) (p0_ : Unit) (s_ : ByteArray) (n : Nat) : Int → Int → Int → Int → (List ByteArray) → Option (List ByteArray) := (nimsum_Split_Next.L N p0_ s_ n).2
theorem nimsum_Split_Next.l0_s (N : Nat) (p0_ : Unit) (s_ : ByteArray) (n : Nat) (t13_ : Int) (out : (List ByteArray)) : nimsum_Split_Next.l0 N p0_ s_ (n + 1) t13_ out = nimsum_Split_Next.s0 N p0_ s_ (nimsum_Split_Next.l0 N p0_ s_ n) (nimsum_Split_Next.l1 N p0_ s_ n) t13_ out := rfl
theorem nimsum_Split_Next.l1_s (N : Nat) (p0_ : Unit) (s_ : ByteArray) (n : Nat) (i_ : Int) (n_ : Int) (k_ : Int) (t13_ : Int) (out : (List ByteArray)) : nimsum_Split_Next.l1 N p0_ s_ (n + 1) i_ n_ k_ t13_ out = nimsum_Split_Next.s1 N p0_ s_ (nimsum_Split_Next.l0 N p0_ s_ n) (nimsum_Split_Next.l1 N p0_ s_ n) i_ n_ k_ t13_ out := rfl
def nimsum_Split_Next (N : Nat) (p0_ : Unit) (s_ : ByteArray) : Option (List ByteArray) := nimsum_Split_Next.e N (nimsum_Split_Next.l0 N p0_ s_ N) (nimsum_Split_Next.l1 N p0_ s_ N) p0_ s_
/-! ### f26: (*gamehall/nimsum.solver[string]).value -/
def nimsum_solver_string_value.e (N : Nat) (self : (Unit × ((List (ByteArray × Int)) × ((List (ByteArray × Int)) × (Int × Int)))) → ByteArray → Option (Int × (Unit × ((List (ByteArray × Int)) × ((List (ByteArray × Int)) × (Int × Int)))))) (r0 : Int → Int → Unit → Int → Int → (List ByteArray) → (List Bool) → (List (ByteArray × Int)) → (List (ByteArray × Int)) → Option (Int × (Unit × ((List (ByteArray × Int)) × ((List (ByteArray × Int)) × (Int × Int)))))) (r1 : Int → Int → Int → Unit → Int → Int → (List ByteArray) → (List Bool) → (List (ByteArray × Int)) → (List (ByteArray × Int)) → Option (Int × (Unit × ((List (ByteArray × Int)) × ((List (ByteArray × Int)) × (Int × Int)))))) (r2 : Int → Unit → Int → Int → (List Bool) → (List (ByteArray × Int)) → (List (ByteArray × Int)) → Option (Int × (Unit × ((List (ByteArray × Int)) × ((List (ByteArray × Int)) × (Int × Int)))))) (x_ : (Unit × ((List (ByteArray × Int)) × ((List (ByteArray × Int)) × (Int × Int))))) (s_ : ByteArray) : Option (Int × (Unit × ((List (ByteArray × Int)) × ((List (ByteArray × Int)) × (Int × Int))))) :=
  chk (okDS s_) <|
  bif (mget eqDS x_.2.1 s_).isSome then (some (((mget eqDS x_.2.1 s_).getD (0 : Int)), x_))
  else bif (!(eqI x_.2.2.2.2 0)) then (some (((mget eqDS x_.2.1 s_).getD (0 : Int)), x_))
  else chk (okDS s_) <|
  bif (eqI ((mget eqDS x_.2.2.1 s_).getD (0 : Int)) 1) then (some (0, (x_.1, (x_.2.1, (x_.2.2.1, (x_.2.2.2.1, 19))))))
  else bif (ltI (w64 (x_.2.2.2.1 - 1)) 0) then (some (0, (x_.1, (x_.2.1, (x_.2.2.1, ((w64 (x_.2.2.2.1 - 1)), 17))))))
  else chk (okDS s_) <|
  (nimsum_Split_Next N () s_).bind fun y4 =>
  r0 (y4.length : Int) 0 x_.1 (w64 (x_.2.2.2.1 - 1)) x_.2.2.2.2 y4 [] x_.2.1 (mput eqDS x_.2.2.1 s_ 1)
def nimsum_solver_string_value.s0 (N : Nat) (self : (Unit × ((List (ByteArray × Int)) × ((List (ByteArray × Int)) × (Int × Int)))) → ByteArray → Option (Int × (Unit × ((List (ByteArray × Int)) × ((List (ByteArray × Int)) × (Int × Int)))))) (x_ : (Unit × ((List (ByteArray × Int)) × ((List (ByteArray × Int)) × (Int × Int))))) (s_ : ByteArray) (r0 : Int → Int → Unit → Int → Int → (List ByteArray) → (List Bool) → (List (ByteArray × Int)) → (List (ByteArray × Int)) → Option (Int × (Unit × ((List (ByteArray × Int)) × ((List (ByteArray × Int)) × (Int × Int)))))) (r1 : Int → Int → Int → Unit → Int → Int → (List ByteArray) → (List Bool) → (List (ByteArray × Int)) → (List (ByteArray × Int)) → Option (Int × (Unit × ((List (ByteArray × Int)) × ((List (ByteArray × Int)) × (Int × Int)))))) (r2 : Int → Unit → Int → Int → (List Bool) → (List (ByteArray × Int)) → (List (ByteArray × Int)) → Option (Int × (Unit × ((List (ByteArray × Int)) × ((List (ByteArray × Int)) × (Int × Int)))))) (t66_ : Int) (t67_ : Int) (x_2 : Unit) (x_3 : Int) (x_4 : Int) (m3_ : (List ByteArray)) (met : (List Bool)) (m5_ : (List (ByteArray × Int))) (m6_ : (List (ByteArray × Int))) : Option (Int × (Unit × ((List (ByteArray × Int)) × ((List (ByteArray × Int)) × (Int × Int))))) :=
  bif (ltI t67_ t66_) then (chk ((leI 0 t67_) && (ltI t67_ (m3_.length : Int))) <|
    (self (x_2, (m5_, (m6_, (x_3, x_4)))) (gD (⟨#[]⟩ : ByteArray) m3_ t67_)).bind fun y5 =>
    bif (!(eqI y5.2.2.2.2.2 0)) then (some (0, y5.2))
    else r1 y5.1 t66_ t67_ y5.2.1 y5.2.2.2.2.1 y5.2.2.2.2.2 m3_ met y5.2.2.1 y5.2.2.2.1)
  else chk (okDS s_) <|
  r2 0 x_2 x_3 x_4 met m5_ (mput eqDS m6_ s_ 0)
def nimsum_solver_string_value.s1 (N : Nat) (self : (Unit × ((List (ByteArray × Int)) × ((List (ByteArray × Int)) × (Int × Int)))) → ByteArray → Option (Int × (Unit × ((List (ByteArray × Int)) × ((List (ByteArray × Int)) × (Int × Int)))))) (x_ : (Unit × ((List (ByteArray × Int)) × ((List (ByteArray × Int)) × (Int × Int))))) (s_ : ByteArray) (r0 : Int → Int → Unit → Int → Int → (List ByteArray) → (List Bool) → (List (ByteArray × Int)) → (List (ByteArray × Int)) → Option (Int × (Unit × ((List (ByteArray × Int)) × ((List (ByteArray × Int)) × (Int × Int)))))) (r1 : Int → Int → Int → Unit → Int → Int → (List ByteArray) → (List Bool) → (List (ByteArray × Int)) → (List (ByteArray × Int)) → Option (Int × (Unit × ((List (ByteArray × Int)) × ((List (ByteArray × Int)) × (Int × Int)))))) (r2 : Int → Unit → Int → Int → (List Bool) → (List (ByteArray × Int)) → (List (ByteArray × Int)) → Option (Int × (Unit × ((List (ByteArray × Int)) × ((List (ByteArray × Int)) × (Int × Int)))))) (n_ : Int) (t66_ : Int) (t67_ : Int) (x_2 : Unit) (x_3 : Int) (x_4 : Int) (m3_ : (List ByteArray)) (met : (List Bool)) (m7_ : (List (ByteArray × Int))) (m8_ : (List (ByteArray × Int))) : Option (Int × (Unit × ((List (ByteArray × Int)) × ((List (ByteArray × Int)) × (Int × Int))))) :=
  bif (leI (met.length : Int) n_) then (chk (capOk 1 (met.length + ([false] : List Bool).length)) <|
    r1 n_ t66_ t67_ x_2 x_3 x_4 m3_ (met ++ [false]) m7_ m8_)
  else chk ((leI 0 n_) && (ltI n_ (met.length : Int))) <|
  r0 t66_ (w64 (t67_ + 1)) x_2 x_3 x_4 m3_ (met.set n_.toNat true) m7_ m8_
def nimsum_solver_string_value.s2 (N : Nat) (self : (Unit × ((List (ByteArray × Int)) × ((List (ByteArray × Int)) × (Int × Int)))) → ByteArray → Option (Int × (Unit × ((List (ByteArray × Int)) × ((List (ByteArray × Int)) × (Int × Int)))))) (x_ : (Unit × ((List (ByteArray × Int)) × ((List (ByteArray × Int)) × (Int × Int))))) (s_ : ByteArray) (r0 : Int → Int → Unit → Int → Int → (List ByteArray) → (List Bool) → (List (ByteArray × Int)) → (List (ByteArray × Int)) → Option (Int × (Unit × ((List (ByteArray × Int)) × ((List (ByteArray × Int)) × (Int × Int)))))) (r1 : Int → Int → Int → Unit → Int → Int → (List ByteArray) → (List Bool) → (List (ByteArray × Int)) → (List (ByteArray × Int)) → Option (Int × (Unit × ((List (ByteArray × Int)) × ((List (ByteArray × Int)) × (Int × Int)))))) (r2 : Int → Unit → Int → Int → (List Bool) → (List (ByteArray × Int)) → (List (ByteArray × Int)) → Option (Int × (Unit × ((List (ByteArray × Int)) × ((List (ByteArray × Int)) × (Int × Int)))))) (out : Int) (x_2 : Unit) (x_3 : Int) (x_4 : Int) (met : (List Bool)) (m5_ : (List (ByteArray × Int))) (m6_ : (List (ByteArray × Int))) : Option (Int × (Unit × ((List (ByteArray × Int)) × ((List (ByteArray × Int)) × (Int × Int))))) :=
  bif (ltI out (met.length : Int)) then (chk ((leI 0 out) && (ltI out (met.length : Int))) <|
    bif (gD false met out) then (r2 (w64 (out + 1)) x_2 x_3 x_4 met m5_ m6_)
    else chk (okDS s_) <|
    some (out, (x_2, ((mput eqDS m5_ s_ out), (m6_, (x_3, x_4))))))
  else chk (okDS s_) <|
  some (out, (x_2, ((mput eqDS m5_ s_ out), (m6_, (x_3, x_4)))))
def nimsum_solver_string_value.L (N : Nat) (self : (Unit × ((List (ByteArray × Int)) × ((List (ByteArray × Int)) × (Int × Int)))) → ByteArray → Option (Int × (Unit × ((List (ByteArray × Int)) × ((List (ByteArray × Int)) × (Int × Int)))))) (x_ : (Unit × ((List (ByteArray × Int)) × ((List (ByteArray × Int)) × (Int × Int))))) (s_ : ByteArray) : Nat → (Int → Int → Unit → Int → Int → (List ByteArray) → (List Bool) → (List (ByteArray × Int)) → (List (ByteArray × Int)) → Option (Int × (Unit × ((List (ByteArray × Int)) × ((List (ByteArray × Int)) × (Int × Int)))))) × (Int → Int → Int → Unit → Int → Int → (List ByteArray) → (List Bool) → (List (ByteArray × Int)) → (List (ByteArray × Int)) → Option (Int × (Unit × ((List (ByteArray × Int)) × ((List (ByteArray × Int)) × (Int × Int)))))) × (Int → Unit → Int → Int → (List Bool) → (List (ByteArray × Int)) → (List (ByteArray × Int)) → Option (Int × (Unit × ((List (ByteArray × Int)) × ((List (ByteArray × Int)) × (Int × Int))))))
  | 0 => (fun _ _ _ _ _ _ _ _ _ => none, fun _ _ _ _ _ _ _ _ _ _ => none, fun _ _ _ _ _ _ _ => none)
  | n + 1 => (fun t66_ t67_ x_2 x_3 x_4 m3_ met m5_ m6_ => nimsum_solver_string_value.s0 N self x_ s_ (nimsum_solver_string_value.L N self x_ s_ n).1 (nimsum_solver_string_value.L N self x_ s_ n).2.1 (nimsum_solver_string_value.L N self x_ s_ n).2.2 t66_ t67_ x_2 x_3 x_4 m3_ met m5_ m6_, fun n_ t66_ t67_ x_2 x_3 x_4 m3_ met m7_ m8_ => nimsum_solver_string_value.s1 N self x_ s_ (nimsum_solver_string_value.L N self x_ s_ n).1 (nimsum_solver_string_value.L N self x_ s_ n).2.1 (nimsum_solver_string_value.L N self x_ s_ n).2.2 n_ t66_ t67_ x_2 x_3 x_4 m3_ met m7_ m8_, fun out x_2 x_3 x_4 met m5_ m6_ => nimsum_solver_string_value.s2 N self x_ s_ (nimsum_solver_string_value.L N self x_ s_ n).1 (nimsum_solver_string_value.L N self x_ s_ n).2.1 (nimsum_solver_string_value.L N self x_ s_ n).2.2 out x_2 x_3 x_4 met m5_ m6_)
def nimsum_solver_string_value.l0 (N : Nat) (self : (Unit × ((List (ByteArray × Int)) × ((List (ByteArray × Int)) × (Int × Int)))) → ByteArray → Option (Int × (Unit × ((List (ByteArray × Int)) × ((List (ByteArray × Int)) × (Int × Int)))))) (x_ : (Unit × ((List (ByteArray × Int)) × ((List (ByteArray × Int)) × (Int × Int))))) (s_ : ByteArray) (n : Nat) : Int → Int → Unit → Int → Int → (List ByteArray) → (List Bool) → (List (ByteArray × Int)) → (List (ByteArray × Int)) → Option (Int × (Unit × ((List (ByteArray × Int)) × ((List (ByteArray × Int)) × (Int × Int))))) := (nimsum_solver_string_value.L N self x_ s_ n).1
def nimsum_solver_string_value.l1 (N : Nat) (self : (Unit × ((List (ByteArray × Int)) × ((List (ByteArray × Int)) × (Int × Int)))) → ByteArray → Option (Int × (Unit × ((List (ByteArray × Int)) × ((List (ByteArray × Int)) × (Int × Int)))))) (x_ : (Unit × ((List (ByteArray × Int)) × ((List (ByteArray × Int)) × (Int × Int))))) (s_ : ByteArray) (n : Nat) : Int → Int → Int → Unit → Int → Int → (List ByteArray) → (List Bool) → (List (ByteArray × Int)) → (List (ByteArray × Int)) → Option (Int × (Unit × ((List (ByteArray × Int)) × ((List (ByteArray × Int)) × (Int × Int))))) := (nimsum_solver_string_value.L N self x_ s_ n).2.1
def nimsum_solver_string_value.l2 (N : Nat) (self : (Unit × ((List (ByteArray × Int)) × ((List (ByteArray × Int)) × (Int × Int)))) → ByteArray → Option (Int × (Unit × ((List (ByteArray × Int)) × ((List (ByteArray × Int)) × (Int × Int)))))) (x_ : (Unit × ((List (ByteArray × Int)) × ((List (ByteArray × Int)) × (Int × Int))))) (s_ : ByteArray) (n : Nat) : Int → Unit → Int → Int → (List Bool) → (List (ByteArray × Int)) → (List (ByteArray × Int)) → Option (Int × (Unit × ((List (ByteArray × Int)) × ((List (ByteArray × Int)) × (Int × Int))))) := (nimsum_solver_string_value.L N self x_ s_ n).2.2
theorem nimsum_solver_string_value.l0_s (N : Nat) (self : (Unit × ((List (ByteArray × Int)) × ((List (ByteArray × Int)) × (Int × Int)))) → ByteArray → Option (Int × (Unit × ((List (ByteArray × Int)) × ((List (ByteArray × Int)) × (Int × Int)))))) (x_ : (Unit × ((List (ByteArray × Int)) × ((List (ByteArray × Int)) × (Int × Int))))) (s_ : ByteArray) (n : Nat) (t66_ : Int) (t67_ : Int) (x_2 : Unit) (x_3 : Int) (x_4 : Int) (m3_ : (List ByteArray)) (met : (List Bool)) (m5_ : (List (ByteArray × Int))) (m6_ : (List (ByteArray × Int))) : nimsum_solver_string_value.l0 N self x_ s_ (n + 1) t66_ t67_ x_2 x_3 x_4 m3_ met m5_ m6_ = nimsum_solver_string_value.s0 N self x_ s_ (nimsum_solver_string_value.l0 N self x_ s_ n) (nimsum_solver_string_value.l1 N self x_ s_ n) (nimsum_solver_string_value.l2 N self x_ s_ n) t66_ t67_ x_2 x_3 x_4 m3_ met m5_ m6_ := rfl
theorem nimsum_solver_string_value.l1_s (N : Nat) (self : (Unit × ((List (ByteArray × Int)) × ((List (ByteArray × Int)) × (Int × Int)))) → ByteArray → Option (Int × (Unit × ((List (ByteArray × Int)) × ((List (ByteArray × Int)) × (Int × Int)))))) (x_ : (Unit × ((List (ByteArray × Int)) × ((List (ByteArray × Int)) × (Int × Int))))) (s_ : ByteArray) (n : Nat) (n_ : Int) (t66_ : Int) (t67_ : Int) (x_2 : Unit) (x_3 : Int) (x_4 : Int) (m3_ : (List ByteArray)) (met : (List Bool)) (m7_ : (List (ByteArray × Int))) (m8_ : (List (ByteArray × Int))) : nimsum_solver_string_value.l1 N self x_ s_ (n + 1) n_ t66_ t67_ x_2 x_3 x_4 m3_ met m7_ m8_ = nimsum_solver_string_value.s1 N self x_ s_ (nimsum_solver_string_value.l0 N self x_ s_ n) (nimsum_solver_string_value.l1 N self x_ s_ n) (nimsum_solver_string_value.l2 N self x_ s_ n) n_ t66_ t67_ x_2 x_3 x_4 m3_ met m7_ m8_ := rfl
theorem nimsum_solver_string_value.l2_s (N : Nat) (self : (Unit × ((List (ByteArray × Int)) × ((List (ByteArray × Int)) × (Int × Int)))) → ByteArray → Option (Int × (Unit × ((List (ByteArray × Int)) × ((List (ByteArray × Int)) × (Int × Int)))))) (x_ : (Unit × ((List (ByteArray × Int)) × ((List (ByteArray × Int)) × (Int × Int))))) (s_ : ByteArray) (n : Nat) (out : Int) (x_2 : Unit) (x_3 : Int) (x_4 : Int) (met : (List Bool)) (m5_ : (List (ByteArray × Int))) (m6_ : (List (ByteArray × Int))) : nimsum_solver_string_value.l2 N self x_ s_ (n + 1) out x_2 x_3 x_4 met m5_ m6_ = nimsum_solver_string_value.s2 N self x_ s_ (nimsum_solver_string_value.l0 N self x_ s_ n) (nimsum_solver_string_value.l1 N self x_ s_ n) (nimsum_solver_string_value.l2 N self x_ s_ n) out x_2 x_3 x_4 met m5_ m6_ := rfl
def nimsum_solver_string_value : Nat → (Unit × ((List (ByteArray × Int)) × ((List (ByteArray × Int)) × (Int × Int)))) → ByteArray → Option (Int × (Unit × ((List (ByteArray × Int)) × ((List (ByteArray × Int)) × (Int × Int)))))
  | 0 => fun _ _ => none
  | N + 1 => fun x_ s_ => nimsum_solver_string_value.e N (nimsum_solver_string_value N) (nimsum_solver_string_value.l0 N (nimsum_solver_string_value N) x_ s_ N) (nimsum_solver_string_value.l1 N (nimsum_solver_string_value N) x_ s_ N) (nimsum_solver_string_value.l2 N (nimsum_solver_string_value N) x_ s_ N) x_ s_
theorem nimsum_solver_string_value_s (N : Nat) (x_ : (Unit × ((List (ByteArray × Int)) × ((List (ByteArray × Int)) × (Int × Int))))) (s_ : ByteArray) : nimsum_solver_string_value (N + 1) x_ s_ = nimsum_solver_string_value.e N (nimsum_solver_string_value N) (nimsum_solver_string_value.l0 N (nimsum_solver_string_value N) x_ s_ N) (nimsum_solver_string_value.l1 N (nimsum_solver_string_value N) x_ s_ N) (nimsum_solver_string_value.l2 N (nimsum_solver_string_value N) x_ s_ N) x_ s_ := rfl
/-! ### f19: gamehall/nimsum.Value[string] -/
def nimsum_Value_string.e (N : Nat) (g_ : Unit) (s_ : ByteArray) (most : Int) : Option (Int × Int) :=
  bif (ltI most 1) then (some (0, 1))
  else bif (ltI 20000 most) then (some (0, 1))
  else (nimsum_solver_string_value N (g_, ([], ([], (most, 0)))) s_).bind fun y1 =>
  bif (!(eqI y1.2.2.2.2.2 0)) then (some (0, y1.2.2.2.2.2))
  else some (y1.1, 0)
def nimsum_Value_string (N : Nat) (g_ : Unit) (s_ : ByteArray) (most : Int) : Option (Int × Int) := nimsum_Value_string.e N g_ s_ most
/-! ### f12: gamehall/nimsum.Sum -/
def nimsum_Sum.e (N : Nat) (r0 : Int → Int → Option Int) (values : (List Int)) : Option Int :=
  r0 0 0
def nimsum_Sum.s0 (N : Nat) (values : (List Int)) (r0 : Int → Int → Option Int) (n_ : Int) (t8_ : Int) : Option Int :=
  bif (ltI t8_ (values.length : Int)) then (chk ((leI 0 t8_) && (ltI t8_ (values.length : Int))) <|
    r0 (Go.bits .xor .i64 n_ (gD (0 : Int) values t8_)) (w64 (t8_ + 1)))
  else some n_
def nimsum_Sum.L (N : Nat) (values : (List Int)) : Nat → (Int → Int → Option Int)
  | 0 => fun _ _ => none
  | n + 1 => fun n_ t8_ => nimsum_Sum.s0 N values (nimsum_Sum.L N values n) n_ t8_
def nimsum_Sum.l0 (N : Nat) (values : (List Int)) (n : Nat) : Int → Int → Option Int := (nimsum_Sum.L N values n)
theorem nimsum_Sum.l0_s (N : Nat) (values : (List Int)) (n : Nat) (n_ : Int) (t8_ : Int) : nimsum_Sum.l0 N values (n + 1) n_ t8_ = nimsum_Sum.s0 N values (nimsum_Sum.l0 N values n) n_ t8_ := rfl
def nimsum_Sum (N : Nat) (values : (List Int)) : Option Int := nimsum_Sum.e N (nimsum_Sum.l0 N values N) values
/-! ### f14: gamehall/nimsum.Take -/
def nimsum_Take.e (N : Nat) (r0 : Int → Option (Int × Int × Int)) (r1 : Int → Int → Option (Int × Int × Int)) (heaps : (List Int)) : Option (Int × Int × Int) :=
  bif (ltI 256 (heaps.length : Int)) then (some (0, (0, 2)))
  else r0 0
def nimsum_Take.s0 (N : Nat) (heaps : (List Int)) (r0 : Int → Option (Int × Int × Int)) (r1 : Int → Int → Option (Int × Int × Int)) (t15_ : Int) : Option (Int × Int × Int) :=
  bif (ltI t15_ (heaps.length : Int)) then (chk ((leI 0 t15_) && (ltI t15_ (heaps.length : Int))) <|
    bif (ltI (gD (0 : Int) heaps t15_) 0) then (some (0, (0, 4)))
    else bif (ltI 100000000 (gD (0 : Int) heaps t15_)) then (some (0, (0, 4)))
    else r0 (w64 (t15_ + 1)))
  else (nimsum_Sum N heaps).bind fun y5 =>
  r1 y5 0
def nimsum_Take.s1 (N : Nat) (heaps : (List Int)) (r0 : Int → Option (Int × Int × Int)) (r1 : Int → Int → Option (Int × Int × Int)) (all : Int) (t30_ : Int) : Option (Int × Int × Int) :=
  bif (ltI t30_ (heaps.length : Int)) then (chk ((leI 0 t30_) && (ltI t30_ (heaps.length : Int))) <|
    bif (ltI (Go.bits .xor .i64 (gD (0 : Int) heaps t30_) all) (gD (0 : Int) heaps t30_)) then (some (t30_, ((Go.bits .xor .i64 (gD (0 : Int) heaps t30_) all), 0)))
    else r1 all (w64 (t30_ + 1)))
  else some (0, (0, 8))
def nimsum_Take.L (N : Nat) (heaps : (List Int)) : Nat → (Int → Option (Int × Int × Int)) × (Int → Int → Option (Int × Int × Int))
  | 0 => (fun _ => none, fun _ _ => none)
  | n + 1 => (fun t15_ => nimsum_Take.s0 N heaps (nimsum_Take.L N heaps n).1 (nimsum_Take.L N heaps n).2 t15_, fun all t30_ => nimsum_Take.s1 N heaps (nimsum_Take.L N heaps n).1 (nimsum_Take.L N heaps n).2 all t30_)
def nimsum_Take.l0 (N : Nat) (heaps : (List Int)) (n : Nat) : Int → Option (Int × Int × Int) := (nimsum_Take.L N heaps n).1
def nimsum_Take.l1 (N : Nat) (heaps : (List Int)) (n : Nat) : Int → Int → Option (Int × Int × Int) := (nimsum_Take.L N heaps n).2
theorem nimsum_Take.l0_s (N : Nat) (heaps : (List Int)) (n : Nat) (t15_ : Int) : nimsum_Take.l0 N heaps (n + 1) t15_ = nimsum_Take.s0 N heaps (nimsum_Take.l0 N heaps n) (nimsum_Take.l1 N heaps n) t15_ := rfl
theorem nimsum_Take.l1_s (N : Nat) (heaps : (List Int)) (n : Nat) (all : Int) (t30_ : Int) : nimsum_Take.l1 N heaps (n + 1) all t30_ = nimsum_Take.s1 N heaps (nimsum_Take.l0 N heaps n) (nimsum_Take.l1 N heaps n) all t30_ := rfl
def nimsum_Take (N : Nat) (heaps : (List Int)) : Option (Int × Int × Int) := nimsum_Take.e N (nimsum_Take.l0 N heaps N) (nimsum_Take.l1 N heaps N) heaps
/-! ### f24: gamehall/gamehallkeep1.fine$1 -/
def gamehallkeep1_fine_1.e (N : Nat) (e_ : Int) : Option Bool :=
  some (!(eqI e_ 0))
def gamehallkeep1_fine_1 (N : Nat) (e_ : Int) : Option Bool := gamehallkeep1_fine_1.e N e_
/-! ### f29: slices.IndexFunc[[]gamehall/api.Errno,gamehall/api.Errno] -/
def slices_IndexFunc_api_Errno_api_Errno.e (N : Nat) (r0 : Int → Option Int) (s_ : (List Int)) : Option Int :=
  r0 0
def slices_IndexFunc_api_Errno_api_Errno.s0 (N : Nat) (s_ : (List Int)) (r0 : Int → Option Int) (t8_ : Int) : Option Int :=
  bif (ltI t8_ (s_.length : Int)) then (chk ((leI 0 t8_) && (ltI t8_ (s_.length : Int))) <|
    (gamehallkeep1_fine_1 N (gD (0 : Int) s_ t8_)).bind fun y2 =>
    bif y2 then some t8_
    else r0 (w64 (t8_ + 1)))
  else some (-1)
def slices_IndexFunc_api_Errno_api_Errno.L (N : Nat) (s_ : (List Int)) : Nat → (Int → Option Int)
  | 0 => fun _ => none
  | n + 1 => fun t8_ => slices_IndexFunc_api_Errno_api_Errno.s0 N s_ (slices_IndexFunc_api_Errno_api_Errno.L N s_ n) t8_
def slices_IndexFunc_api_Errno_api_Errno.l0 (N : Nat) (s_ : (List Int)) (n : Nat) : Int → Option Int := (slices_IndexFunc_api_Errno_api_Errno.L N s_ n)
theorem slices_IndexFunc_api_Errno_api_Errno.l0_s (N : Nat) (s_ : (List Int)) (n : Nat) (t8_ : Int) : slices_IndexFunc_api_Errno_api_Errno.l0 N s_ (n + 1) t8_ = slices_IndexFunc_api_Errno_api_Errno.s0 N s_ (slices_IndexFunc_api_Errno_api_Errno.l0 N s_ n) t8_ := rfl
def slices_IndexFunc_api_Errno_api_Errno (N : Nat) (s_ : (List Int)) : Option Int := slices_IndexFunc_api_Errno_api_Errno.e N (slices_IndexFunc_api_Errno_api_Errno.l0 N s_ N) s_
/-! ### f23: slices.ContainsFunc[[]gamehall/api.Errno,gamehall/api.Errno] -/
def slices_ContainsFunc_api_Errno_api_Errno.e (N : Nat) (s_ : (List Int)) : Option Bool :=
  (slices_IndexFunc_api_Errno_api_Errno N s_).bind fun y1 =>
  some (leI 0 y1)
def slices_ContainsFunc_api_Errno_api_Errno (N : Nat) (s_ : (List Int)) : Option Bool := slices_ContainsFunc_api_Errno_api_Errno.e N s_
/-! ### f11: gamehall/gamehallkeep1.fine -/
def gamehallkeep1_fine.e (N : Nat) (l_ : (List Int)) : Option Bool :=
  (slices_ContainsFunc_api_Errno_api_Errno N l_).bind fun y1 =>
  some (!y1)
def gamehallkeep1_fine (N : Nat) (l_ : (List Int)) : Option Bool := gamehallkeep1_fine.e N l_
/-! ### f9: gamehall/gamehallkeep1.summed -/
def gamehallkeep1_summed.e (N : Nat) : Option Bool :=
  (nimsum_Value_int N 2 5 100).bind fun y1 =>
  (nimsum_Value_string N () (⟨#[3]⟩ : ByteArray) 100).bind fun y2 =>
  (nimsum_Take N [1, 4]).bind fun y3 =>
  (gamehallkeep1_fine N [y1.2, y2.2, y3.2.2]).bind fun y4 =>
  bif y4 then (bif (eqI y1.1 2) then (bif (eqI y2.1 1) then (bif (eqI y3.1 1) then (bif (eqI y3.2.1 1) then ((nimsum_Sum N [5, 3]).bind fun y5 =>
            some (eqI y5 6))
          else some false)
        else some false)
      else some false)
    else some false)
  else some false
def gamehallkeep1_summed (N : Nat) : Option Bool := gamehallkeep1_summed.e N
/-! ### f18: slices.Clone[[]byte,byte] -/
def slices_Clone_byte_byte.e (N : Nat) (s_ : (List Int)) : Option (List Int) :=
  chk (capOk 1 (([] : List Int).length + s_.length)) <|
  some ([] ++ s_)
def slices_Clone_byte_byte (N : Nat) (s_ : (List Int)) : Option (List Int) := slices_Clone_byte_byte.e N s_
/-! ### f40: math/bits.Len64 -/
def math_bits_Len64.e (N : Nat) (x_ : Int) : Option Int :=
  bif (leI 4294967296 x_) then (let v1 : Int := (Int.fdiv x_ (2 ^ (min (32 : Int).toNat 64)))
    bif (leI 65536 v1) then (let v2 : Int := (Int.fdiv v1 (2 ^ (min (16 : Int).toNat 64)))
      bif (leI 256 v2) then (let v3 : Int := (Int.fdiv v2 (2 ^ (min (8 : Int).toNat 64)))
        chk ((leI 0 (IntKind.wrap .u8 v3)) && ltI (IntKind.wrap .u8 v3) ((⟨#[0, 1, 2, 2, 3, 3, 3, 3, 4, 4, 4, 4, 4, 4, 4, 4, 5, 5, 5, 5, 5, 5, 5, 5, 5, 5, 5, 5, 5, 5, 5, 5, 6, 6, 6, 6, 6, 6, 6, 6, 6, 6, 6, 6, 6, 6, 6, 6, 6, 6, 6, 6, 6, 6, 6, 6, 6, 6, 6, 6, 6, 6, 6, 6, 7, 7, 7, 7, 7, 7, 7, 7, 7, 7, 7, 7, 7, 7, 7, 7, 7, 7, 7, 7, 7, 7, 7, 7, 7, 7, 7, 7, 7, 7, 7, 7, 7, 7, 7, 7, 7, 7, 7, 7, 7, 7, 7, 7, 7, 7, 7, 7, 7, 7, 7, 7, 7, 7, 7, 7, 7, 7, 7, 7, 7, 7, 7, 7, 8, 8, 8, 8, 8, 8, 8, 8, 8, 8, 8, 8, 8, 8, 8, 8, 8, 8, 8, 8, 8, 8, 8, 8, 8, 8, 8, 8, 8, 8, 8, 8, 8, 8, 8, 8, 8, 8, 8, 8, 8, 8, 8, 8, 8, 8, 8, 8, 8, 8, 8, 8, 8, 8, 8, 8, 8, 8, 8, 8, 8, 8, 8, 8, 8, 8, 8, 8, 8, 8, 8, 8, 8, 8, 8, 8, 8, 8, 8, 8, 8, 8, 8, 8, 8, 8, 8, 8, 8, 8, 8, 8, 8, 8, 8, 8, 8, 8, 8, 8, 8, 8, 8, 8, 8, 8, 8, 8, 8, 8, 8, 8, 8, 8, 8, 8, 8, 8, 8, 8, 8, 8, 8, 8, 8, 8, 8, 8]⟩ : ByteArray).size : Int)) <|
        some (w64 (56 + (w64 (bt (⟨#[0, 1, 2, 2, 3, 3, 3, 3, 4, 4, 4, 4, 4, 4, 4, 4, 5, 5, 5, 5, 5, 5, 5, 5, 5, 5, 5, 5, 5, 5, 5, 5, 6, 6, 6, 6, 6, 6, 6, 6, 6, 6, 6, 6, 6, 6, 6, 6, 6, 6, 6, 6, 6, 6, 6, 6, 6, 6, 6, 6, 6, 6, 6, 6, 7, 7, 7, 7, 7, 7, 7, 7, 7, 7, 7, 7, 7, 7, 7, 7, 7, 7, 7, 7, 7, 7, 7, 7, 7, 7, 7, 7, 7, 7, 7, 7, 7, 7, 7, 7, 7, 7, 7, 7, 7, 7, 7, 7, 7, 7, 7, 7, 7, 7, 7, 7, 7, 7, 7, 7, 7, 7, 7, 7, 7, 7, 7, 7, 8, 8, 8, 8, 8, 8, 8, 8, 8, 8, 8, 8, 8, 8, 8, 8, 8, 8, 8, 8, 8, 8, 8, 8, 8, 8, 8, 8, 8, 8, 8, 8, 8, 8, 8, 8, 8, 8, 8, 8, 8, 8, 8, 8, 8, 8, 8, 8, 8, 8, 8, 8, 8, 8, 8, 8, 8, 8, 8, 8, 8, 8, 8, 8, 8, 8, 8, 8, 8, 8, 8, 8, 8, 8, 8, 8, 8, 8, 8, 8, 8, 8, 8, 8, 8, 8, 8, 8, 8, 8, 8, 8, 8, 8, 8, 8, 8, 8, 8, 8, 8, 8, 8, 8, 8, 8, 8, 8, 8, 8, 8, 8, 8, 8, 8, 8, 8, 8, 8, 8, 8, 8, 8, 8, 8, 8, 8, 8]⟩ : ByteArray) (IntKind.wrap .u8 v3))))))
      else chk ((leI 0 (IntKind.wrap .u8 v2)) && ltI (IntKind.wrap .u8 v2) ((⟨#[0, 1, 2, 2, 3, 3, 3, 3, 4, 4, 4, 4, 4, 4, 4, 4, 5, 5, 5, 5, 5, 5, 5, 5, 5, 5, 5, 5, 5, 5, 5, 5, 6, 6, 6, 6, 6, 6, 6, 6, 6, 6, 6, 6, 6, 6, 6, 6, 6, 6, 6, 6, 6, 6, 6, 6, 6, 6, 6, 6, 6, 6, 6, 6, 7, 7, 7, 7, 7, 7, 7, 7, 7, 7, 7, 7, 7, 7, 7, 7, 7, 7, 7, 7, 7, 7, 7, 7, 7, 7, 7, 7, 7, 7, 7, 7, 7, 7, 7, 7, 7, 7, 7, 7, 7, 7, 7, 7, 7, 7, 7, 7, 7, 7, 7, 7, 7, 7, 7, 7, 7, 7, 7, 7, 7, 7, 7, 7, 8, 8, 8, 8, 8, 8, 8, 8, 8, 8, 8, 8, 8, 8, 8, 8, 8, 8, 8, 8, 8, 8, 8, 8, 8, 8, 8, 8, 8, 8, 8, 8, 8, 8, 8, 8, 8, 8, 8, 8, 8, 8, 8, 8, 8, 8, 8, 8, 8, 8, 8, 8, 8, 8, 8, 8, 8, 8, 8, 8, 8, 8, 8, 8, 8, 8, 8, 8, 8, 8, 8, 8, 8, 8, 8, 8, 8, 8, 8, 8, 8, 8, 8, 8, 8, 8, 8, 8, 8, 8, 8, 8, 8, 8, 8, 8, 8, 8, 8, 8, 8, 8, 8, 8, 8, 8, 8, 8, 8, 8, 8, 8, 8, 8, 8, 8, 8, 8, 8, 8, 8, 8, 8, 8, 8, 8, 8, 8]⟩ : ByteArray).size : Int)) <|
      some (w64 (48 + (w64 (bt (⟨#[0, 1, 2, 2, 3, 3, 3, 3, 4, 4, 4, 4, 4, 4, 4, 4, 5, 5, 5, 5, 5, 5, 5, 5, 5, 5, 5, 5, 5, 5, 5, 5, 6, 6, 6, 6, 6, 6, 6, 6, 6, 6, 6, 6, 6, 6, 6, 6, 6, 6, 6, 6, 6, 6, 6, 6, 6, 6, 6, 6, 6, 6, 6, 6, 7, 7, 7, 7, 7, 7, 7, 7, 7, 7, 7, 7, 7, 7, 7, 7, 7, 7, 7, 7, 7, 7, 7, 7, 7, 7, 7, 7, 7, 7, 7, 7, 7, 7, 7, 7, 7, 7, 7, 7, 7, 7, 7, 7, 7, 7, 7, 7, 7, 7, 7, 7, 7, 7, 7, 7, 7, 7, 7, 7, 7, 7, 7, 7, 8, 8, 8, 8, 8, 8, 8, 8, 8, 8, 8, 8, 8, 8, 8, 8, 8, 8, 8, 8, 8, 8, 8, 8, 8, 8, 8, 8, 8, 8, 8, 8, 8, 8, 8, 8, 8, 8, 8, 8, 8, 8, 8, 8, 8, 8, 8, 8, 8, 8, 8, 8, 8, 8, 8, 8, 8, 8, 8, 8, 8, 8, 8, 8, 8, 8, 8, 8, 8, 8, 8, 8, 8, 8, 8, 8, 8, 8, 8, 8, 8, 8, 8, 8, 8, 8, 8, 8, 8, 8, 8, 8, 8, 8, 8, 8, 8, 8, 8, 8, 8, 8, 8, 8, 8, 8, 8, 8, 8, 8, 8, 8, 8, 8, 8, 8, 8, 8, 8, 8, 8, 8, 8, 8, 8, 8, 8, 8]⟩ : ByteArray) (IntKind.wrap .u8 v2))))))
    else bif (leI 256 v1) then (let v6 : Int := (Int.fdiv v1 (2 ^ (min (8 : Int).toNat 64)))
      chk ((leI 0 (IntKind.wrap .u8 v6)) && ltI (IntKind.wrap .u8 v6) ((⟨#[0, 1, 2, 2, 3, 3, 3, 3, 4, 4, 4, 4, 4, 4, 4, 4, 5, 5, 5, 5, 5, 5, 5, 5, 5, 5, 5, 5, 5, 5, 5, 5, 6, 6, 6, 6, 6, 6, 6, 6, 6, 6, 6, 6, 6, 6, 6, 6, 6, 6, 6, 6, 6, 6, 6, 6, 6, 6, 6, 6, 6, 6, 6, 6, 7, 7, 7, 7, 7, 7, 7, 7, 7, 7, 7, 7, 7, 7, 7, 7, 7, 7, 7, 7, 7, 7, 7, 7, 7, 7, 7, 7, 7, 7, 7, 7, 7, 7, 7, 7, 7, 7, 7, 7, 7, 7, 7, 7, 7, 7, 7, 7, 7, 7, 7, 7, 7, 7, 7, 7, 7, 7, 7, 7, 7, 7, 7, 7, 8, 8, 8, 8, 8, 8, 8, 8, 8, 8, 8, 8, 8, 8, 8, 8, 8, 8, 8, 8, 8, 8, 8, 8, 8, 8, 8, 8, 8, 8, 8, 8, 8, 8, 8, 8, 8, 8, 8, 8, 8, 8, 8, 8, 8, 8, 8, 8, 8, 8, 8, 8, 8, 8, 8, 8, 8, 8, 8, 8, 8, 8, 8, 8, 8, 8, 8, 8, 8, 8, 8, 8, 8, 8, 8, 8, 8, 8, 8, 8, 8, 8, 8, 8, 8, 8, 8, 8, 8, 8, 8, 8, 8, 8, 8, 8, 8, 8, 8, 8, 8, 8, 8, 8, 8, 8, 8, 8, 8, 8, 8, 8, 8, 8, 8, 8, 8, 8, 8, 8, 8, 8, 8, 8, 8, 8, 8, 8]⟩ : ByteArray).size : Int)) <|
      some (w64 (40 + (w64 (bt (⟨#[0, 1, 2, 2, 3, 3, 3, 3, 4, 4, 4, 4, 4, 4, 4, 4, 5, 5, 5, 5, 5, 5, 5, 5, 5, 5, 5, 5, 5, 5, 5, 5, 6, 6, 6, 6, 6, 6, 6, 6, 6, 6, 6, 6, 6, 6, 6, 6, 6, 6, 6, 6, 6, 6, 6, 6, 6, 6, 6, 6, 6, 6, 6, 6, 7, 7, 7, 7, 7, 7, 7, 7, 7, 7, 7, 7, 7, 7, 7, 7, 7, 7, 7, 7, 7, 7, 7, 7, 7, 7, 7, 7, 7, 7, 7, 7, 7, 7, 7, 7, 7, 7, 7, 7, 7, 7, 7, 7, 7, 7, 7, 7, 7, 7, 7, 7, 7, 7, 7, 7, 7, 7, 7, 7, 7, 7, 7, 7, 8, 8, 8, 8, 8, 8, 8, 8, 8, 8, 8, 8, 8, 8, 8, 8, 8, 8, 8, 8, 8, 8, 8, 8, 8, 8, 8, 8, 8, 8, 8, 8, 8, 8, 8, 8, 8, 8, 8, 8, 8, 8, 8, 8, 8, 8, 8, 8, 8, 8, 8, 8, 8, 8, 8, 8, 8, 8, 8, 8, 8, 8, 8, 8, 8, 8, 8, 8, 8, 8, 8, 8, 8, 8, 8, 8, 8, 8, 8, 8, 8, 8, 8, 8, 8, 8, 8, 8, 8, 8, 8, 8, 8, 8, 8, 8, 8, 8, 8, 8, 8, 8, 8, 8, 8, 8, 8, 8, 8, 8, 8, 8, 8, 8, 8, 8, 8, 8, 8, 8, 8, 8, 8, 8, 8, 8, 8, 8]⟩ : ByteArray) (IntKind.wrap .u8 v6))))))
    else chk ((leI 0 (IntKind.wrap .u8 v1)) && ltI (IntKind.wrap .u8 v1) ((⟨#[0, 1, 2, 2, 3, 3, 3, 3, 4, 4, 4, 4, 4, 4, 4, 4, 5, 5, 5, 5, 5, 5, 5, 5, 5, 5, 5, 5, 5, 5, 5, 5, 6, 6, 6, 6, 6, 6, 6, 6, 6, 6, 6, 6, 6, 6, 6, 6, 6, 6, 6, 6, 6, 6, 6, 6, 6, 6, 6, 6, 6, 6, 6, 6, 7, 7, 7, 7, 7, 7, 7, 7, 7, 7, 7, 7, 7, 7, 7, 7, 7, 7, 7, 7, 7, 7, 7, 7, 7, 7, 7, 7, 7, 7, 7, 7, 7, 7, 7, 7, 7, 7, 7, 7, 7, 7, 7, 7, 7, 7, 7, 7, 7, 7, 7, 7, 7, 7, 7, 7, 7, 7, 7, 7, 7, 7, 7, 7, 8, 8, 8, 8, 8, 8, 8, 8, 8, 8, 8, 8, 8, 8, 8, 8, 8, 8, 8, 8, 8, 8, 8, 8, 8, 8, 8, 8, 8, 8, 8, 8, 8, 8, 8, 8, 8, 8, 8, 8, 8, 8, 8, 8, 8, 8, 8, 8, 8, 8, 8, 8, 8, 8, 8, 8, 8, 8, 8, 8, 8, 8, 8, 8, 8, 8, 8, 8, 8, 8, 8, 8, 8, 8, 8, 8, 8, 8, 8, 8, 8, 8, 8, 8, 8, 8, 8, 8, 8, 8, 8, 8, 8, 8, 8, 8, 8, 8, 8, 8, 8, 8, 8, 8, 8, 8, 8, 8, 8, 8, 8, 8, 8, 8, 8, 8, 8, 8, 8, 8, 8, 8, 8, 8, 8, 8, 8, 8]⟩ : ByteArray).size : Int)) <|
    some (w64 (32 + (w64 (bt (⟨#[0, 1, 2, 2, 3, 3, 3, 3, 4, 4, 4, 4, 4, 4, 4, 4, 5, 5, 5, 5, 5, 5, 5, 5, 5, 5, 5, 5, 5, 5, 5, 5, 6, 6, 6, 6, 6, 6, 6, 6, 6, 6, 6, 6, 6, 6, 6, 6, 6, 6, 6, 6, 6, 6, 6, 6, 6, 6, 6, 6, 6, 6, 6, 6, 7, 7, 7, 7, 7, 7, 7, 7, 7, 7, 7, 7, 7, 7, 7, 7, 7, 7, 7, 7, 7, 7, 7, 7, 7, 7, 7, 7, 7, 7, 7, 7, 7, 7, 7, 7, 7, 7, 7, 7, 7, 7, 7, 7, 7, 7, 7, 7, 7, 7, 7, 7, 7, 7, 7, 7, 7, 7, 7, 7, 7, 7, 7, 7, 8, 8, 8, 8, 8, 8, 8, 8, 8, 8, 8, 8, 8, 8, 8, 8, 8, 8, 8, 8, 8, 8, 8, 8, 8, 8, 8, 8, 8, 8, 8, 8, 8, 8, 8, 8, 8, 8, 8, 8, 8, 8, 8, 8, 8, 8, 8, 8, 8, 8, 8, 8, 8, 8, 8, 8, 8, 8, 8, 8, 8, 8, 8, 8, 8, 8, 8, 8, 8, 8, 8, 8, 8, 8, 8, 8, 8, 8, 8, 8, 8, 8, 8, 8, 8, 8, 8, 8, 8, 8, 8, 8, 8, 8, 8, 8, 8, 8, 8, 8, 8, 8, 8, 8, 8, 8, 8, 8, 8, 8, 8, 8, 8, 8, 8, 8, 8, 8, 8, 8, 8, 8, 8, 8, 8, 8, 8, 8]⟩ : ByteArray) (IntKind.wrap .u8 v1))))))
  else bif (leI 65536 x_) then (let v9 : Int := (Int.fdiv x_ (2 ^ (min (16 : Int).toNat 64)))
    bif (leI 256 v9) then (let v10 : Int := (Int.fdiv v9 (2 ^ (min (8 : Int).toNat 64)))
      chk ((leI 0 (IntKind.wrap .u8 v10)) && ltI (IntKind.wrap .u8 v10) ((⟨#[0, 1, 2, 2, 3, 3, 3, 3, 4, 4, 4, 4, 4, 4, 4, 4, 5, 5, 5, 5, 5, 5, 5, 5, 5, 5, 5, 5, 5, 5, 5, 5, 6, 6, 6, 6, 6, 6, 6, 6, 6, 6, 6, 6, 6, 6, 6, 6, 6, 6, 6, 6, 6, 6, 6, 6, 6, 6, 6, 6, 6, 6, 6, 6, 7, 7, 7, 7, 7, 7, 7, 7, 7, 7, 7, 7, 7, 7, 7, 7, 7, 7, 7, 7, 7, 7, 7, 7, 7, 7, 7, 7, 7, 7, 7, 7, 7, 7, 7, 7, 7, 7, 7, 7, 7, 7, 7, 7, 7, 7, 7, 7, 7, 7, 7, 7, 7, 7, 7, 7, 7, 7, 7, 7, 7, 7, 7, 7, 8, 8, 8, 8, 8, 8, 8, 8, 8, 8, 8, 8, 8, 8, 8, 8, 8, 8, 8, 8, 8, 8, 8, 8, 8, 8, 8, 8, 8, 8, 8, 8, 8, 8, 8, 8, 8, 8, 8, 8, 8, 8, 8, 8, 8, 8, 8, 8, 8, 8, 8, 8, 8, 8, 8, 8, 8, 8, 8, 8, 8, 8, 8, 8, 8, 8, 8, 8, 8, 8, 8, 8, 8, 8, 8, 8, 8, 8, 8, 8, 8, 8, 8, 8, 8, 8, 8, 8, 8, 8, 8, 8, 8, 8, 8, 8, 8, 8, 8, 8, 8, 8, 8, 8, 8, 8, 8, 8, 8, 8, 8, 8, 8, 8, 8, 8, 8, 8, 8, 8, 8, 8, 8, 8, 8, 8, 8, 8]⟩ : ByteArray).size : Int)) <|
      some (w64 (24 + (w64 (bt (⟨#[0, 1, 2, 2, 3, 3, 3, 3, 4, 4, 4, 4, 4, 4, 4, 4, 5, 5, 5, 5, 5, 5, 5, 5, 5, 5, 5, 5, 5, 5, 5, 5, 6, 6, 6, 6, 6, 6, 6, 6, 6, 6, 6, 6, 6, 6, 6, 6, 6, 6, 6, 6, 6, 6, 6, 6, 6, 6, 6, 6, 6, 6, 6, 6, 7, 7, 7, 7, 7, 7, 7, 7, 7, 7, 7, 7, 7, 7, 7, 7, 7, 7, 7, 7, 7, 7, 7, 7, 7, 7, 7, 7, 7, 7, 7, 7, 7, 7, 7, 7, 7, 7, 7, 7, 7, 7, 7, 7, 7, 7, 7, 7, 7, 7, 7, 7, 7, 7, 7, 7, 7, 7, 7, 7, 7, 7, 7, 7, 8, 8, 8, 8, 8, 8, 8, 8, 8, 8, 8, 8, 8, 8, 8, 8, 8, 8, 8, 8, 8, 8, 8, 8, 8, 8, 8, 8, 8, 8, 8, 8, 8, 8, 8, 8, 8, 8, 8, 8, 8, 8, 8, 8, 8, 8, 8, 8, 8, 8, 8, 8, 8, 8, 8, 8, 8, 8, 8, 8, 8, 8, 8, 8, 8, 8, 8, 8, 8, 8, 8, 8, 8, 8, 8, 8, 8, 8, 8, 8, 8, 8, 8, 8, 8, 8, 8, 8, 8, 8, 8, 8, 8, 8, 8, 8, 8, 8, 8, 8, 8, 8, 8, 8, 8, 8, 8, 8, 8, 8, 8, 8, 8, 8, 8, 8, 8, 8, 8, 8, 8, 8, 8, 8, 8, 8, 8, 8]⟩ : ByteArray) (IntKind.wrap .u8 v10))))))
    else chk ((leI 0 (IntKind.wrap .u8 v9)) && ltI (IntKind.wrap .u8 v9) ((⟨#[0, 1, 2, 2, 3, 3, 3, 3, 4, 4, 4, 4, 4, 4, 4, 4, 5, 5, 5, 5, 5, 5, 5, 5, 5, 5, 5, 5, 5, 5, 5, 5, 6, 6, 6, 6, 6, 6, 6, 6, 6, 6, 6, 6, 6, 6, 6, 6, 6, 6, 6, 6, 6, 6, 6, 6, 6, 6, 6, 6, 6, 6, 6, 6, 7, 7, 7, 7, 7, 7, 7, 7, 7, 7, 7, 7, 7, 7, 7, 7, 7, 7, 7, 7, 7, 7, 7, 7, 7, 7, 7, 7, 7, 7, 7, 7, 7, 7, 7, 7, 7, 7, 7, 7, 7, 7, 7, 7, 7, 7, 7, 7, 7, 7, 7, 7, 7, 7, 7, 7, 7, 7, 7, 7, 7, 7, 7, 7, 8, 8, 8, 8, 8, 8, 8, 8, 8, 8, 8, 8, 8, 8, 8, 8, 8, 8, 8, 8, 8, 8, 8, 8, 8, 8, 8, 8, 8, 8, 8, 8, 8, 8, 8, 8, 8, 8, 8, 8, 8, 8, 8, 8, 8, 8, 8, 8, 8, 8, 8, 8, 8, 8, 8, 8, 8, 8, 8, 8, 8, 8, 8, 8, 8, 8, 8, 8, 8, 8, 8, 8, 8, 8, 8, 8, 8, 8, 8, 8, 8, 8, 8, 8, 8, 8, 8, 8, 8, 8, 8, 8, 8, 8, 8, 8, 8, 8, 8, 8, 8, 8, 8, 8, 8, 8, 8, 8, 8, 8, 8, 8, 8, 8, 8, 8, 8, 8, 8, 8, 8, 8, 8, 8, 8, 8, 8, 8]⟩ : ByteArray).size : Int)) <|
    some (w64 (16 + (w64 (bt (⟨#[0, 1, 2, 2, 3, 3, 3, 3, 4, 4, 4, 4, 4, 4, 4, 4, 5, 5, 5, 5, 5, 5, 5, 5, 5, 5, 5, 5, 5, 5, 5, 5, 6, 6, 6, 6, 6, 6, 6, 6, 6, 6, 6, 6, 6, 6, 6, 6, 6, 6, 6, 6, 6, 6, 6, 6, 6, 6, 6, 6, 6, 6, 6, 6, 7, 7, 7, 7, 7, 7, 7, 7, 7, 7, 7, 7, 7, 7, 7, 7, 7, 7, 7, 7, 7, 7, 7, 7, 7, 7, 7, 7, 7, 7, 7, 7, 7, 7, 7, 7, 7, 7, 7, 7, 7, 7, 7, 7, 7, 7, 7, 7, 7, 7, 7, 7, 7, 7, 7, 7, 7, 7, 7, 7, 7, 7, 7, 7, 8, 8, 8, 8, 8, 8, 8, 8, 8, 8, 8, 8, 8, 8, 8, 8, 8, 8, 8, 8, 8, 8, 8, 8, 8, 8, 8, 8, 8, 8, 8, 8, 8, 8, 8, 8, 8, 8, 8, 8, 8, 8, 8, 8, 8, 8, 8, 8, 8, 8, 8, 8, 8, 8, 8, 8, 8, 8, 8, 8, 8, 8, 8, 8, 8, 8, 8, 8, 8, 8, 8, 8, 8, 8, 8, 8, 8, 8, 8, 8, 8, 8, 8, 8, 8, 8, 8, 8, 8, 8, 8, 8, 8, 8, 8, 8, 8, 8, 8, 8, 8, 8, 8, 8, 8, 8, 8, 8, 8, 8, 8, 8, 8, 8, 8, 8, 8, 8, 8, 8, 8, 8, 8, 8, 8, 8, 8, 8]⟩ : ByteArray) (IntKind.wrap .u8 v9))))))
  else bif (leI 256 x_) then (let v13 : Int := (Int.fdiv x_ (2 ^ (min (8 : Int).toNat 64)))
    chk ((leI 0 (IntKind.wrap .u8 v13)) && ltI (IntKind.wrap .u8 v13) ((⟨#[0, 1, 2, 2, 3, 3, 3, 3, 4, 4, 4, 4, 4, 4, 4, 4, 5, 5, 5, 5, 5, 5, 5, 5, 5, 5, 5, 5, 5, 5, 5, 5, 6, 6, 6, 6, 6, 6, 6, 6, 6, 6, 6, 6, 6, 6, 6, 6, 6, 6, 6, 6, 6, 6, 6, 6, 6, 6, 6, 6, 6, 6, 6, 6, 7, 7, 7, 7, 7, 7, 7, 7, 7, 7, 7, 7, 7, 7, 7, 7, 7, 7, 7, 7, 7, 7, 7, 7, 7, 7, 7, 7, 7, 7, 7, 7, 7, 7, 7, 7, 7, 7, 7, 7, 7, 7, 7, 7, 7, 7, 7, 7, 7, 7, 7, 7, 7, 7, 7, 7, 7, 7, 7, 7, 7, 7, 7, 7, 8, 8, 8, 8, 8, 8, 8, 8, 8, 8, 8, 8, 8, 8, 8, 8, 8, 8, 8, 8, 8, 8, 8, 8, 8, 8, 8, 8, 8, 8, 8, 8, 8, 8, 8, 8, 8, 8, 8, 8, 8, 8, 8, 8, 8, 8, 8, 8, 8, 8, 8, 8, 8, 8, 8, 8, 8, 8, 8, 8, 8, 8, 8, 8, 8, 8, 8, 8, 8, 8, 8, 8, 8, 8, 8, 8, 8, 8, 8, 8, 8, 8, 8, 8, 8, 8, 8, 8, 8, 8, 8, 8, 8, 8, 8, 8, 8, 8, 8, 8, 8, 8, 8, 8, 8, 8, 8, 8, 8, 8, 8, 8, 8, 8, 8, 8, 8, 8, 8, 8, 8, 8, 8, 8, 8, 8, 8, 8]⟩ : ByteArray).size : Int)) <|
    some (w64 (8 + (w64 (bt (⟨#[0, 1, 2, 2, 3, 3, 3, 3, 4, 4, 4, 4, 4, 4, 4, 4, 5, 5, 5, 5, 5, 5, 5, 5, 5, 5, 5, 5, 5, 5, 5, 5, 6, 6, 6, 6, 6, 6, 6, 6, 6, 6, 6, 6, 6, 6, 6, 6, 6, 6, 6, 6, 6, 6, 6, 6, 6, 6, 6, 6, 6, 6, 6, 6, 7, 7, 7, 7, 7, 7, 7, 7, 7, 7, 7, 7, 7, 7, 7, 7, 7, 7, 7, 7, 7, 7, 7, 7, 7, 7, 7, 7, 7, 7, 7, 7, 7, 7, 7, 7, 7, 7, 7, 7, 7, 7, 7, 7, 7, 7, 7, 7, 7, 7, 7, 7, 7, 7, 7, 7, 7, 7, 7, 7, 7, 7, 7, 7, 8, 8, 8, 8, 8, 8, 8, 8, 8, 8, 8, 8, 8, 8, 8, 8, 8, 8, 8, 8, 8, 8, 8, 8, 8, 8, 8, 8, 8, 8, 8, 8, 8, 8, 8, 8, 8, 8, 8, 8, 8, 8, 8, 8, 8, 8, 8, 8, 8, 8, 8, 8, 8, 8, 8, 8, 8, 8, 8, 8, 8, 8, 8, 8, 8, 8, 8, 8, 8, 8, 8, 8, 8, 8, 8, 8, 8, 8, 8, 8, 8, 8, 8, 8, 8, 8, 8, 8, 8, 8, 8, 8, 8, 8, 8, 8, 8, 8, 8, 8, 8, 8, 8, 8, 8, 8, 8, 8, 8, 8, 8, 8, 8, 8, 8, 8, 8, 8, 8, 8, 8, 8, 8, 8, 8, 8, 8, 8]⟩ : ByteArray) (IntKind.wrap .u8 v13))))))
  else chk ((leI 0 (IntKind.wrap .u8 x_)) && ltI (IntKind.wrap .u8 x_) ((⟨#[0, 1, 2, 2, 3, 3, 3, 3, 4, 4, 4, 4, 4, 4, 4, 4, 5, 5, 5, 5, 5, 5, 5, 5, 5, 5, 5, 5, 5, 5, 5, 5, 6, 6, 6, 6, 6, 6, 6, 6, 6, 6, 6, 6, 6, 6, 6, 6, 6, 6, 6, 6, 6, 6, 6, 6, 6, 6, 6, 6, 6, 6, 6, 6, 7, 7, 7, 7, 7, 7, 7, 7, 7, 7, 7, 7, 7, 7, 7, 7, 7, 7, 7, 7, 7, 7, 7, 7, 7, 7, 7, 7, 7, 7, 7, 7, 7, 7, 7, 7, 7, 7, 7, 7, 7, 7, 7, 7, 7, 7, 7, 7, 7, 7, 7, 7, 7, 7, 7, 7, 7, 7, 7, 7, 7, 7, 7, 7, 8, 8, 8, 8, 8, 8, 8, 8, 8, 8, 8, 8, 8, 8, 8, 8, 8, 8, 8, 8, 8, 8, 8, 8, 8, 8, 8, 8, 8, 8, 8, 8, 8, 8, 8, 8, 8, 8, 8, 8, 8, 8, 8, 8, 8, 8, 8, 8, 8, 8, 8, 8, 8, 8, 8, 8, 8, 8, 8, 8, 8, 8, 8, 8, 8, 8, 8, 8, 8, 8, 8, 8, 8, 8, 8, 8, 8, 8, 8, 8, 8, 8, 8, 8, 8, 8, 8, 8, 8, 8, 8, 8, 8, 8, 8, 8, 8, 8, 8, 8, 8, 8, 8, 8, 8, 8, 8, 8, 8, 8, 8, 8, 8, 8, 8, 8, 8, 8, 8, 8, 8, 8, 8, 8, 8, 8, 8, 8]⟩ : ByteArray).size : Int)) <|
  some (w64 (0 + (w64 (bt (⟨#[0, 1, 2, 2, 3, 3, 3, 3, 4, 4, 4, 4, 4, 4, 4, 4, 5, 5, 5, 5, 5, 5, 5, 5, 5, 5, 5, 5, 5, 5, 5, 5, 6, 6, 6, 6, 6, 6, 6, 6, 6, 6, 6, 6, 6, 6, 6, 6, 6, 6, 6, 6, 6, 6, 6, 6, 6, 6, 6, 6, 6, 6, 6, 6, 7, 7, 7, 7, 7, 7, 7, 7, 7, 7, 7, 7, 7, 7, 7, 7, 7, 7, 7, 7, 7, 7, 7, 7, 7, 7, 7, 7, 7, 7, 7, 7, 7, 7, 7, 7, 7, 7, 7, 7, 7, 7, 7, 7, 7, 7, 7, 7, 7, 7, 7, 7, 7, 7, 7, 7, 7, 7, 7, 7, 7, 7, 7, 7, 8, 8, 8, 8, 8, 8, 8, 8, 8, 8, 8, 8, 8, 8, 8, 8, 8, 8, 8, 8, 8, 8, 8, 8, 8, 8, 8, 8, 8, 8, 8, 8, 8, 8, 8, 8, 8, 8, 8, 8, 8, 8, 8, 8, 8, 8, 8, 8, 8, 8, 8, 8, 8, 8, 8, 8, 8, 8, 8, 8, 8, 8, 8, 8, 8, 8, 8, 8, 8, 8, 8, 8, 8, 8, 8, 8, 8, 8, 8, 8, 8, 8, 8, 8, 8, 8, 8, 8, 8, 8, 8, 8, 8, 8, 8, 8, 8, 8, 8, 8, 8, 8, 8, 8, 8, 8, 8, 8, 8, 8, 8, 8, 8, 8, 8, 8, 8, 8, 8, 8, 8, 8, 8, 8, 8, 8, 8, 8]⟩ : ByteArray) (IntKind.wrap .u8 x_)))))
def math_bits_Len64 (N : Nat) (x_ : Int) : Option Int := math_bits_Len64.e N x_
/-! ### f28: math/bits.Len -/
def math_bits_Len.e (N : Nat) (x_ : Int) : Option Int :=
  (math_bits_Len64 N x_).bind fun y1 =>
  some y1
def math_bits_Len (N : Nat) (x_ : Int) : Option Int := math_bits_Len.e N x_
/-! ### f46: cmp.isNaN[byte] -/
def cmp_isNaN_byte.e (N : Nat) (x_ : Int) : Option Bool :=
  some (!(eqI x_ x_))
def cmp_isNaN_byte (N : Nat) (x_ : Int) : Option Bool := cmp_isNaN_byte.e N x_
/-! ### f36: cmp.Less[byte] -/
def cmp_Less_byte.e (N : Nat) (x_ : Int) (y_ : Int) : Option Bool :=
  (cmp_isNaN_byte N x_).bind fun y1 =>
  bif y1 then ((cmp_isNaN_byte N y_).bind fun y2 =>
    bif (!y2) then some true
    else some (ltI x_ y_))
  else some (ltI x_ y_)
def cmp_Less_byte (N : Nat) (x_ : Int) (y_ : Int) : Option Bool := cmp_Less_byte.e N x_ y_
/-! ### f30: slices.insertionSortOrdered[byte] -/
def slices_insertionSortOrdered_byte'.e (N : Nat) (r0 : Int → (List Int) → Option (List Int)) (r1 : Int → Int → (List Int) → Option (List Int)) (data : (List Int)) (a_ : Int) (b_ : Int) : Option (List Int) :=
  r0 (w64 (a_ + 1)) data
def slices_insertionSortOrdered_byte'.s0 (N : Nat) (data : (List Int)) (a_ : Int) (b_ : Int) (r0 : Int → (List Int) → Option (List Int)) (r1 : Int → Int → (List Int) → Option (List Int)) (i_ : Int) (data2 : (List Int)) : Option (List Int) :=
  bif (ltI i_ b_) then r1 i_ i_ data2
  else some data2
def slices_insertionSortOrdered_byte'.s1 (N : Nat) (data : (List Int)) (a_ : Int) (b_ : Int) (r0 : Int → (List Int) → Option (List Int)) (r1 : Int → Int → (List Int) → Option (List Int)) (i_ : Int) (j_ : Int) (data2 : (List Int)) : Option (List Int) :=
  bif (ltI a_ j_) then (chk ((leI 0 j_) && (ltI j_ (data2.length : Int))) <|
    chk ((leI 0 (w64 (j_ - 1))) && (ltI (w64 (j_ - 1)) (data2.length : Int))) <|
    (cmp_Less_byte N (gD (0 : Int) data2 j_) (gD (0 : Int) data2 (w64 (j_ - 1)))).bind fun y1 =>
    bif y1 then (chk ((leI 0 (w64 (j_ - 1))) && (ltI (w64 (j_ - 1)) (data2.length : Int))) <|
      chk ((leI 0 j_) && (ltI j_ (data2.length : Int))) <|
      chk ((leI 0 j_) && (ltI j_ (data2.length : Int))) <|
      let v2 : List Int := (data2.set j_.toNat (gD (0 : Int) data2 (w64 (j_ - 1))))
      chk ((leI 0 (w64 (j_ - 1))) && (ltI (w64 (j_ - 1)) (v2.length : Int))) <|
      r1 i_ (w64 (j_ - 1)) (v2.set (w64 (j_ - 1)).toNat (gD (0 : Int) data2 j_)))
    else r0 (w64 (i_ + 1)) data2)
  else r0 (w64 (i_ + 1)) data2
def slices_insertionSortOrdered_byte'.L (N : Nat) (data : (List Int)) (a_ : Int) (b_ : Int) : Nat → (Int → (List Int) → Option (List Int)) × (Int → Int → (List Int) → Option (List Int))
  | 0 => (fun _ _ => none, fun _ _ _ => none)
  | n + 1 => (fun i_ data2 => slices_insertionSortOrdered_byte'.s0 N data a_ b_ (slices_insertionSortOrdered_byte'.L N data a_ b_ n).1 (slices_insertionSortOrdered_byte'.L N data a_ b_ n).2 i_ data2, fun i_ j_ data2 => slices_insertionSortOrdered_byte'.s1 N data a_ b_ (slices_insertionSortOrdered_byte'.L N data a_ b_ n).1 (slices_insertionSortOrdered_byte'.L N data a_ b_ n).2 i_ j_ data2)
def slices_insertionSortOrdered_byte'.l0 (N : Nat) (data : (List Int)) (a_ : Int) (b_ : Int) (n : Nat) : Int → (List Int) → Option (List Int) := (slices_insertionSortOrdered_byte'.L N data a_ b_ n).1
def slices_insertionSortOrdered_byte'.l1 (N : Nat) (data : (List Int)) (a_ : Int) (b_ : Int) (n : Nat) : Int → Int → (List Int) → Option (List Int) := (slices_insertionSortOrdered_byte'.L N data a_ b_ n).2
theorem slices_insertionSortOrdered_byte'.l0_s (N : Nat) (data : (List Int)) (a_ : Int) (b_ : Int) (n : Nat) (i_ : Int) (data2 : (List Int)) : slices_insertionSortOrdered_byte'.l0 N data a_ b_ (n + 1) i_ data2 = slices_insertionSortOrdered_byte'.s0 N data a_ b_ (slices_insertionSortOrdered_byte'.l0 N data a_ b_ n) (slices_insertionSortOrdered_byte'.l1 N data a_ b_ n) i_ data2 := rfl
theorem slices_insertionSortOrdered_byte'.l1_s (N : Nat) (data : (List Int)) (a_ : Int) (b_ : Int) (n : Nat) (i_ : Int) (j_ : Int) (data2 : (List Int)) : slices_insertionSortOrdered_byte'.l1 N data a_ b_ (n + 1) i_ j_ data2 = slices_insertionSortOrdered_byte'.s1 N data a_ b_ (slices_insertionSortOrdered_byte'.l0 N data a_ b_ n) (slices_insertionSortOrdered_byte'.l1 N data a_ b_ n) i_ j_ data2 := rfl
def slices_insertionSortOrdered_byte' (N : Nat) (data : (List Int)) (a_ : Int) (b_ : Int) : Option (List Int) := slices_insertionSortOrdered_byte'.e N (slices_insertionSortOrdered_byte'.l0 N data a_ b_ N) (slices_insertionSortOrdered_byte'.l1 N data a_ b_ N) data a_ b_
/-! ### f41: slices.siftDownOrdered[byte] -/
def slices_siftDownOrdered_byte'.e (N : Nat) (r0 : Int → (List Int) → Option (List Int)) (data : (List Int)) (lo : Int) (hi : Int) (first : Int) : Option (List Int) :=
  r0 lo data
def slices_siftDownOrdered_byte'.s0 (N : Nat) (data : (List Int)) (lo : Int) (hi : Int) (first : Int) (r0 : Int → (List Int) → Option (List Int)) (root : Int) (data2 : (List Int)) : Option (List Int) :=
  let v1 : Int := (w64 ((w64 (2 * root)) + 1))
  bif (leI hi v1) then some data2
  else bif (ltI (w64 (v1 + 1)) hi) then (chk ((leI 0 (w64 (first + v1))) && (ltI (w64 (first + v1)) (data2.length : Int))) <|
    let v2 : Int := (w64 ((w64 (first + v1)) + 1))
    chk ((leI 0 v2) && (ltI v2 (data2.length : Int))) <|
    (cmp_Less_byte N (gD (0 : Int) data2 (w64 (first + v1))) (gD (0 : Int) data2 v2)).bind fun y3 =>
    bif y3 then (chk ((leI 0 (w64 (first + root))) && (ltI (w64 (first + root)) (data2.length : Int))) <|
      let v4 : Int := (w64 (first + (w64 (v1 + 1))))
      chk ((leI 0 v4) && (ltI v4 (data2.length : Int))) <|
      (cmp_Less_byte N (gD (0 : Int) data2 (w64 (first + root))) (gD (0 : Int) data2 v4)).bind fun y5 =>
      bif (!y5) then some data2
      else let v6 : Int := (w64 (first + (w64 (v1 + 1))))
      let v7 : Int := (w64 (first + (w64 (v1 + 1))))
      chk ((leI 0 v7) && (ltI v7 (data2.length : Int))) <|
      chk ((leI 0 (w64 (first + root))) && (ltI (w64 (first + root)) (data2.length : Int))) <|
      chk ((leI 0 (w64 (first + root))) && (ltI (w64 (first + root)) (data2.length : Int))) <|
      let v8 : List Int := (data2.set (w64 (first + root)).toNat (gD (0 : Int) data2 v7))
      chk ((leI 0 v6) && (ltI v6 (v8.length : Int))) <|
      r0 (w64 (v1 + 1)) (v8.set v6.toNat (gD (0 : Int) data2 (w64 (first + root)))))
    else chk ((leI 0 (w64 (first + root))) && (ltI (w64 (first + root)) (data2.length : Int))) <|
    chk ((leI 0 (w64 (first + v1))) && (ltI (w64 (first + v1)) (data2.length : Int))) <|
    (cmp_Less_byte N (gD (0 : Int) data2 (w64 (first + root))) (gD (0 : Int) data2 (w64 (first + v1)))).bind fun y10 =>
    bif (!y10) then some data2
    else chk ((leI 0 (w64 (first + v1))) && (ltI (w64 (first + v1)) (data2.length : Int))) <|
    chk ((leI 0 (w64 (first + root))) && (ltI (w64 (first + root)) (data2.length : Int))) <|
    chk ((leI 0 (w64 (first + root))) && (ltI (w64 (first + root)) (data2.length : Int))) <|
    let v11 : List Int := (data2.set (w64 (first + root)).toNat (gD (0 : Int) data2 (w64 (first + v1))))
    chk ((leI 0 (w64 (first + v1))) && (ltI (w64 (first + v1)) (v11.length : Int))) <|
    r0 v1 (v11.set (w64 (first + v1)).toNat (gD (0 : Int) data2 (w64 (first + root)))))
  else chk ((leI 0 (w64 (first + root))) && (ltI (w64 (first + root)) (data2.length : Int))) <|
  chk ((leI 0 (w64 (first + v1))) && (ltI (w64 (first + v1)) (data2.length : Int))) <|
  (cmp_Less_byte N (gD (0 : Int) data2 (w64 (first + root))) (gD (0 : Int) data2 (w64 (first + v1)))).bind fun y13 =>
  bif (!y13) then some data2
  else chk ((leI 0 (w64 (first + v1))) && (ltI (w64 (first + v1)) (data2.length : Int))) <|
  chk ((leI 0 (w64 (first + root))) && (ltI (w64 (first + root)) (data2.length : Int))) <|
  chk ((leI 0 (w64 (first + root))) && (ltI (w64 (first + root)) (data2.length : Int))) <|
  let v14 : List Int := (data2.set (w64 (first + root)).toNat (gD (0 : Int) data2 (w64 (first + v1))))
  chk ((leI 0 (w64 (first + v1))) && (ltI (w64 (first + v1)) (v14.length : Int))) <|
  r0 v1 (v14.set (w64 (first + v1)).toNat (gD (0 : Int) data2 (w64 (first + root))))
def slices_siftDownOrdered_byte'.L (N : Nat) (data : (List Int)) (lo : Int) (hi : Int) (first : Int) : Nat → (Int → (List Int) → Option (List Int))
  | 0 => fun _ _ => none
  | n + 1 => fun root data2 => slices_siftDownOrdered_byte'.s0 N data lo hi first (slices_siftDownOrdered_byte'.L N data lo hi first n) root data2
def slices_siftDownOrdered_byte'.l0 (N : Nat) (data : (List Int)) (lo : Int) (hi : Int) (first : Int) (n : Nat) : Int → (List Int) → Option (List Int) := (slices_siftDownOrdered_byte'.L N data lo hi first n)
theorem slices_siftDownOrdered_byte'.l0_s (N : Nat) (data : (List Int)) (lo : Int) (hi : Int) (first : Int) (n : Nat) (root : Int) (data2 : (List Int)) : slices_siftDownOrdered_byte'.l0 N data lo hi first (n + 1) root data2 = slices_siftDownOrdered_byte'.s0 N data lo hi first (slices_siftDownOrdered_byte'.l0 N data lo hi first n) root data2 := rfl
def slices_siftDownOrdered_byte' (N : Nat) (data : (List Int)) (lo : Int) (hi : Int) (first : Int) : Option (List Int) := slices_siftDownOrdered_byte'.e N (slices_siftDownOrdered_byte'.l0 N data lo hi first N) data lo hi first
/-! ### f31: slices.heapSortOrdered[byte] -/
def slices_heapSortOrdered_byte'.e (N : Nat) (r0 : Int → (List Int) → Option (List Int)) (r1 : Int → (List Int) → Option (List Int)) (data : (List Int)) (a_ : Int) (b_ : Int) : Option (List Int) :=
  r0 (w64 (Int.tdiv (w64 ((w64 (b_ - a_)) - 1)) 2)) data
def slices_heapSortOrdered_byte'.s0 (N : Nat) (data : (List Int)) (a_ : Int) (b_ : Int) (r0 : Int → (List Int) → Option (List Int)) (r1 : Int → (List Int) → Option (List Int)) (i_ : Int) (data2 : (List Int)) : Option (List Int) :=
  bif (leI 0 i_) then ((slices_siftDownOrdered_byte' N data2 i_ (w64 (b_ - a_)) a_).bind fun y2 =>
    r0 (w64 (i_ - 1)) y2)
  else r1 (w64 ((w64 (b_ - a_)) - 1)) data2
def slices_heapSortOrdered_byte'.s1 (N : Nat) (data : (List Int)) (a_ : Int) (b_ : Int) (r0 : Int → (List Int) → Option (List Int)) (r1 : Int → (List Int) → Option (List Int)) (i_ : Int) (data2 : (List Int)) : Option (List Int) :=
  bif (leI 0 i_) then (chk ((leI 0 (w64 (a_ + i_))) && (ltI (w64 (a_ + i_)) (data2.length : Int))) <|
    chk ((leI 0 a_) && (ltI a_ (data2.length : Int))) <|
    chk ((leI 0 a_) && (ltI a_ (data2.length : Int))) <|
    let v4 : List Int := (data2.set a_.toNat (gD (0 : Int) data2 (w64 (a_ + i_))))
    chk ((leI 0 (w64 (a_ + i_))) && (ltI (w64 (a_ + i_)) (v4.length : Int))) <|
    (slices_siftDownOrdered_byte' N (v4.set (w64 (a_ + i_)).toNat (gD (0 : Int) data2 a_)) 0 i_ a_).bind fun y6 =>
    r1 (w64 (i_ - 1)) y6)
  else some data2
def slices_heapSortOrdered_byte'.L (N : Nat) (data : (List Int)) (a_ : Int) (b_ : Int) : Nat → (Int → (List Int) → Option (List Int)) × (Int → (List Int) → Option (List Int))
  | 0 => (fun _ _ => none, fun _ _ => none)
  | n + 1 => (fun i_ data2 => slices_heapSortOrdered_byte'.s0 N data a_ b_ (slices_heapSortOrdered_byte'.L N data a_ b_ n).1 (slices_heapSortOrdered_byte'.L N data a_ b_ n).2 i_ data2, fun i_ data2 => slices_heapSortOrdered_byte'.s1 N data a_ b_ (slices_heapSortOrdered_byte'.L N data a_ b_ n).1 (slices_heapSortOrdered_byte'.L N data a_ b_ n).2 i_ data2)
def slices_heapSortOrdered_byte'.l0 (N : Nat) (data : (List Int)) (a_ : Int) (b_ : Int) (n : Nat) : Int → (List Int) → Option (List Int) := (slices_heapSortOrdered_byte'.L N data a_ b_ n).1
def slices_heapSortOrdered_byte'.l1 (N : Nat) (data : (List Int)) (a_ : Int) (b_ : Int) (n : Nat) : Int → (List Int) → Option (List Int) := (slices_heapSortOrdered_byte'.L N data a_ b_ n).2
theorem slices_heapSortOrdered_byte'.l0_s (N : Nat) (data : (List Int)) (a_ : Int) (b_ : Int) (n : Nat) (i_ : Int) (data2 : (List Int)) : slices_heapSortOrdered_byte'.l0 N data a_ b_ (n + 1) i_ data2 = slices_heapSortOrdered_byte'.s0 N data a_ b_ (slices_heapSortOrdered_byte'.l0 N data a_ b_ n) (slices_heapSortOrdered_byte'.l1 N data a_ b_ n) i_ data2 := rfl
theorem slices_heapSortOrdered_byte'.l1_s (N : Nat) (data : (List Int)) (a_ : Int) (b_ : Int) (n : Nat) (i_ : Int) (data2 : (List Int)) : slices_heapSortOrdered_byte'.l1 N data a_ b_ (n + 1) i_ data2 = slices_heapSortOrdered_byte'.s1 N data a_ b_ (slices_heapSortOrdered_byte'.l0 N data a_ b_ n) (slices_heapSortOrdered_byte'.l1 N data a_ b_ n) i_ data2 := rfl
def slices_heapSortOrdered_byte' (N : Nat) (data : (List Int)) (a_ : Int) (b_ : Int) : Option (List Int) := slices_heapSortOrdered_byte'.e N (slices_heapSortOrdered_byte'.l0 N data a_ b_ N) (slices_heapSortOrdered_byte'.l1 N data a_ b_ N) data a_ b_
/-! ### f47: slices.order2Ordered[byte] -/
def slices_order2Ordered_byte.e (N : Nat) (data : (List Int)) (a_ : Int) (b_ : Int) (swaps : Int) : Option (Int × Int × Int) :=
  chk ((leI 0 b_) && (ltI b_ (data.length : Int))) <|
  chk ((leI 0 a_) && (ltI a_ (data.length : Int))) <|
  (cmp_Less_byte N (gD (0 : Int) data b_) (gD (0 : Int) data a_)).bind fun y1 =>
  bif y1 then (some (b_, (a_, (w64 (swaps + 1)))))
  else some (a_, (b_, swaps))
def slices_order2Ordered_byte (N : Nat) (data : (List Int)) (a_ : Int) (b_ : Int) (swaps : Int) : Option (Int × Int × Int) := slices_order2Ordered_byte.e N data a_ b_ swaps
/-! ### f45: slices.medianOrdered[byte] -/
def slices_medianOrdered_byte.e (N : Nat) (data : (List Int)) (a_ : Int) (b_ : Int) (c_ : Int) (swaps : Int) : Option (Int × Int) :=
  (slices_order2Ordered_byte N data a_ b_ swaps).bind fun y1 =>
  (slices_order2Ordered_byte N data y1.2.1 c_ y1.2.2).bind fun y2 =>
  (slices_order2Ordered_byte N data y1.1 y2.1 y2.2.2).bind fun y3 =>
  some y3.2
def slices_medianOrdered_byte (N : Nat) (data : (List Int)) (a_ : Int) (b_ : Int) (c_ : Int) (swaps : Int) : Option (Int × Int) := slices_medianOrdered_byte.e N data a_ b_ c_ swaps
/-! ### f44: slices.medianAdjacentOrdered[byte] -/
def slices_medianAdjacentOrdered_byte.e (N : Nat) (data : (List Int)) (a_ : Int) (swaps : Int) : Option (Int × Int) :=
  (slices_medianOrdered_byte N data (w64 (a_ - 1)) a_ (w64 (a_ + 1)) swaps).bind fun y1 =>
  some y1
def slices_medianAdjacentOrdered_byte (N : Nat) (data : (List Int)) (a_ : Int) (swaps : Int) : Option (Int × Int) := slices_medianAdjacentOrdered_byte.e N data a_ swaps
/-! ### f33: slices.choosePivotOrdered[byte] -/
def slices_choosePivotOrdered_byte.e (N : Nat) (data : (List Int)) (a_ : Int) (b_ : Int) : Option (Int × Int) :=
  let v2 : Int := (w64 (a_ + (w64 ((w64 (Int.tdiv (w64 (b_ - a_)) 4)) * 1))))
  let v4 : Int := (w64 (a_ + (w64 ((w64 (Int.tdiv (w64 (b_ - a_)) 4)) * 2))))
  let v6 : Int := (w64 (a_ + (w64 ((w64 (Int.tdiv (w64 (b_ - a_)) 4)) * 3))))
  bif (leI 8 (w64 (b_ - a_))) then (bif (leI 50 (w64 (b_ - a_))) then ((slices_medianAdjacentOrdered_byte N data v2 0).bind fun y7 =>
      (slices_medianAdjacentOrdered_byte N data v4 y7.2).bind fun y8 =>
      (slices_medianAdjacentOrdered_byte N data v6 y8.2).bind fun y9 =>
      (slices_medianOrdered_byte N data y7.1 y8.1 y9.1 y9.2).bind fun y10 =>
      bif (eqI y10.2 0) then (some (y10.1, 1))
      else bif (eqI y10.2 12) then (some (y10.1, 2))
      else some (y10.1, 0))
    else (slices_medianOrdered_byte N data v2 v4 v6 0).bind fun y11 =>
    bif (eqI y11.2 0) then (some (y11.1, 1))
    else bif (eqI y11.2 12) then (some (y11.1, 2))
    else some (y11.1, 0))
  else some (v4, 1)
def slices_choosePivotOrdered_byte (N : Nat) (data : (List Int)) (a_ : Int) (b_ : Int) : Option (Int × Int) := slices_choosePivotOrdered_byte.e N data a_ b_
/-! ### f34: slices.reverseRangeOrdered[byte] -/
def slices_reverseRangeOrdered_byte'.e (N : Nat) (r0 : Int → Int → (List Int) → Option (List Int)) (data : (List Int)) (a_ : Int) (b_ : Int) : Option (List Int) :=
  r0 a_ (w64 (b_ - 1)) data
def slices_reverseRangeOrdered_byte'.s0 (N : Nat) (data : (List Int)) (a_ : Int) (b_ : Int) (r0 : Int → Int → (List Int) → Option (List Int)) (i_ : Int) (j_ : Int) (data2 : (List Int)) : Option (List Int) :=
  bif (ltI i_ j_) then (chk ((leI 0 j_) && (ltI j_ (data2.length : Int))) <|
    chk ((leI 0 i_) && (ltI i_ (data2.length : Int))) <|
    chk ((leI 0 i_) && (ltI i_ (data2.length : Int))) <|
    let v1 : List Int := (data2.set i_.toNat (gD (0 : Int) data2 j_))
    chk ((leI 0 j_) && (ltI j_ (v1.length : Int))) <|
    r0 (w64 (i_ + 1)) (w64 (j_ - 1)) (v1.set j_.toNat (gD (0 : Int) data2 i_)))
  else some data2
def slices_reverseRangeOrdered_byte'.L (N : Nat) (data : (List Int)) (a_ : Int) (b_ : Int) : Nat → (Int → Int → (List Int) → Option (List Int))
  | 0 => fun _ _ _ => none
  | n + 1 => fun i_ j_ data2 => slices_reverseRangeOrdered_byte'.s0 N data a_ b_ (slices_reverseRangeOrdered_byte'.L N data a_ b_ n) i_ j_ data2
def slices_reverseRangeOrdered_byte'.l0 (N : Nat) (data : (List Int)) (a_ : Int) (b_ : Int) (n : Nat) : Int → Int → (List Int) → Option (List Int) := (slices_reverseRangeOrdered_byte'.L N data a_ b_ n)
theorem slices_reverseRangeOrdered_byte'.l0_s (N : Nat) (data : (List Int)) (a_ : Int) (b_ : Int) (n : Nat) (i_ : Int) (j_ : Int) (data2 : (List Int)) : slices_reverseRangeOrdered_byte'.l0 N data a_ b_ (n + 1) i_ j_ data2 = slices_reverseRangeOrdered_byte'.s0 N data a_ b_ (slices_reverseRangeOrdered_byte'.l0 N data a_ b_ n) i_ j_ data2 := rfl
def slices_reverseRangeOrdered_byte' (N : Nat) (data : (List Int)) (a_ : Int) (b_ : Int) : Option (List Int) := slices_reverseRangeOrdered_byte'.e N (slices_reverseRangeOrdered_byte'.l0 N data a_ b_ N) data a_ b_
/-! ### f35: slices.partialInsertionSortOrdered[byte] -/
def slices_partialInsertionSortOrdered_byte'.e (N : Nat) (r0 : Int → Int → (List Int) → Option (Bool × (List Int))) (r1 : Int → Int → (List Int) → Option (Bool × (List Int))) (r2 : Int → Int → Int → (List Int) → Option (Bool × (List Int))) (r3 : Int → Int → Int → (List Int) → Option (Bool × (List Int))) (data : (List Int)) (a_ : Int) (b_ : Int) : Option (Bool × (List Int)) :=
  r0 (w64 (a_ + 1)) 0 data
def slices_partialInsertionSortOrdered_byte'.s0 (N : Nat) (data : (List Int)) (a_ : Int) (b_ : Int) (r0 : Int → Int → (List Int) → Option (Bool × (List Int))) (r1 : Int → Int → (List Int) → Option (Bool × (List Int))) (r2 : Int → Int → Int → (List Int) → Option (Bool × (List Int))) (r3 : Int → Int → Int → (List Int) → Option (Bool × (List Int))) (i_ : Int) (j_ : Int) (data2 : (List Int)) : Option (Bool × (List Int)) :=
  bif (ltI j_ 5) then r1 i_ j_ data2
  else some (false, data2)
def slices_partialInsertionSortOrdered_byte'.s1 (N : Nat) (data : (List Int)) (a_ : Int) (b_ : Int) (r0 : Int → Int → (List Int) → Option (Bool × (List Int))) (r1 : Int → Int → (List Int) → Option (Bool × (List Int))) (r2 : Int → Int → Int → (List Int) → Option (Bool × (List Int))) (r3 : Int → Int → Int → (List Int) → Option (Bool × (List Int))) (i_ : Int) (j_ : Int) (data2 : (List Int)) : Option (Bool × (List Int)) :=
  bif (ltI i_ b_) then (chk ((leI 0 i_) && (ltI i_ (data2.length : Int))) <|
    chk ((leI 0 (w64 (i_ - 1))) && (ltI (w64 (i_ - 1)) (data2.length : Int))) <|
    (cmp_Less_byte N (gD (0 : Int) data2 i_) (gD (0 : Int) data2 (w64 (i_ - 1)))).bind fun y1 =>
    bif (!y1) then (r1 (w64 (i_ + 1)) j_ data2)
    else bif (eqI i_ b_) then (some (true, data2))
    else bif (ltI (w64 (b_ - a_)) 50) then (some (false, data2))
    else chk ((leI 0 (w64 (i_ - 1))) && (ltI (w64 (i_ - 1)) (data2.length : Int))) <|
    chk ((leI 0 i_) && (ltI i_ (data2.length : Int))) <|
    chk ((leI 0 i_) && (ltI i_ (data2.length : Int))) <|
    let v2 : List Int := (data2.set i_.toNat (gD (0 : Int) data2 (w64 (i_ - 1))))
    chk ((leI 0 (w64 (i_ - 1))) && (ltI (w64 (i_ - 1)) (v2.length : Int))) <|
    let v3 : List Int := (v2.set (w64 (i_ - 1)).toNat (gD (0 : Int) data2 i_))
    bif (leI 2 (w64 (i_ - a_))) then (r2 i_ j_ (w64 (i_ - 1)) v3)
    else bif (leI 2 (w64 (b_ - i_))) then (r3 i_ j_ (w64 (i_ + 1)) v3)
    else r0 i_ (w64 (j_ + 1)) v3)
  else bif (eqI i_ b_) then (some (true, data2))
  else bif (ltI (w64 (b_ - a_)) 50) then (some (false, data2))
  else chk ((leI 0 (w64 (i_ - 1))) && (ltI (w64 (i_ - 1)) (data2.length : Int))) <|
  chk ((leI 0 i_) && (ltI i_ (data2.length : Int))) <|
  chk ((leI 0 i_) && (ltI i_ (data2.length : Int))) <|
  let v4 : List Int := (data2.set i_.toNat (gD (0 : Int) data2 (w64 (i_ - 1))))
  chk ((leI 0 (w64 (i_ - 1))) && (ltI (w64 (i_ - 1)) (v4.length : Int))) <|
  let v5 : List Int := (v4.set (w64 (i_ - 1)).toNat (gD (0 : Int) data2 i_))
  bif (leI 2 (w64 (i_ - a_))) then (r2 i_ j_ (w64 (i_ - 1)) v5)
  else bif (leI 2 (w64 (b_ - i_))) then (r3 i_ j_ (w64 (i_ + 1)) v5)
  else r0 i_ (w64 (j_ + 1)) v5
def slices_partialInsertionSortOrdered_byte'.s2 (N : Nat) (data : (List Int)) (a_ : Int) (b_ : Int) (r0 : Int → Int → (List Int) → Option (Bool × (List Int))) (r1 : Int → Int → (List Int) → Option (Bool × (List Int))) (r2 : Int → Int → Int → (List Int) → Option (Bool × (List Int))) (r3 : Int → Int → Int → (List Int) → Option (Bool × (List Int))) (i_ : Int) (j_ : Int) (j_2 : Int) (data2 : (List Int)) : Option (Bool × (List Int)) :=
  bif (leI 1 j_2) then (chk ((leI 0 j_2) && (ltI j_2 (data2.length : Int))) <|
    chk ((leI 0 (w64 (j_2 - 1))) && (ltI (w64 (j_2 - 1)) (data2.length : Int))) <|
    (cmp_Less_byte N (gD (0 : Int) data2 j_2) (gD (0 : Int) data2 (w64 (j_2 - 1)))).bind fun y9 =>
    bif (!y9) then (bif (leI 2 (w64 (b_ - i_))) then (r3 i_ j_ (w64 (i_ + 1)) data2)
      else r0 i_ (w64 (j_ + 1)) data2)
    else chk ((leI 0 (w64 (j_2 - 1))) && (ltI (w64 (j_2 - 1)) (data2.length : Int))) <|
    chk ((leI 0 j_2) && (ltI j_2 (data2.length : Int))) <|
    chk ((leI 0 j_2) && (ltI j_2 (data2.length : Int))) <|
    let v10 : List Int := (data2.set j_2.toNat (gD (0 : Int) data2 (w64 (j_2 - 1))))
    chk ((leI 0 (w64 (j_2 - 1))) && (ltI (w64 (j_2 - 1)) (v10.length : Int))) <|
    r2 i_ j_ (w64 (j_2 - 1)) (v10.set (w64 (j_2 - 1)).toNat (gD (0 : Int) data2 j_2)))
  else bif (leI 2 (w64 (b_ - i_))) then (r3 i_ j_ (w64 (i_ + 1)) data2)
  else r0 i_ (w64 (j_ + 1)) data2
def slices_partialInsertionSortOrdered_byte'.s3 (N : Nat) (data : (List Int)) (a_ : Int) (b_ : Int) (r0 : Int → Int → (List Int) → Option (Bool × (List Int))) (r1 : Int → Int → (List Int) → Option (Bool × (List Int))) (r2 : Int → Int → Int → (List Int) → Option (Bool × (List Int))) (r3 : Int → Int → Int → (List Int) → Option (Bool × (List Int))) (i_ : Int) (j_ : Int) (j_2 : Int) (data2 : (List Int)) : Option (Bool × (List Int)) :=
  bif (ltI j_2 b_) then (chk ((leI 0 j_2) && (ltI j_2 (data2.length : Int))) <|
    chk ((leI 0 (w64 (j_2 - 1))) && (ltI (w64 (j_2 - 1)) (data2.length : Int))) <|
    (cmp_Less_byte N (gD (0 : Int) data2 j_2) (gD (0 : Int) data2 (w64 (j_2 - 1)))).bind fun y6 =>
    bif (!y6) then (r0 i_ (w64 (j_ + 1)) data2)
    else chk ((leI 0 (w64 (j_2 - 1))) && (ltI (w64 (j_2 - 1)) (data2.length : Int))) <|
    chk ((leI 0 j_2) && (ltI j_2 (data2.length : Int))) <|
    chk ((leI 0 j_2) && (ltI j_2 (data2.length : Int))) <|
    let v7 : List Int := (data2.set j_2.toNat (gD (0 : Int) data2 (w64 (j_2 - 1))))
    chk ((leI 0 (w64 (j_2 - 1))) && (ltI (w64 (j_2 - 1)) (v7.length : Int))) <|
    r3 i_ j_ (w64 (j_2 + 1)) (v7.set (w64 (j_2 - 1)).toNat (gD (0 : Int) data2 j_2)))
  else r0 i_ (w64 (j_ + 1)) data2
def slices_partialInsertionSortOrdered_byte'.L (N : Nat) (data : (List Int)) (a_ : Int) (b_ : Int) : Nat → (Int → Int → (List Int) → Option (Bool × (List Int))) × (Int → Int → (List Int) → Option (Bool × (List Int))) × (Int → Int → Int → (List Int) → Option (Bool × (List Int))) × (Int → Int → Int → (List Int) → Option (Bool × (List Int)))
  | 0 => (fun _ _ _ => none, fun _ _ _ => none, fun _ _ _ _ => none, fun _ _ _ _ => none)
  | n + 1 => (fun i_ j_ data2 => slices_partialInsertionSortOrdered_byte'.s0 N data a_ b_ (slices_partialInsertionSortOrdered_byte'.L N data a_ b_ n).1 (slices_partialInsertionSortOrdered_byte'.L N data a_ b_ n).2.1 (slices_partialInsertionSortOrdered_byte'.L N data a_ b_ n).2.2.1 (slices_partialInsertionSortOrdered_byte'.L N data a_ b_ n).2.2.2 i_ j_ data2, fun i_ j_ data2 => slices_partialInsertionSortOrdered_byte'.s1 N data a_ b_ (slices_partialInsertionSortOrdered_byte'.L N data a_ b_ n).1 (slices_partialInsertionSortOrdered_byte'.L N data a_ b_ n).2.1 (slices_partialInsertionSortOrdered_byte'.L N data a_ b_ n).2.2.1 (slices_partialInsertionSortOrdered_byte'.L N data a_ b_ n).2.2.2 i_ j_ data2, fun i_ j_ j_2 data2 => slices_partialInsertionSortOrdered_byte'.s2 N data a_ b_ (slices_partialInsertionSortOrdered_byte'.L N data a_ b_ n).1 (slices_partialInsertionSortOrdered_byte'.L N data a_ b_ n).2.1 (slices_partialInsertionSortOrdered_byte'.L N data a_ b_ n).2.2.1 (slices_partialInsertionSortOrdered_byte'.L N data a_ b_ n).2.2.2 i_ j_ j_2 data2, fun i_ j_ j_2 data2 => slices_partialInsertionSortOrdered_byte'.s3 N data a_ b_ (slices_partialInsertionSortOrdered_byte'.L N data a_ b_ n).1 (slices_partialInsertionSortOrdered_byte'.L N data a_ b_ n).2.1 (slices_partialInsertionSortOrdered_byte'.L N data a_ b_ n).2.2.1 (slices_partialInsertionSortOrdered_byte'.L N data a_ b_ n).2.2.2 i_ j_ j_2 data2)
def slices_partialInsertionSortOrdered_byte'.l0 (N : Nat) (data : (List Int)) (a_ : Int) (b_ : Int) (n : Nat) : Int → Int → (List Int) → Option (Bool × (List Int)) := (slices_partialInsertionSortOrdered_byte'.L N data a_ b_ n).1
def slices_partialInsertionSortOrdered_byte'.l1 (N : Nat) (data : (List Int)) (a_ : Int) (b_ : Int) (n : Nat) : Int → Int → (List Int) → Option (Bool × (List Int)) := (slices_partialInsertionSortOrdered_byte'.L N data a_ b_ n).2.1
def slices_partialInsertionSortOrdered_byte'.l2 (N : Nat) (data : (List Int)) (a_ : Int) (b_ : Int) (n : Nat) : Int → Int → Int → (List Int) → Option (Bool × (List Int)) := (slices_partialInsertionSortOrdered_byte'.L N data a_ b_ n).2.2.1
def slices_partialInsertionSortOrdered_byte'.l3 (N : Nat) (data : (List Int)) (a_ : Int) (b_ : Int) (n : Nat) : Int → Int → Int → (List Int) → Option (Bool × (List Int)) := (slices_partialInsertionSortOrdered_byte'.L N data a_ b_ n).2.2.2
theorem slices_partialInsertionSortOrdered_byte'.l0_s (N : Nat) (data : (List Int)) (a_ : Int) (b_ : Int) (n : Nat) (i_ : Int) (j_ : Int) (data2 : (List Int)) : slices_partialInsertionSortOrdered_byte'.l0 N data a_ b_ (n + 1) i_ j_ data2 = slices_partialInsertionSortOrdered_byte'.s0 N data a_ b_ (slices_partialInsertionSortOrdered_byte'.l0 N data a_ b_ n) (slices_partialInsertionSortOrdered_byte'.l1 N data a_ b_ n) (slices_partialInsertionSortOrdered_byte'.l2 N data a_ b_ n) (slices_partialInsertionSortOrdered_byte'.l3 N data a_ b_ n) i_ j_ data2 := rfl
theorem slices_partialInsertionSortOrdered_byte'.l1_s (N : Nat) (data : (List Int)) (a_ : Int) (b_ : Int) (n : Nat) (i_ : Int) (j_ : Int) (data2 : (List Int)) : slices_partialInsertionSortOrdered_byte'.l1 N data a_ b_ (n + 1) i_ j_ data2 = slices_partialInsertionSortOrdered_byte'.s1 N data a_ b_ (slices_partialInsertionSortOrdered_byte'.l0 N data a_ b_ n) (slices_partialInsertionSortOrdered_byte'.l1 N data a_ b_ n) (slices_partialInsertionSortOrdered_byte'.l2 N data a_ b_ n) (slices_partialInsertionSortOrdered_byte'.l3 N data a_ b_ n) i_ j_ data2 := rfl
theorem slices_partialInsertionSortOrdered_byte'.l2_s (N : Nat) (data : (List Int)) (a_ : Int) (b_ : Int) (n : Nat) (i_ : Int) (j_ : Int) (j_2 : Int) (data2 : (List Int)) : slices_partialInsertionSortOrdered_byte'.l2 N data a_ b_ (n + 1) i_ j_ j_2 data2 = slices_partialInsertionSortOrdered_byte'.s2 N data a_ b_ (slices_partialInsertionSortOrdered_byte'.l0 N data a_ b_ n) (slices_partialInsertionSortOrdered_byte'.l1 N data a_ b_ n) (slices_partialInsertionSortOrdered_byte'.l2 N data a_ b_ n) (slices_partialInsertionSortOrdered_byte'.l3 N data a_ b_ n) i_ j_ j_2 data2 := rfl
theorem slices_partialInsertionSortOrdered_byte'.l3_s (N : Nat) (data : (List Int)) (a_ : Int) (b_ : Int) (n : Nat) (i_ : Int) (j_ : Int) (j_2 : Int) (data2 : (List Int)) : slices_partialInsertionSortOrdered_byte'.l3 N data a_ b_ (n + 1) i_ j_ j_2 data2 = slices_partialInsertionSortOrdered_byte'.s3 N data a_ b_ (slices_partialInsertionSortOrdered_byte'.l0 N data a_ b_ n) (slices_partialInsertionSortOrdered_byte'.l1 N data a_ b_ n) (slices_partialInsertionSortOrdered_byte'.l2 N data a_ b_ n) (slices_partialInsertionSortOrdered_byte'.l3 N data a_ b_ n) i_ j_ j_2 data2 := rfl
def slices_partialInsertionSortOrdered_byte' (N : Nat) (data : (List Int)) (a_ : Int) (b_ : Int) : Option (Bool × (List Int)) := slices_partialInsertionSortOrdered_byte'.e N (slices_partialInsertionSortOrdered_byte'.l0 N data a_ b_ N) (slices_partialInsertionSortOrdered_byte'.l1 N data a_ b_ N) (slices_partialInsertionSortOrdered_byte'.l2 N data a_ b_ N) (slices_partialInsertionSortOrdered_byte'.l3 N data a_ b_ N) data a_ b_
/-! ### f37: slices.partitionEqualOrdered[byte] -/
def slices_partitionEqualOrdered_byte'.e (N : Nat) (r0 : Int → Int → (List Int) → Option (Int × (List Int))) (r1 : Int → Int → (List Int) → Option (Int × (List Int))) (r2 : Int → Int → (List Int) → Option (Int × (List Int))) (data : (List Int)) (a_ : Int) (b_ : Int) (pivot : Int) : Option (Int × (List Int)) :=
  chk ((leI 0 pivot) && (ltI pivot (data.length : Int))) <|
  chk ((leI 0 a_) && (ltI a_ (data.length : Int))) <|
  chk ((leI 0 a_) && (ltI a_ (data.length : Int))) <|
  let v1 : List Int := (data.set a_.toNat (gD (0 : Int) data pivot))
  chk ((leI 0 pivot) && (ltI pivot (v1.length : Int))) <|
  r0 (w64 (a_ + 1)) (w64 (b_ - 1)) (v1.set pivot.toNat (gD (0 : Int) data a_))
def slices_partitionEqualOrdered_byte'.s0 (N : Nat) (data : (List Int)) (a_ : Int) (b_ : Int) (pivot : Int) (r0 : Int → Int → (List Int) → Option (Int × (List Int))) (r1 : Int → Int → (List Int) → Option (Int × (List Int))) (r2 : Int → Int → (List Int) → Option (Int × (List Int))) (i_ : Int) (j_ : Int) (data2 : (List Int)) : Option (Int × (List Int)) :=
  r1 i_ j_ data2
def slices_partitionEqualOrdered_byte'.s1 (N : Nat) (data : (List Int)) (a_ : Int) (b_ : Int) (pivot : Int) (r0 : Int → Int → (List Int) → Option (Int × (List Int))) (r1 : Int → Int → (List Int) → Option (Int × (List Int))) (r2 : Int → Int → (List Int) → Option (Int × (List Int))) (i_ : Int) (j_ : Int) (data2 : (List Int)) : Option (Int × (List Int)) :=
  bif (leI i_ j_) then (chk ((leI 0 a_) && (ltI a_ (data2.length : Int))) <|
    chk ((leI 0 i_) && (ltI i_ (data2.length : Int))) <|
    (cmp_Less_byte N (gD (0 : Int) data2 a_) (gD (0 : Int) data2 i_)).bind fun y3 =>
    bif (!y3) then (r1 (w64 (i_ + 1)) j_ data2)
    else r2 i_ j_ data2)
  else r2 i_ j_ data2
def slices_partitionEqualOrdered_byte'.s2 (N : Nat) (data : (List Int)) (a_ : Int) (b_ : Int) (pivot : Int) (r0 : Int → Int → (List Int) → Option (Int × (List Int))) (r1 : Int → Int → (List Int) → Option (Int × (List Int))) (r2 : Int → Int → (List Int) → Option (Int × (List Int))) (i_ : Int) (j_ : Int) (data2 : (List Int)) : Option (Int × (List Int)) :=
  bif (leI i_ j_) then (chk ((leI 0 a_) && (ltI a_ (data2.length : Int))) <|
    chk ((leI 0 j_) && (ltI j_ (data2.length : Int))) <|
    (cmp_Less_byte N (gD (0 : Int) data2 a_) (gD (0 : Int) data2 j_)).bind fun y4 =>
    bif y4 then (r2 i_ (w64 (j_ - 1)) data2)
    else bif (ltI j_ i_) then (some (i_, data2))
    else chk ((leI 0 j_) && (ltI j_ (data2.length : Int))) <|
    chk ((leI 0 i_) && (ltI i_ (data2.length : Int))) <|
    chk ((leI 0 i_) && (ltI i_ (data2.length : Int))) <|
    let v5 : List Int := (data2.set i_.toNat (gD (0 : Int) data2 j_))
    chk ((leI 0 j_) && (ltI j_ (v5.length : Int))) <|
    r0 (w64 (i_ + 1)) (w64 (j_ - 1)) (v5.set j_.toNat (gD (0 : Int) data2 i_)))
  else bif (ltI j_ i_) then (some (i_, data2))
  else chk ((leI 0 j_) && (ltI j_ (data2.length : Int))) <|
  chk ((leI 0 i_) && (ltI i_ (data2.length : Int))) <|
  chk ((leI 0 i_) && (ltI i_ (data2.length : Int))) <|
  let v7 : List Int := (data2.set i_.toNat (gD (0 : Int) data2 j_))
  chk ((leI 0 j_) && (ltI j_ (v7.length : Int))) <|
  r0 (w64 (i_ + 1)) (w64 (j_ - 1)) (v7.set j_.toNat (gD (0 : Int) data2 i_))
def slices_partitionEqualOrdered_byte'.L (N : Nat) (data : (List Int)) (a_ : Int) (b_ : Int) (pivot : Int) : Nat → (Int → Int → (List Int) → Option (Int × (List Int))) × (Int → Int → (List Int) → Option (Int × (List Int))) × (Int → Int → (List Int) → Option (Int × (List Int)))
  | 0 => (fun _ _ _ => none, fun _ _ _ => none, fun _ _ _ => none)
  | n + 1 => (fun i_ j_ data2 => slices_partitionEqualOrdered_byte'.s0 N data a_ b_ pivot (slices_partitionEqualOrdered_byte'.L N data a_ b_ pivot n).1 (slices_partitionEqualOrdered_byte'.L N data a_ b_ pivot n).2.1 (slices_partitionEqualOrdered_byte'.L N data a_ b_ pivot n).2.2 i_ j_ data2, fun i_ j_ data2 => slices_partitionEqualOrdered_byte'.s1 N data a_ b_ pivot (slices_partitionEqualOrdered_byte'.L N data a_ b_ pivot n).1 (slices_partitionEqualOrdered_byte'.L N data a_ b_ pivot n).2.1 (slices_partitionEqualOrdered_byte'.L N data a_ b_ pivot n).2.2 i_ j_ data2, fun i_ j_ data2 => slices_partitionEqualOrdered_byte'.s2 N data a_ b_ pivot (slices_partitionEqualOrdered_byte'.L N data a_ b_ pivot n).1 (slices_partitionEqualOrdered_byte'.L N data a_ b_ pivot n).2.1 (slices_partitionEqualOrdered_byte'.L N data a_ b_ pivot n).2.2 i_ j_ data2)
def slices_partitionEqualOrdered_byte'.l0 (N : Nat) (data : (List Int)) (a_ : Int) (b_ : Int) (pivot : Int) (n : Nat) : Int → Int → (List Int) → Option (Int × (List Int)) := (slices_partitionEqualOrdered_byte'.L N data a_ b_ pivot n).1
def slices_partitionEqualOrdered_byte'.l1 (N : Nat) (data : (List Int)) (a_ : Int) (b_ : Int) (pivot : Int) (n : Nat) : Int → Int → (List Int) → Option (Int × (List Int)) := (slices_partitionEqualOrdered_byte'.L N data a_ b_ pivot n).2.1
def slices_partitionEqualOrdered_byte'.l2 (N : Nat) (data : (List Int)) (a_ : Int) (b_ : Int) (pivot : Int) (n : Nat) : Int → Int → (List Int) → Option (Int × (List Int)) := (slices_partitionEqualOrdered_byte'.L N data a_ b_ pivot n).2.2
theorem slices_partitionEqualOrdered_byte'.l0_s (N : Nat) (data : (List Int)) (a_ : Int) (b_ : Int) (pivot : Int) (n : Nat) (i_ : Int) (j_ : Int) (data2 : (List Int)) : slices_partitionEqualOrdered_byte'.l0 N data a_ b_ pivot (n + 1) i_ j_ data2 = slices_partitionEqualOrdered_byte'.s0 N data a_ b_ pivot (slices_partitionEqualOrdered_byte'.l0 N data a_ b_ pivot n) (slices_partitionEqualOrdered_byte'.l1 N data a_ b_ pivot n) (slices_partitionEqualOrdered_byte'.l2 N data a_ b_ pivot n) i_ j_ data2 := rfl
theorem slices_partitionEqualOrdered_byte'.l1_s (N : Nat) (data : (List Int)) (a_ : Int) (b_ : Int) (pivot : Int) (n : Nat) (i_ : Int) (j_ : Int) (data2 : (List Int)) : slices_partitionEqualOrdered_byte'.l1 N data a_ b_ pivot (n + 1) i_ j_ data2 = slices_partitionEqualOrdered_byte'.s1 N data a_ b_ pivot (slices_partitionEqualOrdered_byte'.l0 N data a_ b_ pivot n) (slices_partitionEqualOrdered_byte'.l1 N data a_ b_ pivot n) (slices_partitionEqualOrdered_byte'.l2 N data a_ b_ pivot n) i_ j_ data2 := rfl
theorem slices_partitionEqualOrdered_byte'.l2_s (N : Nat) (data : (List Int)) (a_ : Int) (b_ : Int) (pivot : Int) (n : Nat) (i_ : Int) (j_ : Int) (data2 : (List Int)) : slices_partitionEqualOrdered_byte'.l2 N data a_ b_ pivot (n + 1) i_ j_ data2 = slices_partitionEqualOrdered_byte'.s2 N data a_ b_ pivot (slices_partitionEqualOrdered_byte'.l0 N data a_ b_ pivot n) (slices_partitionEqualOrdered_byte'.l1 N data a_ b_ pivot n) (slices_partitionEqualOrdered_byte'.l2 N data a_ b_ pivot n) i_ j_ data2 := rfl
def slices_partitionEqualOrdered_byte' (N : Nat) (data : (List Int)) (a_ : Int) (b_ : Int) (pivot : Int) : Option (Int × (List Int)) := slices_partitionEqualOrdered_byte'.e N (slices_partitionEqualOrdered_byte'.l0 N data a_ b_ pivot N) (slices_partitionEqualOrdered_byte'.l1 N data a_ b_ pivot N) (slices_partitionEqualOrdered_byte'.l2 N data a_ b_ pivot N) data a_ b_ pivot
/-! ### f38: slices.partitionOrdered[byte] -/
def slices_partitionOrdered_byte'.e (N : Nat) (r0 : Int → (List Int) → Option (Int × Bool × (List Int))) (r1 : Int → Int → (List Int) → Option (Int × Bool × (List Int))) (r2 : Int → Int → (List Int) → Option (Int × Bool × (List Int))) (r3 : Int → Int → (List Int) → Option (Int × Bool × (List Int))) (r4 : Int → Int → (List Int) → Option (Int × Bool × (List Int))) (data : (List Int)) (a_ : Int) (b_ : Int) (pivot : Int) : Option (Int × Bool × (List Int)) :=
  chk ((leI 0 pivot) && (ltI pivot (data.length : Int))) <|
  chk ((leI 0 a_) && (ltI a_ (data.length : Int))) <|
  chk ((leI 0 a_) && (ltI a_ (data.length : Int))) <|
  let v1 : List Int := (data.set a_.toNat (gD (0 : Int) data pivot))
  chk ((leI 0 pivot) && (ltI pivot (v1.length : Int))) <|
  r0 (w64 (a_ + 1)) (v1.set pivot.toNat (gD (0 : Int) data a_))
def slices_partitionOrdered_byte'.s0 (N : Nat) (data : (List Int)) (a_ : Int) (b_ : Int) (pivot : Int) (r0 : Int → (List Int) → Option (Int × Bool × (List Int))) (r1 : Int → Int → (List Int) → Option (Int × Bool × (List Int))) (r2 : Int → Int → (List Int) → Option (Int × Bool × (List Int))) (r3 : Int → Int → (List Int) → Option (Int × Bool × (List Int))) (r4 : Int → Int → (List Int) → Option (Int × Bool × (List Int))) (i_ : Int) (data2 : (List Int)) : Option (Int × Bool × (List Int)) :=
  bif (leI i_ (w64 (b_ - 1))) then (chk ((leI 0 i_) && (ltI i_ (data2.length : Int))) <|
    chk ((leI 0 a_) && (ltI a_ (data2.length : Int))) <|
    (cmp_Less_byte N (gD (0 : Int) data2 i_) (gD (0 : Int) data2 a_)).bind fun y3 =>
    bif y3 then (r0 (w64 (i_ + 1)) data2)
    else r1 i_ (w64 (b_ - 1)) data2)
  else r1 i_ (w64 (b_ - 1)) data2
def slices_partitionOrdered_byte'.s1 (N : Nat) (data : (List Int)) (a_ : Int) (b_ : Int) (pivot : Int) (r0 : Int → (List Int) → Option (Int × Bool × (List Int))) (r1 : Int → Int → (List Int) → Option (Int × Bool × (List Int))) (r2 : Int → Int → (List Int) → Option (Int × Bool × (List Int))) (r3 : Int → Int → (List Int) → Option (Int × Bool × (List Int))) (r4 : Int → Int → (List Int) → Option (Int × Bool × (List Int))) (i_ : Int) (j_ : Int) (data2 : (List Int)) : Option (Int × Bool × (List Int)) :=
  bif (leI i_ j_) then (chk ((leI 0 j_) && (ltI j_ (data2.length : Int))) <|
    chk ((leI 0 a_) && (ltI a_ (data2.length : Int))) <|
    (cmp_Less_byte N (gD (0 : Int) data2 j_) (gD (0 : Int) data2 a_)).bind fun y4 =>
    bif (!y4) then (r1 i_ (w64 (j_ - 1)) data2)
    else bif (ltI j_ i_) then (chk ((leI 0 a_) && (ltI a_ (data2.length : Int))) <|
      chk ((leI 0 j_) && (ltI j_ (data2.length : Int))) <|
      chk ((leI 0 j_) && (ltI j_ (data2.length : Int))) <|
      let v5 : List Int := (data2.set j_.toNat (gD (0 : Int) data2 a_))
      chk ((leI 0 a_) && (ltI a_ (v5.length : Int))) <|
      some (j_, (true, (v5.set a_.toNat (gD (0 : Int) data2 j_)))))
    else chk ((leI 0 j_) && (ltI j_ (data2.length : Int))) <|
    chk ((leI 0 i_) && (ltI i_ (data2.length : Int))) <|
    chk ((leI 0 i_) && (ltI i_ (data2.length : Int))) <|
    let v7 : List Int := (data2.set i_.toNat (gD (0 : Int) data2 j_))
    chk ((leI 0 j_) && (ltI j_ (v7.length : Int))) <|
    r2 (w64 (i_ + 1)) (w64 (j_ - 1)) (v7.set j_.toNat (gD (0 : Int) data2 i_)))
  else bif (ltI j_ i_) then (chk ((leI 0 a_) && (ltI a_ (data2.length : Int))) <|
    chk ((leI 0 j_) && (ltI j_ (data2.length : Int))) <|
    chk ((leI 0 j_) && (ltI j_ (data2.length : Int))) <|
    let v9 : List Int := (data2.set j_.toNat (gD (0 : Int) data2 a_))
    chk ((leI 0 a_) && (ltI a_ (v9.length : Int))) <|
    some (j_, (true, (v9.set a_.toNat (gD (0 : Int) data2 j_)))))
  else chk ((leI 0 j_) && (ltI j_ (data2.length : Int))) <|
  chk ((leI 0 i_) && (ltI i_ (data2.length : Int))) <|
  chk ((leI 0 i_) && (ltI i_ (data2.length : Int))) <|
  let v11 : List Int := (data2.set i_.toNat (gD (0 : Int) data2 j_))
  chk ((leI 0 j_) && (ltI j_ (v11.length : Int))) <|
  r2 (w64 (i_ + 1)) (w64 (j_ - 1)) (v11.set j_.toNat (gD (0 : Int) data2 i_))
def slices_partitionOrdered_byte'.s2 (N : Nat) (data : (List Int)) (a_ : Int) (b_ : Int) (pivot : Int) (r0 : Int → (List Int) → Option (Int × Bool × (List Int))) (r1 : Int → Int → (List Int) → Option (Int × Bool × (List Int))) (r2 : Int → Int → (List Int) → Option (Int × Bool × (List Int))) (r3 : Int → Int → (List Int) → Option (Int × Bool × (List Int))) (r4 : Int → Int → (List Int) → Option (Int × Bool × (List Int))) (i_ : Int) (j_ : Int) (data2 : (List Int)) : Option (Int × Bool × (List Int)) :=
  r3 i_ j_ data2
def slices_partitionOrdered_byte'.s3 (N : Nat) (data : (List Int)) (a_ : Int) (b_ : Int) (pivot : Int) (r0 : Int → (List Int) → Option (Int × Bool × (List Int))) (r1 : Int → Int → (List Int) → Option (Int × Bool × (List Int))) (r2 : Int → Int → (List Int) → Option (Int × Bool × (List Int))) (r3 : Int → Int → (List Int) → Option (Int × Bool × (List Int))) (r4 : Int → Int → (List Int) → Option (Int × Bool × (List Int))) (i_ : Int) (j_ : Int) (data2 : (List Int)) : Option (Int × Bool × (List Int)) :=
  bif (leI i_ j_) then (chk ((leI 0 i_) && (ltI i_ (data2.length : Int))) <|
    chk ((leI 0 a_) && (ltI a_ (data2.length : Int))) <|
    (cmp_Less_byte N (gD (0 : Int) data2 i_) (gD (0 : Int) data2 a_)).bind fun y13 =>
    bif y13 then (r3 (w64 (i_ + 1)) j_ data2)
    else r4 i_ j_ data2)
  else r4 i_ j_ data2
def slices_partitionOrdered_byte'.s4 (N : Nat) (data : (List Int)) (a_ : Int) (b_ : Int) (pivot : Int) (r0 : Int → (List Int) → Option (Int × Bool × (List Int))) (r1 : Int → Int → (List Int) → Option (Int × Bool × (List Int))) (r2 : Int → Int → (List Int) → Option (Int × Bool × (List Int))) (r3 : Int → Int → (List Int) → Option (Int × Bool × (List Int))) (r4 : Int → Int → (List Int) → Option (Int × Bool × (List Int))) (i_ : Int) (j_ : Int) (data2 : (List Int)) : Option (Int × Bool × (List Int)) :=
  bif (leI i_ j_) then (chk ((leI 0 j_) && (ltI j_ (data2.length : Int))) <|
    chk ((leI 0 a_) && (ltI a_ (data2.length : Int))) <|
    (cmp_Less_byte N (gD (0 : Int) data2 j_) (gD (0 : Int) data2 a_)).bind fun y14 =>
    bif (!y14) then (r4 i_ (w64 (j_ - 1)) data2)
    else bif (ltI j_ i_) then (chk ((leI 0 a_) && (ltI a_ (data2.length : Int))) <|
      chk ((leI 0 j_) && (ltI j_ (data2.length : Int))) <|
      chk ((leI 0 j_) && (ltI j_ (data2.length : Int))) <|
      let v15 : List Int := (data2.set j_.toNat (gD (0 : Int) data2 a_))
      chk ((leI 0 a_) && (ltI a_ (v15.length : Int))) <|
      some (j_, (false, (v15.set a_.toNat (gD (0 : Int) data2 j_)))))
    else chk ((leI 0 j_) && (ltI j_ (data2.length : Int))) <|
    chk ((leI 0 i_) && (ltI i_ (data2.length : Int))) <|
    chk ((leI 0 i_) && (ltI i_ (data2.length : Int))) <|
    let v17 : List Int := (data2.set i_.toNat (gD (0 : Int) data2 j_))
    chk ((leI 0 j_) && (ltI j_ (v17.length : Int))) <|
    r2 (w64 (i_ + 1)) (w64 (j_ - 1)) (v17.set j_.toNat (gD (0 : Int) data2 i_)))
  else bif (ltI j_ i_) then (chk ((leI 0 a_) && (ltI a_ (data2.length : Int))) <|
    chk ((leI 0 j_) && (ltI j_ (data2.length : Int))) <|
    chk ((leI 0 j_) && (ltI j_ (data2.length : Int))) <|
    let v19 : List Int := (data2.set j_.toNat (gD (0 : Int) data2 a_))
    chk ((leI 0 a_) && (ltI a_ (v19.length : Int))) <|
    some (j_, (false, (v19.set a_.toNat (gD (0 : Int) data2 j_)))))
  else chk ((leI 0 j_) && (ltI j_ (data2.length : Int))) <|
  chk ((leI 0 i_) && (ltI i_ (data2.length : Int))) <|
  chk ((leI 0 i_) && (ltI i_ (data2.length : Int))) <|
  let v21 : List Int := (data2.set i_.toNat (gD (0 : Int) data2 j_))
  chk ((leI 0 j_) && (ltI j_ (v21.length : Int))) <|
  r2 (w64 (i_ + 1)) (w64 (j_ - 1)) (v21.set j_.toNat (gD (0 : Int) data2 i_))
def slices_partitionOrdered_byte'.L (N : Nat) (data : (List Int)) (a_ : Int) (b_ : Int) (pivot : Int) : Nat → (Int → (List Int) → Option (Int × Bool × (List Int))) × (Int → Int → (List Int) → Option (Int × Bool × (List Int))) × (Int → Int → (List Int) → Option (Int × Bool × (List Int))) × (Int → Int → (List Int) → Option (Int × Bool × (List Int))) × (Int → Int → (List Int) → Option (Int × Bool × (List Int)))
  | 0 => (fun _ _ => none, fun _ _ _ => none, fun _ _ _ => none, fun _ _ _ => none, fun _ _ _ => none)
  | n + 1 => (fun i_ data2 => slices_partitionOrdered_byte'.s0 N data a_ b_ pivot (slices_partitionOrdered_byte'.L N data a_ b_ pivot n).1 (slices_partitionOrdered_byte'.L N data a_ b_ pivot n).2.1 (slices_partitionOrdered_byte'.L N data a_ b_ pivot n).2.2.1 (slices_partitionOrdered_byte'.L N data a_ b_ pivot n).2.2.2.1 (slices_partitionOrdered_byte'.L N data a_ b_ pivot n).2.2.2.2 i_ data2, fun i_ j_ data2 => slices_partitionOrdered_byte'.s1 N data a_ b_ pivot (slices_partitionOrdered_byte'.L N data a_ b_ pivot n).1 (slices_partitionOrdered_byte'.L N data a_ b_ pivot n).2.1 (slices_partitionOrdered_byte'.L N data a_ b_ pivot n).2.2.1 (slices_partitionOrdered_byte'.L N data a_ b_ pivot n).2.2.2.1 (slices_partitionOrdered_byte'.L N data a_ b_ pivot n).2.2.2.2 i_ j_ data2, fun i_ j_ data2 => slices_partitionOrdered_byte'.s2 N data a_ b_ pivot (slices_partitionOrdered_byte'.L N data a_ b_ pivot n).1 (slices_partitionOrdered_byte'.L N data a_ b_ pivot n).2.1 (slices_partitionOrdered_byte'.L N data a_ b_ pivot n).2.2.1 (slices_partitionOrdered_byte'.L N data a_ b_ pivot n).2.2.2.1 (slices_partitionOrdered_byte'.L N data a_ b_ pivot n).2.2.2.2 i_ j_ data2, fun i_ j_ data2 => slices_partitionOrdered_byte'.s3 N data a_ b_ pivot (slices_partitionOrdered_byte'.L N data a_ b_ pivot n).1 (slices_partitionOrdered_byte'.L N data a_ b_ pivot n).2.1 (slices_partitionOrdered_byte'.L N data a_ b_ pivot n).2.2.1 (slices_partitionOrdered_byte'.L N data a_ b_ pivot n).2.2.2.1 (slices_partitionOrdered_byte'.L N data a_ b_ pivot n).2.2.2.2 i_ j_ data2, fun i_ j_ data2 => slices_partitionOrdered_byte'.s4 N data a_ b_ pivot (slices_partitionOrdered_byte'.L N data a_ b_ pivot n).1 (slices_partitionOrdered_byte'.L N data a_ b_ pivot n).2.1 (slices_partitionOrdered_byte'.L N data a_ b_ pivot n).2.2.1 (slices_partitionOrdered_byte'.L N data a_ b_ pivot n).2.2.2.1 (slices_partitionOrdered_byte'.L N data a_ b_ pivot n).2.2.2.2 i_ j_ data2)
def slices_partitionOrdered_byte'.l0 (N : Nat) (data : (List Int)) (a_ : Int) (b_ : Int) (pivot : Int) (n : Nat) : Int → (List Int) → Option (Int × Bool × (List Int)) := (slices_partitionOrdered_byte'.L N data a_ b_ pivot n).1
def slices_partitionOrdered_byte'.l1 (N : Nat) (data : (List Int)) (a_ : Int) (b_ : Int) (pivot : Int) (n : Nat) : Int → Int → (List Int) → Option (Int × Bool × (List Int)) := (slices_partitionOrdered_byte'.L N data a_ b_ pivot n).2.1
def slices_partitionOrdered_byte'.l2 (N : Nat) (data : (List Int)) (a_ : Int) (b_ : Int) (pivot : Int) (n : Nat) : Int → Int → (List Int) → Option (Int × Bool × (List Int)) := (slices_partitionOrdered_byte'.L N data a_ b_ pivot n).2.2.1
def slices_partitionOrdered_byte'.l3 (N : Nat) (data : (List Int)) (a_ : Int) (b_ : Int) (pivot : Int) (n : Nat) : Int → Int → (List Int) → Option (Int × Bool × (List Int)) := (slices_partitionOrdered_byte'.L N data a_ b_ pivot n).2.2.2.1
def slices_partitionOrdered_byte'.l4 (N : Nat) (data : (List Int)) (a_ : Int) (b_ : Int) (pivot : Int) (n : Nat) : Int → Int → (List Int) → Option (Int × Bool × (List Int)) := (slices_partitionOrdered_byte'.L N data a_ b_ pivot n).2.2.2.2
theorem slices_partitionOrdered_byte'.l0_s (N : Nat) (data : (List Int)) (a_ : Int) (b_ : Int) (pivot : Int) (n : Nat) (i_ : Int) (data2 : (List Int)) : slices_partitionOrdered_byte'.l0 N data a_ b_ pivot (n + 1) i_ data2 = slices_partitionOrdered_byte'.s0 N data a_ b_ pivot (slices_partitionOrdered_byte'.l0 N data a_ b_ pivot n) (slices_partitionOrdered_byte'.l1 N data a_ b_ pivot n) (slices_partitionOrdered_byte'.l2 N data a_ b_ pivot n) (slices_partitionOrdered_byte'.l3 N data a_ b_ pivot n) (slices_partitionOrdered_byte'.l4 N data a_ b_ pivot n) i_ data2 := rfl
theorem slices_partitionOrdered_byte'.l1_s (N : Nat) (data : (List Int)) (a_ : Int) (b_ : Int) (pivot : Int) (n : Nat) (i_ : Int) (j_ : Int) (data2 : (List Int)) : slices_partitionOrdered_byte'.l1 N data a_ b_ pivot (n + 1) i_ j_ data2 = slices_partitionOrdered_byte'.s1 N data a_ b_ pivot (slices_partitionOrdered_byte'.l0 N data a_ b_ pivot n) (slices_partitionOrdered_byte'.l1 N data a_ b_ pivot n) (slices_partitionOrdered_byte'.l2 N data a_ b_ pivot n) (slices_partitionOrdered_byte'.l3 N data a_ b_ pivot n) (slices_partitionOrdered_byte'.l4 N data a_ b_ pivot n) i_ j_ data2 := rfl
theorem slices_partitionOrdered_byte'.l2_s (N : Nat) (data : (List Int)) (a_ : Int) (b_ : Int) (pivot : Int) (n : Nat) (i_ : Int) (j_ : Int) (data2 : (List Int)) : slices_partitionOrdered_byte'.l2 N data a_ b_ pivot (n + 1) i_ j_ data2 = slices_partitionOrdered_byte'.s2 N data a_ b_ pivot (slices_partitionOrdered_byte'.l0 N data a_ b_ pivot n) (slices_partitionOrdered_byte'.l1 N data a_ b_ pivot n) (slices_partitionOrdered_byte'.l2 N data a_ b_ pivot n) (slices_partitionOrdered_byte'.l3 N data a_ b_ pivot n) (slices_partitionOrdered_byte'.l4 N data a_ b_ pivot n) i_ j_ data2 := rfl
theorem slices_partitionOrdered_byte'.l3_s (N : Nat) (data : (List Int)) (a_ : Int) (b_ : Int) (pivot : Int) (n : Nat) (i_ : Int) (j_ : Int) (data2 : (List Int)) : slices_partitionOrdered_byte'.l3 N data a_ b_ pivot (n + 1) i_ j_ data2 = slices_partitionOrdered_byte'.s3 N data a_ b_ pivot (slices_partitionOrdered_byte'.l0 N data a_ b_ pivot n) (slices_partitionOrdered_byte'.l1 N data a_ b_ pivot n) (slices_partitionOrdered_byte'.l2 N data a_ b_ pivot n) (slices_partitionOrdered_byte'.l3 N data a_ b_ pivot n) (slices_partitionOrdered_byte'.l4 N data a_ b_ pivot n) i_ j_ data2 := rfl
theorem slices_partitionOrdered_byte'.l4_s (N : Nat) (data : (List Int)) (a_ : Int) (b_ : Int) (pivot : Int) (n : Nat) (i_ : Int) (j_ : Int) (data2 : (List Int)) : slices_partitionOrdered_byte'.l4 N data a_ b_ pivot (n + 1) i_ j_ data2 = slices_partitionOrdered_byte'.s4 N data a_ b_ pivot (slices_partitionOrdered_byte'.l0 N data a_ b_ pivot n) (slices_partitionOrdered_byte'.l1 N data a_ b_ pivot n) (slices_partitionOrdered_byte'.l2 N data a_ b_ pivot n) (slices_partitionOrdered_byte'.l3 N data a_ b_ pivot n) (slices_partitionOrdered_byte'.l4 N data a_ b_ pivot n) i_ j_ data2 := rfl
def slices_partitionOrdered_byte' (N : Nat) (data : (List Int)) (a_ : Int) (b_ : Int) (pivot : Int) : Option (Int × Bool × (List Int)) := slices_partitionOrdered_byte'.e N (slices_partitionOrdered_byte'.l0 N data a_ b_ pivot N) (slices_partitionOrdered_byte'.l1 N data a_ b_ pivot N) (slices_partitionOrdered_byte'.l2 N data a_ b_ pivot N) (slices_partitionOrdered_byte'.l3 N data a_ b_ pivot N) (slices_partitionOrdered_byte'.l4 N data a_ b_ pivot N) data a_ b_ pivot
/-! ### f42: slices.nextPowerOfTwo -/
def slices_nextPowerOfTwo.e (N : Nat) (length : Int) : Option Int :=
  (math_bits_Len N (IntKind.wrap .u64 length)).bind fun y2 =>
  bif (ltI y2 0) then none
  else some (IntKind.wrap .u64 (1 * 2 ^ (min (y2 : Int).toNat 64)))
def slices_nextPowerOfTwo (N : Nat) (length : Int) : Option Int := slices_nextPowerOfTwo.e N length
/-! ### f43: (*slices.xorshift).Next -/
def slices_xorshift_Next.e (N : Nat) (r_ : Int) : Option (Int × Int) :=
  let v2 : Int := (Go.bits .xor .u64 r_ (IntKind.wrap .u64 (r_ * 2 ^ (min (13 : Int).toNat 64))))
  let v4 : Int := (Go.bits .xor .u64 v2 (Int.fdiv v2 (2 ^ (min (7 : Int).toNat 64))))
  let v6 : Int := (Go.bits .xor .u64 v4 (IntKind.wrap .u64 (v4 * 2 ^ (min (17 : Int).toNat 64))))
  some (v6, v6)
def slices_xorshift_Next (N : Nat) (r_ : Int) : Option (Int × Int) := slices_xorshift_Next.e N r_
/-! ### f32: slices.breakPatternsOrdered[byte] -/
def slices_breakPatternsOrdered_byte'.e (N : Nat) (r0 : Int → Int → (List Int) → Int → Option (List Int)) (data : (List Int)) (a_ : Int) (b_ : Int) : Option (List Int) :=
  bif (leI 8 (w64 (b_ - a_))) then ((slices_nextPowerOfTwo N (w64 (b_ - a_))).bind fun y2 =>
    r0 y2 (w64 ((w64 (a_ + (w64 ((w64 (Int.tdiv (w64 (b_ - a_)) 4)) * 2)))) - 1)) data (IntKind.wrap .u64 (w64 (b_ - a_))))
  else some data
def slices_breakPatternsOrdered_byte'.s0 (N : Nat) (data : (List Int)) (a_ : Int) (b_ : Int) (r0 : Int → Int → (List Int) → Int → Option (List Int)) (modulus : Int) (idx : Int) (data2 : (List Int)) (random : Int) : Option (List Int) :=
  bif (leI idx (w64 ((w64 (a_ + (w64 ((w64 (Int.tdiv (w64 (b_ - a_)) 4)) * 2)))) + 1))) then ((slices_xorshift_Next N random).bind fun y7 =>
    let v9 : Int := (Go.bits .and .u64 y7.1 (IntKind.wrap .u64 (modulus - 1)))
    bif (leI (w64 (b_ - a_)) (w64 v9)) then (let v11 : Int := (w64 ((w64 v9) - (w64 (b_ - a_))))
      chk ((leI 0 (w64 (a_ + v11))) && (ltI (w64 (a_ + v11)) (data2.length : Int))) <|
      chk ((leI 0 idx) && (ltI idx (data2.length : Int))) <|
      chk ((leI 0 idx) && (ltI idx (data2.length : Int))) <|
      let v12 : List Int := (data2.set idx.toNat (gD (0 : Int) data2 (w64 (a_ + v11))))
      chk ((leI 0 (w64 (a_ + v11))) && (ltI (w64 (a_ + v11)) (v12.length : Int))) <|
      r0 modulus (w64 (idx + 1)) (v12.set (w64 (a_ + v11)).toNat (gD (0 : Int) data2 idx)) y7.2)
    else chk ((leI 0 (w64 (a_ + (w64 v9)))) && (ltI (w64 (a_ + (w64 v9))) (data2.length : Int))) <|
    chk ((leI 0 idx) && (ltI idx (data2.length : Int))) <|
    chk ((leI 0 idx) && (ltI idx (data2.length : Int))) <|
    let v14 : List Int := (data2.set idx.toNat (gD (0 : Int) data2 (w64 (a_ + (w64 v9)))))
    chk ((leI 0 (w64 (a_ + (w64 v9)))) && (ltI (w64 (a_ + (w64 v9))) (v14.length : Int))) <|
    r0 modulus (w64 (idx + 1)) (v14.set (w64 (a_ + (w64 v9))).toNat (gD (0 : Int) data2 idx)) y7.2)
  else some data2
def slices_breakPatternsOrdered_byte'.L (N : Nat) (data : (List Int)) (a_ : Int) (b_ : Int) : Nat → (Int → Int → (List Int) → Int → Option (List Int))
  | 0 => fun _ _ _ _ => none
  | n + 1 => fun modulus idx data2 random => slices_breakPatternsOrdered_byte'.s0 N data a_ b_ (slices_breakPatternsOrdered_byte'.L N data a_ b_ n) modulus idx data2 random
def slices_breakPatternsOrdered_byte'.l0 (N : Nat) (data : (List Int)) (a_ : Int) (b_ : Int) (n : Nat) : Int → Int → (List Int) → Int → Option (List Int) := (slices_breakPatternsOrdered_byte'.L N data a_ b_ n)
theorem slices_breakPatternsOrdered_byte'.l0_s (N : Nat) (data : (List Int)) (a_ : Int) (b_ : Int) (n : Nat) (modulus : Int) (idx : Int) (data2 : (List Int)) (random : Int) : slices_breakPatternsOrdered_byte'.l0 N data a_ b_ (n + 1) modulus idx data2 random = slices_breakPatternsOrdered_byte'.s0 N data a_ b_ (slices_breakPatternsOrdered_byte'.l0 N data a_ b_ n) modulus idx data2 random := rfl
def slices_breakPatternsOrdered_byte' (N : Nat) (data : (List Int)) (a_ : Int) (b_ : Int) : Option (List Int) := slices_breakPatternsOrdered_byte'.e N (slices_breakPatternsOrdered_byte'.l0 N data a_ b_ N) data a_ b_
/-! ### f27: slices.pdqsortOrdered[byte] -/
def slices_pdqsortOrdered_byte'.e (N : Nat) (self : (List Int) → Int → Int → Int → Option (List Int)) (r0 : Int → Int → Int → Bool → Bool → (List Int) → Option (List Int)) (data : (List Int)) (a_ : Int) (b_ : Int) (limit : Int) : Option (List Int) :=
  r0 a_ b_ limit true true data
def slices_pdqsortOrdered_byte'.s0 (N : Nat) (self : (List Int) → Int → Int → Int → Option (List Int)) (data : (List Int)) (a_ : Int) (b_ : Int) (limit : Int) (r0 : Int → Int → Int → Bool → Bool → (List Int) → Option (List Int)) (a_2 : Int) (b_2 : Int) (limit2 : Int) (wasBalanced : Bool) (wasPartitioned : Bool) (data2 : (List Int)) : Option (List Int) :=
  bif (leI (w64 (b_2 - a_2)) 12) then ((slices_insertionSortOrdered_byte' N data2 a_2 b_2).bind fun y2 =>
    some y2)
  else bif (eqI limit2 0) then ((slices_heapSortOrdered_byte' N data2 a_2 b_2).bind fun y3 =>
    some y3)
  else bif (!wasBalanced) then ((slices_breakPatternsOrdered_byte' N data2 a_2 b_2).bind fun y4 =>
    (slices_choosePivotOrdered_byte N y4 a_2 b_2).bind fun y5 =>
    bif (eqI y5.2 2) then ((slices_reverseRangeOrdered_byte' N y4 a_2 b_2).bind fun y6 =>
      let v7 : Int := (w64 ((w64 (b_2 - 1)) - (w64 (y5.1 - a_2))))
      bif wasBalanced then (bif wasPartitioned then ((slices_partialInsertionSortOrdered_byte' N y6 a_2 b_2).bind fun y8 =>
          bif y8.1 then some y8.2
          else bif (ltI 0 a_2) then (chk ((leI 0 (w64 (a_2 - 1))) && (ltI (w64 (a_2 - 1)) (y8.2.length : Int))) <|
            chk ((leI 0 v7) && (ltI v7 (y8.2.length : Int))) <|
            (cmp_Less_byte N (gD (0 : Int) y8.2 (w64 (a_2 - 1))) (gD (0 : Int) y8.2 v7)).bind fun y9 =>
            bif (!y9) then ((slices_partitionEqualOrdered_byte' N y8.2 a_2 b_2 v7).bind fun y10 =>
              r0 y10.1 b_2 (w64 (limit2 - 1)) wasBalanced wasPartitioned y10.2)
            else (slices_partitionOrdered_byte' N y8.2 a_2 b_2 v7).bind fun y11 =>
            let v12 : Int := (w64 (Int.tdiv (w64 (b_2 - a_2)) 8))
            bif (ltI (w64 (y11.1 - a_2)) (w64 (b_2 - y11.1))) then ((self y11.2.2 a_2 y11.1 (w64 (limit2 - 1))).bind fun y15 =>
              r0 (w64 (y11.1 + 1)) b_2 (w64 (limit2 - 1)) (leI v12 (w64 (y11.1 - a_2))) y11.2.1 y15)
            else (self y11.2.2 (w64 (y11.1 + 1)) b_2 (w64 (limit2 - 1))).bind fun y17 =>
            r0 a_2 y11.1 (w64 (limit2 - 1)) (leI v12 (w64 (b_2 - y11.1))) y11.2.1 y17)
          else (slices_partitionOrdered_byte' N y8.2 a_2 b_2 v7).bind fun y18 =>
          let v19 : Int := (w64 (Int.tdiv (w64 (b_2 - a_2)) 8))
          bif (ltI (w64 (y18.1 - a_2)) (w64 (b_2 - y18.1))) then ((self y18.2.2 a_2 y18.1 (w64 (limit2 - 1))).bind fun y22 =>
            r0 (w64 (y18.1 + 1)) b_2 (w64 (limit2 - 1)) (leI v19 (w64 (y18.1 - a_2))) y18.2.1 y22)
          else (self y18.2.2 (w64 (y18.1 + 1)) b_2 (w64 (limit2 - 1))).bind fun y24 =>
          r0 a_2 y18.1 (w64 (limit2 - 1)) (leI v19 (w64 (b_2 - y18.1))) y18.2.1 y24)
        else bif (ltI 0 a_2) then (chk ((leI 0 (w64 (a_2 - 1))) && (ltI (w64 (a_2 - 1)) (y6.length : Int))) <|
          chk ((leI 0 v7) && (ltI v7 (y6.length : Int))) <|
          (cmp_Less_byte N (gD (0 : Int) y6 (w64 (a_2 - 1))) (gD (0 : Int) y6 v7)).bind fun y25 =>
          bif (!y25) then ((slices_partitionEqualOrdered_byte' N y6 a_2 b_2 v7).bind fun y26 =>
            r0 y26.1 b_2 (w64 (limit2 - 1)) wasBalanced wasPartitioned y26.2)
          else (slices_partitionOrdered_byte' N y6 a_2 b_2 v7).bind fun y27 =>
          let v28 : Int := (w64 (Int.tdiv (w64 (b_2 - a_2)) 8))
          bif (ltI (w64 (y27.1 - a_2)) (w64 (b_2 - y27.1))) then ((self y27.2.2 a_2 y27.1 (w64 (limit2 - 1))).bind fun y31 =>
            r0 (w64 (y27.1 + 1)) b_2 (w64 (limit2 - 1)) (leI v28 (w64 (y27.1 - a_2))) y27.2.1 y31)
          else (self y27.2.2 (w64 (y27.1 + 1)) b_2 (w64 (limit2 - 1))).bind fun y33 =>
          r0 a_2 y27.1 (w64 (limit2 - 1)) (leI v28 (w64 (b_2 - y27.1))) y27.2.1 y33)
        else (slices_partitionOrdered_byte' N y6 a_2 b_2 v7).bind fun y34 =>
        let v35 : Int := (w64 (Int.tdiv (w64 (b_2 - a_2)) 8))
        bif (ltI (w64 (y34.1 - a_2)) (w64 (b_2 - y34.1))) then ((self y34.2.2 a_2 y34.1 (w64 (limit2 - 1))).bind fun y38 =>
          r0 (w64 (y34.1 + 1)) b_2 (w64 (limit2 - 1)) (leI v35 (w64 (y34.1 - a_2))) y34.2.1 y38)
        else (self y34.2.2 (w64 (y34.1 + 1)) b_2 (w64 (limit2 - 1))).bind fun y40 =>
        r0 a_2 y34.1 (w64 (limit2 - 1)) (leI v35 (w64 (b_2 - y34.1))) y34.2.1 y40)
      else bif (ltI 0 a_2) then (chk ((leI 0 (w64 (a_2 - 1))) && (ltI (w64 (a_2 - 1)) (y6.length : Int))) <|
        chk ((leI 0 v7) && (ltI v7 (y6.length : Int))) <|
        (cmp_Less_byte N (gD (0 : Int) y6 (w64 (a_2 - 1))) (gD (0 : Int) y6 v7)).bind fun y41 =>
        bif (!y41) then ((slices_partitionEqualOrdered_byte' N y6 a_2 b_2 v7).bind fun y42 =>
          r0 y42.1 b_2 (w64 (limit2 - 1)) wasBalanced wasPartitioned y42.2)
        else (slices_partitionOrdered_byte' N y6 a_2 b_2 v7).bind fun y43 =>
        let v44 : Int := (w64 (Int.tdiv (w64 (b_2 - a_2)) 8))
        bif (ltI (w64 (y43.1 - a_2)) (w64 (b_2 - y43.1))) then ((self y43.2.2 a_2 y43.1 (w64 (limit2 - 1))).bind fun y47 =>
          r0 (w64 (y43.1 + 1)) b_2 (w64 (limit2 - 1)) (leI v44 (w64 (y43.1 - a_2))) y43.2.1 y47)
        else (self y43.2.2 (w64 (y43.1 + 1)) b_2 (w64 (limit2 - 1))).bind fun y49 =>
        r0 a_2 y43.1 (w64 (limit2 - 1)) (leI v44 (w64 (b_2 - y43.1))) y43.2.1 y49)
      else (slices_partitionOrdered_byte' N y6 a_2 b_2 v7).bind fun y50 =>
      let v51 : Int := (w64 (Int.tdiv (w64 (b_2 - a_2)) 8))
      bif (ltI (w64 (y50.1 - a_2)) (w64 (b_2 - y50.1))) then ((self y50.2.2 a_2 y50.1 (w64 (limit2 - 1))).bind fun y54 =>
        r0 (w64 (y50.1 + 1)) b_2 (w64 (limit2 - 1)) (leI v51 (w64 (y50.1 - a_2))) y50.2.1 y54)
      else (self y50.2.2 (w64 (y50.1 + 1)) b_2 (w64 (limit2 - 1))).bind fun y56 =>
      r0 a_2 y50.1 (w64 (limit2 - 1)) (leI v51 (w64 (b_2 - y50.1))) y50.2.1 y56)
    else bif wasBalanced then (bif wasPartitioned then (bif (eqI y5.2 1) then ((slices_partialInsertionSortOrdered_byte' N y4 a_2 b_2).bind fun y57 =>
          bif y57.1 then some y57.2
          else bif (ltI 0 a_2) then (chk ((leI 0 (w64 (a_2 - 1))) && (ltI (w64 (a_2 - 1)) (y57.2.length : Int))) <|
            chk ((leI 0 y5.1) && (ltI y5.1 (y57.2.length : Int))) <|
            (cmp_Less_byte N (gD (0 : Int) y57.2 (w64 (a_2 - 1))) (gD (0 : Int) y57.2 y5.1)).bind fun y58 =>
            bif (!y58) then ((slices_partitionEqualOrdered_byte' N y57.2 a_2 b_2 y5.1).bind fun y59 =>
              r0 y59.1 b_2 (w64 (limit2 - 1)) wasBalanced wasPartitioned y59.2)
            else (slices_partitionOrdered_byte' N y57.2 a_2 b_2 y5.1).bind fun y60 =>
            let v61 : Int := (w64 (Int.tdiv (w64 (b_2 - a_2)) 8))
            bif (ltI (w64 (y60.1 - a_2)) (w64 (b_2 - y60.1))) then ((self y60.2.2 a_2 y60.1 (w64 (limit2 - 1))).bind fun y64 =>
              r0 (w64 (y60.1 + 1)) b_2 (w64 (limit2 - 1)) (leI v61 (w64 (y60.1 - a_2))) y60.2.1 y64)
            else (self y60.2.2 (w64 (y60.1 + 1)) b_2 (w64 (limit2 - 1))).bind fun y66 =>
            r0 a_2 y60.1 (w64 (limit2 - 1)) (leI v61 (w64 (b_2 - y60.1))) y60.2.1 y66)
          else (slices_partitionOrdered_byte' N y57.2 a_2 b_2 y5.1).bind fun y67 =>
          let v68 : Int := (w64 (Int.tdiv (w64 (b_2 - a_2)) 8))
          bif (ltI (w64 (y67.1 - a_2)) (w64 (b_2 - y67.1))) then ((self y67.2.2 a_2 y67.1 (w64 (limit2 - 1))).bind fun y71 =>
            r0 (w64 (y67.1 + 1)) b_2 (w64 (limit2 - 1)) (leI v68 (w64 (y67.1 - a_2))) y67.2.1 y71)
          else (self y67.2.2 (w64 (y67.1 + 1)) b_2 (w64 (limit2 - 1))).bind fun y73 =>
          r0 a_2 y67.1 (w64 (limit2 - 1)) (leI v68 (w64 (b_2 - y67.1))) y67.2.1 y73)
        else bif (ltI 0 a_2) then (chk ((leI 0 (w64 (a_2 - 1))) && (ltI (w64 (a_2 - 1)) (y4.length : Int))) <|
          chk ((leI 0 y5.1) && (ltI y5.1 (y4.length : Int))) <|
          (cmp_Less_byte N (gD (0 : Int) y4 (w64 (a_2 - 1))) (gD (0 : Int) y4 y5.1)).bind fun y74 =>
          bif (!y74) then ((slices_partitionEqualOrdered_byte' N y4 a_2 b_2 y5.1).bind fun y75 =>
            r0 y75.1 b_2 (w64 (limit2 - 1)) wasBalanced wasPartitioned y75.2)
          else (slices_partitionOrdered_byte' N y4 a_2 b_2 y5.1).bind fun y76 =>
          let v77 : Int := (w64 (Int.tdiv (w64 (b_2 - a_2)) 8))
          bif (ltI (w64 (y76.1 - a_2)) (w64 (b_2 - y76.1))) then ((self y76.2.2 a_2 y76.1 (w64 (limit2 - 1))).bind fun y80 =>
            r0 (w64 (y76.1 + 1)) b_2 (w64 (limit2 - 1)) (leI v77 (w64 (y76.1 - a_2))) y76.2.1 y80)
          else (self y76.2.2 (w64 (y76.1 + 1)) b_2 (w64 (limit2 - 1))).bind fun y82 =>
          r0 a_2 y76.1 (w64 (limit2 - 1)) (leI v77 (w64 (b_2 - y76.1))) y76.2.1 y82)
        else (slices_partitionOrdered_byte' N y4 a_2 b_2 y5.1).bind fun y83 =>
        let v84 : Int := (w64 (Int.tdiv (w64 (b_2 - a_2)) 8))
        bif (ltI (w64 (y83.1 - a_2)) (w64 (b_2 - y83.1))) then ((self y83.2.2 a_2 y83.1 (w64 (limit2 - 1))).bind fun y87 =>
          r0 (w64 (y83.1 + 1)) b_2 (w64 (limit2 - 1)) (leI v84 (w64 (y83.1 - a_2))) y83.2.1 y87)
        else (self y83.2.2 (w64 (y83.1 + 1)) b_2 (w64 (limit2 - 1))).bind fun y89 =>
        r0 a_2 y83.1 (w64 (limit2 - 1)) (leI v84 (w64 (b_2 - y83.1))) y83.2.1 y89)
      else bif (ltI 0 a_2) then (chk ((leI 0 (w64 (a_2 - 1))) && (ltI (w64 (a_2 - 1)) (y4.length : Int))) <|
        chk ((leI 0 y5.1) && (ltI y5.1 (y4.length : Int))) <|
        (cmp_Less_byte N (gD (0 : Int) y4 (w64 (a_2 - 1))) (gD (0 : Int) y4 y5.1)).bind fun y90 =>
        bif (!y90) then ((slices_partitionEqualOrdered_byte' N y4 a_2 b_2 y5.1).bind fun y91 =>
          r0 y91.1 b_2 (w64 (limit2 - 1)) wasBalanced wasPartitioned y91.2)
        else (slices_partitionOrdered_byte' N y4 a_2 b_2 y5.1).bind fun y92 =>
        let v93 : Int := (w64 (Int.tdiv (w64 (b_2 - a_2)) 8))
        bif (ltI (w64 (y92.1 - a_2)) (w64 (b_2 - y92.1))) then ((self y92.2.2 a_2 y92.1 (w64 (limit2 - 1))).bind fun y96 =>
          r0 (w64 (y92.1 + 1)) b_2 (w64 (limit2 - 1)) (leI v93 (w64 (y92.1 - a_2))) y92.2.1 y96)
        else (self y92.2.2 (w64 (y92.1 + 1)) b_2 (w64 (limit2 - 1))).bind fun y98 =>
        r0 a_2 y92.1 (w64 (limit2 - 1)) (leI v93 (w64 (b_2 - y92.1))) y92.2.1 y98)
      else (slices_partitionOrdered_byte' N y4 a_2 b_2 y5.1).bind fun y99 =>
      let v100 : Int := (w64 (Int.tdiv (w64 (b_2 - a_2)) 8))
      bif (ltI (w64 (y99.1 - a_2)) (w64 (b_2 - y99.1))) then ((self y99.2.2 a_2 y99.1 (w64 (limit2 - 1))).bind fun y103 =>
        r0 (w64 (y99.1 + 1)) b_2 (w64 (limit2 - 1)) (leI v100 (w64 (y99.1 - a_2))) y99.2.1 y103)
      else (self y99.2.2 (w64 (y99.1 + 1)) b_2 (w64 (limit2 - 1))).bind fun y105 =>
      r0 a_2 y99.1 (w64 (limit2 - 1)) (leI v100 (w64 (b_2 - y99.1))) y99.2.1 y105)
    else bif (ltI 0 a_2) then (chk ((leI 0 (w64 (a_2 - 1))) && (ltI (w64 (a_2 - 1)) (y4.length : Int))) <|
      chk ((leI 0 y5.1) && (ltI y5.1 (y4.length : Int))) <|
      (cmp_Less_byte N (gD (0 : Int) y4 (w64 (a_2 - 1))) (gD (0 : Int) y4 y5.1)).bind fun y106 =>
      bif (!y106) then ((slices_partitionEqualOrdered_byte' N y4 a_2 b_2 y5.1).bind fun y107 =>
        r0 y107.1 b_2 (w64 (limit2 - 1)) wasBalanced wasPartitioned y107.2)
      else (slices_partitionOrdered_byte' N y4 a_2 b_2 y5.1).bind fun y108 =>
      let v109 : Int := (w64 (Int.tdiv (w64 (b_2 - a_2)) 8))
      bif (ltI (w64 (y108.1 - a_2)) (w64 (b_2 - y108.1))) then ((self y108.2.2 a_2 y108.1 (w64 (limit2 - 1))).bind fun y112 =>
        r0 (w64 (y108.1 + 1)) b_2 (w64 (limit2 - 1)) (leI v109 (w64 (y108.1 - a_2))) y108.2.1 y112)
      else (self y108.2.2 (w64 (y108.1 + 1)) b_2 (w64 (limit2 - 1))).bind fun y114 =>
      r0 a_2 y108.1 (w64 (limit2 - 1)) (leI v109 (w64 (b_2 - y108.1))) y108.2.1 y114)
    else (slices_partitionOrdered_byte' N y4 a_2 b_2 y5.1).bind fun y115 =>
    let v116 : Int := (w64 (Int.tdiv (w64 (b_2 - a_2)) 8))
    bif (ltI (w64 (y115.1 - a_2)) (w64 (b_2 - y115.1))) then ((self y115.2.2 a_2 y115.1 (w64 (limit2 - 1))).bind fun y119 =>
      r0 (w64 (y115.1 + 1)) b_2 (w64 (limit2 - 1)) (leI v116 (w64 (y115.1 - a_2))) y115.2.1 y119)
    else (self y115.2.2 (w64 (y115.1 + 1)) b_2 (w64 (limit2 - 1))).bind fun y121 =>
    r0 a_2 y115.1 (w64 (limit2 - 1)) (leI v116 (w64 (b_2 - y115.1))) y115.2.1 y121)
  else (slices_choosePivotOrdered_byte N data2 a_2 b_2).bind fun y122 =>
  bif (eqI y122.2 2) then ((slices_reverseRangeOrdered_byte' N data2 a_2 b_2).bind fun y123 =>
    let v124 : Int := (w64 ((w64 (b_2 - 1)) - (w64 (y122.1 - a_2))))
    bif wasBalanced then (bif wasPartitioned then ((slices_partialInsertionSortOrdered_byte' N y123 a_2 b_2).bind fun y125 =>
        bif y125.1 then some y125.2
        else bif (ltI 0 a_2) then (chk ((leI 0 (w64 (a_2 - 1))) && (ltI (w64 (a_2 - 1)) (y125.2.length : Int))) <|
          chk ((leI 0 v124) && (ltI v124 (y125.2.length : Int))) <|
          (cmp_Less_byte N (gD (0 : Int) y125.2 (w64 (a_2 - 1))) (gD (0 : Int) y125.2 v124)).bind fun y126 =>
          bif (!y126) then ((slices_partitionEqualOrdered_byte' N y125.2 a_2 b_2 v124).bind fun y127 =>
            r0 y127.1 b_2 limit2 wasBalanced wasPartitioned y127.2)
          else (slices_partitionOrdered_byte' N y125.2 a_2 b_2 v124).bind fun y128 =>
          let v129 : Int := (w64 (Int.tdiv (w64 (b_2 - a_2)) 8))
          bif (ltI (w64 (y128.1 - a_2)) (w64 (b_2 - y128.1))) then ((self y128.2.2 a_2 y128.1 limit2).bind fun y132 =>
            r0 (w64 (y128.1 + 1)) b_2 limit2 (leI v129 (w64 (y128.1 - a_2))) y128.2.1 y132)
          else (self y128.2.2 (w64 (y128.1 + 1)) b_2 limit2).bind fun y134 =>
          r0 a_2 y128.1 limit2 (leI v129 (w64 (b_2 - y128.1))) y128.2.1 y134)
        else (slices_partitionOrdered_byte' N y125.2 a_2 b_2 v124).bind fun y135 =>
        let v136 : Int := (w64 (Int.tdiv (w64 (b_2 - a_2)) 8))
        bif (ltI (w64 (y135.1 - a_2)) (w64 (b_2 - y135.1))) then ((self y135.2.2 a_2 y135.1 limit2).bind fun y139 =>
          r0 (w64 (y135.1 + 1)) b_2 limit2 (leI v136 (w64 (y135.1 - a_2))) y135.2.1 y139)
        else (self y135.2.2 (w64 (y135.1 + 1)) b_2 limit2).bind fun y141 =>
        r0 a_2 y135.1 limit2 (leI v136 (w64 (b_2 - y135.1))) y135.2.1 y141)
      else bif (ltI 0 a_2) then (chk ((leI 0 (w64 (a_2 - 1))) && (ltI (w64 (a_2 - 1)) (y123.length : Int))) <|
        chk ((leI 0 v124) && (ltI v124 (y123.length : Int))) <|
        (cmp_Less_byte N (gD (0 : Int) y123 (w64 (a_2 - 1))) (gD (0 : Int) y123 v124)).bind fun y142 =>
        bif (!y142) then ((slices_partitionEqualOrdered_byte' N y123 a_2 b_2 v124).bind fun y143 =>
          r0 y143.1 b_2 limit2 wasBalanced wasPartitioned y143.2)
        else (slices_partitionOrdered_byte' N y123 a_2 b_2 v124).bind fun y144 =>
        let v145 : Int := (w64 (Int.tdiv (w64 (b_2 - a_2)) 8))
        bif (ltI (w64 (y144.1 - a_2)) (w64 (b_2 - y144.1))) then ((self y144.2.2 a_2 y144.1 limit2).bind fun y148 =>
          r0 (w64 (y144.1 + 1)) b_2 limit2 (leI v145 (w64 (y144.1 - a_2))) y144.2.1 y148)
        else (self y144.2.2 (w64 (y144.1 + 1)) b_2 limit2).bind fun y150 =>
        r0 a_2 y144.1 limit2 (leI v145 (w64 (b_2 - y144.1))) y144.2.1 y150)
      else (slices_partitionOrdered_byte' N y123 a_2 b_2 v124).bind fun y151 =>
      let v152 : Int := (w64 (Int.tdiv (w64 (b_2 - a_2)) 8))
      bif (ltI (w64 (y151.1 - a_2)) (w64 (b_2 - y151.1))) then ((self y151.2.2 a_2 y151.1 limit2).bind fun y155 =>
        r0 (w64 (y151.1 + 1)) b_2 limit2 (leI v152 (w64 (y151.1 - a_2))) y151.2.1 y155)
      else (self y151.2.2 (w64 (y151.1 + 1)) b_2 limit2).bind fun y157 =>
      r0 a_2 y151.1 limit2 (leI v152 (w64 (b_2 - y151.1))) y151.2.1 y157)
    else bif (ltI 0 a_2) then (chk ((leI 0 (w64 (a_2 - 1))) && (ltI (w64 (a_2 - 1)) (y123.length : Int))) <|
      chk ((leI 0 v124) && (ltI v124 (y123.length : Int))) <|
      (cmp_Less_byte N (gD (0 : Int) y123 (w64 (a_2 - 1))) (gD (0 : Int) y123 v124)).bind fun y158 =>
      bif (!y158) then ((slices_partitionEqualOrdered_byte' N y123 a_2 b_2 v124).bind fun y159 =>
        r0 y159.1 b_2 limit2 wasBalanced wasPartitioned y159.2)
      else (slices_partitionOrdered_byte' N y123 a_2 b_2 v124).bind fun y160 =>
      let v161 : Int := (w64 (Int.tdiv (w64 (b_2 - a_2)) 8))
      bif (ltI (w64 (y160.1 - a_2)) (w64 (b_2 - y160.1))) then ((self y160.2.2 a_2 y160.1 limit2).bind fun y164 =>
        r0 (w64 (y160.1 + 1)) b_2 limit2 (leI v161 (w64 (y160.1 - a_2))) y160.2.1 y164)
      else (self y160.2.2 (w64 (y160.1 + 1)) b_2 limit2).bind fun y166 =>
      r0 a_2 y160.1 limit2 (leI v161 (w64 (b_2 - y160.1))) y160.2.1 y166)
    else (slices_partitionOrdered_byte' N y123 a_2 b_2 v124).bind fun y167 =>
    let v168 : Int := (w64 (Int.tdiv (w64 (b_2 - a_2)) 8))
    bif (ltI (w64 (y167.1 - a_2)) (w64 (b_2 - y167.1))) then ((self y167.2.2 a_2 y167.1 limit2).bind fun y171 =>
      r0 (w64 (y167.1 + 1)) b_2 limit2 (leI v168 (w64 (y167.1 - a_2))) y167.2.1 y171)
    else (self y167.2.2 (w64 (y167.1 + 1)) b_2 limit2).bind fun y173 =>
    r0 a_2 y167.1 limit2 (leI v168 (w64 (b_2 - y167.1))) y167.2.1 y173)
  else bif wasBalanced then (bif wasPartitioned then (bif (eqI y122.2 1) then ((slices_partialInsertionSortOrdered_byte' N data2 a_2 b_2).bind fun y174 =>
        bif y174.1 then some y174.2
        else bif (ltI 0 a_2) then (chk ((leI 0 (w64 (a_2 - 1))) && (ltI (w64 (a_2 - 1)) (y174.2.length : Int))) <|
          chk ((leI 0 y122.1) && (ltI y122.1 (y174.2.length : Int))) <|
          (cmp_Less_byte N (gD (0 : Int) y174.2 (w64 (a_2 - 1))) (gD (0 : Int) y174.2 y122.1)).bind fun y175 =>
          bif (!y175) then ((slices_partitionEqualOrdered_byte' N y174.2 a_2 b_2 y122.1).bind fun y176 =>
            r0 y176.1 b_2 limit2 wasBalanced wasPartitioned y176.2)
          else (slices_partitionOrdered_byte' N y174.2 a_2 b_2 y122.1).bind fun y177 =>
          let v178 : Int := (w64 (Int.tdiv (w64 (b_2 - a_2)) 8))
          bif (ltI (w64 (y177.1 - a_2)) (w64 (b_2 - y177.1))) then ((self y177.2.2 a_2 y177.1 limit2).bind fun y181 =>
            r0 (w64 (y177.1 + 1)) b_2 limit2 (leI v178 (w64 (y177.1 - a_2))) y177.2.1 y181)
          else (self y177.2.2 (w64 (y177.1 + 1)) b_2 limit2).bind fun y183 =>
          r0 a_2 y177.1 limit2 (leI v178 (w64 (b_2 - y177.1))) y177.2.1 y183)
        else (slices_partitionOrdered_byte' N y174.2 a_2 b_2 y122.1).bind fun y184 =>
        let v185 : Int := (w64 (Int.tdiv (w64 (b_2 - a_2)) 8))
        bif (ltI (w64 (y184.1 - a_2)) (w64 (b_2 - y184.1))) then ((self y184.2.2 a_2 y184.1 limit2).bind fun y188 =>
          r0 (w64 (y184.1 + 1)) b_2 limit2 (leI v185 (w64 (y184.1 - a_2))) y184.2.1 y188)
        else (self y184.2.2 (w64 (y184.1 + 1)) b_2 limit2).bind fun y190 =>
        r0 a_2 y184.1 limit2 (leI v185 (w64 (b_2 - y184.1))) y184.2.1 y190)
      else bif (ltI 0 a_2) then (chk ((leI 0 (w64 (a_2 - 1))) && (ltI (w64 (a_2 - 1)) (data2.length : Int))) <|
        chk ((leI 0 y122.1) && (ltI y122.1 (data2.length : Int))) <|
        (cmp_Less_byte N (gD (0 : Int) data2 (w64 (a_2 - 1))) (gD (0 : Int) data2 y122.1)).bind fun y191 =>
        bif (!y191) then ((slices_partitionEqualOrdered_byte' N data2 a_2 b_2 y122.1).bind fun y192 =>
          r0 y192.1 b_2 limit2 wasBalanced wasPartitioned y192.2)
        else (slices_partitionOrdered_byte' N data2 a_2 b_2 y122.1).bind fun y193 =>
        let v194 : Int := (w64 (Int.tdiv (w64 (b_2 - a_2)) 8))
        bif (ltI (w64 (y193.1 - a_2)) (w64 (b_2 - y193.1))) then ((self y193.2.2 a_2 y193.1 limit2).bind fun y197 =>
          r0 (w64 (y193.1 + 1)) b_2 limit2 (leI v194 (w64 (y193.1 - a_2))) y193.2.1 y197)
        else (self y193.2.2 (w64 (y193.1 + 1)) b_2 limit2).bind fun y199 =>
        r0 a_2 y193.1 limit2 (leI v194 (w64 (b_2 - y193.1))) y193.2.1 y199)
      else (slices_partitionOrdered_byte' N data2 a_2 b_2 y122.1).bind fun y200 =>
      let v201 : Int := (w64 (Int.tdiv (w64 (b_2 - a_2)) 8))
      bif (ltI (w64 (y200.1 - a_2)) (w64 (b_2 - y200.1))) then ((self y200.2.2 a_2 y200.1 limit2).bind fun y204 =>
        r0 (w64 (y200.1 + 1)) b_2 limit2 (leI v201 (w64 (y200.1 - a_2))) y200.2.1 y204)
      else (self y200.2.2 (w64 (y200.1 + 1)) b_2 limit2).bind fun y206 =>
      r0 a_2 y200.1 limit2 (leI v201 (w64 (b_2 - y200.1))) y200.2.1 y206)
    else bif (ltI 0 a_2) then (chk ((leI 0 (w64 (a_2 - 1))) && (ltI (w64 (a_2 - 1)) (data2.length : Int))) <|
      chk ((leI 0 y122.1) && (ltI y122.1 (data2.length : Int))) <|
      (cmp_Less_byte N (gD (0 : Int) data2 (w64 (a_2 - 1))) (gD (0 : Int) data2 y122.1)).bind fun y207 =>
      bif (!y207) then ((slices_partitionEqualOrdered_byte' N data2 a_2 b_2 y122.1).bind fun y208 =>
        r0 y208.1 b_2 limit2 wasBalanced wasPartitioned y208.2)
      else (slices_partitionOrdered_byte' N data2 a_2 b_2 y122.1).bind fun y209 =>
      let v210 : Int := (w64 (Int.tdiv (w64 (b_2 - a_2)) 8))
      bif (ltI (w64 (y209.1 - a_2)) (w64 (b_2 - y209.1))) then ((self y209.2.2 a_2 y209.1 limit2).bind fun y213 =>
        r0 (w64 (y209.1 + 1)) b_2 limit2 (leI v210 (w64 (y209.1 - a_2))) y209.2.1 y213)
      else (self y209.2.2 (w64 (y209.1 + 1)) b_2 limit2).bind fun y215 =>
      r0 a_2 y209.1 limit2 (leI v210 (w64 (b_2 - y209.1))) y209.2.1 y215)
    else (slices_partitionOrdered_byte' N data2 a_2 b_2 y122.1).bind fun y216 =>
    let v217 : Int := (w64 (Int.tdiv (w64 (b_2 - a_2)) 8))
    bif (ltI (w64 (y216.1 - a_2)) (w64 (b_2 - y216.1))) then ((self y216.2.2 a_2 y216.1 limit2).bind fun y220 =>
      r0 (w64 (y216.1 + 1)) b_2 limit2 (leI v217 (w64 (y216.1 - a_2))) y216.2.1 y220)
    else (self y216.2.2 (w64 (y216.1 + 1)) b_2 limit2).bind fun y222 =>
    r0 a_2 y216.1 limit2 (leI v217 (w64 (b_2 - y216.1))) y216.2.1 y222)
  else bif (ltI 0 a_2) then (chk ((leI 0 (w64 (a_2 - 1))) && (ltI (w64 (a_2 - 1)) (data2.length : Int))) <|
    chk ((leI 0 y122.1) && (ltI y122.1 (data2.length : Int))) <|
    (cmp_Less_byte N (gD (0 : Int) data2 (w64 (a_2 - 1))) (gD (0 : Int) data2 y122.1)).bind fun y223 =>
    bif (!y223) then ((slices_partitionEqualOrdered_byte' N data2 a_2 b_2 y122.1).bind fun y224 =>
      r0 y224.1 b_2 limit2 wasBalanced wasPartitioned y224.2)
    else (slices_partitionOrdered_byte' N data2 a_2 b_2 y122.1).bind fun y225 =>
    let v226 : Int := (w64 (Int.tdiv (w64 (b_2 - a_2)) 8))
    bif (ltI (w64 (y225.1 - a_2)) (w64 (b_2 - y225.1))) then ((self y225.2.2 a_2 y225.1 limit2).bind fun y229 =>
      r0 (w64 (y225.1 + 1)) b_2 limit2 (leI v226 (w64 (y225.1 - a_2))) y225.2.1 y229)
    else (self y225.2.2 (w64 (y225.1 + 1)) b_2 limit2).bind fun y231 =>
    r0 a_2 y225.1 limit2 (leI v226 (w64 (b_2 - y225.1))) y225.2.1 y231)
  else (slices_partitionOrdered_byte' N data2 a_2 b_2 y122.1).bind fun y232 =>
  let v233 : Int := (w64 (Int.tdiv (w64 (b_2 - a_2)) 8))
  bif (ltI (w64 (y232.1 - a_2)) (w64 (b_2 - y232.1))) then ((self y232.2.2 a_2 y232.1 limit2).bind fun y236 =>
    r0 (w64 (y232.1 + 1)) b_2 limit2 (leI v233 (w64 (y232.1 - a_2))) y232.2.1 y236)
  else (self y232.2.2 (w64 (y232.1 + 1)) b_2 limit2).bind fun y238 =>
  r0 a_2 y232.1 limit2 (leI v233 (w64 (b_2 - y232.1))) y232.2.1 y238
def slices_pdqsortOrdered_byte'.L (N : Nat) (self : (List Int) → Int → Int → Int → Option (List Int)) (data : (List Int)) (a_ : Int) (b_ : Int) (limit : Int) : Nat → (Int → Int → Int → Bool → Bool → (List Int) → Option (List Int))
  | 0 => fun _ _ _ _ _ _ => none
  | n + 1 => fun a_2 b_2 limit2 wasBalanced wasPartitioned data2 => slices_pdqsortOrdered_byte'.s0 N self data a_ b_ limit (slices_pdqsortOrdered_byte'.L N self data a_ b_ limit n) a_2 b_2 limit2 wasBalanced wasPartitioned data2
def slices_pdqsortOrdered_byte'.l0 (N : Nat) (self : (List Int) → Int → Int → Int → Option (List Int)) (data : (List Int)) (a_ : Int) (b_ : Int) (limit : Int) (n : Nat) : Int → Int → Int → Bool → Bool → (List Int) → Option (List Int) := (slices_pdqsortOrdered_byte'.L N self data a_ b_ limit n)
theorem slices_pdqsortOrdered_byte'.l0_s (N : Nat) (self : (List Int) → Int → Int → Int → Option (List Int)) (data : (List Int)) (a_ : Int) (b_ : Int) (limit : Int) (n : Nat) (a_2 : Int) (b_2 : Int) (limit2 : Int) (wasBalanced : Bool) (wasPartitioned : Bool) (data2 : (List Int)) : slices_pdqsortOrdered_byte'.l0 N self data a_ b_ limit (n + 1) a_2 b_2 limit2 wasBalanced wasPartitioned data2 = slices_pdqsortOrdered_byte'.s0 N self data a_ b_ limit (slices_pdqsortOrdered_byte'.l0 N self data a_ b_ limit n) a_2 b_2 limit2 wasBalanced wasPartitioned data2 := rfl
def slices_pdqsortOrdered_byte' : Nat → (List Int) → Int → Int → Int → Option (List Int)
  | 0 => fun _ _ _ _ => none
  | N + 1 => fun data a_ b_ limit => slices_pdqsortOrdered_byte'.e N (slices_pdqsortOrdered_byte' N) (slices_pdqsortOrdered_byte'.l0 N (slices_pdqsortOrdered_byte' N) data a_ b_ limit N) data a_ b_ limit
theorem slices_pdqsortOrdered_byte'_s (N : Nat) (data : (List Int)) (a_ : Int) (b_ : Int) (limit : Int) : slices_pdqsortOrdered_byte' (N + 1) data a_ b_ limit = slices_pdqsortOrdered_byte'.e N (slices_pdqsortOrdered_byte' N) (slices_pdqsortOrdered_byte'.l0 N (slices_pdqsortOrdered_byte' N) data a_ b_ limit N) data a_ b_ limit := rfl
/-! ### f20: slices.Sort[[]byte,byte] -/
def slices_Sort_byte_byte'.e (N : Nat) (x_ : (List Int)) : Option (List Int) :=
  (math_bits_Len N (IntKind.wrap .u64 (x_.length : Int))).bind fun y2 =>
  (slices_pdqsortOrdered_byte' N x_ 0 (x_.length : Int) y2).bind fun y3 =>
  some y3
def slices_Sort_byte_byte' (N : Nat) (x_ : (List Int)) : Option (List Int) := slices_Sort_byte_byte'.e N x_
/-! ### f7: gamehall/gamehallkeep1.NimsumSplits -/
def gamehallkeep1_NimsumSplits.e (N : Nat) (r0 : Int → Int → Int → (List Int) → Option Bool) (l_ : (List Int)) : Option Bool :=
  (gamehallkeep1_summed N).bind fun y1 =>
  bif (!y1) then some false
  else let v2 : Int := (bif (ltI 3 (l_.length : Int)) then 3 else (l_.length : Int))
  chk (true && ((leI 0 v2) && (leI v2 (l_.length : Int)))) <|
  (slices_Clone_byte_byte N ((l_.take v2.toNat).drop (0 : Int).toNat)).bind fun y3 =>
  r0 0 (y3.length : Int) 0 y3
def gamehallkeep1_NimsumSplits.s0 (N : Nat) (l_ : (List Int)) (r0 : Int → Int → Int → (List Int) → Option Bool) (want : Int) (t18_ : Int) (t19_ : Int) (l_2 : (List Int)) : Option Bool :=
  bif (ltI t19_ t18_) then (chk ((leI 0 t19_) && (ltI t19_ (l_2.length : Int))) <|
    let v4 : Int := (Int.tmod (gD (0 : Int) l_2 t19_) 7)
    chk ((leI 0 t19_) && (ltI t19_ (l_2.length : Int))) <|
    chk ((leI 0 t19_) && ((leI t19_ (w64 (t19_ + 1))) && (leI (w64 (t19_ + 1)) ((l_2.set t19_.toNat v4).length : Int)))) <|
    (nimsum_Value_string N () (strOfNums (((l_2.set t19_.toNat v4).take (w64 (t19_ + 1)).toNat).drop t19_.toNat)) 1000).bind fun y6 =>
    bif (!(eqI y6.2 0)) then some false
    else (nimsum_Sum N [want, y6.1]).bind fun y7 =>
    r0 y7 t18_ (w64 (t19_ + 1)) (l_2.set t19_.toNat v4))
  else (slices_Sort_byte_byte' N l_2).bind fun y8 =>
  (nimsum_Value_string N () (strOfNums y8) 20000).bind fun y9 =>
  bif (eqI y9.2 0) then (some (eqI y9.1 want))
  else some false
def gamehallkeep1_NimsumSplits.L (N : Nat) (l_ : (List Int)) : Nat → (Int → Int → Int → (List Int) → Option Bool)
  | 0 => fun _ _ _ _ => none
  | n + 1 => fun want t18_ t19_ l_2 => gamehallkeep1_NimsumSplits.s0 N l_ (gamehallkeep1_NimsumSplits.L N l_ n) want t18_ t19_ l_2
def gamehallkeep1_NimsumSplits.l0 (N : Nat) (l_ : (List Int)) (n : Nat) : Int → Int → Int → (List Int) → Option Bool := (gamehallkeep1_NimsumSplits.L N l_ n)
theorem gamehallkeep1_NimsumSplits.l0_s (N : Nat) (l_ : (List Int)) (n : Nat) (want : Int) (t18_ : Int) (t19_ : Int) (l_2 : (List Int)) : gamehallkeep1_NimsumSplits.l0 N l_ (n + 1) want t18_ t19_ l_2 = gamehallkeep1_NimsumSplits.s0 N l_ (gamehallkeep1_NimsumSplits.l0 N l_ n) want t18_ t19_ l_2 := rfl
def gamehallkeep1_NimsumSplits (N : Nat) (l_ : (List Int)) : Option Bool := gamehallkeep1_NimsumSplits.e N (gamehallkeep1_NimsumSplits.l0 N l_ N) l_
end Go.Proofs.Ytbnpbnghpbgjiaa.Am
