/- PRINTED by gen.py: what the functions compute, as plain Lean functions with fuel. -/
import Derived.Test.YtbnpbnghpbgjiaaAm14
set_option linter.unusedVariables false
set_option linter.unusedSimpArgs false
namespace Go.Proofs.Ytbnpbnghpbgjiaa.Am
open Go
/-! ### f13: (gamehall/nimsum.Heap).Next -/
def nimsum_Heap_Next.e (N : Nat) (r0 : Int → (List Int) → Option (List Int)) (h_ : Int) (n_ : Int) : Option (List Int) :=
  bif (ltI 20000 n_) then (some [])
  else r0 1 []
def nimsum_Heap_Next.s0 (N : Nat) (h_ : Int) (n_ : Int) (r0 : Int → (List Int) → Option (List Int)) (k_ : Int) (out : (List Int)) : Option (List Int) :=
  bif (leI k_ n_) then (bif (leI h_ 0) then (chk (capOk 8 (out.length + ([(w64 (n_ - k_))] : List Int).length)) <|
      r0 (w64 (k_ + 1)) (out ++ [(w64 (n_ - k_))]))
    else bif (leI k_ h_) then (chk (capOk 8 (out.length + ([(w64 (n_ - k_))] : List Int).length)) <|
      r0 (w64 (k_ + 1)) (out ++ [(w64 (n_ - k_))]))
    else some out)
  else some out
def nimsum_Heap_Next.L (N : Nat) (h_ : Int) (n_ : Int) : Nat → (Int → (List Int) → Option (List Int))
  | 0 => fun _ _ => none
  | n + 1 => fun k_ out => nimsum_Heap_Next.s0 N h_ n_ (nimsum_Heap_Next.L N h_ n_ n) k_ out
def nimsum_Heap_Next.l0 (N : Nat) (h_ : Int) (n_ : Int) (n : Nat) : Int → (List Int) → Option (List Int) := (nimsum_Heap_Next.L N h_ n_ n)
theorem nimsum_Heap_Next.l0_s (N : Nat) (h_ : Int) (n_ : Int) (n : Nat) (k_ : Int) (out : (List Int)) : nimsum_Heap_Next.l0 N h_ n_ (n + 1) k_ out = nimsum_Heap_Next.s0 N h_ n_ (nimsum_Heap_Next.l0 N h_ n_ n) k_ out := rfl
def nimsum_Heap_Next (N : Nat) (h_ : Int) (n_ : Int) : Option (List Int) := nimsum_Heap_Next.e N (nimsum_Heap_Next.l0 N h_ n_ N) h_ n_
/-! ### f22: (*gamehall/nimsum.solver[int]).value -/
def nimsum_solver_int_value.e (N : Nat) (self : (Int × ((List (Int × Int)) × ((List (Int × Int)) × (Int × Int)))) → Int → Option (Int × (Int × ((List (Int × Int)) × ((List (Int × Int)) × (Int × Int)))))) (r0 : Int → Int → Int → Int → Int → (List Int) → (List Bool) → (List (Int × Int)) → (List (Int × Int)) → Option (Int × (Int × ((List (Int × Int)) × ((List (Int × Int)) × (Int × Int)))))) (r1 : Int → Int → Int → Int → Int → Int → (List Int) → (List Bool) → (List (Int × Int)) → (List (Int × Int)) → Option (Int × (Int × ((List (Int × Int)) × ((List (Int × Int)) × (Int × Int)))))) (r2 : Int → Int → Int → Int → (List Bool) → (List (Int × Int)) → (List (Int × Int)) → Option (Int × (Int × ((List (Int × Int)) × ((List (Int × Int)) × (Int × Int)))))) (x_ : (Int × ((List (Int × Int)) × ((List (Int × Int)) × (Int × Int))))) (s_ : Int) : Option (Int × (Int × ((List (Int × Int)) × ((List (Int × Int)) × (Int × Int))))) :=
  chk (Lit.int .i64 s_).wf <|
  bif (mget eqDI x_.2.1 s_).isSome then (some (((mget eqDI x_.2.1 s_).getD (0 : Int)), x_))
  else bif (!(eqI x_.2.2.2.2 0)) then (some (((mget eqDI x_.2.1 s_).getD (0 : Int)), x_))
  else chk (Lit.int .i64 s_).wf <|
  bif (eqI ((mget eqDI x_.2.2.1 s_).getD (0 : Int)) 1) then (some (0, (x_.1, (x_.2.1, (x_.2.2.1, (x_.2.2.2.1, 19))))))
  else bif (ltI (w64 (x_.2.2.2.1 - 1)) 0) then (some (0, (x_.1, (x_.2.1, (x_.2.2.1, ((w64 (x_.2.2.2.1 - 1)), 17))))))
  else chk (Lit.int .i64 s_).wf <|
  (nimsum_Heap_Next N x_.1 s_).bind fun y4 =>
  r0 (y4.length : Int) 0 x_.1 (w64 (x_.2.2.2.1 - 1)) x_.2.2.2.2 y4 [] x_.2.1 (mput eqDI x_.2.2.1 s_ 1)
def nimsum_solver_int_value.s0 (N : Nat) (self : (Int × ((List (Int × Int)) × ((List (Int × Int)) × (Int × Int)))) → Int → Option (Int × (Int × ((List (Int × Int)) × ((List (Int × Int)) × (Int × Int)))))) (x_ : (Int × ((List (Int × Int)) × ((List (Int × Int)) × (Int × Int))))) (s_ : Int) (r0 : Int → Int → Int → Int → Int → (List Int) → (List Bool) → (List (Int × Int)) → (List (Int × Int)) → Option (Int × (Int × ((List (Int × Int)) × ((List (Int × Int)) × (Int × Int)))))) (r1 : Int → Int → Int → Int → Int → Int → (List Int) → (List Bool) → (List (Int × Int)) → (List (Int × Int)) → Option (Int × (Int × ((List (Int × Int)) × ((List (Int × Int)) × (Int × Int)))))) (r2 : Int → Int → Int → Int → (List Bool) → (List (Int × Int)) → (List (Int × Int)) → Option (Int × (Int × ((List (Int × Int)) × ((List (Int × Int)) × (Int × Int)))))) (t66_ : Int) (t67_ : Int) (x_2 : Int) (x_3 : Int) (x_4 : Int) (m3_ : (List Int)) (met : (List Bool)) (m5_ : (List (Int × Int))) (m6_ : (List (Int × Int))) : Option (Int × (Int × ((List (Int × Int)) × ((List (Int × Int)) × (Int × Int))))) :=
  bif (ltI t67_ t66_) then (chk ((leI 0 t67_) && (ltI t67_ (m3_.length : Int))) <|
    (self (x_2, (m5_, (m6_, (x_3, x_4)))) (gD (0 : Int) m3_ t67_)).bind fun y5 =>
    bif (!(eqI y5.2.2.2.2.2 0)) then (some (0, y5.2))
    else r1 y5.1 t66_ t67_ y5.2.1 y5.2.2.2.2.1 y5.2.2.2.2.2 m3_ met y5.2.2.1 y5.2.2.2.1)
  else chk (Lit.int .i64 s_).wf <|
  r2 0 x_2 x_3 x_4 met m5_ (mput eqDI m6_ s_ 0)
def nimsum_solver_int_value.s1 (N : Nat) (self : (Int × ((List (Int × Int)) × ((List (Int × Int)) × (Int × Int)))) → Int → Option (Int × (Int × ((List (Int × Int)) × ((List (Int × Int)) × (Int × Int)))))) (x_ : (Int × ((List (Int × Int)) × ((List (Int × Int)) × (Int × Int))))) (s_ : Int) (r0 : Int → Int → Int → Int → Int → (List Int) → (List Bool) → (List (Int × Int)) → (List (Int × Int)) → Option (Int × (Int × ((List (Int × Int)) × ((List (Int × Int)) × (Int × Int)))))) (r1 : Int → Int → Int → Int → Int → Int → (List Int) → (List Bool) → (List (Int × Int)) → (List (Int × Int)) → Option (Int × (Int × ((List (Int × Int)) × ((List (Int × Int)) × (Int × Int)))))) (r2 : Int → Int → Int → Int → (List Bool) → (List (Int × Int)) → (List (Int × Int)) → Option (Int × (Int × ((List (Int × Int)) × ((List (Int × Int)) × (Int × Int)))))) (n_ : Int) (t66_ : Int) (t67_ : Int) (x_2 : Int) (x_3 : Int) (x_4 : Int) (m3_ : (List Int)) (met : (List Bool)) (m7_ : (List (Int × Int))) (m8_ : (List (Int × Int))) : Option (Int × (Int × ((List (Int × Int)) × ((List (Int × Int)) × (Int × Int))))) :=
  bif (leI (met.length : Int) n_) then (chk (capOk 1 (met.length + ([false] : List Bool).length)) <|
    r1 n_ t66_ t67_ x_2 x_3 x_4 m3_ (met ++ [false]) m7_ m8_)
  else chk ((leI 0 n_) && (ltI n_ (met.length : Int))) <|
  r0 t66_ (w64 (t67_ + 1)) x_2 x_3 x_4 m3_ (met.set n_.toNat true) m7_ m8_
def nimsum_solver_int_value.s2 (N : Nat) (self : (Int × ((List (Int × Int)) × ((List (Int × Int)) × (Int × Int)))) → Int → Option (Int × (Int × ((List (Int × Int)) × ((List (Int × Int)) × (Int × Int)))))) (x_ : (Int × ((List (Int × Int)) × ((List (Int × Int)) × (Int × Int))))) (s_ : Int) (r0 : Int → Int → Int → Int → Int → (List Int) → (List Bool) → (List (Int × Int)) → (List (Int × Int)) → Option (Int × (Int × ((List (Int × Int)) × ((List (Int × Int)) × (Int × Int)))))) (r1 : Int → Int → Int → Int → Int → Int → (List Int) → (List Bool) → (List (Int × Int)) → (List (Int × Int)) → Option (Int × (Int × ((List (Int × Int)) × ((List (Int × Int)) × (Int × Int)))))) (r2 : Int → Int → Int → Int → (List Bool) → (List (Int × Int)) → (List (Int × Int)) → Option (Int × (Int × ((List (Int × Int)) × ((List (Int × Int)) × (Int × Int)))))) (out : Int) (x_2 : Int) (x_3 : Int) (x_4 : Int) (met : (List Bool)) (m5_ : (List (Int × Int))) (m6_ : (List (Int × Int))) : Option (Int × (Int × ((List (Int × Int)) × ((List (Int × Int)) × (Int × Int))))) :=
  bif (ltI out (met.length : Int)) then (chk ((leI 0 out) && (ltI out (met.length : Int))) <|
    bif (gD false met out) then (r2 (w64 (out + 1)) x_2 x_3 x_4 met m5_ m6_)
    else chk (Lit.int .i64 s_).wf <|
    some (out, (x_2, ((mput eqDI m5_ s_ out), (m6_, (x_3, x_4))))))
  else chk (Lit.int .i64 s_).wf <|
  some (out, (x_2, ((mput eqDI m5_ s_ out), (m6_, (x_3, x_4)))))
def nimsum_solver_int_value.L (N : Nat) (self : (Int × ((List (Int × Int)) × ((List (Int × Int)) × (Int × Int)))) → Int → Option (Int × (Int × ((List (Int × Int)) × ((List (Int × Int)) × (Int × Int)))))) (x_ : (Int × ((List (Int × Int)) × ((List (Int × Int)) × (Int × Int))))) (s_ : Int) : Nat → (Int → Int → Int → Int → Int → (List Int) → (List Bool) → (List (Int × Int)) → (List (Int × Int)) → Option (Int × (Int × ((List (Int × Int)) × ((List (Int × Int)) × (Int × Int)))))) × (Int → Int → Int → Int → Int → Int → (List Int) → (List Bool) → (List (Int × Int)) → (List (Int × Int)) → Option (Int × (Int × ((List (Int × Int)) × ((List (Int × Int)) × (Int × Int)))))) × (Int → Int → Int → Int → (List Bool) → (List (Int × Int)) → (List (Int × Int)) → Option (Int × (Int × ((List (Int × Int)) × ((List (Int × Int)) × (Int × Int))))))
  | 0 => (fun _ _ _ _ _ _ _ _ _ => none, fun _ _ _ _ _ _ _ _ _ _ => none, fun _ _ _ _ _ _ _ => none)
  | n + 1 => (fun t66_ t67_ x_2 x_3 x_4 m3_ met m5_ m6_ => nimsum_solver_int_value.s0 N self x_ s_ (nimsum_solver_int_value.L N self x_ s_ n).1 (nimsum_solver_int_value.L N self x_ s_ n).2.1 (nimsum_solver_int_value.L N self x_ s_ n).2.2 t66_ t67_ x_2 x_3 x_4 m3_ met m5_ m6_, fun n_ t66_ t67_ x_2 x_3 x_4 m3_ met m7_ m8_ => nimsum_solver_int_value.s1 N self x_ s_ (nimsum_solver_int_value.L N self x_ s_ n).1 (nimsum_solver_int_value.L N self x_ s_ n).2.1 (nimsum_solver_int_value.L N self x_ s_ n).2.2 n_ t66_ t67_ x_2 x_3 x_4 m3_ met m7_ m8_, fun out x_2 x_3 x_4 met m5_ m6_ => nimsum_solver_int_value.s2 N self x_ s_ (nimsum_solver_int_value.L N self x_ s_ n).1 (nimsum_solver_int_value.L N self x_ s_ n).2.1 (nimsum_solver_int_value.L N self x_ s_ n).2.2 out x_2 x_3 x_4 met m5_ m6_)
def nimsum_solver_int_value.l0 (N : Nat) (self : (Int × ((List (Int × Int)) × ((List (Int × Int)) × (Int × Int)))) → Int → Option (Int × (Int × ((List (Int × Int)) × ((List (Int × Int)) × (Int × Int)))))) (x_ : (Int × ((List (Int × Int)) × ((List (Int × Int)) × (Int × Int))))) (s_ : Int) (n : Nat) : Int → Int → Int → Int → Int → (List Int) → (List Bool) → (List (Int × Int)) → (List (Int × Int)) → Option (Int × (Int × ((List (Int × Int)) × ((List (Int × Int)) × (Int × Int))))) := (nimsum_solver_int_value.L N self x_ s_ n).1
def nimsum_solver_int_value.l1 (N : Nat) (self : (Int × ((List (Int × Int)) × ((List (Int × Int)) × (Int × Int)))) → Int → Option (Int × (Int × ((List (Int × Int)) × ((List (Int × Int)) × (Int × Int)))))) (x_ : (Int × ((List (Int × Int)) × ((List (Int × Int)) × (Int × Int))))) (s_ : Int) (n : Nat) : Int → Int → Int → Int → Int → Int → (List Int) → (List Bool) → (List (Int × Int)) → (List (Int × Int)) → Option (Int × (Int × ((List (Int × Int)) × ((List (Int × Int)) × (Int × Int))))) := (nimsum_solver_int_value.L N self x_ s_ n).2.1
def nimsum_solver_int_value.l2 (N : Nat) (self : (Int × ((List (Int × Int)) × ((List (Int × Int)) × (Int × Int)))) → Int → Option (Int × (Int × ((List (Int × Int)) × ((List (Int × Int)) × (Int × Int)))))) (x_ : (Int × ((List (Int × Int)) × ((List (Int × Int)) × (Int × Int))))) (s_ : Int) (n : Nat) : Int → Int → Int → Int → (List Bool) → (List (Int × Int)) → (List (Int × Int)) → Option (Int × (Int × ((List (Int × Int)) × ((List (Int × Int)) × (Int × Int))))) := (nimsum_solver_int_value.L N self x_ s_ n).2.2
theorem nimsum_solver_int_value.l0_s (N : Nat) (self : (Int × ((List (Int × Int)) × ((List (Int × Int)) × (Int × Int)))) → Int → Option (Int × (Int × ((List (Int × Int)) × ((List (Int × Int)) × (Int × Int)))))) (x_ : (Int × ((List (Int × Int)) × ((List (Int × Int)) × (Int × Int))))) (s_ : Int) (n : Nat) (t66_ : Int) (t67_ : Int) (x_2 : Int) (x_3 : Int) (x_4 : Int) (m3_ : (List Int)) (met : (List Bool)) (m5_ : (List (Int × Int))) (m6_ : (List (Int × Int))) : nimsum_solver_int_value.l0 N self x_ s_ (n + 1) t66_ t67_ x_2 x_3 x_4 m3_ met m5_ m6_ = nimsum_solver_int_value.s0 N self x_ s_ (nimsum_solver_int_value.l0 N self x_ s_ n) (nimsum_solver_int_value.l1 N self x_ s_ n) (nimsum_solver_int_value.l2 N self x_ s_ n) t66_ t67_ x_2 x_3 x_4 m3_ met m5_ m6_ := rfl
theorem nimsum_solver_int_value.l1_s (N : Nat) (self : (Int × ((List (Int × Int)) × ((List (Int × Int)) × (Int × Int)))) → Int → Option (Int × (Int × ((List (Int × Int)) × ((List (Int × Int)) × (Int × Int)))))) (x_ : (Int × ((List (Int × Int)) × ((List (Int × Int)) × (Int × Int))))) (s_ : Int) (n : Nat) (n_ : Int) (t66_ : Int) (t67_ : Int) (x_2 : Int) (x_3 : Int) (x_4 : Int) (m3_ : (List Int)) (met : (List Bool)) (m7_ : (List (Int × Int))) (m8_ : (List (Int × Int))) : nimsum_solver_int_value.l1 N self x_ s_ (n + 1) n_ t66_ t67_ x_2 x_3 x_4 m3_ met m7_ m8_ = nimsum_solver_int_value.s1 N self x_ s_ (nimsum_solver_int_value.l0 N self x_ s_ n) (nimsum_solver_int_value.l1 N self x_ s_ n) (nimsum_solver_int_value.l2 N self x_ s_ n) n_ t66_ t67_ x_2 x_3 x_4 m3_ met m7_ m8_ := rfl
theorem nimsum_solver_int_value.l2_s (N : Nat) (self : (Int × ((List (Int × Int)) × ((List (Int × Int)) × (Int × Int)))) → Int → Option (Int × (Int × ((List (Int × Int)) × ((List (Int × Int)) × (Int × Int)))))) (x_ : (Int × ((List (Int × Int)) × ((List (Int × Int)) × (Int × Int))))) (s_ : Int) (n : Nat) (out : Int) (x_2 : Int) (x_3 : Int) (x_4 : Int) (met : (List Bool)) (m5_ : (List (Int × Int))) (m6_ : (List (Int × Int))) : nimsum_solver_int_value.l2 N self x_ s_ (n + 1) out x_2 x_3 x_4 met m5_ m6_ = nimsum_solver_int_value.s2 N self x_ s_ (nimsum_solver_int_value.l0 N self x_ s_ n) (nimsum_solver_int_value.l1 N self x_ s_ n) (nimsum_solver_int_value.l2 N self x_ s_ n) out x_2 x_3 x_4 met m5_ m6_ := rfl
def nimsum_solver_int_value : Nat → (Int × ((List (Int × Int)) × ((List (Int × Int)) × (Int × Int)))) → Int → Option (Int × (Int × ((List (Int × Int)) × ((List (Int × Int)) × (Int × Int)))))
  | 0 => fun _ _ => none
  | N + 1 => fun x_ s_ => nimsum_solver_int_value.e N (nimsum_solver_int_value N) (nimsum_solver_int_value.l0 N (nimsum_solver_int_value N) x_ s_ N) (nimsum_solver_int_value.l1 N (nimsum_solver_int_value N) x_ s_ N) (nimsum_solver_int_value.l2 N (nimsum_solver_int_value N) x_ s_ N) x_ s_
theorem nimsum_solver_int_value_s (N : Nat) (x_ : (Int × ((List (Int × Int)) × ((List (Int × Int)) × (Int × Int))))) (s_ : Int) : nimsum_solver_int_value (N + 1) x_ s_ = nimsum_solver_int_value.e N (nimsum_solver_int_value N) (nimsum_solver_int_value.l0 N (nimsum_solver_int_value N) x_ s_ N) (nimsum_solver_int_value.l1 N (nimsum_solver_int_value N) x_ s_ N) (nimsum_solver_int_value.l2 N (nimsum_solver_int_value N) x_ s_ N) x_ s_ := rfl
/-! ### f10: gamehall/nimsum.Value[int] -/
def nimsum_Value_int.e (N : Nat) (g_ : Int) (s_ : Int) (most : Int) : Option (Int × Int) :=
  bif (ltI most 1) then (some (0, 1))
  else bif (ltI 20000 most) then (some (0, 1))
  else (nimsum_solver_int_value N (g_, ([], ([], (most, 0)))) s_).bind fun y1 =>
  bif (!(eqI y1.2.2.2.2.2 0)) then (some (0, y1.2.2.2.2.2))
  else some (y1.1, 0)
def nimsum_Value_int (N : Nat) (g_ : Int) (s_ : Int) (most : Int) : Option (Int × Int) := nimsum_Value_int.e N g_ s_ most
/-! ### f65: gamehall/nimsum.large -/
def nimsum_large.e (N : Nat) (r0 : Int → Int → Option Bool) (s_ : ByteArray) : Option Bool :=
  r0 0 0
def nimsum_large.s0 (N : Nat) (s_ : ByteArray) (r0 : Int → Int → Option Bool) (n_ : Int) (t7_ : Int) : Option Bool :=
  bif (ltI t7_ (s_.size : Int)) then (chk ((leI 0 t7_) && ltI t7_ (s_.size : Int)) <|
    r0 (w64 (n_ + (w64 (bt s_ t7_)))) (w64 (t7_ + 1)))
  else bif (ltI 64 (s_.size : Int)) then some true
  else some (ltI 64 n_)
def nimsum_large.L (N : Nat) (s_ : ByteArray) : Nat → (Int → Int → Option Bool)
  | 0 => fun _ _ => none
  | n + 1 => fun n_ t7_ => nimsum_large.s0 N s_ (nimsum_large.L N s_ n) n_ t7_
def nimsum_large.l0 (N : Nat) (s_ : ByteArray) (n : Nat) : Int → Int → Option Bool := (nimsum_large.L N s_ n)
theorem nimsum_large.l0_s (N : Nat) (s_ : ByteArray) (n : Nat) (n_ : Int) (t7_ : Int) : nimsum_large.l0 N s_ (n + 1) n_ t7_ = nimsum_large.s0 N s_ (nimsum_large.l0 N s_ n) n_ t7_ := rfl
def nimsum_large (N : Nat) (s_ : ByteArray) : Option Bool := nimsum_large.e N (nimsum_large.l0 N s_ N) s_
/-! ### f66: gamehall/nimsum.sorted -/
def nimsum_sorted.e (N : Nat) (r0 : ByteArray → Int → Option ByteArray) (r1 : ByteArray → Int → Int → Int → Option ByteArray) (s_ : ByteArray) (a_ : Int) (b_ : Int) : Option ByteArray :=
  r0 s_ 0
def nimsum_sorted.s0 (N : Nat) (s_ : ByteArray) (a_ : Int) (b_ : Int) (r0 : ByteArray → Int → Option ByteArray) (r1 : ByteArray → Int → Int → Int → Option ByteArray) (s_2 : ByteArray) (t13_ : Int) : Option ByteArray :=
  bif (ltI t13_ 2) then (bif (eqI t13_ 0) then r1 s_2 a_ 0 t13_
    else bif (eqI t13_ 1) then r1 s_2 b_ 0 t13_
    else none)
  else some s_2
def nimsum_sorted.s1 (N : Nat) (s_ : ByteArray) (a_ : Int) (b_ : Int) (r0 : ByteArray → Int → Option ByteArray) (r1 : ByteArray → Int → Int → Int → Option ByteArray) (s_2 : ByteArray) (x_ : Int) (i_ : Int) (t13_ : Int) : Option ByteArray :=
  bif (ltI i_ (s_2.size : Int)) then (chk ((leI 0 i_) && ltI i_ (s_2.size : Int)) <|
    bif (ltI (bt s_2 i_) x_) then (r1 s_2 x_ (w64 (i_ + 1)) t13_)
    else chk (true && ((leI 0 i_) && (leI i_ (s_2.size : Int)))) <|
    chk ((leI 0 i_) && ((leI i_ (s_2.size : Int)) && (leI (s_2.size : Int) (s_2.size : Int)))) <|
    chk (decide ((s_2.extract (0 : Int).toNat i_.toNat).size + (strOfNums [x_]).size ≤ 9223372036854775807)) <|
    let v2 : ByteArray := ((s_2.extract (0 : Int).toNat i_.toNat) ++ (strOfNums [x_]))
    chk (decide (v2.size + (s_2.extract i_.toNat (s_2.size : Int).toNat).size ≤ 9223372036854775807)) <|
    r0 (v2 ++ (s_2.extract i_.toNat (s_2.size : Int).toNat)) (w64 (t13_ + 1)))
  else chk (true && ((leI 0 i_) && (leI i_ (s_2.size : Int)))) <|
  chk ((leI 0 i_) && ((leI i_ (s_2.size : Int)) && (leI (s_2.size : Int) (s_2.size : Int)))) <|
  chk (decide ((s_2.extract (0 : Int).toNat i_.toNat).size + (strOfNums [x_]).size ≤ 9223372036854775807)) <|
  let v4 : ByteArray := ((s_2.extract (0 : Int).toNat i_.toNat) ++ (strOfNums [x_]))
  chk (decide (v4.size + (s_2.extract i_.toNat (s_2.size : Int).toNat).size ≤ 9223372036854775807)) <|
  r0 (v4 ++ (s_2.extract i_.toNat (s_2.size : Int).toNat)) (w64 (t13_ + 1))
def nimsum_sorted.L (N : Nat) (s_ : ByteArray) (a_ : Int) (b_ : Int) : Nat → (ByteArray → Int → Option ByteArray) × (ByteArray → Int → Int → Int → Option ByteArray)
  | 0 => (fun _ _ => none, fun _ _ _ _ => none)
  | n + 1 => (fun s_2 t13_ => nimsum_sorted.s0 N s_ a_ b_ (nimsum_sorted.L N s_ a_ b_ n).1 (nimsum_sorted.L N s_ a_ b_ n).2 s_2 t13_, fun s_2 x_ i_ t13_ => nimsum_sorted.s1 N s_ a_ b_ (nimsum_sorted.L N s_ a_ b_ n).1 (nimsum_sorted.L N s_ a_ b_ n).2 s_2 x_ i_ t13_)
def nimsum_sorted.l0 (N : Nat) (s_ : ByteArray) (a_ : Int) (b_ : Int) (n : Nat) : ByteArray → Int → Option ByteArray := (nimsum_sorted.L N s_ a_ b_ n).1
def nimsum_sorted.l1 (N : Nat) (s_ : ByteArray) (a_ : Int) (b_ : Int) (n : Nat) : ByteArray → Int → Int → Int → Option ByteArray := (nimsum_sorted.L N s_ a_ b_ n).2
theorem nimsum_sorted.l0_s (N : Nat) (s_ : ByteArray) (a_ : Int) (b_ : Int) (n : Nat) (s_2 : ByteArray) (t13_ : Int) : nimsum_sorted.l0 N s_ a_ b_ (n + 1) s_2 t13_ = nimsum_sorted.s0 N s_ a_ b_ (nimsum_sorted.l0 N s_ a_ b_ n) (nimsum_sorted.l1 N s_ a_ b_ n) s_2 t13_ := rfl
theorem nimsum_sorted.l1_s (N : Nat) (s_ : ByteArray) (a_ : Int) (b_ : Int) (n : Nat) (s_2 : ByteArray) (x_ : Int) (i_ : Int) (t13_ : Int) : nimsum_sorted.l1 N s_ a_ b_ (n + 1) s_2 x_ i_ t13_ = nimsum_sorted.s1 N s_ a_ b_ (nimsum_sorted.l0 N s_ a_ b_ n) (nimsum_sorted.l1 N s_ a_ b_ n) s_2 x_ i_ t13_ := rfl
def nimsum_sorted (N : Nat) (s_ : ByteArray) (a_ : Int) (b_ : Int) : Option ByteArray := nimsum_sorted.e N (nimsum_sorted.l0 N s_ a_ b_ N) (nimsum_sorted.l1 N s_ a_ b_ N) s_ a_ b_
/-! ### f64: (gamehall/nimsum.Split).Next -/
def nimsum_Split_Next.e (N : Nat) (r0 : Int → (List ByteArray) → Option (List ByteArray)) (r1 : Int → Int → Int → Int → (List ByteArray) → Option (List ByteArray)) (p0_ : Unit) (s_ : ByteArray) : Option (List ByteArray) :=
  (nimsum_large N s_).bind fun y1 =>
  bif y1 then (some [])
  else r0 0 []
def nimsum_Split_Next.s0 (N : Nat) (p0_ : Unit) (s_ : ByteArray) (r0 : Int → (List ByteArray) → Option (List ByteArray)) (r1 : Int → Int → Int → Int → (List ByteArray) → Option (List ByteArray)) (t13_ : Int) (out : (List ByteArray)) : Option (List ByteArray) :=
  bif (ltI t13_ (s_.size : Int)) then (chk ((leI 0 t13_) && ltI t13_ (s_.size : Int)) <|
    r1 t13_ (w64 (bt s_ t13_)) 1 t13_ out)
  else some out
def nimsum_Split_Next.s1 (N : Nat) (p0_ : Unit) (s_ : ByteArray) (r0 : Int → (List ByteArray) → Option (List ByteArray)) (r1 : Int → Int → Int → Int → (List ByteArray) → Option (List ByteArray)) (i_ : Int) (n_ : Int) (k_ : Int) (t13_ : Int) (out : (List ByteArray)) : Option (List ByteArray) :=
  bif (ltI (w64 (2 * k_)) n_) then (chk (true && ((leI 0 i_) && (leI i_ (s_.size : Int)))) <|
    chk ((leI 0 (w64 (i_ + 1))) && ((leI (w64 (i_ + 1)) (s_.size : Int)) && (leI (s_.size : Int) (s_.size : Int)))) <|
    chk (decide ((s_.extract (0 : Int).toNat i_.toNat).size + (s_.extract (w64 (i_ + 1)).toNat (s_.size : Int).toNat).size ≤ 9223372036854775807)) <|
    (nimsum_sorted N ((s_.extract (0 : Int).toNat i_.toNat) ++ (s_.extract (w64 (i_ + 1)).toNat (s_.size : Int).toNat)) (IntKind.wrap .u8 k_) (IntKind.wrap .u8 (w64 (n_ - k_)))).bind fun y5 =>
    chk (capOk 16 (out.length + ([y5] : List ByteArray).length)) <|
    r1 i_ n_ (w64 (k_ + 1)) t13_ (out ++ [y5]))
  else r0 (w64 (t13_ + 1)) out
def nimsum_Split_Next.L (N : Nat) (p0_ : Unit) (s_ : ByteArray) : Nat → (Int → (List ByteArray) → Option (List ByteArray)) × (Int → Int → Int → Int → (List ByteArray) → Option (List ByteArray))
  | 0 => (fun _ _ => none, fun _ _ _ _ _ => none)
  | n + 1 => (fun t13_ out => nimsum_Split_Next.s0 N p0_ s_ (nimsum_Split_Next.L N p0_ s_ n).1 (nimsum_Split_Next.L N p0_ s_ n).2 t13_ out, fun i_ n_ k_ t13_ out => nimsum_Split_Next.s1 N p0_ s_ (nimsum_Split_Next.L N p0_ s_ n).1 (nimsum_Split_Next.L N p0_ s_ n).2 i_ n_ k_ t13_ out)
def nimsum_Split_Next.l0 (N : Nat) (p0_ : Unit) (s_ : ByteArray) (n : Nat) : Int → (List ByteArray) → Option (List ByteArray) := (nimsum_Split_Next.L N p0_ s_ n).1
def nimsum_Split_Next.l1 (N : Nat) (p0_ : Unit) (s_ : ByteArray) (n : Nat) : Int → Int → Int → Int → (List ByteArray) → Option (List ByteArray) := (nimsum_Split_Next.L N p0_ s_ n).2
theorem nimsum_Split_Next.l0_s (N : Nat) (p0_ : Unit) (s_ : ByteArray) (n : Nat) (t13_ : Int) (out : (List ByteArray)) : nimsum_Split_Next.l0 N p0_ s_ (n + 1) t13_ out = nimsum_Split_Next.s0 N p0_ s_ (nimsum_Split_Next.l0 N p0_ s_ n) (nimsum_Split_Next.l1 N p0_ s_ n) t13_ out := rfl
theorem nimsum_Split_Next.l1_s (N : Nat) (p0_ : Unit) (s_ : ByteArray) (n : Nat) (i_ : Int) (n_ : Int) (k_ : Int) (t13_ : Int) (out : (List ByteArray)) : nimsum_Split_Next.l1 N p0_ s_ (n + 1) i_ n_ k_ t13_ out = nimsum_Split_Next.s1 N p0_ s_ (nimsum_Split_Next.l0 N p0_ s_ n) (nimsum_Split_Next.l1 N p0_ s_ n) i_ n_ k_ t13_ out := rfl
def nimsum_Split_Next (N : Nat) (p0_ : Unit) (s_ : ByteArray) : Option (List ByteArray) := nimsum_Split_Next.e N (nimsum_Split_Next.l0 N p0_ s_ N) (nimsum_Split_Next.l1 N p0_ s_ N) p0_ s_
/-! ### f26: (*gamehall/nimsum.solver[string]).value -/
def nimsum_solver_string_value.e (N : Nat) (self : (Unit × ((List (ByteArray × Int)) × ((List (ByteArray × Int)) × (Int × Int)))) → ByteArray → Option (Int × (Unit × ((List (ByteArray × Int)) × ((List (ByteArray × Int)) × (Int × Int)))))) (r0 : Int → Int → Unit → Int → Int → (List ByteArray) → (List Bool) → (List (ByteArray × Int)) → (List (ByteArray × Int)) → Option (Int × (Unit × ((List (ByteArray × Int)) × ((List (ByteArray × Int)) × (Int × Int)))))) (r1 : Int → Int → Int → Unit → Int → Int → (List ByteArray) → (List Bool) → (List (ByteArray × Int)) → (List (ByteArray × Int)) → Option (Int × (Unit × ((List (ByteArray × Int)) × ((List (ByteArray × Int)) × (Int × Int)))))) (r2 : Int → Unit → Int → Int → (List Bool) → (List (ByteArray × Int)) → (List (ByteArray × Int)) → Option (Int × (Unit × ((List (ByteArray × Int)) × ((List (ByteArray × Int)) × (Int × Int)))))) (x_ : (Unit × ((List (ByteArray × Int)) × ((List (ByteArray × Int)) × (Int × Int))))) (s_ : ByteArray) : Option (Int × (Unit × ((List (ByteArray × Int)) × ((List (ByteArray × Int)) × (Int × Int))))) :=
  chk (okDS s_) <|
  bif (mget eqDS x_.2.1 s_).isSome then (some (((mget eqDS x_.2.1 s_).getD (0 : Int)), x_))
  else bif (!(eqI x_.2.2.2.2 0)) then (some (((mget eqDS x_.2.1 s_).getD (0 : Int)), x_))
  else chk (okDS s_) <|
  bif (eqI ((mget eqDS x_.2.2.1 s_).getD (0 : Int)) 1) then (some (0, (x_.1, (x_.2.1, (x_.2.2.1, (x_.2.2.2.1, 19))))))
  else bif (ltI (w64 (x_.2.2.2.1 - 1)) 0) then (some (0, (x_.1, (x_.2.1, (x_.2.2.1, ((w64 (x_.2.2.2.1 - 1)), 17))))))
  else chk (okDS s_) <|
  (nimsum_Split_Next N () s_).bind fun y4 =>
  r0 (y4.length : Int) 0 x_.1 (w64 (x_.2.2.2.1 - 1)) x_.2.2.2.2 y4 [] x_.2.1 (mput eqDS x_.2.2.1 s_ 1)
def nimsum_solver_string_value.s0 (N : Nat) (self : (Unit × ((List (ByteArray × Int)) × ((List (ByteArray × Int)) × (Int × Int)))) → ByteArray → Option (Int × (Unit × ((List (ByteArray × Int)) × ((List (ByteArray × Int)) × (Int × Int)))))) (x_ : (Unit × ((List (ByteArray × Int)) × ((List (ByteArray × Int)) × (Int × Int))))) (s_ : ByteArray) (r0 : Int → Int → Unit → Int → Int → (List ByteArray) → (List Bool) → (List (ByteArray × Int)) → (List (ByteArray × Int)) → Option (Int × (Unit × ((List (ByteArray × Int)) × ((List (ByteArray × Int)) × (Int × Int)))))) (r1 : Int → Int → Int → Unit → Int → Int → (List ByteArray) → (List Bool) → (List (ByteArray × Int)) → (List (ByteArray × Int)) → Option (Int × (Unit × ((List (ByteArray × Int)) × ((List (ByteArray × Int)) × (Int × Int)))))) (r2 : Int → Unit → Int → Int → (List Bool) → (List (ByteArray × Int)) → (List (ByteArray × Int)) → Option (Int × (Unit × ((List (ByteArray × Int)) × ((List (ByteArray × Int)) × (Int × Int)))))) (t66_ : Int) (t67_ : Int) (x_2 : Unit) (x_3 : Int) (x_4 : Int) (m3_ : (List ByteArray)) (met : (List Bool)) (m5_ : (List (ByteArray × Int))) (m6_ : (List (ByteArray × Int))) : Option (Int × (Unit × ((List (ByteArray × Int)) × ((List (ByteArray × Int)) × (Int × Int))))) :=
  bif (ltI t67_ t66_) then (chk ((leI 0 t67_) && (ltI t67_ (m3_.length : Int))) <|
    (self (x_2, (m5_, (m6_, (x_3, x_4)))) (gD (⟨#[]⟩ : ByteArray) m3_ t67_)).bind fun y5 =>
    bif (!(eqI y5.2.2.2.2.2 0)) then (some (0, y5.2))
    else r1 y5.1 t66_ t67_ y5.2.1 y5.2.2.2.2.1 y5.2.2.2.2.2 m3_ met y5.2.2.1 y5.2.2.2.1)
  else chk (okDS s_) <|
  r2 0 x_2 x_3 x_4 met m5_ (mput eqDS m6_ s_ 0)
def nimsum_solver_string_value.s1 (N : Nat) (self : (Unit × ((List (ByteArray × Int)) × ((List (ByteArray × Int)) × (Int × Int)))) → ByteArray → Option (Int × (Unit × ((List (ByteArray × Int)) × ((List (ByteArray × Int)) × (Int × Int)))))) (x_ : (Unit × ((List (ByteArray × Int)) × ((List (ByteArray × Int)) × (Int × Int))))) (s_ : ByteArray) (r0 : Int → Int → Unit → Int → Int → (List ByteArray) → (List Bool) → (List (ByteArray × Int)) → (List (ByteArray × Int)) → Option (Int × (Unit × ((List (ByteArray × Int)) × ((List (ByteArray × Int)) × (Int × Int)))))) (r1 : Int → Int → Int → Unit → Int → Int → (List ByteArray) → (List Bool) → (List (ByteArray × Int)) → (List (ByteArray × Int)) → Option (Int × (Unit × ((List (ByteArray × Int)) × ((List (ByteArray × Int)) × (Int × Int)))))) (r2 : Int → Unit → Int → Int → (List Bool) → (List (ByteArray × Int)) → (List (ByteArray × Int)) → Option (Int × (Unit × ((List (ByteArray × Int)) × ((List (ByteArray × Int)) × (Int × Int)))))) (n_ : Int) (t66_ : Int) (t67_ : Int) (x_2 : Unit) (x_3 : Int) (x_4 : Int) (m3_ : (List ByteArray)) (met : (List Bool)) (m7_ : (List (ByteArray × Int))) (m8_ : (List (ByteArray × Int))) : Option (Int × (Unit × ((List (ByteArray × Int)) × ((List (ByteArray × Int)) × (Int × Int))))) :=
  bif (leI (met.length : Int) n_) then (chk (capOk 1 (met.length + ([false] : List Bool).length)) <|
    r1 n_ t66_ t67_ x_2 x_3 x_4 m3_ (met ++ [false]) m7_ m8_)
  else chk ((leI 0 n_) && (ltI n_ (met.length : Int))) <|
  r0 t66_ (w64 (t67_ + 1)) x_2 x_3 x_4 m3_ (met.set n_.toNat true) m7_ m8_
def nimsum_solver_string_value.s2 (N : Nat) (self : (Unit × ((List (ByteArray × Int)) × ((List (ByteArray × Int)) × (Int × Int)))) → ByteArray → Option (Int × (Unit × ((List (ByteArray × Int)) × ((List (ByteArray × Int)) × (Int × Int)))))) (x_ : (Unit × ((List (ByteArray × Int)) × ((List (ByteArray × Int)) × (Int × Int))))) (s_ : ByteArray) (r0 : Int → Int → Unit → Int → Int → (List ByteArray) → (List Bool) → (List (ByteArray × Int)) → (List (ByteArray × Int)) → Option (Int × (Unit × ((List (ByteArray × Int)) × ((List (ByteArray × Int)) × (Int × Int)))))) (r1 : Int → Int → Int → Unit → Int → Int → (List ByteArray) → (List Bool) → (List (ByteArray × Int)) → (List (ByteArray × Int)) → Option (Int × (Unit × ((List (ByteArray × Int)) × ((List (ByteArray × Int)) × (Int × Int)))))) (r2 : Int → Unit → Int → Int → (List Bool) → (List (ByteArray × Int)) → (List (ByteArray × Int)) → Option (Int × (Unit × ((List (ByteArray × Int)) × ((List (ByteArray × Int)) × (Int × Int)))))) (out : Int) (x_2 : Unit) (x_3 : Int) (x_4 : Int) (met : (List Bool)) (m5_ : (List (ByteArray × Int))) (m6_ : (List (ByteArray × Int))) : Option (Int × (Unit × ((List (ByteArray × Int)) × ((List (ByteArray × Int)) × (Int × Int))))) :=
  bif (ltI out (met.length : Int)) then (chk ((leI 0 out) && (ltI out (met.length : Int))) <|
    bif (gD false met out) then (r2 (w64 (out + 1)) x_2 x_3 x_4 met m5_ m6_)
    else chk (okDS s_) <|
    some (out, (x_2, ((mput eqDS m5_ s_ out), (m6_, (x_3, x_4))))))
  else chk (okDS s_) <|
  some (out, (x_2, ((mput eqDS m5_ s_ out), (m6_, (x_3, x_4)))))
def nimsum_solver_string_value.L (N : Nat) (self : (Unit × ((List (ByteArray × Int)) × ((List (ByteArray × Int)) × (Int × Int)))) → ByteArray → Option (Int × (Unit × ((List (ByteArray × Int)) × ((List (ByteArray × Int)) × (Int × Int)))))) (x_ : (Unit × ((List (ByteArray × Int)) × ((List (ByteArray × Int)) × (Int × Int))))) (s_ : ByteArray) : Nat → (Int → Int → Unit → Int → Int → (List ByteArray) → (List Bool) → (List (ByteArray × Int)) → (List (ByteArray × Int)) → Option (Int × (Unit × ((List (ByteArray × Int)) × ((List (ByteArray × Int)) × (Int × Int)))))) × (Int → Int → Int → Unit → Int → Int → (List ByteArray) → (List Bool) → (List (ByteArray × Int)) → (List (ByteArray × Int)) → Option (Int × (Unit × ((List (ByteArray × Int)) × ((List (ByteArray × Int)) × (Int × Int)))))) × (Int → Unit → Int → Int → (List Bool) → (List (ByteArray × Int)) → (List (ByteArray × Int)) → Option (Int × (Unit × ((List (ByteArray × Int)) × ((List (ByteArray × Int)) × (Int × Int))))))
  | 0 => (fun _ _ _ _ _ _ _ _ _ => none, fun _ _ _ _ _ _ _ _ _ _ => none, fun _ _ _ _ _ _ _ => none)
  | n + 1 => (fun t66_ t67_ x_2 x_3 x_4 m3_ met m5_ m6_ => nimsum_solver_string_value.s0 N self x_ s_ (nimsum_solver_string_value.L N self x_ s_ n).1 (nimsum_solver_string_value.L N self x_ s_ n).2.1 (nimsum_solver_string_value.L N self x_ s_ n).2.2 t66_ t67_ x_2 x_3 x_4 m3_ met m5_ m6_, fun n_ t66_ t67_ x_2 x_3 x_4 m3_ met m7_ m8_ => nimsum_solver_string_value.s1 N self x_ s_ (nimsum_solver_string_value.L N self x_ s_ n).1 (nimsum_solver_string_value.L N self x_ s_ n).2.1 (nimsum_solver_string_value.L N self x_ s_ n).2.2 n_ t66_ t67_ x_2 x_3 x_4 m3_ met m7_ m8_, fun out x_2 x_3 x_4 met m5_ m6_ => nimsum_solver_string_value.s2 N self x_ s_ (nimsum_solver_string_value.L N self x_ s_ n).1 (nimsum_solver_string_value.L N self x_ s_ n).2.1 (nimsum_solver_string_value.L N self x_ s_ n).2.2 out x_2 x_3 x_4 met m5_ m6_)
def nimsum_solver_string_value.l0 (N : Nat) (self : (Unit × ((List (ByteArray × Int)) × ((List (ByteArray × Int)) × (Int × Int)))) → ByteArray → Option (Int × (Unit × ((List (ByteArray × Int)) × ((List (ByteArray × Int)) × (Int × Int)))))) (x_ : (Unit × ((List (ByteArray × Int)) × ((List (ByteArray × Int)) × (Int × Int))))) (s_ : ByteArray) (n : Nat) : Int → Int → Unit → Int → Int → (List ByteArray) → (List Bool) → (List (ByteArray × Int)) → (List (ByteArray × Int)) → Option (Int × (Unit × ((List (ByteArray × Int)) × ((List (ByteArray × Int)) × (Int × Int))))) := (nimsum_solver_string_value.L N self x_ s_ n).1
def nimsum_solver_string_value.l1 (N : Nat) (self : (Unit × ((List (ByteArray × Int)) × ((List (ByteArray × Int)) × (Int × Int)))) → ByteArray → Option (Int × (Unit × ((List (ByteArray × Int)) × ((List (ByteArray × Int)) × (Int × Int)))))) (x_ : (Unit × ((List (ByteArray × Int)) × ((List (ByteArray × Int)) × (Int × Int))))) (s_ : ByteArray) (n : Nat) : Int → Int → Int → Unit → Int → Int → (List ByteArray) → (List Bool) → (List (ByteArray × Int)) → (List (ByteArray × Int)) → Option (Int × (Unit × ((List (ByteArray × Int)) × ((List (ByteArray × Int)) × (Int × Int))))) := (nimsum_solver_string_value.L N self x_ s_ n).2.1
def nimsum_solver_string_value.l2 (N : Nat) (self : (Unit × ((List (ByteArray × Int)) × ((List (ByteArray × Int)) × (Int × Int)))) → ByteArray → Option (Int × (Unit × ((List (ByteArray × Int)) × ((List (ByteArray × Int)) × (Int × Int)))))) (x_ : (Unit × ((List (ByteArray × Int)) × ((List (ByteArray × Int)) × (Int × Int))))) (s_ : ByteArray) (n : Nat) : Int → Unit → Int → Int → (List Bool) → (List (ByteArray × Int)) → (List (ByteArray × Int)) → Option (Int × (Unit × ((List (ByteArray × Int)) × ((List (ByteArray × Int)) × (Int × Int))))) := (nimsum_solver_string_value.L N self x_ s_ n).2.2
theorem nimsum_solver_string_value.l0_s (N : Nat) (self : (Unit × ((List (ByteArray × Int)) × ((List (ByteArray × Int)) × (Int × Int)))) → ByteArray → Option (Int × (Unit × ((List (ByteArray × Int)) × ((List (ByteArray × Int)) × (Int × Int)))))) (x_ : (Unit × ((List (ByteArray × Int)) × ((List (ByteArray × Int)) × (Int × Int))))) (s_ : ByteArray) (n : Nat) (t66_ : Int) (t67_ : Int) (x_2 : Unit) (x_3 : Int) (x_4 : Int) (m3_ : (List ByteArray)) (met : (List Bool)) (m5_ : (List (ByteArray × Int))) (m6_ : (List (ByteArray × Int))) : nimsum_solver_string_value.l0 N self x_ s_ (n + 1) t66_ t67_ x_2 x_3 x_4 m3_ met m5_ m6_ = nimsum_solver_string_value.s0 N self x_ s_ (nimsum_solver_string_value.l0 N self x_ s_ n) (nimsum_solver_string_value.l1 N self x_ s_ n) (nimsum_solver_string_value.l2 N self x_ s_ n) t66_ t67_ x_2 x_3 x_4 m3_ met m5_ m6_ := rfl
theorem nimsum_solver_string_value.l1_s (N : Nat) (self : (Unit × ((List (ByteArray × Int)) × ((List (ByteArray × Int)) × (Int × Int)))) → ByteArray → Option (Int × (Unit × ((List (ByteArray × Int)) × ((List (ByteArray × Int)) × (Int × Int)))))) (x_ : (Unit × ((List (ByteArray × Int)) × ((List (ByteArray × Int)) × (Int × Int))))) (s_ : ByteArray) (n : Nat) (n_ : Int) (t66_ : Int) (t67_ : Int) (x_2 : Unit) (x_3 : Int) (x_4 : Int) (m3_ : (List ByteArray)) (met : (List Bool)) (m7_ : (List (ByteArray × Int))) (m8_ : (List (ByteArray × Int))) : nimsum_solver_string_value.l1 N self x_ s_ (n + 1) n_ t66_ t67_ x_2 x_3 x_4 m3_ met m7_ m8_ = nimsum_solver_string_value.s1 N self x_ s_ (nimsum_solver_string_value.l0 N self x_ s_ n) (nimsum_solver_string_value.l1 N self x_ s_ n) (nimsum_solver_string_value.l2 N self x_ s_ n) n_ t66_ t67_ x_2 x_3 x_4 m3_ met m7_ m8_ := rfl
theorem nimsum_solver_string_value.l2_s (N : Nat) (self : (Unit × ((List (ByteArray × Int)) × ((List (ByteArray × Int)) × (Int × Int)))) → ByteArray → Option (Int × (Unit × ((List (ByteArray × Int)) × ((List (ByteArray × Int)) × (Int × Int)))))) (x_ : (Unit × ((List (ByteArray × Int)) × ((List (ByteArray × Int)) × (Int × Int))))) (s_ : ByteArray) (n : Nat) (out : Int) (x_2 : Unit) (x_3 : Int) (x_4 : Int) (met : (List Bool)) (m5_ : (List (ByteArray × Int))) (m6_ : (List (ByteArray × Int))) : nimsum_solver_string_value.l2 N self x_ s_ (n + 1) out x_2 x_3 x_4 met m5_ m6_ = nimsum_solver_string_value.s2 N self x_ s_ (nimsum_solver_string_value.l0 N self x_ s_ n) (nimsum_solver_string_value.l1 N self x_ s_ n) (nimsum_solver_string_value.l2 N self x_ s_ n) out x_2 x_3 x_4 met m5_ m6_ := rfl
def nimsum_solver_string_value : Nat → (Unit × ((List (ByteArray × Int)) × ((List (ByteArray × Int)) × (Int × Int)))) → ByteArray → Option (Int × (Unit × ((List (ByteArray × Int)) × ((List (ByteArray × Int)) × (Int × Int)))))
  | 0 => fun _ _ => none
  | N + 1 => fun x_ s_ => nimsum_solver_string_value.e N (nimsum_solver_string_value N) (nimsum_solver_string_value.l0 N (nimsum_solver_string_value N) x_ s_ N) (nimsum_solver_string_value.l1 N (nimsum_solver_string_value N) x_ s_ N) (nimsum_solver_string_value.l2 N (nimsum_solver_string_value N) x_ s_ N) x_ s_
theorem nimsum_solver_string_value_s (N : Nat) (x_ : (Unit × ((List (ByteArray × Int)) × ((List (ByteArray × Int)) × (Int × Int))))) (s_ : ByteArray) : nimsum_solver_string_value (N + 1) x_ s_ = nimsum_solver_string_value.e N (nimsum_solver_string_value N) (nimsum_solver_string_value.l0 N (nimsum_solver_string_value N) x_ s_ N) (nimsum_solver_string_value.l1 N (nimsum_solver_string_value N) x_ s_ N) (nimsum_solver_string_value.l2 N (nimsum_solver_string_value N) x_ s_ N) x_ s_ := rfl
/-! ### f19: gamehall/nimsum.Value[string] -/
def nimsum_Value_string.e (N : Nat) (g_ : Unit) (s_ : ByteArray) (most : Int) : Option (Int × Int) :=
  bif (ltI most 1) then (some (0, 1))
  else bif (ltI 20000 most) then (some (0, 1))
  else (nimsum_solver_string_value N (g_, ([], ([], (most, 0)))) s_).bind fun y1 =>
  bif (!(eqI y1.2.2.2.2.2 0)) then (some (0, y1.2.2.2.2.2))
  else some (y1.1, 0)
def nimsum_Value_string (N : Nat) (g_ : Unit) (s_ : ByteArray) (most : Int) : Option (Int × Int) := nimsum_Value_string.e N g_ s_ most
/-! ### f12: gamehall/nimsum.Sum -/
def nimsum_Sum.e (N : Nat) (r0 : Int → Int → Option Int) (values : (List Int)) : Option Int :=
  r0 0 0
def nimsum_Sum.s0 (N : Nat) (values : (List Int)) (r0 : Int → Int → Option Int) (n_ : Int) (t8_ : Int) : Option Int :=
  bif (ltI t8_ (values.length : Int)) then (chk ((leI 0 t8_) && (ltI t8_ (values.length : Int))) <|
    r0 (Go.bits .xor .i64 n_ (gD (0 : Int) values t8_)) (w64 (t8_ + 1)))
  else some n_
def nimsum_Sum.L (N : Nat) (values : (List Int)) : Nat → (Int → Int → Option Int)
  | 0 => fun _ _ => none
  | n + 1 => fun n_ t8_ => nimsum_Sum.s0 N values (nimsum_Sum.L N values n) n_ t8_
def nimsum_Sum.l0 (N : Nat) (values : (List Int)) (n : Nat) : Int → Int → Option Int := (nimsum_Sum.L N values n)
theorem nimsum_Sum.l0_s (N : Nat) (values : (List Int)) (n : Nat) (n_ : Int) (t8_ : Int) : nimsum_Sum.l0 N values (n + 1) n_ t8_ = nimsum_Sum.s0 N values (nimsum_Sum.l0 N values n) n_ t8_ := rfl
def nimsum_Sum (N : Nat) (values : (List Int)) : Option Int := nimsum_Sum.e N (nimsum_Sum.l0 N values N) values
/-! ### f14: gamehall/nimsum.Take -/
def nimsum_Take.e (N : Nat) (r0 : Int → Option (Int × Int × Int)) (r1 : Int → Int → Option (Int × Int × Int)) (heaps : (List Int)) : Option (Int × Int × Int) :=
  bif (ltI 256 (heaps.length : Int)) then (some (0, (0, 2)))
  else r0 0
def nimsum_Take.s0 (N : Nat) (heaps : (List Int)) (r0 : Int → Option (Int × Int × Int)) (r1 : Int → Int → Option (Int × Int × Int)) (t15_ : Int) : Option (Int × Int × Int) :=
  bif (ltI t15_ (heaps.length : Int)) then (chk ((leI 0 t15_) && (ltI t15_ (heaps.length : Int))) <|
    bif (ltI (gD (0 : Int) heaps t15_) 0) then (some (0, (0, 4)))
    else bif (ltI 100000000 (gD (0 : Int) heaps t15_)) then (some (0, (0, 4)))
    else r0 (w64 (t15_ + 1)))
  else (nimsum_Sum N heaps).bind fun y5 =>
  r1 y5 0
def nimsum_Take.s1 (N : Nat) (heaps : (List Int)) (r0 : Int → Option (Int × Int × Int)) (r1 : Int → Int → Option (Int × Int × Int)) (all : Int) (t30_ : Int) : Option (Int × Int × Int) :=
  bif (ltI t30_ (heaps.length : Int)) then (chk ((leI 0 t30_) && (ltI t30_ (heaps.length : Int))) <|
    bif (ltI (Go.bits .xor .i64 (gD (0 : Int) heaps t30_) all) (gD (0 : Int) heaps t30_)) then (some (t30_, ((Go.bits .xor .i64 (gD (0 : Int) heaps t30_) all), 0)))
    else r1 all (w64 (t30_ + 1)))
  else some (0, (0, 8))
def nimsum_Take.L (N : Nat) (heaps : (List Int)) : Nat → (Int → Option (Int × Int × Int)) × (Int → Int → Option (Int × Int × Int))
  | 0 => (fun _ => none, fun _ _ => none)
  | n + 1 => (fun t15_ => nimsum_Take.s0 N heaps (nimsum_Take.L N heaps n).1 (nimsum_Take.L N heaps n).2 t15_, fun all t30_ => nimsum_Take.s1 N heaps (nimsum_Take.L N heaps n).1 (nimsum_Take.L N heaps n).2 all t30_)
def nimsum_Take.l0 (N : Nat) (heaps : (List Int)) (n : Nat) : Int → Option (Int × Int × Int) := (nimsum_Take.L N heaps n).1
def nimsum_Take.l1 (N : Nat) (heaps : (List Int)) (n : Nat) : Int → Int → Option (Int × Int × Int) := (nimsum_Take.L N heaps n).2
theorem nimsum_Take.l0_s (N : Nat) (heaps : (List Int)) (n : Nat) (t15_ : Int) : nimsum_Take.l0 N heaps (n + 1) t15_ = nimsum_Take.s0 N heaps (nimsum_Take.l0 N heaps n) (nimsum_Take.l1 N heaps n) t15_ := rfl
theorem nimsum_Take.l1_s (N : Nat) (heaps : (List Int)) (n : Nat) (all : Int) (t30_ : Int) : nimsum_Take.l1 N heaps (n + 1) all t30_ = nimsum_Take.s1 N heaps (nimsum_Take.l0 N heaps n) (nimsum_Take.l1 N heaps n) all t30_ := rfl
def nimsum_Take (N : Nat) (heaps : (List Int)) : Option (Int × Int × Int) := nimsum_Take.e N (nimsum_Take.l0 N heaps N) (nimsum_Take.l1 N heaps N) heaps
/-! ### f24: gamehall/gamehallkeep1.fine$1 -/
def gamehallkeep1_fine_1.e (N : Nat) (e_ : Int) : Option Bool :=
  some (!(eqI e_ 0))
def gamehallkeep1_fine_1 (N : Nat) (e_ : Int) : Option Bool := gamehallkeep1_fine_1.e N e_
/-! ### f29: slices.IndexFunc[[]gamehall/api.Errno,gamehall/api.Errno] -/
def slices_IndexFunc_api_Errno_api_Errno.e (N : Nat) (r0 : Int → Option Int) (s_ : (List Int)) : Option Int :=
  r0 0
def slices_IndexFunc_api_Errno_api_Errno.s0 (N : Nat) (s_ : (List Int)) (r0 : Int → Option Int) (t8_ : Int) : Option Int :=
  bif (ltI t8_ (s_.length : Int)) then (chk ((leI 0 t8_) && (ltI t8_ (s_.length : Int))) <|
    (gamehallkeep1_fine_1 N (gD (0 : Int) s_ t8_)).bind fun y2 =>
    bif y2 then some t8_
    else r0 (w64 (t8_ + 1)))
  else some (-1)
def slices_IndexFunc_api_Errno_api_Errno.L (N : Nat) (s_ : (List Int)) : Nat → (Int → Option Int)
  | 0 => fun _ => none
  | n + 1 => fun t8_ => slices_IndexFunc_api_Errno_api_Errno.s0 N s_ (slices_IndexFunc_api_Errno_api_Errno.L N s_ n) t8_
def slices_IndexFunc_api_Errno_api_Errno.l0 (N : Nat) (s_ : (List Int)) (n : Nat) : Int → Option Int := (slices_IndexFunc_api_Errno_api_Errno.L N s_ n)
theorem slices_IndexFunc_api_Errno_api_Errno.l0_s (N : Nat) (s_ : (List Int)) (n : Nat) (t8_ : Int) : slices_IndexFunc_api_Errno_api_Errno.l0 N s_ (n + 1) t8_ = slices_IndexFunc_api_Errno_api_Errno.s0 N s_ (slices_IndexFunc_api_Errno_api_Errno.l0 N s_ n) t8_ := rfl
def slices_IndexFunc_api_Errno_api_Errno (N : Nat) (s_ : (List Int)) : Option Int := slices_IndexFunc_api_Errno_api_Errno.e N (slices_IndexFunc_api_Errno_api_Errno.l0 N s_ N) s_
/-! ### f23: slices.ContainsFunc[[]gamehall/api.Errno,gamehall/api.Errno] -/
def slices_ContainsFunc_api_Errno_api_Errno.e (N : Nat) (s_ : (List Int)) : Option Bool :=
  (slices_IndexFunc_api_Errno_api_Errno N s_).bind fun y1 =>
  some (leI 0 y1)
def slices_ContainsFunc_api_Errno_api_Errno (N : Nat) (s_ : (List Int)) : Option Bool := slices_ContainsFunc_api_Errno_api_Errno.e N s_
/-! ### f11: gamehall/gamehallkeep1.fine -/
def gamehallkeep1_fine.e (N : Nat) (l_ : (List Int)) : Option Bool :=
  (slices_ContainsFunc_api_Errno_api_Errno N l_).bind fun y1 =>
  some (!y1)
def gamehallkeep1_fine (N : Nat) (l_ : (List Int)) : Option Bool := gamehallkeep1_fine.e N l_
/-! ### f9: gamehall/gamehallkeep1.summed -/
def gamehallkeep1_summed.e (N : Nat) : Option Bool :=
  (nimsum_Value_int N 2 5 100).bind fun y1 =>
  (nimsum_Value_string N () (⟨#[3]⟩ : ByteArray) 100).bind fun y2 =>
  (nimsum_Take N [1, 4]).bind fun y3 =>
  (gamehallkeep1_fine N [y1.2, y2.2, y3.2.2]).bind fun y4 =>
  bif y4 then (bif (eqI y1.1 2) then (bif (eqI y2.1 1) then (bif (eqI y3.1 1) then (bif (eqI y3.2.1 1) then ((nimsum_Sum N [5, 3]).bind fun y5 =>
            some (eqI y5 6))
          else some false)
        else some false)
      else some false)
    else some false)
  else some false
def gamehallkeep1_summed (N : Nat) : Option Bool := gamehallkeep1_summed.e N
/-! ### f15: slices.Clone[[]int,int] -/
def slices_Clone_int_int.e (N : Nat) (s_ : (List Int)) : Option (List Int) :=
  chk (capOk 8 (([] : List Int).length + s_.length)) <|
  some ([] ++ s_)
def slices_Clone_int_int (N : Nat) (s_ : (List Int)) : Option (List Int) := slices_Clone_int_int.e N s_
/-! ### f5: gamehall/gamehallkeep1.NimsumTaken -/
def gamehallkeep1_NimsumTaken.e (N : Nat) (heaps : (List Int)) : Option Bool :=
  (gamehallkeep1_summed N).bind fun y1 =>
  bif (!y1) then some false
  else (nimsum_Take N heaps).bind fun y2 =>
  bif (!(eqI y2.2.2 0)) then (bif (eqI y2.1 0) then (bif (eqI y2.2.1 0) then (bif (!(eqI y2.2.2 8)) then some true
        else (nimsum_Sum N heaps).bind fun y3 =>
        some (eqI y3 0))
      else some false)
    else some false)
  else bif (ltI y2.1 0) then some false
  else bif (leI (heaps.length : Int) y2.1) then some false
  else bif (ltI y2.2.1 0) then some false
  else chk ((leI 0 y2.1) && (ltI y2.1 (heaps.length : Int))) <|
  bif (leI (gD (0 : Int) heaps y2.1) y2.2.1) then some false
  else (slices_Clone_int_int N heaps).bind fun y6 =>
  chk ((leI 0 y2.1) && (ltI y2.1 (y6.length : Int))) <|
  (nimsum_Sum N (y6.set y2.1.toNat y2.2.1)).bind fun y8 =>
  some (eqI y8 0)
def gamehallkeep1_NimsumTaken (N : Nat) (heaps : (List Int)) : Option Bool := gamehallkeep1_NimsumTaken.e N heaps
/-! ### f63: (gamehall/nimsum.Both[int, int]).Next -/
def nimsum_Both_int_int_Next.e (N : Nat) (r0 : Int → Int → (List Int) → (List (Int × Int)) → Option (List (Int × Int))) (r1 : Int → Int → (List (Int × Int)) → (List Int) → Option (List (Int × Int))) (g_ : (Int × Int)) (p_ : (Int × Int)) : Option (List (Int × Int)) :=
  (nimsum_Heap_Next N g_.1 p_.1).bind fun y1 =>
  r0 (y1.length : Int) 0 y1 []
def nimsum_Both_int_int_Next.s0 (N : Nat) (g_ : (Int × Int)) (p_ : (Int × Int)) (r0 : Int → Int → (List Int) → (List (Int × Int)) → Option (List (Int × Int))) (r1 : Int → Int → (List (Int × Int)) → (List Int) → Option (List (Int × Int))) (t15_ : Int) (t16_ : Int) (m2_ : (List Int)) (out : (List (Int × Int))) : Option (List (Int × Int)) :=
  bif (ltI t16_ t15_) then (chk ((leI 0 t16_) && (ltI t16_ (m2_.length : Int))) <|
    let v2 : List (Int × Int) := [((gD (0 : Int) m2_ t16_), p_.2)]
    chk (capOk 16 (out.length + v2.length)) <|
    r0 t15_ (w64 (t16_ + 1)) m2_ (out ++ v2))
  else (nimsum_Heap_Next N g_.2 p_.2).bind fun y3 =>
  r1 (y3.length : Int) 0 out y3
def nimsum_Both_int_int_Next.s1 (N : Nat) (g_ : (Int × Int)) (p_ : (Int × Int)) (r0 : Int → Int → (List Int) → (List (Int × Int)) → Option (List (Int × Int))) (r1 : Int → Int → (List (Int × Int)) → (List Int) → Option (List (Int × Int))) (t33_ : Int) (t34_ : Int) (out : (List (Int × Int))) (m4_ : (List Int)) : Option (List (Int × Int)) :=
  bif (ltI t34_ t33_) then (chk ((leI 0 t34_) && (ltI t34_ (m4_.length : Int))) <|
    let v4 : List (Int × Int) := [(p_.1, (gD (0 : Int) m4_ t34_))]
    chk (capOk 16 (out.length + v4.length)) <|
    r1 t33_ (w64 (t34_ + 1)) (out ++ v4) m4_)
  else some out
def nimsum_Both_int_int_Next.L (N : Nat) (g_ : (Int × Int)) (p_ : (Int × Int)) : Nat → (Int → Int → (List Int) → (List (Int × Int)) → Option (List (Int × Int))) × (Int → Int → (List (Int × Int)) → (List Int) → Option (List (Int × Int)))
  | 0 => (fun _ _ _ _ => none, fun _ _ _ _ => none)
  | n + 1 => (fun t15_ t16_ m2_ out => nimsum_Both_int_int_Next.s0 N g_ p_ (nimsum_Both_int_int_Next.L N g_ p_ n).1 (nimsum_Both_int_int_Next.L N g_ p_ n).2 t15_ t16_ m2_ out, fun t33_ t34_ out m4_ => nimsum_Both_int_int_Next.s1 N g_ p_ (nimsum_Both_int_int_Next.L N g_ p_ n).1 (nimsum_Both_int_int_Next.L N g_ p_ n).2 t33_ t34_ out m4_)
def nimsum_Both_int_int_Next.l0 (N : Nat) (g_ : (Int × Int)) (p_ : (Int × Int)) (n : Nat) : Int → Int → (List Int) → (List (Int × Int)) → Option (List (Int × Int)) := (nimsum_Both_int_int_Next.L N g_ p_ n).1
def nimsum_Both_int_int_Next.l1 (N : Nat) (g_ : (Int × Int)) (p_ : (Int × Int)) (n : Nat) : Int → Int → (List (Int × Int)) → (List Int) → Option (List (Int × Int)) := (nimsum_Both_int_int_Next.L N g_ p_ n).2
theorem nimsum_Both_int_int_Next.l0_s (N : Nat) (g_ : (Int × Int)) (p_ : (Int × Int)) (n : Nat) (t15_ : Int) (t16_ : Int) (m2_ : (List Int)) (out : (List (Int × Int))) : nimsum_Both_int_int_Next.l0 N g_ p_ (n + 1) t15_ t16_ m2_ out = nimsum_Both_int_int_Next.s0 N g_ p_ (nimsum_Both_int_int_Next.l0 N g_ p_ n) (nimsum_Both_int_int_Next.l1 N g_ p_ n) t15_ t16_ m2_ out := rfl
theorem nimsum_Both_int_int_Next.l1_s (N : Nat) (g_ : (Int × Int)) (p_ : (Int × Int)) (n : Nat) (t33_ : Int) (t34_ : Int) (out : (List (Int × Int))) (m4_ : (List Int)) : nimsum_Both_int_int_Next.l1 N g_ p_ (n + 1) t33_ t34_ out m4_ = nimsum_Both_int_int_Next.s1 N g_ p_ (nimsum_Both_int_int_Next.l0 N g_ p_ n) (nimsum_Both_int_int_Next.l1 N g_ p_ n) t33_ t34_ out m4_ := rfl
def nimsum_Both_int_int_Next (N : Nat) (g_ : (Int × Int)) (p_ : (Int × Int)) : Option (List (Int × Int)) := nimsum_Both_int_int_Next.e N (nimsum_Both_int_int_Next.l0 N g_ p_ N) (nimsum_Both_int_int_Next.l1 N g_ p_ N) g_ p_
/-! ### f21: (*gamehall/nimsum.solver[gamehall/nimsum.Pair[int, int]]).value -/
def nimsum_solver_nimsum_Pair_int_int_value.e (N : Nat) (self : ((Int × Int) × ((List ((Int × Int) × Int)) × ((List ((Int × Int) × Int)) × (Int × Int)))) → (Int × Int) → Option (Int × ((Int × Int) × ((List ((Int × Int) × Int)) × ((List ((Int × Int) × Int)) × (Int × Int)))))) (r0 : Int → Int → (Int × Int) → Int → Int → (List (Int × Int)) → (List Bool) → (List ((Int × Int) × Int)) → (List ((Int × Int) × Int)) → Option (Int × ((Int × Int) × ((List ((Int × Int) × Int)) × ((List ((Int × Int) × Int)) × (Int × Int)))))) (r1 : Int → Int → Int → (Int × Int) → Int → Int → (List (Int × Int)) → (List Bool) → (List ((Int × Int) × Int)) → (List ((Int × Int) × Int)) → Option (Int × ((Int × Int) × ((List ((Int × Int) × Int)) × ((List ((Int × Int) × Int)) × (Int × Int)))))) (r2 : Int → (Int × Int) → Int → Int → (List Bool) → (List ((Int × Int) × Int)) → (List ((Int × Int) × Int)) → Option (Int × ((Int × Int) × ((List ((Int × Int) × Int)) × ((List ((Int × Int) × Int)) × (Int × Int)))))) (x_ : ((Int × Int) × ((List ((Int × Int) × Int)) × ((List ((Int × Int) × Int)) × (Int × Int))))) (s_ : (Int × Int)) : Option (Int × ((Int × Int) × ((List ((Int × Int) × Int)) × ((List ((Int × Int) × Int)) × (Int × Int))))) :=
  chk ((Lit.int .i64 s_.1).wf && (Lit.int .i64 s_.2).wf) <|
  let v1 : Option Int := (mget (eqDP eqDI eqDI) x_.2.1 s_)
  bif v1.isSome then (some ((v1.getD (0 : Int)), x_))
  else bif (!(eqI x_.2.2.2.2 0)) then (some ((v1.getD (0 : Int)), x_))
  else chk ((Lit.int .i64 s_.1).wf && (Lit.int .i64 s_.2).wf) <|
  bif (eqI ((mget (eqDP eqDI eqDI) x_.2.2.1 s_).getD (0 : Int)) 1) then (some (0, (x_.1, (x_.2.1, (x_.2.2.1, (x_.2.2.2.1, 19))))))
  else bif (ltI (w64 (x_.2.2.2.1 - 1)) 0) then (some (0, (x_.1, (x_.2.1, (x_.2.2.1, ((w64 (x_.2.2.2.1 - 1)), 17))))))
  else chk ((Lit.int .i64 s_.1).wf && (Lit.int .i64 s_.2).wf) <|
  (nimsum_Both_int_int_Next N x_.1 s_).bind fun y6 =>
  r0 (y6.length : Int) 0 x_.1 (w64 (x_.2.2.2.1 - 1)) x_.2.2.2.2 y6 [] x_.2.1 (mput (eqDP eqDI eqDI) x_.2.2.1 s_ 1)
def nimsum_solver_nimsum_Pair_int_int_value.s0 (N : Nat) (self : ((Int × Int) × ((List ((Int × Int) × Int)) × ((List ((Int × Int) × Int)) × (Int × Int)))) → (Int × Int) → Option (Int × ((Int × Int) × ((List ((Int × Int) × Int)) × ((List ((Int × Int) × Int)) × (Int × Int)))))) (x_ : ((Int × Int) × ((List ((Int × Int) × Int)) × ((List ((Int × Int) × Int)) × (Int × Int))))) (s_ : (Int × Int)) (r0 : Int → Int → (Int × Int) → Int → Int → (List (Int × Int)) → (List Bool) → (List ((Int × Int) × Int)) → (List ((Int × Int) × Int)) → Option (Int × ((Int × Int) × ((List ((Int × Int) × Int)) × ((List ((Int × Int) × Int)) × (Int × Int)))))) (r1 : Int → Int → Int → (Int × Int) → Int → Int → (List (Int × Int)) → (List Bool) → (List ((Int × Int) × Int)) → (List ((Int × Int) × Int)) → Option (Int × ((Int × Int) × ((List ((Int × Int) × Int)) × ((List ((Int × Int) × Int)) × (Int × Int)))))) (r2 : Int → (Int × Int) → Int → Int → (List Bool) → (List ((Int × Int) × Int)) → (List ((Int × Int) × Int)) → Option (Int × ((Int × Int) × ((List ((Int × Int) × Int)) × ((List ((Int × Int) × Int)) × (Int × Int)))))) (t66_ : Int) (t67_ : Int) (x_2 : (Int × Int)) (x_3 : Int) (x_4 : Int) (m4_ : (List (Int × Int))) (met : (List Bool)) (m6_ : (List ((Int × Int) × Int))) (m7_ : (List ((Int × Int) × Int))) : Option (Int × ((Int × Int) × ((List ((Int × Int) × Int)) × ((List ((Int × Int) × Int)) × (Int × Int))))) :=
  bif (ltI t67_ t66_) then (chk ((leI 0 t67_) && (ltI t67_ (m4_.length : Int))) <|
    (self (x_2, (m6_, (m7_, (x_3, x_4)))) (gD ((0 : Int), (0 : Int)) m4_ t67_)).bind fun y7 =>
    bif (!(eqI y7.2.2.2.2.2 0)) then (some (0, y7.2))
    else r1 y7.1 t66_ t67_ y7.2.1 y7.2.2.2.2.1 y7.2.2.2.2.2 m4_ met y7.2.2.1 y7.2.2.2.1)
  else chk ((Lit.int .i64 s_.1).wf && (Lit.int .i64 s_.2).wf) <|
  r2 0 x_2 x_3 x_4 met m6_ (mput (eqDP eqDI eqDI) m7_ s_ 0)
def nimsum_solver_nimsum_Pair_int_int_value.s1 (N : Nat) (self : ((Int × Int) × ((List ((Int × Int) × Int)) × ((List ((Int × Int) × Int)) × (Int × Int)))) → (Int × Int) → Option (Int × ((Int × Int) × ((List ((Int × Int) × Int)) × ((List ((Int × Int) × Int)) × (Int × Int)))))) (x_ : ((Int × Int) × ((List ((Int × Int) × Int)) × ((List ((Int × Int) × Int)) × (Int × Int))))) (s_ : (Int × Int)) (r0 : Int → Int → (Int × Int) → Int → Int → (List (Int × Int)) → (List Bool) → (List ((Int × Int) × Int)) → (List ((Int × Int) × Int)) → Option (Int × ((Int × Int) × ((List ((Int × Int) × Int)) × ((List ((Int × Int) × Int)) × (Int × Int)))))) (r1 : Int → Int → Int → (Int × Int) → Int → Int → (List (Int × Int)) → (List Bool) → (List ((Int × Int) × Int)) → (List ((Int × Int) × Int)) → Option (Int × ((Int × Int) × ((List ((Int × Int) × Int)) × ((List ((Int × Int) × Int)) × (Int × Int)))))) (r2 : Int → (Int × Int) → Int → Int → (List Bool) → (List ((Int × Int) × Int)) → (List ((Int × Int) × Int)) → Option (Int × ((Int × Int) × ((List ((Int × Int) × Int)) × ((List ((Int × Int) × Int)) × (Int × Int)))))) (n_ : Int) (t66_ : Int) (t67_ : Int) (x_2 : (Int × Int)) (x_3 : Int) (x_4 : Int) (m4_ : (List (Int × Int))) (met : (List Bool)) (m9_ : (List ((Int × Int) × Int))) (m10_ : (List ((Int × Int) × Int))) : Option (Int × ((Int × Int) × ((List ((Int × Int) × Int)) × ((List ((Int × Int) × Int)) × (Int × Int))))) :=
  bif (leI (met.length : Int) n_) then (chk (capOk 1 (met.length + ([false] : List Bool).length)) <|
    r1 n_ t66_ t67_ x_2 x_3 x_4 m4_ (met ++ [false]) m9_ m10_)
  else chk ((leI 0 n_) && (ltI n_ (met.length : Int))) <|
  r0 t66_ (w64 (t67_ + 1)) x_2 x_3 x_4 m4_ (met.set n_.toNat true) m9_ m10_
def nimsum_solver_nimsum_Pair_int_int_value.s2 (N : Nat) (self : ((Int × Int) × ((List ((Int × Int) × Int)) × ((List ((Int × Int) × Int)) × (Int × Int)))) → (Int × Int) → Option (Int × ((Int × Int) × ((List ((Int × Int) × Int)) × ((List ((Int × Int) × Int)) × (Int × Int)))))) (x_ : ((Int × Int) × ((List ((Int × Int) × Int)) × ((List ((Int × Int) × Int)) × (Int × Int))))) (s_ : (Int × Int)) (r0 : Int → Int → (Int × Int) → Int → Int → (List (Int × Int)) → (List Bool) → (List ((Int × Int) × Int)) → (List ((Int × Int) × Int)) → Option (Int × ((Int × Int) × ((List ((Int × Int) × Int)) × ((List ((Int × Int) × Int)) × (Int × Int)))))) (r1 : Int → Int → Int → (Int × Int) → Int → Int → (List (Int × Int)) → (List Bool) → (List ((Int × Int) × Int)) → (List ((Int × Int) × Int)) → Option (Int × ((Int × Int) × ((List ((Int × Int) × Int)) × ((List ((Int × Int) × Int)) × (Int × Int)))))) (r2 : Int → (Int × Int) → Int → Int → (List Bool) → (List ((Int × Int) × Int)) → (List ((Int × Int) × Int)) → Option (Int × ((Int × Int) × ((List ((Int × Int) × Int)) × ((List ((Int × Int) × Int)) × (Int × Int)))))) (out : Int) (x_2 : (Int × Int)) (x_3 : Int) (x_4 : Int) (met : (List Bool)) (m6_ : (List ((Int × Int) × Int))) (m7_ : (List ((Int × Int) × Int))) : Option (Int × ((Int × Int) × ((List ((Int × Int) × Int)) × ((List ((Int × Int) × Int)) × (Int × Int))))) :=
  bif (ltI out (met.length : Int)) then (chk ((leI 0 out) && (ltI out (met.length : Int))) <|
    bif (gD false met out) then (r2 (w64 (out + 1)) x_2 x_3 x_4 met m6_ m7_)
    else chk ((Lit.int .i64 s_.1).wf && (Lit.int .i64 s_.2).wf) <|
    some (out, (x_2, ((mput (eqDP eqDI eqDI) m6_ s_ out), (m7_, (x_3, x_4))))))
  else chk ((Lit.int .i64 s_.1).wf && (Lit.int .i64 s_.2).wf) <|
  some (out, (x_2, ((mput (eqDP eqDI eqDI) m6_ s_ out), (m7_, (x_3, x_4)))))
def nimsum_solver_nimsum_Pair_int_int_value.L (N : Nat) (self : ((Int × Int) × ((List ((Int × Int) × Int)) × ((List ((Int × Int) × Int)) × (Int × Int)))) → (Int × Int) → Option (Int × ((Int × Int) × ((List ((Int × Int) × Int)) × ((List ((Int × Int) × Int)) × (Int × Int)))))) (x_ : ((Int × Int) × ((List ((Int × Int) × Int)) × ((List ((Int × Int) × Int)) × (Int × Int))))) (s_ : (Int × Int)) : Nat → (Int → Int → (Int × Int) → Int → Int → (List (Int × Int)) → (List Bool) → (List ((Int × Int) × Int)) → (List ((Int × Int) × Int)) → Option (Int × ((Int × Int) × ((List ((Int × Int) × Int)) × ((List ((Int × Int) × Int)) × (Int × Int)))))) × (Int → Int → Int → (Int × Int) → Int → Int → (List (Int × Int)) → (List Bool) → (List ((Int × Int) × Int)) → (List ((Int × Int) × Int)) → Option (Int × ((Int × Int) × ((List ((Int × Int) × Int)) × ((List ((Int × Int) × Int)) × (Int × Int)))))) × (Int → (Int × Int) → Int → Int → (List Bool) → (List ((Int × Int) × Int)) → (List ((Int × Int) × Int)) → Option (Int × ((Int × Int) × ((List ((Int × Int) × Int)) × ((List ((Int × Int) × Int)) × (Int × Int))))))
  | 0 => (fun _ _ _ _ _ _ _ _ _ => none, fun _ _ _ _ _ _ _ _ _ _ => none, fun _ _ _ _ _ _ _ => none)
  | n + 1 => (fun t66_ t67_ x_2 x_3 x_4 m4_ met m6_ m7_ => nimsum_solver_nimsum_Pair_int_int_value.s0 N self x_ s_ (nimsum_solver_nimsum_Pair_int_int_value.L N self x_ s_ n).1 (nimsum_solver_nimsum_Pair_int_int_value.L N self x_ s_ n).2.1 (nimsum_solver_nimsum_Pair_int_int_value.L N self x_ s_ n).2.2 t66_ t67_ x_2 x_3 x_4 m4_ met m6_ m7_, fun n_ t66_ t67_ x_2 x_3 x_4 m4_ met m9_ m10_ => nimsum_solver_nimsum_Pair_int_int_value.s1 N self x_ s_ (nimsum_solver_nimsum_Pair_int_int_value.L N self x_ s_ n).1 (nimsum_solver_nimsum_Pair_int_int_value.L N self x_ s_ n).2.1 (nimsum_solver_nimsum_Pair_int_int_value.L N self x_ s_ n).2.2 n_ t66_ t67_ x_2 x_3 x_4 m4_ met m9_ m10_, fun out x_2 x_3 x_4 met m6_ m7_ => nimsum_solver_nimsum_Pair_int_int_value.s2 N self x_ s_ (nimsum_solver_nimsum_Pair_int_int_value.L N self x_ s_ n).1 (nimsum_solver_nimsum_Pair_int_int_value.L N self x_ s_ n).2.1 (nimsum_solver_nimsum_Pair_int_int_value.L N self x_ s_ n).2.2 out x_2 x_3 x_4 met m6_ m7_)
def nimsum_solver_nimsum_Pair_int_int_value.l0 (N : Nat) (self : ((Int × Int) × ((List ((Int × Int) × Int)) × ((List ((Int × Int) × Int)) × (Int × Int)))) → (Int × Int) → Option (Int × ((Int × Int) × ((List ((Int × Int) × Int)) × ((List ((Int × Int) × Int)) × (Int × Int)))))) (x_ : ((Int × Int) × ((List ((Int × Int) × Int)) × ((List ((Int × Int) × Int)) × (Int × Int))))) (s_ : (Int × Int)) (n : Nat) : Int → Int → (Int × Int) → Int → Int → (List (Int × Int)) → (List Bool) → (List ((Int × Int) × Int)) → (List ((Int × Int) × Int)) → Option (Int × ((Int × Int) × ((List ((Int × Int) × Int)) × ((List ((Int × Int) × Int)) × (Int × Int))))) := (nimsum_solver_nimsum_Pair_int_int_value.L N self x_ s_ n).1
def nimsum_solver_nimsum_Pair_int_int_value.l1 (N : Nat) (self : ((Int × Int) × ((List ((Int × Int) × Int)) × ((List ((Int × Int) × Int)) × (Int × Int)))) → (Int × Int) → Option (Int × ((Int × Int) × ((List ((Int × Int) × Int)) × ((List ((Int × Int) × Int)) × (Int × Int)))))) (x_ : ((Int × Int) × ((List ((Int × Int) × Int)) × ((List ((Int × Int) × Int)) × (Int × Int))))) (s_ : (Int × Int)) (n : Nat) : Int → Int → Int → (Int × Int) → Int → Int → (List (Int × Int)) → (List Bool) → (List ((Int × Int) × Int)) → (List ((Int × Int) × Int)) → Option (Int × ((Int × Int) × ((List ((Int × Int) × Int)) × ((List ((Int × Int) × Int)) × (Int × Int))))) := (nimsum_solver_nimsum_Pair_int_int_value.L N self x_ s_ n).2.1
def nimsum_solver_nimsum_Pair_int_int_value.l2 (N : Nat) (self : ((Int × Int) × ((List ((Int × Int) × Int)) × ((List ((Int × Int) × Int)) × (Int × Int)))) → (Int × Int) → Option (Int × ((Int × Int) × ((List ((Int × Int) × Int)) × ((List ((Int × Int) × Int)) × (Int × Int)))))) (x_ : ((Int × Int) × ((List ((Int × Int) × Int)) × ((List ((Int × Int) × Int)) × (Int × Int))))) (s_ : (Int × Int)) (n : Nat) : Int → (Int × Int) → Int → Int → (List Bool) → (List ((Int × Int) × Int)) → (List ((Int × Int) × Int)) → Option (Int × ((Int × Int) × ((List ((Int × Int) × Int)) × ((List ((Int × Int) × Int)) × (Int × Int))))) := (nimsum_solver_nimsum_Pair_int_int_value.L N self x_ s_ n).2.2
theorem nimsum_solver_nimsum_Pair_int_int_value.l0_s (N : Nat) (self : ((Int × Int) × ((List ((Int × Int) × Int)) × ((List ((Int × Int) × Int)) × (Int × Int)))) → (Int × Int) → Option (Int × ((Int × Int) × ((List ((Int × Int) × Int)) × ((List ((Int × Int) × Int)) × (Int × Int)))))) (x_ : ((Int × Int) × ((List ((Int × Int) × Int)) × ((List ((Int × Int) × Int)) × (Int × Int))))) (s_ : (Int × Int)) (n : Nat) (t66_ : Int) (t67_ : Int) (x_2 : (Int × Int)) (x_3 : Int) (x_4 : Int) (m4_ : (List (Int × Int))) (met : (List Bool)) (m6_ : (List ((Int × Int) × Int))) (m7_ : (List ((Int × Int) × Int))) : nimsum_solver_nimsum_Pair_int_int_value.l0 N self x_ s_ (n + 1) t66_ t67_ x_2 x_3 x_4 m4_ met m6_ m7_ = nimsum_solver_nimsum_Pair_int_int_value.s0 N self x_ s_ (nimsum_solver_nimsum_Pair_int_int_value.l0 N self x_ s_ n) (nimsum_solver_nimsum_Pair_int_int_value.l1 N self x_ s_ n) (nimsum_solver_nimsum_Pair_int_int_value.l2 N self x_ s_ n) t66_ t67_ x_2 x_3 x_4 m4_ met m6_ m7_ := rfl
theorem nimsum_solver_nimsum_Pair_int_int_value.l1_s (N : Nat) (self : ((Int × Int) × ((List ((Int × Int) × Int)) × ((List ((Int × Int) × Int)) × (Int × Int)))) → (Int × Int) → Option (Int × ((Int × Int) × ((List ((Int × Int) × Int)) × ((List ((Int × Int) × Int)) × (Int × Int)))))) (x_ : ((Int × Int) × ((List ((Int × Int) × Int)) × ((List ((Int × Int) × Int)) × (Int × Int))))) (s_ : (Int × Int)) (n : Nat) (n_ : Int) (t66_ : Int) (t67_ : Int) (x_2 : (Int × Int)) (x_3 : Int) (x_4 : Int) (m4_ : (List (Int × Int))) (met : (List Bool)) (m9_ : (List ((Int × Int) × Int))) (m10_ : (List ((Int × Int) × Int))) : nimsum_solver_nimsum_Pair_int_int_value.l1 N self x_ s_ (n + 1) n_ t66_ t67_ x_2 x_3 x_4 m4_ met m9_ m10_ = nimsum_solver_nimsum_Pair_int_int_value.s1 N self x_ s_ (nimsum_solver_nimsum_Pair_int_int_value.l0 N self x_ s_ n) (nimsum_solver_nimsum_Pair_int_int_value.l1 N self x_ s_ n) (nimsum_solver_nimsum_Pair_int_int_value.l2 N self x_ s_ n) n_ t66_ t67_ x_2 x_3 x_4 m4_ met m9_ m10_ := rfl
theorem nimsum_solver_nimsum_Pair_int_int_value.l2_s (N : Nat) (self : ((Int × Int) × ((List ((Int × Int) × Int)) × ((List ((Int × Int) × Int)) × (Int × Int)))) → (Int × Int) → Option (Int × ((Int × Int) × ((List ((Int × Int) × Int)) × ((List ((Int × Int) × Int)) × (Int × Int)))))) (x_ : ((Int × Int) × ((List ((Int × Int) × Int)) × ((List ((Int × Int) × Int)) × (Int × Int))))) (s_ : (Int × Int)) (n : Nat) (out : Int) (x_2 : (Int × Int)) (x_3 : Int) (x_4 : Int) (met : (List Bool)) (m6_ : (List ((Int × Int) × Int))) (m7_ : (List ((Int × Int) × Int))) : nimsum_solver_nimsum_Pair_int_int_value.l2 N self x_ s_ (n + 1) out x_2 x_3 x_4 met m6_ m7_ = nimsum_solver_nimsum_Pair_int_int_value.s2 N self x_ s_ (nimsum_solver_nimsum_Pair_int_int_value.l0 N self x_ s_ n) (nimsum_solver_nimsum_Pair_int_int_value.l1 N self x_ s_ n) (nimsum_solver_nimsum_Pair_int_int_value.l2 N self x_ s_ n) out x_2 x_3 x_4 met m6_ m7_ := rfl
def nimsum_solver_nimsum_Pair_int_int_value : Nat → ((Int × Int) × ((List ((Int × Int) × Int)) × ((List ((Int × Int) × Int)) × (Int × Int)))) → (Int × Int) → Option (Int × ((Int × Int) × ((List ((Int × Int) × Int)) × ((List ((Int × Int) × Int)) × (Int × Int)))))
  | 0 => fun _ _ => none
  | N + 1 => fun x_ s_ => nimsum_solver_nimsum_Pair_int_int_value.e N (nimsum_solver_nimsum_Pair_int_int_value N) (nimsum_solver_nimsum_Pair_int_int_value.l0 N (nimsum_solver_nimsum_Pair_int_int_value N) x_ s_ N) (nimsum_solver_nimsum_Pair_int_int_value.l1 N (nimsum_solver_nimsum_Pair_int_int_value N) x_ s_ N) (nimsum_solver_nimsum_Pair_int_int_value.l2 N (nimsum_solver_nimsum_Pair_int_int_value N) x_ s_ N) x_ s_
theorem nimsum_solver_nimsum_Pair_int_int_value_s (N : Nat) (x_ : ((Int × Int) × ((List ((Int × Int) × Int)) × ((List ((Int × Int) × Int)) × (Int × Int))))) (s_ : (Int × Int)) : nimsum_solver_nimsum_Pair_int_int_value (N + 1) x_ s_ = nimsum_solver_nimsum_Pair_int_int_value.e N (nimsum_solver_nimsum_Pair_int_int_value N) (nimsum_solver_nimsum_Pair_int_int_value.l0 N (nimsum_solver_nimsum_Pair_int_int_value N) x_ s_ N) (nimsum_solver_nimsum_Pair_int_int_value.l1 N (nimsum_solver_nimsum_Pair_int_int_value N) x_ s_ N) (nimsum_solver_nimsum_Pair_int_int_value.l2 N (nimsum_solver_nimsum_Pair_int_int_value N) x_ s_ N) x_ s_ := rfl
/-! ### f8: gamehall/nimsum.Value[gamehall/nimsum.Pair[int, int]] -/
def nimsum_Value_nimsum_Pair_int_int.e (N : Nat) (g_ : (Int × Int)) (s_ : (Int × Int)) (most : Int) : Option (Int × Int) :=
  bif (ltI most 1) then (some (0, 1))
  else bif (ltI 20000 most) then (some (0, 1))
  else (nimsum_solver_nimsum_Pair_int_int_value N (g_, ([], ([], (most, 0)))) s_).bind fun y1 =>
  bif (!(eqI y1.2.2.2.2.2 0)) then (some (0, y1.2.2.2.2.2))
  else some (y1.1, 0)
def nimsum_Value_nimsum_Pair_int_int (N : Nat) (g_ : (Int × Int)) (s_ : (Int × Int)) (most : Int) : Option (Int × Int) := nimsum_Value_nimsum_Pair_int_int.e N g_ s_ most
/-! ### f3: gamehall/gamehallkeep1.NimsumSums -/
def gamehallkeep1_NimsumSums.e (N : Nat) (a_ : Int) (b_ : Int) (m_ : Int) (n_ : Int) : Option Bool :=
  (nimsum_Value_nimsum_Pair_int_int N (0, 0) (1, 2) 100).bind fun y1 =>
  bif (!(eqI y1.2 0)) then some false
  else bif (!(eqI y1.1 3)) then some false
  else (gamehallkeep1_summed N).bind fun y2 =>
  bif (!y2) then some false
  else let v3 : Int := (w64 ((Int.tmod a_ 12) + 12))
  let v4 : Int := (w64 ((Int.tmod b_ 12) + 12))
  let v5 : Int := (w64 ((Int.tmod m_ 5) + 5))
  let v6 : Int := (w64 ((Int.tmod n_ 5) + 5))
  (nimsum_Value_nimsum_Pair_int_int N ((Int.tmod v5 5), (Int.tmod v6 5)) ((Int.tmod v3 12), (Int.tmod v4 12)) 1000).bind fun y7 =>
  (nimsum_Value_int N (Int.tmod v5 5) (Int.tmod v3 12) 100).bind fun y8 =>
  (nimsum_Value_int N (Int.tmod v6 5) (Int.tmod v4 12) 100).bind fun y9 =>
  (gamehallkeep1_fine N [y7.2, y8.2, y9.2]).bind fun y10 =>
  bif y10 then ((nimsum_Sum N [y8.1, y9.1]).bind fun y11 =>
    some (eqI y7.1 y11))
  else some false
def gamehallkeep1_NimsumSums (N : Nat) (a_ : Int) (b_ : Int) (m_ : Int) (n_ : Int) : Option Bool := gamehallkeep1_NimsumSums.e N a_ b_ m_ n_
/-! ### f4: gamehall/gamehallkeep1.NimsumLimits -/
def gamehallkeep1_NimsumLimits.e (N : Nat) (n_ : Int) (most : Int) : Option Bool :=
  (nimsum_Value_int N 0 5 5).bind fun y1 =>
  bif (!(eqI y1.2 17)) then some false
  else (gamehallkeep1_summed N).bind fun y2 =>
  bif (!y2) then some false
  else bif (ltI 20000 n_) then ((nimsum_Heap_Next N 0 n_).bind fun y3 =>
    bif (ltI 0 (y3.length : Int)) then some false
    else let v5 : Int := (w64 ((Int.tmod n_ 60) + 60))
    (nimsum_Value_int N 0 (Int.tmod v5 60) most).bind fun y6 =>
    bif (ltI most 1) then (some (eqI y6.2 1))
    else bif (ltI 20000 most) then (some (eqI y6.2 1))
    else bif (ltI most (w64 ((Int.tmod v5 60) + 1))) then (some (eqI y6.2 17))
    else some (eqI y6.2 0))
  else let v8 : Int := (w64 ((Int.tmod n_ 60) + 60))
  (nimsum_Value_int N 0 (Int.tmod v8 60) most).bind fun y9 =>
  bif (ltI most 1) then (some (eqI y9.2 1))
  else bif (ltI 20000 most) then (some (eqI y9.2 1))
  else bif (ltI most (w64 ((Int.tmod v8 60) + 1))) then (some (eqI y9.2 17))
  else some (eqI y9.2 0)
def gamehallkeep1_NimsumLimits (N : Nat) (n_ : Int) (most : Int) : Option Bool := gamehallkeep1_NimsumLimits.e N n_ most
/-! ### f16: gamehall/nimsum.Wins[int] -/
def nimsum_Wins_int.e (N : Nat) (r0 : Int → Int → (List Int) → Option (Int × Int)) (g_ : Int) (s_ : Int) (most : Int) : Option (Int × Int) :=
  (nimsum_Value_int N g_ s_ most).bind fun y1 =>
  bif (!(eqI y1.2 0)) then (some (0, y1.2))
  else (nimsum_Heap_Next N g_ s_).bind fun y2 =>
  r0 (y2.length : Int) 0 y2
def nimsum_Wins_int.s0 (N : Nat) (g_ : Int) (s_ : Int) (most : Int) (r0 : Int → Int → (List Int) → Option (Int × Int)) (t29_ : Int) (t30_ : Int) (m0_ : (List Int)) : Option (Int × Int) :=
  bif (ltI t30_ t29_) then (chk ((leI 0 t30_) && (ltI t30_ (m0_.length : Int))) <|
    (nimsum_Value_int N g_ (gD (0 : Int) m0_ t30_) most).bind fun y3 =>
    bif (eqI y3.2 0) then (bif (eqI y3.1 0) then (some ((gD (0 : Int) m0_ t30_), 0))
      else r0 t29_ (w64 (t30_ + 1)) m0_)
    else r0 t29_ (w64 (t30_ + 1)) m0_)
  else some (0, 8)
def nimsum_Wins_int.L (N : Nat) (g_ : Int) (s_ : Int) (most : Int) : Nat → (Int → Int → (List Int) → Option (Int × Int))
  | 0 => fun _ _ _ => none
  | n + 1 => fun t29_ t30_ m0_ => nimsum_Wins_int.s0 N g_ s_ most (nimsum_Wins_int.L N g_ s_ most n) t29_ t30_ m0_
def nimsum_Wins_int.l0 (N : Nat) (g_ : Int) (s_ : Int) (most : Int) (n : Nat) : Int → Int → (List Int) → Option (Int × Int) := (nimsum_Wins_int.L N g_ s_ most n)
theorem nimsum_Wins_int.l0_s (N : Nat) (g_ : Int) (s_ : Int) (most : Int) (n : Nat) (t29_ : Int) (t30_ : Int) (m0_ : (List Int)) : nimsum_Wins_int.l0 N g_ s_ most (n + 1) t29_ t30_ m0_ = nimsum_Wins_int.s0 N g_ s_ most (nimsum_Wins_int.l0 N g_ s_ most n) t29_ t30_ m0_ := rfl
def nimsum_Wins_int (N : Nat) (g_ : Int) (s_ : Int) (most : Int) : Option (Int × Int) := nimsum_Wins_int.e N (nimsum_Wins_int.l0 N g_ s_ most N) g_ s_ most
/-! ### f25: slices.Index[[]int,int] -/
def slices_Index_int_int.e (N : Nat) (r0 : Int → Option Int) (s_ : (List Int)) (v_ : Int) : Option Int :=
  r0 0
def slices_Index_int_int.s0 (N : Nat) (s_ : (List Int)) (v_ : Int) (r0 : Int → Option Int) (t8_ : Int) : Option Int :=
  bif (ltI t8_ (s_.length : Int)) then (chk ((leI 0 t8_) && (ltI t8_ (s_.length : Int))) <|
    bif (eqI v_ (gD (0 : Int) s_ t8_)) then some t8_
    else r0 (w64 (t8_ + 1)))
  else some (-1)
def slices_Index_int_int.L (N : Nat) (s_ : (List Int)) (v_ : Int) : Nat → (Int → Option Int)
  | 0 => fun _ => none
  | n + 1 => fun t8_ => slices_Index_int_int.s0 N s_ v_ (slices_Index_int_int.L N s_ v_ n) t8_
def slices_Index_int_int.l0 (N : Nat) (s_ : (List Int)) (v_ : Int) (n : Nat) : Int → Option Int := (slices_Index_int_int.L N s_ v_ n)
theorem slices_Index_int_int.l0_s (N : Nat) (s_ : (List Int)) (v_ : Int) (n : Nat) (t8_ : Int) : slices_Index_int_int.l0 N s_ v_ (n + 1) t8_ = slices_Index_int_int.s0 N s_ v_ (slices_Index_int_int.l0 N s_ v_ n) t8_ := rfl
def slices_Index_int_int (N : Nat) (s_ : (List Int)) (v_ : Int) : Option Int := slices_Index_int_int.e N (slices_Index_int_int.l0 N s_ v_ N) s_ v_
/-! ### f17: slices.Contains[[]int,int] -/
def slices_Contains_int_int.e (N : Nat) (s_ : (List Int)) (v_ : Int) : Option Bool :=
  (slices_Index_int_int N s_ v_).bind fun y1 =>
  some (leI 0 y1)
def slices_Contains_int_int (N : Nat) (s_ : (List Int)) (v_ : Int) : Option Bool := slices_Contains_int_int.e N s_ v_
/-! ### f6: gamehall/gamehallkeep1.NimsumWins -/
def gamehallkeep1_NimsumWins.e (N : Nat) (n_ : Int) (most : Int) : Option Bool :=
  (nimsum_Wins_int N 2 5 100).bind fun y1 =>
  bif (!(eqI y1.2 0)) then some false
  else bif (!(eqI y1.1 3)) then some false
  else (gamehallkeep1_summed N).bind fun y2 =>
  bif (!y2) then some false
  else let v3 : Int := (w64 ((Int.tmod n_ 60) + 60))
  let v4 : Int := (w64 ((Int.tmod most 9) + 9))
  (nimsum_Value_int N (Int.tmod v4 9) (Int.tmod v3 60) 100).bind fun y5 =>
  (nimsum_Wins_int N (Int.tmod v4 9) (Int.tmod v3 60) 100).bind fun y6 =>
  bif (!(eqI y6.2 0)) then (bif (eqI y5.2 0) then (bif (eqI y5.1 0) then (bif (eqI y6.2 8) then (some (eqI y6.1 0))
        else some false)
      else some false)
    else some false)
  else (nimsum_Value_int N (Int.tmod v4 9) y6.1 100).bind fun y7 =>
  (gamehallkeep1_fine N [y5.2, y7.2]).bind fun y8 =>
  bif y8 then (bif (!(eqI y5.1 0)) then (bif (eqI y7.1 0) then ((nimsum_Heap_Next N (Int.tmod v4 9) (Int.tmod v3 60)).bind fun y9 =>
        (slices_Contains_int_int N y9 y6.1).bind fun y10 =>
        some y10)
      else some false)
    else some false)
  else some false
def gamehallkeep1_NimsumWins (N : Nat) (n_ : Int) (most : Int) : Option Bool := gamehallkeep1_NimsumWins.e N n_ most
/-! ### f18: slices.Clone[[]byte,byte] -/
def slices_Clone_byte_byte.e (N : Nat) (s_ : (List Int)) : Option (List Int) :=
  chk (capOk 1 (([] : List Int).length + s_.length)) <|
  some ([] ++ s_)
def slices_Clone_byte_byte (N : Nat) (s_ : (List Int)) : Option (List Int) := slices_Clone_byte_byte.e N s_
end Go.Proofs.Ytbnpbnghpbgjiaa.Am
