/- Plain: exclusive or of numbers, of lists of them; the sum of values, and the move that Take finds. -/
import Derived.Test.YtbnpbnghpbgjiaaLawRets
import Derived.Test.YtbnpbnghpbgjiaaFns
import Derived.Laws.Bits64
set_option linter.unusedVariables false
set_option linter.unusedSimpArgs false
namespace Go.Proofs.Ytbnpbnghpbgjiaa.Am
open Go

def bx (a b : Int) : Int := Go.bits .xor .i64 a b
theorem bx_nat {a b : Nat} (ha : a < 2 ^ 62) (hb : b < 2 ^ 62) : bx (a : Int) (b : Int) = ((a ^^^ b : Nat) : Int) := by
  have hx : a ^^^ b < 2 ^ 62 := Nat.xor_lt_two_pow ha hb
  have h1 : (BitVec.ofInt 64 (a : Int)).toNat = a := by
    rw [BitVec.ofInt_natCast, BitVec.toNat_ofNat]; exact Nat.mod_eq_of_lt (by omega)
  have h2 : (BitVec.ofInt 64 (b : Int)).toNat = b := by
    rw [BitVec.ofInt_natCast, BitVec.toNat_ofNat]; exact Nat.mod_eq_of_lt (by omega)
  show IntKind.i64.wrap ((BitVec.ofInt 64 (a : Int) ^^^ BitVec.ofInt 64 (b : Int)).toNat : Int) = _
  rw [BitVec.toNat_xor, h1, h2]
  exact w64_id (by omega) (by omega)
theorem top_bit {x : Nat} (h : x ≠ 0) : ∃ i, x.testBit i = true ∧ ∀ j, i < j → x.testBit j = false := by
  refine ⟨x.log2, Nat.testBit_log2 h, fun j hj => Nat.testBit_lt_two_pow ?_⟩
  exact Nat.lt_of_lt_of_le (Nat.lt_log2_self) (Nat.pow_le_pow_right (by omega) hj)
theorem lt_of_bit {x y : Nat} (i : Nat) (hx : x.testBit i = false) (hy : y.testBit i = true) (h : ∀ j, i < j → x.testBit j = y.testBit j) : x < y := by
  have e : x / 2 ^ (i + 1) = y / 2 ^ (i + 1) := by
    apply Nat.eq_of_testBit_eq
    intro j
    rw [Nat.testBit_div_two_pow, Nat.testBit_div_two_pow]
    exact h _ (by omega)
  rw [Nat.testBit_eq_decide_div_mod_eq] at hx hy
  have hx := of_decide_eq_false hx
  have hy := of_decide_eq_true hy
  rw [Nat.pow_succ, ← Nat.div_div_eq_div_mul, ← Nat.div_div_eq_div_mul] at e
  have hlt : x / 2 ^ i < y / 2 ^ i := by omega
  rcases Nat.lt_or_ge x y with h1 | h1
  · exact h1
  · have := Nat.div_le_div_right (c := 2 ^ i) h1
    omega
theorem xor_zero {a b : Nat} (h : a ^^^ b = 0) : a = b := by
  apply Nat.eq_of_testBit_eq
  intro j
  have := congrArg (fun z => z.testBit j) h
  simp only [Nat.testBit_xor, Nat.zero_testBit] at this
  revert this
  cases a.testBit j <;> cases b.testBit j <;> simp
/-- the top bit of x is one of h's: then h loses by it -/
theorem xor_less {h x i : Nat} (h1 : h.testBit i = true) (h2 : x.testBit i = true) (h3 : ∀ j, i < j → x.testBit j = false) : h ^^^ x < h := by
  refine lt_of_bit i ?_ h1 fun j hj => ?_
  · rw [Nat.testBit_xor, h1, h2]; rfl
  · rw [Nat.testBit_xor, h3 j hj, Bool.xor_false]
theorem xor_opt {a b v : Nat} (h : v < a ^^^ b) : v ^^^ b < a ∨ v ^^^ a < b := by
  have hd : v ^^^ (a ^^^ b) ≠ 0 := fun e => by
    have := xor_zero e
    omega
  obtain ⟨i, h1, h2⟩ := top_bit hd
  have hab : (a ^^^ b).testBit i = true := by
    cases hc : (a ^^^ b).testBit i
    · exfalso
      have hv : v.testBit i = true := by rw [Nat.testBit_xor, hc, Bool.xor_false] at h1; exact h1
      have : a ^^^ b < v := lt_of_bit i hc hv fun j hj => by
        have := h2 j hj
        rw [Nat.testBit_xor] at this
        revert this
        cases v.testBit j <;> cases (a ^^^ b).testBit j <;> simp
      omega
    · rfl
  have e1 : a ^^^ (v ^^^ (a ^^^ b)) = v ^^^ b := by
    apply Nat.eq_of_testBit_eq
    intro j
    simp only [Nat.testBit_xor]
    cases a.testBit j <;> cases b.testBit j <;> cases v.testBit j <;> rfl
  have e2 : b ^^^ (v ^^^ (a ^^^ b)) = v ^^^ a := by
    apply Nat.eq_of_testBit_eq
    intro j
    simp only [Nat.testBit_xor]
    cases a.testBit j <;> cases b.testBit j <;> cases v.testBit j <;> rfl
  rw [Nat.testBit_xor] at hab
  cases ha : a.testBit i with
  | true => left; rw [← e1]; exact xor_less ha h1 h2
  | false =>
    rw [ha, Bool.false_xor] at hab
    right; rw [← e2]; exact xor_less hab h1 h2

/-- exclusive or of a list -/
def xl : List Nat → Nat
  | [] => 0
  | a :: l => a ^^^ xl l
theorem xl_lt : ∀ {l : List Nat}, (∀ a ∈ l, a < 2 ^ 62) → xl l < 2 ^ 62
  | [], _ => by decide
  | a :: l, h => Nat.xor_lt_two_pow (h a (by simp)) (xl_lt fun b hb => h b (by simp [hb]))
theorem xl_fold : ∀ (l : List Nat) (a : Nat), a < 2 ^ 62 → (∀ b ∈ l, b < 2 ^ 62) → (l.map Int.ofNat).foldl bx (a : Int) = ((a ^^^ xl l : Nat) : Int)
  | [], a, _, _ => by
    show (a : Int) = ((a ^^^ 0 : Nat) : Int)
    rw [Nat.xor_zero]
  | b :: l, a, ha, h => by
    show (l.map Int.ofNat).foldl bx (bx (a : Int) (b : Int)) = ((a ^^^ (b ^^^ xl l) : Nat) : Int)
    rw [bx_nat ha (h b (by simp)), xl_fold l _ (Nat.xor_lt_two_pow ha (h b (by simp))) (fun c hc => h c (by simp [hc])), Nat.xor_assoc]
theorem xl_set : ∀ (l : List Nat) (i v : Nat) (hi : i < l.length), xl (l.set i v) = xl l ^^^ (l[i] ^^^ v)
  | a :: l, 0, v, _ => by
    show v ^^^ xl l = (a ^^^ xl l) ^^^ (a ^^^ v)
    apply Nat.eq_of_testBit_eq
    intro j
    simp only [Nat.testBit_xor]
    cases a.testBit j <;> cases v.testBit j <;> cases (xl l).testBit j <;> rfl
  | a :: l, i + 1, v, hi => by
    have hi' : i < l.length := by simpa using hi
    show a ^^^ xl (l.set i v) = (a ^^^ xl l) ^^^ (l[i] ^^^ v)
    rw [xl_set l i v hi', Nat.xor_assoc]
theorem xl_bit : ∀ (l : List Nat) (i : Nat), (xl l).testBit i = true → ∃ a ∈ l, a.testBit i = true
  | [], i, h => by simp [xl] at h
  | a :: l, i, h => by
    cases ha : a.testBit i with
    | true => exact ⟨a, by simp, ha⟩
    | false =>
      have h : (a ^^^ xl l).testBit i = true := h
      rw [Nat.testBit_xor, ha, Bool.false_xor] at h
      obtain ⟨b, hb, hb2⟩ := xl_bit l i h
      exact ⟨b, by simp [hb], hb2⟩
theorem nxtS {n k : Nat} (h : k < n) : ∃ m, n = m + 1 := ⟨n - 1, by omega⟩
/-- the sum of values -/
theorem sum_l0 (N : Nat) (vs : List Int) (hl : vs.length < 2 ^ 62) : ∀ (k j n : Nat) (a : Int), j + k = vs.length → k < n → nimsum_Sum.l0 N vs n a (j : Int) = some ((vs.drop j).foldl bx a)
  | 0, j, n, a, hk, hn => by
    obtain ⟨n, rfl⟩ := nxtS hn
    rw [nimsum_Sum.l0_s, nimsum_Sum.s0, bif_f (ltI_f (by omega)), List.drop_of_length_le (by omega)]
    rfl
  | k + 1, j, n, a, hk, hn => by
    obtain ⟨n, rfl⟩ := nxtS hn
    have hj : j < vs.length := by omega
    rw [nimsum_Sum.l0_s, nimsum_Sum.s0, bif_t (ltI_t (by omega)), chk_of (idx_ok hj), gD_nat hj, w64_id (by omega) (by omega), show ((j : Int) + 1) = ((j + 1 : Nat) : Int) by omega, sum_l0 N vs hl k (j + 1) n _ (by omega) (by omega), List.drop_eq_getElem_cons hj]
    rfl
theorem sum_eq {N : Nat} {vs : List Int} (hl : vs.length < N) (h2 : N < 2 ^ 62) : nimsum_Sum N vs = some (vs.foldl bx 0) := by
  unfold nimsum_Sum nimsum_Sum.e
  have := sum_l0 N vs (by omega) vs.length 0 N 0 (by omega) (by omega)
  rw [List.drop_zero] at this
  exact this
theorem summed_true : gamehallkeep1_summed 300000000 = some true := by decide +kernel
end Go.Proofs.Ytbnpbnghpbgjiaa.Am
