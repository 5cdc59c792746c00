/- Plain: sets of squares as numbers below 2^64: the operations on bits, the last bit, how many bits there are, the list of them. -/
import Derived.Test.YtbnpbnghpbgjiaaDoorFn
import Derived.Test.YtbnpbnghpbgjiaaDoorAm16
set_option linter.unusedVariables false
set_option linter.unusedSimpArgs false
namespace Go.Proofs.YtbnpbnghpbgjiaaDoor.Am
open Go

theorem nxtS {n k : Nat} (h : k < n) : ∃ m, n = m + 1 := ⟨n - 1, by omega⟩
theorem u64_id {x : Int} (h0 : 0 ≤ x) (h1 : x < 18446744073709551616) : IntKind.wrap .u64 x = x := Int.emod_eq_of_lt h0 h1
theorem ofInt_nat {a : Nat} (ha : a < 2 ^ 64) : (BitVec.ofInt 64 (a : Int)).toNat = a := by
  rw [BitVec.ofInt_natCast, BitVec.toNat_ofNat]
  exact Nat.mod_eq_of_lt ha
theorem bAnd {a b : Nat} (ha : a < 2 ^ 64) (hb : b < 2 ^ 64) : Go.bits .and .u64 (a : Int) (b : Int) = ((a &&& b : Nat) : Int) := by
  have hx : a &&& b < 2 ^ 64 := Nat.and_lt_two_pow a hb
  show IntKind.u64.wrap ((BitVec.ofInt 64 (a : Int) &&& BitVec.ofInt 64 (b : Int)).toNat : Int) = _
  rw [BitVec.toNat_and, ofInt_nat ha, ofInt_nat hb]
  exact u64_id (by omega) (by omega)
theorem bOr {a b : Nat} (ha : a < 2 ^ 64) (hb : b < 2 ^ 64) : Go.bits .or .u64 (a : Int) (b : Int) = ((a ||| b : Nat) : Int) := by
  have hx : a ||| b < 2 ^ 64 := Nat.or_lt_two_pow ha hb
  show IntKind.u64.wrap ((BitVec.ofInt 64 (a : Int) ||| BitVec.ofInt 64 (b : Int)).toNat : Int) = _
  rw [BitVec.toNat_or, ofInt_nat ha, ofInt_nat hb]
  exact u64_id (by omega) (by omega)
/-- without the bits of another -/
def nn (a b : Nat) : Nat := a &&& (2 ^ 64 - 1 - b)
theorem nn_lt {a b : Nat} (ha : a < 2 ^ 64) : nn a b < 2 ^ 64 := Nat.lt_of_le_of_lt Nat.and_le_left ha
theorem nn_bit {a b : Nat} (ha : a < 2 ^ 64) (hb : b < 2 ^ 64) (i : Nat) : (nn a b).testBit i = (a.testBit i && !b.testBit i) := by
  unfold nn
  rw [Nat.testBit_and, show 2 ^ 64 - 1 - b = 2 ^ 64 - (b + 1) by omega, Nat.testBit_two_pow_sub_succ hb]
  by_cases hi : i < 64
  · simp [hi]
  · rw [Nat.testBit_lt_two_pow (Nat.lt_of_lt_of_le ha (Nat.pow_le_pow_right (by decide) (by omega)))]
    rfl
theorem bNot {a b : Nat} (ha : a < 2 ^ 64) (hb : b < 2 ^ 64) : Go.bits .andNot .u64 (a : Int) (b : Int) = ((nn a b : Nat) : Int) := by
  have hx := nn_lt (b := b) ha
  show IntKind.u64.wrap ((BitVec.ofInt 64 (a : Int) &&& ~~~ BitVec.ofInt 64 (b : Int)).toNat : Int) = _
  rw [BitVec.toNat_and, BitVec.toNat_not, ofInt_nat ha, ofInt_nat hb]
  exact u64_id (by unfold nn at *; omega) (by unfold nn at *; omega)
theorem bit_hi {a i : Nat} (ha : a < 2 ^ 64) (hi : 64 ≤ i) : a.testBit i = false := Nat.testBit_lt_two_pow (Nat.lt_of_lt_of_le ha (Nat.pow_le_pow_right (by decide) hi))
theorem bit_lt {a i : Nat} (ha : a < 2 ^ 64) (h : a.testBit i = true) : i < 64 := by
  apply Nat.lt_of_not_le
  intro hi
  rw [bit_hi ha hi] at h
  cases h

/-! ### the last bit -/
theorem lowb : ∀ m : Nat, m ≠ 0 → ∃ k q, m = 2 ^ k * (2 * q + 1) := by
  intro m
  induction m using Nat.strongRecOn with
  | _ m ih =>
    intro h
    by_cases h2 : m % 2 = 1
    · exact ⟨0, m / 2, by omega⟩
    · obtain ⟨k, q, e⟩ := ih (m / 2) (by omega) (by omega)
      refine ⟨k + 1, q, ?_⟩
      rw [Nat.pow_succ, Nat.mul_assoc, Nat.mul_left_comm, ← e]
      omega
theorem bit_low (k q j : Nat) : (2 ^ k * (2 * q + 1)).testBit j = (decide (k ≤ j) && (2 * q + 1).testBit (j - k)) := by
  have h := Nat.testBit_two_pow_mul_add (2 * q + 1) (b := 0) (i := k) (Nat.two_pow_pos k) j
  rw [Nat.add_zero] at h
  rw [h]
  by_cases hj : j < k
  · rw [if_pos hj, Nat.zero_testBit]; simp [Nat.not_le.2 hj]
  · rw [if_neg hj]; simp [Nat.le_of_not_lt hj]
theorem odd_bit (q i : Nat) : (2 * q + 1).testBit i = (decide (i = 0) || (decide (1 ≤ i) && q.testBit (i - 1))) := by
  cases i with
  | zero => simp [Nat.testBit_zero]
  | succ i => rw [Nat.testBit_add_one, show (2 * q + 1) / 2 = q by omega]; simp
theorem even_bit (q i : Nat) : (2 * q).testBit i = (decide (1 ≤ i) && q.testBit (i - 1)) := by
  cases i with
  | zero => simp [Nat.testBit_zero]
  | succ i => rw [Nat.testBit_add_one, show (2 * q) / 2 = q by omega]; simp
theorem clr_eq (k q : Nat) : (2 ^ k * (2 * q + 1)) &&& (2 ^ k * (2 * q + 1) - 1) = 2 ^ k * (2 * q) := by
  apply Nat.eq_of_testBit_eq
  intro j
  have hp : 0 < 2 ^ k := Nat.two_pow_pos k
  have e : 2 ^ k * (2 * q + 1) - 1 = 2 ^ k * (2 * q) + (2 ^ k - 1) := by rw [Nat.mul_add, Nat.mul_one]; omega
  rw [Nat.testBit_and, e, Nat.testBit_two_pow_mul_add _ (by omega), bit_low]
  have h := Nat.testBit_two_pow_mul_add (2 * q) (b := 0) (i := k) hp j
  rw [Nat.add_zero] at h
  rw [h, odd_bit, even_bit]
  by_cases hj : j < k
  · simp [hj, Nat.not_le.2 hj]
  · by_cases hk : j = k
    · subst hk; simp
    · simp [hj, Nat.le_of_not_lt hj, show ¬ (j - k = 0) by omega, show 1 ≤ j - k by omega]
theorem low_lt {k q : Nat} (h : 2 ^ k * (2 * q + 1) < 2 ^ 64) : k < 64 := by
  apply Nat.lt_of_not_le
  intro hk
  have h1 : 2 ^ 64 ≤ 2 ^ k := Nat.pow_le_pow_right (by decide) hk
  have h2 : 2 ^ k ≤ 2 ^ k * (2 * q + 1) := Nat.le_mul_of_pos_right _ (by omega)
  omega
theorem neg_eq {k q : Nat} (h : 2 ^ k * (2 * q + 1) < 2 ^ 64) : (2 ^ k * (2 * q + 1)) &&& (2 ^ 64 - 2 ^ k * (2 * q + 1)) = 2 ^ k := by
  have hk := low_lt h
  have hp : 0 < 2 ^ k := Nat.two_pow_pos k
  have hs : 2 ^ 64 = 2 ^ k * (2 * 2 ^ (63 - k)) := by
    rw [show (2 : Nat) * 2 ^ (63 - k) = 2 ^ (64 - k) by rw [show 64 - k = (63 - k) + 1 by omega, Nat.pow_succ]; omega, ← Nat.pow_add]
    congr 1; omega
  have hq : q < 2 ^ (63 - k) := by
    rw [hs] at h
    have := Nat.lt_of_mul_lt_mul_left h
    omega
  have e : 2 ^ 64 - 2 ^ k * (2 * q + 1) = 2 ^ k * (2 * (2 ^ (63 - k) - (q + 1)) + 1) := by
    rw [hs, ← Nat.mul_sub]
    congr 1; omega
  rw [e]
  apply Nat.eq_of_testBit_eq
  intro j
  rw [Nat.testBit_and, bit_low, bit_low, odd_bit, odd_bit, Nat.testBit_two_pow, Nat.testBit_two_pow_sub_succ hq]
  by_cases hj : j < k
  · simp [Nat.not_le.2 hj, show ¬ k = j by omega]
  · by_cases hk : j = k
    · subst hk; simp
    · cases hb : q.testBit (j - k - 1) <;> simp [Nat.le_of_not_lt hj, show ¬ (j - k = 0) by omega, show 1 ≤ j - k by omega, show ¬ k = j by omega, hb]
theorem tz_tab : ∀ k : Nat, k < 64 → deB.getD (IntKind.u64.wrap (((2 ^ k : Nat) : Int) * 285870213051353865) / 288230376151711744).toNat 0 = (k : Int) := by decide +kernel
theorem tz_eq {k q : Nat} (h : 2 ^ k * (2 * q + 1) < 2 ^ 64) : tzF ((2 ^ k * (2 * q + 1) : Nat) : Int) = some (k : Int) := by
  have hp : 0 < 2 ^ k * (2 * q + 1) := Nat.mul_pos (Nat.two_pow_pos k) (by omega)
  have hk := low_lt h
  have hn := neg_eq h
  unfold tzF
  rw [eqI_f (by omega)]
  simp only [cond_false]
  have e1 : IntKind.u64.wrap (-((2 ^ k * (2 * q + 1) : Nat) : Int)) = ((2 ^ 64 - 2 ^ k * (2 * q + 1) : Nat) : Int) := by
    show (-((2 ^ k * (2 * q + 1) : Nat) : Int)) % 18446744073709551616 = _
    generalize 2 ^ k * (2 * q + 1) = m at *
    omega
  unfold tzI
  rw [e1, bAnd h (by omega), hn, tz_tab k hk]
theorem clr_low {k q : Nat} (h : 2 ^ k * (2 * q + 1) < 2 ^ 64) : Go.bits .and .u64 ((2 ^ k * (2 * q + 1) : Nat) : Int) (IntKind.wrap .u64 (((2 ^ k * (2 * q + 1) : Nat) : Int) - 1)) = ((2 ^ k * (2 * q) : Nat) : Int) := by
  have hp : 0 < 2 ^ k * (2 * q + 1) := Nat.mul_pos (Nat.two_pow_pos k) (by omega)
  have e : ((2 ^ k * (2 * q + 1) : Nat) : Int) - 1 = ((2 ^ k * (2 * q + 1) - 1 : Nat) : Int) := by omega
  rw [e, u64_id (by omega) (by omega), bAnd h (by omega), clr_eq]
theorem clr_lt {k q : Nat} (h : 2 ^ k * (2 * q + 1) < 2 ^ 64) : 2 ^ k * (2 * q) < 2 ^ 64 := Nat.lt_of_le_of_lt (Nat.mul_le_mul_left _ (by omega)) h

/-! ### how many bits -/
def pcF : Nat → Nat → Nat
  | 0, _ => 0
  | f + 1, m => m % 2 + pcF f (m / 2)
def pc (m : Nat) : Nat := pcF 64 m
theorem pcF_zero : ∀ f, pcF f 0 = 0
  | 0 => rfl
  | f + 1 => by unfold pcF; rw [show 0 % 2 = 0 from rfl, show 0 / 2 = 0 from rfl, pcF_zero f]
theorem pc_zero : pc 0 = 0 := pcF_zero 64
theorem pcF_low : ∀ (f k q : Nat), k < f → pcF f (2 ^ k * (2 * q + 1)) = pcF f (2 ^ k * (2 * q)) + 1
  | 0, k, q, h => absurd h (Nat.not_lt_zero _)
  | f + 1, 0, q, _ => by
    unfold pcF
    rw [Nat.pow_zero, Nat.one_mul, Nat.one_mul, show (2 * q + 1) % 2 = 1 by omega, show (2 * q + 1) / 2 = q by omega, show (2 * q) % 2 = 0 by omega, show (2 * q) / 2 = q by omega]
    omega
  | f + 1, k + 1, q, h => by
    have ih := pcF_low f k q (by omega)
    unfold pcF
    have e : ∀ x : Nat, 2 ^ (k + 1) * x = 2 * (2 ^ k * x) := fun x => by rw [Nat.pow_succ, Nat.mul_comm (2 ^ k) 2, Nat.mul_assoc]
    rw [e, e, show (2 * (2 ^ k * (2 * q + 1))) % 2 = 0 by omega, show (2 * (2 ^ k * (2 * q + 1))) / 2 = 2 ^ k * (2 * q + 1) by omega, show (2 * (2 ^ k * (2 * q))) % 2 = 0 by omega, show (2 * (2 ^ k * (2 * q))) / 2 = 2 ^ k * (2 * q) by omega, ih]
    omega
theorem pcF_more : ∀ (f m : Nat), m < 2 ^ f → pcF (f + 1) m = pcF f m
  | 0, m, h => by
    have : m = 0 := by omega
    subst this
    rfl
  | f + 1, m, h => by
    have ih := pcF_more f (m / 2) (by rw [Nat.pow_succ] at h; omega)
    rw [pcF, ih]
    rfl
theorem pc_low {k q : Nat} (h : k < 64) : pc (2 ^ k * (2 * q + 1)) = pc (2 ^ k * (2 * q)) + 1 := pcF_low 64 k q h
theorem pc_dbl {m : Nat} (h : 2 * m < 2 ^ 64) : pc (2 * m) = pc m := by
  unfold pc
  rw [pcF, show 2 * m % 2 = 0 by omega, show 2 * m / 2 = m by omega, Nat.zero_add]
  exact (pcF_more 63 m (by omega)).symm
theorem pc_mul : ∀ (n : Nat) {m : Nat}, m * 2 ^ n < 2 ^ 64 → pc (m * 2 ^ n) = pc m
  | 0, m, h => by rw [Nat.pow_zero, Nat.mul_one]
  | n + 1, m, h => by
    have e : m * 2 ^ (n + 1) = 2 * (m * 2 ^ n) := by rw [Nat.pow_succ, ← Nat.mul_assoc, Nat.mul_comm]
    rw [e] at h ⊢
    rw [pc_dbl h, pc_mul n (by omega)]
theorem pcF_le : ∀ f m, pcF f m ≤ f
  | 0, m => Nat.le_refl _
  | f + 1, m => by
    have := pcF_le f (m / 2)
    unfold pcF
    omega
theorem pc_le (m : Nat) : pc m ≤ 64 := pcF_le 64 m
theorem pc_two (k : Nat) (h : k < 64) : pc (2 ^ k) = 1 := by
  have := pc_low (k := k) (q := 0) h
  rw [Nat.mul_zero, Nat.zero_add, Nat.mul_one, Nat.mul_zero, pc_zero] at this
  exact this
/-- what the last bit of a set is, and the set without it -/
theorem low_cases {m : Nat} (h0 : m ≠ 0) (hm : m < 2 ^ 64) : ∃ k m' : Nat, k < 64 ∧ m' < m ∧ tzF (m : Int) = some (k : Int) ∧ Go.bits .and .u64 (m : Int) (IntKind.wrap .u64 ((m : Int) - 1)) = (m' : Int) ∧ pc m = pc m' + 1 ∧
    m.testBit k = true ∧ (∀ j, j < k → m.testBit j = false) ∧ (∀ j, m'.testBit j = (m.testBit j && decide (j ≠ k))) := by
  obtain ⟨k, q, rfl⟩ := lowb m h0
  refine ⟨k, 2 ^ k * (2 * q), low_lt hm, Nat.mul_lt_mul_of_pos_left (by omega) (Nat.two_pow_pos k), tz_eq hm, clr_low hm, pc_low (low_lt hm), ?_, ?_, ?_⟩
  · rw [bit_low, odd_bit]; simp
  · intro j hj
    rw [bit_low]; simp [Nat.not_le.2 hj]
  · intro j
    have h := Nat.testBit_two_pow_mul_add (2 * q) (b := 0) (i := k) (Nat.two_pow_pos k) j
    rw [Nat.add_zero] at h
    rw [h, bit_low, odd_bit, even_bit]
    by_cases hj : j < k
    · simp [hj, Nat.not_le.2 hj]
    · by_cases hk : j = k
      · subst hk; simp
      · simp [hj, hk, Nat.le_of_not_lt hj, show ¬ (j - k = 0) by omega, show 1 ≤ j - k by omega]
theorem pc_pos {m : Nat} (h0 : m ≠ 0) (hm : m < 2 ^ 64) : 0 < pc m := by
  obtain ⟨k, m', _, _, _, _, h, _⟩ := low_cases h0 hm
  omega
theorem count_l0 {N : Nat} {b : Int} : ∀ (p m c n : Nat), pc m = p → m < 2 ^ 64 → p + 1 < n → c + p < 1000 → bits_Count.l0 N b n (m : Int) (c : Int) = some ((c + p : Nat) : Int) := by
  intro p
  induction p with
  | zero =>
    intro m c n hp hm hn hc
    obtain ⟨n, rfl⟩ := nxtS hn
    have h0 : m = 0 := by
      apply Classical.byContradiction
      intro h
      have := pc_pos h hm
      omega
    subst h0
    obtain ⟨n, rfl⟩ := nxtS (k := 0) (n := n) (by omega)
    rw [bits_Count.l0_s, bits_Count.s0, bif_t (eqI_t (show ((0 : Nat) : Int) = 0 from rfl)), bits_Count.l1_s, bits_Count.s1, Nat.add_zero]
  | succ p ih =>
    intro m c n hp hm hn hc
    obtain ⟨n, rfl⟩ := nxtS hn
    have h0 : m ≠ 0 := fun e => by subst e; rw [pc_zero] at hp; omega
    obtain ⟨k, m', hk, hlt, htz, hcl, hpc, _⟩ := low_cases h0 hm
    have hw : w64 ((c : Int) + 1) = ((c + 1 : Nat) : Int) := by rw [w64_id (by omega) (by omega)]; omega
    have h1 := ih m' (c + 1) n (by omega) (by omega) (by omega) (by omega)
    have hz : eqI (m : Int) 0 = false := eqI_f (by omega)
    rw [bits_Count.l0_s, bits_Count.s0, hz, htz, hcl, hw]
    have e : c + 1 + p = c + (p + 1) := by omega
    rw [e] at h1
    exact h1
theorem count_eq {N m : Nat} (hN : 100 < N) (hm : m < 2 ^ 64) : bits_Count N (m : Int) = some ((pc m : Nat) : Int) := by
  unfold bits_Count bits_Count.e
  have := pc_le m
  have h := count_l0 (N := N) (b := (m : Int)) (pc m) m 0 N rfl hm (by omega) (by omega)
  rw [Nat.zero_add] at h
  exact h
end Go.Proofs.YtbnpbnghpbgjiaaDoor.Am
