/- Plain: moving a set of squares. -/
import Derived.Test.YtbnpbnghpbgjiaaDoorLawBitsA
set_option linter.unusedVariables false
set_option linter.unusedSimpArgs false
namespace Go.Proofs.YtbnpbnghpbgjiaaDoor.Am
open Go

def col (t : Nat) : Nat := 72340172838076673 * 2 ^ t
theorem col_lt {t : Nat} (h : t < 8) : col t < 2 ^ 64 := by
  have : ∀ t : Nat, t < 8 → col t < 2 ^ 64 := by decide
  exact this t h
theorem col_bit : ∀ t : Nat, t < 8 → ∀ j : Nat, j < 64 → (col t).testBit j = decide (j % 8 = t) := by decide +kernel
theorem column_eq (N : Nat) : ∀ {t : Nat}, t < 8 → bits_column N (t : Int) = some ((col t : Nat) : Int)
  | 0, _ => rfl
  | 1, _ => rfl
  | 2, _ => rfl
  | 3, _ => rfl
  | 4, _ => rfl
  | 5, _ => rfl
  | 6, _ => rfl
  | 7, _ => rfl
  | t + 8, h => absurd h (by omega)
def bad (dx : Int) (t : Nat) : Bool := decide ((t : Int) + dx < 0) || decide (8 ≤ (t : Int) + dx)
def cutF (dx : Int) : Nat → Nat → Nat → Nat
  | 0, t, m => m
  | k + 1, t, m => cutF dx k (t + 1) (if bad dx t = true then nn m (col t) else m)
def shF (m : Nat) (dx dy : Int) : Nat := if 0 ≤ 8 * dy + dx then (m * 2 ^ (8 * dy + dx).toNat) % 2 ^ 64 else m / 2 ^ (-(8 * dy + dx)).toNat
def sh (m : Nat) (dx dy : Int) : Nat := shF (cutF dx 8 0 m) dx dy
theorem cutF_lt (dx : Int) : ∀ (k t m : Nat), m < 2 ^ 64 → cutF dx k t m < 2 ^ 64
  | 0, t, m, h => h
  | k + 1, t, m, h => cutF_lt dx k (t + 1) _ (by split; exact nn_lt h; exact h)
theorem cutF_bit (dx : Int) : ∀ (k t m j : Nat), t + k ≤ 8 → m < 2 ^ 64 → j < 64 → (cutF dx k t m).testBit j = (m.testBit j && !(decide (t ≤ j % 8) && decide (j % 8 < t + k) && bad dx (j % 8)))
  | 0, t, m, j, _, _, _ => by
    show m.testBit j = _
    by_cases h : t ≤ j % 8
    · simp [h, Nat.not_lt.2 h]
    · simp [h]
  | k + 1, t, m, j, ht, hm, hj => by
    have hm2 : (if bad dx t = true then nn m (col t) else m) < 2 ^ 64 := by split; exact nn_lt hm; exact hm
    rw [cutF, cutF_bit dx k (t + 1) _ j (by omega) hm2 hj]
    by_cases hb : bad dx t = true
    · rw [if_pos hb, nn_bit hm (col_lt (by omega)), col_bit t (by omega) j hj]
      by_cases h : j % 8 = t
      · simp [h, hb]
      · by_cases h2 : t ≤ j % 8
        · simp [h, h2, show t + 1 ≤ j % 8 by omega, show t + 1 + k = t + (k + 1) by omega]
        · simp [h, h2, show ¬ t + 1 ≤ j % 8 by omega]
    · rw [if_neg hb]
      by_cases h : j % 8 = t
      · simp [h, hb]
      · by_cases h2 : t ≤ j % 8
        · simp [h, h2, show t + 1 ≤ j % 8 by omega, show t + 1 + k = t + (k + 1) by omega]
        · simp [h, h2, show ¬ t + 1 ≤ j % 8 by omega]
theorem sh_lt {m : Nat} (dx dy : Int) (hm : m < 2 ^ 64) : sh m dx dy < 2 ^ 64 := by
  have h := cutF_lt dx 8 0 m hm
  unfold sh shF
  split
  · exact Nat.mod_lt _ (by decide)
  · exact Nat.lt_of_le_of_lt (Nat.div_le_self _ _) h
theorem sh_bit {m : Nat} {dx dy : Int} (hm : m < 2 ^ 64) {j : Nat} (hj : j < 64) : (sh m dx dy).testBit j = true ↔ ∃ i : Nat, i < 64 ∧ m.testBit i = true ∧ 0 ≤ ((i % 8 : Nat) : Int) + dx ∧ ((i % 8 : Nat) : Int) + dx < 8 ∧ (i : Int) + (8 * dy + dx) = j := by
  have hc := cutF_lt dx 8 0 m hm
  have hcb : ∀ i : Nat, i < 64 → ((cutF dx 8 0 m).testBit i = true ↔ m.testBit i = true ∧ 0 ≤ ((i % 8 : Nat) : Int) + dx ∧ ((i % 8 : Nat) : Int) + dx < 8) := by
    intro i hi
    rw [cutF_bit dx 8 0 m i (by omega) hm hi]
    have h8 : i % 8 < 8 := Nat.mod_lt _ (by decide)
    unfold bad
    simp only [Nat.zero_le, Nat.zero_add, h8, decide_true, Bool.true_and, Bool.and_eq_true, Bool.not_eq_true', Bool.or_eq_false_iff, decide_eq_false_iff_not]
    constructor
    · rintro ⟨h1, h2, h3⟩; exact ⟨h1, by omega, by omega⟩
    · rintro ⟨h1, h2, h3⟩; exact ⟨h1, by omega, by omega⟩
  have key : ((sh m dx dy).testBit j = true ↔ ∃ i : Nat, i < 64 ∧ (cutF dx 8 0 m).testBit i = true ∧ (i : Int) + (8 * dy + dx) = j) := by
    unfold sh shF
    generalize 8 * dy + dx = n
    split
    · rename_i hn
      rw [Nat.testBit_mod_two_pow, Nat.testBit_mul_two_pow]
      simp only [hj, decide_true, Bool.true_and, Bool.and_eq_true, decide_eq_true_eq]
      constructor
      · rintro ⟨h1, h2⟩
        exact ⟨j - n.toNat, by omega, h2, by omega⟩
      · rintro ⟨i, h1, h2, h3⟩
        have : j - n.toNat = i := by omega
        rw [this]
        exact ⟨by omega, h2⟩
    · rename_i hn
      rw [Nat.testBit_div_two_pow]
      constructor
      · intro h
        have := bit_lt hc h
        exact ⟨j + (-n).toNat, this, h, by omega⟩
      · rintro ⟨i, h1, h2, h3⟩
        have : j + (-n).toNat = i := by omega
        rw [this]
        exact h2
  rw [key]
  constructor
  · rintro ⟨i, h1, h2, h3⟩
    obtain ⟨g1, g2, g3⟩ := (hcb i h1).1 h2
    exact ⟨i, h1, g1, g2, g3, h3⟩
  · rintro ⟨i, h1, g1, g2, g3, h3⟩
    exact ⟨i, h1, (hcb i h1).2 ⟨g1, g2, g3⟩, h3⟩
theorem shift_l0 {N : Nat} {b dx dy : Int} (hdx : -8 < dx ∧ dx < 8) (hdy : -8 < dy ∧ dy < 8) : ∀ (k t m n : Nat), t + k = 8 → k < n → m < 2 ^ 64 → bits_Shift.l0 N b dx dy n (m : Int) (t : Int) = some ((shF (cutF dx k t m) dx dy : Nat) : Int)
  | 0, t, m, n, ht, hn, hm => by
    obtain ⟨n, rfl⟩ := nxtS hn
    rw [bits_Shift.l0_s, bits_Shift.s0, bif_f (ltI_f (by omega))]
    have e1 : w64 (w64 (8 * dy) + dx) = 8 * dy + dx := by rw [w64_id (x := 8 * dy) (by omega) (by omega), w64_id (by omega) (by omega)]
    have e2 : w64 (0 - (8 * dy + dx)) = -(8 * dy + dx) := by rw [w64_id (by omega) (by omega)]; omega
    simp only [e1, e2]
    unfold cutF shF
    by_cases h : 0 ≤ 8 * dy + dx
    · rw [bif_t (leI_t h), bif_f (ltI_f h), if_pos h]
      have h3 : min (8 * dy + dx).toNat 64 = (8 * dy + dx).toNat := by omega
      rw [h3]
      generalize (8 * dy + dx).toNat = e
      have : IntKind.wrap .u64 ((m : Int) * 2 ^ e) = ((m * 2 ^ e % 2 ^ 64 : Nat) : Int) := by
        show ((m : Int) * 2 ^ e) % 18446744073709551616 = _
        rw [Int.natCast_emod, Int.natCast_mul, Int.natCast_pow]
        rfl
      rw [this]
    · rw [bif_f (leI_f (by omega)), bif_f (ltI_f (by omega)), if_neg h]
      have h3 : min (-(8 * dy + dx)).toNat 64 = (-(8 * dy + dx)).toNat := by omega
      rw [h3]
      generalize (-(8 * dy + dx)).toNat = e
      congr 1
      rw [Int.fdiv_eq_ediv_of_nonneg _ (Int.pow_nonneg (by decide)), Int.natCast_ediv, Int.natCast_pow]
      rfl
  | k + 1, t, m, n, ht, hn, hm => by
    obtain ⟨n, rfl⟩ := nxtS hn
    have hw : w64 ((t : Int) + dx) = (t : Int) + dx := w64_id (by omega) (by omega)
    have hw1 : w64 ((t : Int) + 1) = ((t + 1 : Nat) : Int) := by rw [w64_id (by omega) (by omega)]; omega
    rw [bits_Shift.l0_s, bits_Shift.s0, bif_t (ltI_t (by omega)), hw, hw1]
    have ih1 := shift_l0 (N := N) (b := b) hdx hdy k (t + 1) (nn m (col t)) n (by omega) (by omega) (nn_lt hm)
    have ih2 := shift_l0 (N := N) (b := b) hdx hdy k (t + 1) m n (by omega) (by omega) hm
    rw [cutF]
    by_cases h1 : (t : Int) + dx < 0
    · have hb : bad dx t = true := by unfold bad; simp [h1]
      rw [bif_t (ltI_t h1), column_eq N (by omega), Option.bind_some, bNot hm (col_lt (by omega)), if_pos hb]
      exact ih1
    · rw [bif_f (ltI_f (by omega))]
      by_cases h2 : 8 ≤ (t : Int) + dx
      · have hb : bad dx t = true := by unfold bad; simp [h2]
        rw [bif_t (leI_t h2), column_eq N (by omega), Option.bind_some, bNot hm (col_lt (by omega)), if_pos hb]
        exact ih1
      · have hb : ¬ bad dx t = true := by unfold bad; simp [h1, h2]
        rw [bif_f (leI_f (by omega)), if_neg hb]
        exact ih2
theorem shift_eq {N m : Nat} {dx dy : Int} (hN : 100 < N) (hm : m < 2 ^ 64) (hdx : -8 < dx ∧ dx < 8) (hdy : -8 < dy ∧ dy < 8) : bits_Shift N (m : Int) dx dy = some ((sh m dx dy : Nat) : Int) := by
  unfold bits_Shift bits_Shift.e
  rw [bif_f (leI_f (by omega)), bif_f (leI_f (by omega)), bif_f (leI_f (by omega)), bif_f (leI_f (by omega))]
  exact shift_l0 hdx hdy 8 0 m N (by omega) (by omega) hm
theorem shifts_true : gamehallkeep1_shifts 300000000 = some true := by decide +kernel
theorem count513 : bits_Count 300000000 513 = some 2 := count_eq (m := 513) (by omega) (by decide)
end Go.Proofs.YtbnpbnghpbgjiaaDoor.Am
