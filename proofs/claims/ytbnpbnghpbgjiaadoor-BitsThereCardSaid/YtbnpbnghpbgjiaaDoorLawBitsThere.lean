/- The plain law BitsThere: the plain function says true at every input. -/
import Derived.Test.YtbnpbnghpbgjiaaDoorLawBitsS
set_option linter.unusedVariables false
set_option linter.unusedSimpArgs false
namespace Go.Proofs.YtbnpbnghpbgjiaaDoor.Am
open Go

theorem eq_of_bits {a b : Nat} (ha : a < 2 ^ 64) (hb : b < 2 ^ 64) (h : ∀ j, j < 64 → (a.testBit j = true ↔ b.testBit j = true)) : a = b := by
  apply Nat.eq_of_testBit_eq
  intro j
  by_cases hj : j < 64
  · exact Bool.eq_iff_iff.2 (h j hj)
  · rw [bit_hi ha (by omega), bit_hi hb (by omega)]
/-- there and back -/
theorem back_bit {m : Nat} {dx dy : Int} (hm : m < 2 ^ 64) {i : Nat} (hi : i < 64) : (sh (sh m dx dy) (-dx) (-dy)).testBit i = true ↔ m.testBit i = true ∧ 0 ≤ ((i % 8 : Nat) : Int) + dx ∧ ((i % 8 : Nat) : Int) + dx < 8 ∧ 0 ≤ (i : Int) + (8 * dy + dx) ∧ (i : Int) + (8 * dy + dx) < 64 := by
  rw [sh_bit (sh_lt dx dy hm) hi]
  constructor
  · rintro ⟨j, hj, h1, h2, h3, h4⟩
    obtain ⟨i', g1, g2, g3, g4, g5⟩ := (sh_bit hm hj).1 h1
    obtain rfl : i' = i := by omega
    exact ⟨g2, g3, g4, by omega, by omega⟩
  · rintro ⟨h1, h2, h3, h4, h5⟩
    refine ⟨((i : Int) + (8 * dy + dx)).toNat, by omega, (sh_bit hm (by omega)).2 ⟨i, hi, h1, h2, h3, by omega⟩, ?_, ?_, by omega⟩
    · have : ((((i : Int) + (8 * dy + dx)).toNat % 8 : Nat) : Int) = ((i % 8 : Nat) : Int) + dx := by omega
      omega
    · have : ((((i : Int) + (8 * dy + dx)).toNat % 8 : Nat) : Int) = ((i % 8 : Nat) : Int) + dx := by omega
      omega
theorem there_pc {a b : Nat} (ha : a < 2 ^ 64) (hb : b < 2 ^ 64) (n : Int) (h : ∀ i j : Nat, i < 64 → j < 64 → (i : Int) + n = j → (a.testBit i = true ↔ b.testBit j = true)) (h1 : ∀ i, a.testBit i = true → 0 ≤ (i : Int) + n ∧ (i : Int) + n < 64) (h2 : ∀ j, b.testBit j = true → 0 ≤ (j : Int) - n ∧ (j : Int) - n < 64) : pc a = pc b := by
  by_cases hn : 0 ≤ n
  · have e : b = a * 2 ^ n.toNat := by
      apply Nat.eq_of_testBit_eq
      intro j
      rw [Nat.testBit_mul_two_pow]
      apply Bool.eq_iff_iff.2
      simp only [Bool.and_eq_true, decide_eq_true_eq]
      constructor
      · intro hj
        have := h2 j hj
        have hj64 := bit_lt hb hj
        exact ⟨by omega, (h (j - n.toNat) j (by omega) hj64 (by omega)).2 hj⟩
      · rintro ⟨g1, g2⟩
        have := h1 _ g2
        have hi := bit_lt ha g2
        exact (h (j - n.toNat) j hi (by omega) (by omega)).1 g2
    rw [e] at hb ⊢
    exact (pc_mul n.toNat hb).symm
  · have e : a = b * 2 ^ (-n).toNat := by
      apply Nat.eq_of_testBit_eq
      intro i
      rw [Nat.testBit_mul_two_pow]
      apply Bool.eq_iff_iff.2
      simp only [Bool.and_eq_true, decide_eq_true_eq]
      constructor
      · intro hi
        have := h1 i hi
        have hi64 := bit_lt ha hi
        exact ⟨by omega, (h i (i - (-n).toNat) hi64 (by omega) (by omega)).1 hi⟩
      · rintro ⟨g1, g2⟩
        have := h2 _ g2
        have hj := bit_lt hb g2
        exact (h i (i - (-n).toNat) (by omega) hj (by omega)).2 g2
    rw [e] at ha ⊢
    exact pc_mul (-n).toNat ha
theorem mod9 (d : Int) : ∃ v : Int, w64 (Int.tmod (w64 (Int.tmod d 9 + 9)) 9 - 4) = v ∧ -4 ≤ v ∧ v ≤ 4 := by
  have h1 : -9 < Int.tmod d 9 ∧ Int.tmod d 9 < 9 := by
    constructor
    · have := Int.lt_tmod_of_pos d (b := 9) (by decide); omega
    · exact Int.tmod_lt_of_pos d (by decide)
  have e1 : w64 (Int.tmod d 9 + 9) = Int.tmod d 9 + 9 := w64_id (by omega) (by omega)
  rw [e1]
  have h2 : 0 ≤ Int.tmod (Int.tmod d 9 + 9) 9 := Int.tmod_nonneg _ (by omega)
  have h3 := Int.tmod_lt_of_pos (Int.tmod d 9 + 9) (b := 9) (by decide)
  exact ⟨_, w64_id (by omega) (by omega), by omega, by omega⟩
theorem bitsThere_at (b dx dy : Int) (hb0 : 0 ≤ b) (hb1 : b ≤ 18446744073709551615) : gamehallkeep1_BitsThere 300000000 b dx dy = some true := by
  obtain ⟨m, rfl⟩ : ∃ m : Nat, b = m := ⟨b.toNat, by omega⟩
  have hm : m < 2 ^ 64 := by omega
  unfold gamehallkeep1_BitsThere gamehallkeep1_BitsThere.e
  rw [shifts_true, Option.bind_some, show (!true) = false from rfl, bif_f rfl, count513, Option.bind_some, bif_f (by rw [eqI_t rfl]; rfl)]
  obtain ⟨u, hu, hu1, hu2⟩ := mod9 dx
  obtain ⟨v, hv, hv1, hv2⟩ := mod9 dy
  simp only [hu, hv]
  have e1 : w64 (0 - u) = -u := by rw [w64_id (by omega) (by omega)]; omega
  have e2 : w64 (0 - v) = -v := by rw [w64_id (by omega) (by omega)]; omega
  have ht := sh_lt u v hm
  have hbk := sh_lt (-u) (-v) ht
  rw [e1, e2, shift_eq (by omega) hm ⟨by omega, by omega⟩ ⟨by omega, by omega⟩, Option.bind_some, shift_eq (by omega) ht ⟨by omega, by omega⟩ ⟨by omega, by omega⟩, Option.bind_some]
  have hsub : nn (sh (sh m u v) (-u) (-v)) m = 0 := by
    apply Nat.eq_of_testBit_eq
    intro i
    rw [nn_bit hbk hm, Nat.zero_testBit]
    cases hx : (sh (sh m u v) (-u) (-v)).testBit i with
    | false => rfl
    | true =>
      have hi := bit_lt hbk hx
      rw [((back_bit hm hi).1 hx).1]
      rfl
  rw [bNot hbk hm, hsub, bif_t (show eqI ((0 : Nat) : Int) 0 = true from rfl), count_eq (by omega) hbk, Option.bind_some, count_eq (by omega) ht, Option.bind_some]
  have hpc : pc (sh (sh m u v) (-u) (-v)) = pc (sh m u v) := by
    refine there_pc hbk ht (8 * v + u) (fun i j hi hj e => ?_) (fun i hi => ?_) (fun j hj => ?_)
    · rw [back_bit hm hi, sh_bit hm hj]
      constructor
      · rintro ⟨g1, g2, g3, g4, g5⟩
        exact ⟨i, hi, g1, g2, g3, e⟩
      · rintro ⟨i', g0, g1, g2, g3, g4⟩
        obtain rfl : i' = i := by omega
        exact ⟨g1, g2, g3, by omega, by omega⟩
    · obtain ⟨_, _, _, g4, g5⟩ := (back_bit hm (bit_lt hbk hi)).1 hi
      exact ⟨g4, g5⟩
    · obtain ⟨i, g0, _, _, _, g4⟩ := (sh_bit hm (bit_lt ht hj)).1 hj
      exact ⟨by omega, by omega⟩
  rw [hpc, bif_t (eqI_t rfl), shift_eq (by omega) hbk ⟨by omega, by omega⟩ ⟨by omega, by omega⟩, Option.bind_some]
  have hto : sh (sh (sh m u v) (-u) (-v)) u v = sh m u v := by
    refine eq_of_bits (sh_lt u v hbk) ht fun j hj => ?_
    rw [sh_bit hbk hj, sh_bit hm hj]
    constructor
    · rintro ⟨i, g0, g1, g2, g3, g4⟩
      exact ⟨i, g0, ((back_bit hm g0).1 g1).1, g2, g3, g4⟩
    · rintro ⟨i, g0, g1, g2, g3, g4⟩
      exact ⟨i, g0, (back_bit hm g0).2 ⟨g1, g2, g3, by omega, by omega⟩, g2, g3, g4⟩
  rw [hto, eqI_t rfl]
end Go.Proofs.YtbnpbnghpbgjiaaDoor.Am
