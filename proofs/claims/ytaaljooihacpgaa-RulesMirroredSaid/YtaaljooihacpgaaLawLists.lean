/- Plain: slices.Equal and slices.Compare of whole numbers. -/
import Derived.Test.YtaaljooihacpgaaLawFine
set_option linter.unusedVariables false
set_option linter.unusedSimpArgs false
namespace Go.Proofs.Ytaaljooihacpgaa.Am
open Go

theorem equal_loop (N : Nat) (a b : List Int) (hs : a.length < 4611686018427387904) (hl : a.length = b.length) : ∀ (k j n : Nat), j + k = a.length → k < n →
    slices_Equal_int_int.l0 N a b n (j : Int) = some (decide (a.drop j = b.drop j))
  | 0, j, n + 1, hk, hn => by
    simp only [slices_Equal_int_int.l0_s, slices_Equal_int_int.s0]
    rw [bif_f (ltI_f (by omega)), List.drop_of_length_le (by omega), List.drop_of_length_le (by omega)]
    rfl
  | k + 1, j, n + 1, hk, hn => by
    have hj : j < a.length := by omega
    have hj' : j < b.length := by omega
    simp only [slices_Equal_int_int.l0_s, slices_Equal_int_int.s0]
    rw [bif_t (ltI_t (by omega)), chk_of (idx_ok hj), chk_of (idx_ok hj'), gD_nat hj, gD_nat hj', List.drop_eq_getElem_cons hj, List.drop_eq_getElem_cons hj']
    by_cases h0 : a[j] = b[j]
    · rw [bif_f (by simp [eqI, h0]), w64_id (by omega) (by omega)]
      have := equal_loop N a b hs hl k (j + 1) n (by omega) (by omega)
      rw [show ((j : Int) + 1) = ((j + 1 : Nat) : Int) by omega, this]
      exact congrArg some (decide_eq_decide.2 ⟨fun e => by rw [e, h0], fun e => (List.cons.inj e).2⟩)
    · rw [bif_t (by simp [eqI, h0])]
      exact congrArg some (decide_eq_false fun e => h0 (List.cons.inj e).1).symm
theorem equal_eq {N : Nat} {a b : List Int} (ha : a.length < 4611686018427387904) (hb : b.length < 4611686018427387904) (hN : a.length < N) : slices_Equal_int_int N a b = some (decide (a = b)) := by
  simp only [slices_Equal_int_int, slices_Equal_int_int.e]
  by_cases hl : a.length = b.length
  · rw [bif_f (by simp [eqI, hl])]
    have := equal_loop N a b ha hl a.length 0 N (by omega) hN
    simpa using this
  · rw [bif_t (by simp [eqI]; omega)]
    have : a ≠ b := fun e => hl (by rw [e])
    simp [this]

/-- before, letter by letter -/
def lexLt : List Int → List Int → Bool
  | [], [] => false
  | [], _ :: _ => true
  | _ :: _, [] => false
  | a :: l, b :: r => bif decide (a < b) then true else bif decide (b < a) then false else lexLt l r
theorem lexLt_irrefl : ∀ l, lexLt l l = false
  | [] => rfl
  | a :: l => by simp [lexLt, lexLt_irrefl l]
theorem lexLt_trans : ∀ {a b c : List Int}, lexLt a b = true → lexLt b c = true → lexLt a c = true
  | [], [], _, h, _ => by simp [lexLt] at h
  | [], _ :: _, [], _, h => by simp [lexLt] at h
  | [], _ :: _, _ :: _, _, _ => rfl
  | _ :: _, [], _, h, _ => by simp [lexLt] at h
  | _ :: _, _ :: _, [], _, h => by simp [lexLt] at h
  | x :: a, y :: b, z :: c, h, k => by
    simp only [lexLt, Bool.cond_decide] at h k ⊢
    by_cases h1 : x < y
    · by_cases h2 : y < z
      · rw [if_pos (by omega)]
      · rw [if_neg h2] at k
        split at k
        · cases k
        · rw [if_pos (by omega)]
    · rw [if_neg h1] at h
      split at h
      · cases h
      · have hxy : x = y := by omega
        subst hxy
        by_cases h2 : x < z
        · rw [if_pos h2]
        · rw [if_neg h2] at k ⊢
          split at k
          · cases k
          · rename_i h3
            rw [if_neg h3]
            exact lexLt_trans h k
theorem lexLt_total : ∀ {a b : List Int}, lexLt a b = false → lexLt b a = false → a = b
  | [], [], _, _ => rfl
  | [], _ :: _, h, _ => by simp [lexLt] at h
  | _ :: _, [], _, h => by simp [lexLt] at h
  | x :: a, y :: b, h, k => by
    simp only [lexLt, Bool.cond_decide] at h k
    by_cases h1 : x < y
    · rw [if_pos h1] at h; cases h
    · by_cases h2 : y < x
      · rw [if_pos h2] at k; cases k
      · rw [if_neg h1, if_neg h2] at h
        rw [if_neg h2, if_neg h1] at k
        rw [show x = y by omega, lexLt_total h k]

theorem cmpI_eq {N : Nat} (x y : Int) : cmp_Compare_int N x y = some (bif ltI x y then -1 else bif ltI y x then 1 else 0) := by
  simp only [cmp_Compare_int, cmp_Compare_int.e, cmp_isNaN_int, cmp_isNaN_int.e, eqI_self, Bool.not_true, Option.bind_some, cond_false]
  cases ltI x y <;> cases ltI y x <;> rfl
theorem compare_loop (N : Nat) (a b : List Int) (ha : a.length < 4611686018427387904) (hb : b.length < 4611686018427387904) : ∀ (k j n : Nat), j + k = a.length → j ≤ b.length → k < n →
    ∃ r, slices_Compare_int_int.l0 N a b n (j : Int) = some r ∧ (r < 0 ↔ lexLt (a.drop j) (b.drop j) = true)
  | 0, j, n + 1, hk, hjb, hn => by
    simp only [slices_Compare_int_int.l0_s, slices_Compare_int_int.s0]
    rw [bif_f (ltI_f (by omega)), List.drop_of_length_le (by omega)]
    by_cases h : a.length < b.length
    · rw [bif_t (ltI_t (by omega))]
      refine ⟨_, rfl, fun _ => ?_, fun _ => by decide⟩
      rw [List.drop_eq_getElem_cons (show j < b.length by omega)]
      rfl
    · rw [bif_f (ltI_f (by omega))]
      refine ⟨_, rfl, fun h => (by cases h), fun h1 => ?_⟩
      rw [List.drop_of_length_le (by omega)] at h1
      cases h1
  | k + 1, j, n + 1, hk, hjb, hn => by
    have hj : j < a.length := by omega
    simp only [slices_Compare_int_int.l0_s, slices_Compare_int_int.s0]
    rw [bif_t (ltI_t (by omega)), chk_of (idx_ok hj), List.drop_eq_getElem_cons hj]
    by_cases h : b.length ≤ j
    · rw [bif_t (leI_t (by omega)), List.drop_of_length_le h]
      exact ⟨_, rfl, fun h => absurd h (by decide), fun h => (by cases h)⟩
    · have hj' : j < b.length := by omega
      rw [bif_f (leI_f (by omega)), chk_of (idx_ok hj'), gD_nat hj, gD_nat hj', List.drop_eq_getElem_cons hj', cmpI_eq, Option.bind_some]
      simp only [lexLt]
      by_cases h1 : a[j] < b[j]
      · rw [bif_t (ltI_t h1), bif_t (by rfl)]
        exact ⟨_, rfl, by simp [h1]⟩
      · rw [bif_f (ltI_f (by omega))]
        by_cases h2 : b[j] < a[j]
        · rw [bif_t (ltI_t h2), bif_t (by rfl)]
          exact ⟨_, rfl, by simp [h1, h2]⟩
        · rw [bif_f (ltI_f (by omega)), bif_f (by rfl), w64_id (by omega) (by omega)]
          obtain ⟨r, k1, k2⟩ := compare_loop N a b ha hb k (j + 1) n (by omega) (by omega) (by omega)
          rw [show ((j : Int) + 1) = ((j + 1 : Nat) : Int) by omega, k1]
          exact ⟨r, rfl, by rw [k2]; simp [h1, h2]⟩
theorem compare_eq {N : Nat} {a b : List Int} (ha : a.length < 4611686018427387904) (hb : b.length < 4611686018427387904) (hN : a.length < N) :
    ∃ r, slices_Compare_int_int N a b = some r ∧ (r < 0 ↔ lexLt a b = true) := by
  obtain ⟨r, h1, h2⟩ := compare_loop N a b ha hb a.length 0 N (by omega) (by omega) hN
  exact ⟨r, by simpa [slices_Compare_int_int, slices_Compare_int_int.e] using h1, by simpa using h2⟩
end Go.Proofs.Ytaaljooihacpgaa.Am
