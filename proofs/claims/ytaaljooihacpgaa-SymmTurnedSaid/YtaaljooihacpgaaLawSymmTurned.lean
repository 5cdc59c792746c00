/- The plain law SymmTurned: the plain function says true at every input. -/
import Derived.Test.YtaaljooihacpgaaLawFine
set_option linter.unusedVariables false
set_option linter.unusedSimpArgs false
namespace Go.Proofs.Ytaaljooihacpgaa.Am
open Go

theorem check_bad {N : Nat} {w h : Int} (hb : ¬ (1 ≤ w ∧ w ≤ 8 ∧ 1 ≤ h ∧ h ≤ 8)) : symm_Check N w h = some 4 := by
  simp only [symm_Check, symm_Check.e, ltI, Bool.cond_decide]
  repeat' split
  all_goals first | rfl | omega
theorem check_good {N : Nat} {w h : Int} (hb : 1 ≤ w ∧ w ≤ 8 ∧ 1 ≤ h ∧ h ≤ 8) : symm_Check N w h = some 0 := by
  simp only [symm_Check, symm_Check.e, ltI, Bool.cond_decide]
  repeat' split
  all_goals first | rfl | omega

def turnedB (w h c : Int) : Bool :=
  match symm_Colours 1000 w h c, symm_Colours 1000 h w c, symm_Colours 1000 w h (w64 (c + 1)) with
  | some a, some b, some d => decide (a.2 = b.2) && decide (a.1 = b.1) && (!(decide (a.2 = 0) && decide (d.2 = 0)) || decide (a.1 < d.1))
  | _, _, _ => false
theorem turned_all : ((List.range 8).all fun i => (List.range 8).all fun j => (List.range 17).all fun k => turnedB (i + 1) (j + 1) k) = true := by decide +kernel
theorem turned_one {w h c : Int} (hw : 1 ≤ w ∧ w ≤ 8 ∧ 1 ≤ h ∧ h ≤ 8) (hc : 0 ≤ c ∧ c ≤ 16) : turnedB w h c = true := by
  have := List.all_eq_true.1 turned_all (w - 1).toNat (List.mem_range.2 (by omega))
  have := List.all_eq_true.1 this (h - 1).toNat (List.mem_range.2 (by omega))
  have := List.all_eq_true.1 this c.toNat (List.mem_range.2 (by omega))
  rw [show ((w - 1).toNat : Int) + 1 = w by omega, show ((h - 1).toNat : Int) + 1 = h by omega, show (c.toNat : Int) = c by omega] at this
  exact this
theorem colours_bad {N : Nat} {w h c : Int} (hb : ¬ (1 ≤ w ∧ w ≤ 8 ∧ 1 ≤ h ∧ h ≤ 8)) : symm_Colours N w h c = some (0, 4) := by
  simp only [symm_Colours, symm_Colours.e, check_bad hb, Option.bind]
  rfl
theorem colours_arg {N : Nat} {w h c : Int} (hb : 1 ≤ w ∧ w ≤ 8 ∧ 1 ≤ h ∧ h ≤ 8) (hc : ¬ (0 ≤ c ∧ c ≤ 16)) : symm_Colours N w h c = some (0, 1) := by
  simp only [symm_Colours, symm_Colours.e, check_good hb, Option.bind]
  rw [bif_f (by rfl)]
  by_cases h0 : c < 0
  · rw [bif_t (ltI_t h0)]
  · rw [bif_f (ltI_f (by omega)), bif_t (ltI_t (by omega))]
theorem first_ok : symm_Colours 1000 2 2 2 = some (6, 0) := by decide +kernel

theorem symmTurned_at (w h c : Int) : gamehallkeep1_SymmTurned 1000 w h c = some true := by
  simp only [gamehallkeep1_SymmTurned, gamehallkeep1_SymmTurned.e, first_ok, Option.bind]
  rw [bif_f (by rfl), bif_f (by rfl)]
  by_cases hb : 1 ≤ w ∧ w ≤ 8 ∧ 1 ≤ h ∧ h ≤ 8
  · have hb' : 1 ≤ h ∧ h ≤ 8 ∧ 1 ≤ w ∧ w ≤ 8 := ⟨hb.2.2.1, hb.2.2.2, hb.1, hb.2.1⟩
    by_cases hc : 0 ≤ c ∧ c ≤ 16
    · have := turned_one hb hc
      unfold turnedB at this
      split at this <;> try cases this
      rename_i a b d h1 h2 h3
      simp only [h1, h2, h3]
      simp only [Bool.and_eq_true, decide_eq_true_eq, Bool.or_eq_true, Bool.not_eq_true', Bool.and_eq_false_iff, decide_eq_false_iff_not] at this
      obtain ⟨⟨h4, h5⟩, h6⟩ := this
      rw [bif_t (eqI_t h4), bif_t (eqI_t h5), fine_eq (by simp) (by simp)]
      simp only
      by_cases h7 : a.2 = 0 ∧ d.2 = 0
      · rw [bif_f (by simp [h7.1, h7.2]), ltI_t (h6.resolve_left (by omega))]
      · rw [bif_t (by simp; omega)]
    · simp only [colours_arg hb hc, colours_arg hb' hc]
      have h3 : ∃ d, symm_Colours 1000 w h (w64 (c + 1)) = some d := by
        by_cases hd : 0 ≤ w64 (c + 1) ∧ w64 (c + 1) ≤ 16
        · have := turned_one hb hd
          unfold turnedB at this
          split at this <;> try cases this
          rename_i a b d h1 h2 h3
          exact ⟨_, h1⟩
        · exact ⟨_, colours_arg hb hd⟩
      obtain ⟨d, h3⟩ := h3
      simp only [h3]
      rw [bif_t (eqI_t rfl), bif_t (eqI_t rfl), fine_eq (by simp) (by simp)]
      simp only
      rw [bif_t (by simp)]
  · have hb' : ¬ (1 ≤ h ∧ h ≤ 8 ∧ 1 ≤ w ∧ w ≤ 8) := fun k => hb ⟨k.2.2.1, k.2.2.2, k.1, k.2.1⟩
    simp only [colours_bad hb, colours_bad hb']
    rw [bif_t (eqI_t rfl), bif_t (eqI_t rfl), fine_eq (by simp) (by simp)]
    simp only
    rw [bif_t (by simp)]
theorem symmTurned_true (x : (argTy [.d false (.int .i64), .d false (.int .i64), .d false (.int .i64)]).den) (_ : Wf (argTy [.d false (.int .i64), .d false (.int .i64), .d false (.int .i64)]) x) : ∃ N, gamehallkeep1_SymmTurned N x.1 x.2.1 x.2.2 = some true := ⟨1000, symmTurned_at _ _ _⟩
end Go.Proofs.Ytaaljooihacpgaa.Am
