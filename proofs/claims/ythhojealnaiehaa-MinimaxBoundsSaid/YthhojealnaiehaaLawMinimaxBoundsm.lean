/- The plain law MinimaxBounds: the plain function says true at every input. -/
import Derived.Test.YthhojealnaiehaaLawTreem
set_option linter.unusedVariables false
set_option linter.unusedSimpArgs false
set_option linter.unusedSectionVars false
namespace Go.Proofs.Ythhojealnaiehaa.Am
open Go

theorem scored_true : gamehallkeep1_scored 300000000 = some true := by decide +kernel
theorem minimaxBounds_at (r : RulesT) (p : PosT) (depth : Int) : gamehallkeep1_MinimaxBounds 300000000 r p depth = some true := by
  have hsc := scored_true
  obtain ⟨hv, hh, _⟩ := heavy_ret (N := 300000000) (by decide) r p depth
  obtain ⟨z, hz, hz2⟩ := score_ret (N := 300000000) (by decide) r p depth
  unfold gamehallkeep1_MinimaxBounds gamehallkeep1_MinimaxBounds.e
  rw [hsc, Option.bind_some, bif_f (by rfl), hh, Option.bind_some]
  cases hv with
  | true => rfl
  | false =>
    rw [bif_f rfl, hz, Option.bind_some]
    rcases hz2 with ⟨h1, h2⟩ | ⟨h1, hr, hp, h3, h4, h5⟩
    · rw [bif_t (by rw [eqI_f h1]; rfl), h2]; rfl
    · rw [bif_f (by rw [eqI_t h1]; rfl)]
      by_cases h0 : z.1 = 0
      · rw [bif_t (eqI_t h0), eqI_t h0]
      · rw [bif_f (eqI_f h0)]
        have hb := val_bound hr depth.toNat (by omega) hp
        rw [← h5] at hb
        rw [w64_id (x := 0 - z.1) (by omega) (by omega)]
        have hv4 : (bif (ltI z.1 (0 - z.1)) then (0 - z.1) else z.1) ≤ 1000 ∧ 1000 - depth ≤ (bif (ltI z.1 (0 - z.1)) then (0 - z.1) else z.1) := by
          by_cases c : z.1 < 0 - z.1
          · rw [bif_t (ltI_t c)]; omega
          · rw [bif_f (ltI_f (by omega))]; omega
        dsimp only
        generalize (bif (ltI z.1 (0 - z.1)) then (0 - z.1) else z.1) = v4 at *
        rw [w64_id (by omega) (by omega), bif_t (leI_t (by omega)), leI_t (by omega)]
end Go.Proofs.Ythhojealnaiehaa.Am
