/- The plain law EndsOpen: the plain function says true at every input. -/
import Derived.Test.YtjmcjiklfhmdlaaLawEndsg
set_option linter.unusedVariables false
set_option linter.unusedSimpArgs false
set_option linter.unusedSectionVars false
namespace Go.Proofs.Ytjmcjiklfhmdlaa.Am
open Go

theorem plays_trueE : gamehallkeep1_plays 200000000 = some true := by decide +kernel
/-- what stands ahead of the law's own question -/
theorem openHead : ∃ y1 y2 y3 y8, gamehallkeep1_three 200000000 = some y1 ∧ gamehallkeep1_near 200000000 = some y2 ∧ ends_Of 200000000 y1 y2 = some y3 ∧ eqI y3.2 0 = true ∧ eqI y3.1 0 = true ∧ ltI 2 (y2.1.length : Int) = true ∧
    ends_Of 200000000 y1 ((y2.1.set (2 : Int).toNat 1), (y2.2.1, (1, y2.2.2.2))) = some y8 ∧ eqI y8.2 0 = true ∧ eqI y8.1 1 = true := by
  refine ⟨_, _, (0, 0), (1, 0), rfl, rfl, ?_, rfl, rfl, rfl, ?_, rfl, rfl⟩
  · decide +kernel
  · decide +kernel
theorem endsOpen_at (r : RulesT) (p : PosT) : gamehallkeep1_EndsOpen 200000000 r p = some true := by
  obtain ⟨y1, y2, y3, y8, h1, h2, h3, h4, h5, h6, h7, h8, h9⟩ := openHead
  have hpl := plays_trueE
  obtain ⟨v, hv, hv0⟩ := pcheck (N := 200000000) (by decide) r p
  unfold gamehallkeep1_EndsOpen gamehallkeep1_EndsOpen.e
  rw [h1, Option.bind_some, h2, Option.bind_some, h3, Option.bind_some, bif_f (by rw [h4]; rfl), bif_f (by rw [h5]; rfl), hpl, Option.bind_some, bif_f (by rfl), Option.bind_some, chk_of (by rw [h6]; rfl), Option.bind_some, h7, Option.bind_some, bif_f (by rw [h8]; rfl), bif_f (by rw [h9]; rfl)]
  by_cases h0 : v = 0
  · obtain ⟨hr, hp⟩ := hv0.1 h0
    obtain ⟨l, hl, hg⟩ := gen_ret hr hp (N := 200000000) (Nat.le_refl _)
    have hrr := res_range hr hp (ltI 0 (l.length : Int)) (r.2.2.2.2.2.2.2.1)
    rw [ends_good hr hp (by decide) hl, Option.bind_some, all_good (by decide) hr hp hl hg, Option.bind_some, bif_f (by rfl), bif_t (by rfl)]
    dsimp only
    rw [bif_t (leI_t hrr.1), bif_t (leI_t hrr.2.1)]
    by_cases hz : resI r p (ltI 0 (l.length : Int)) (r.2.2.2.2.2.2.2.1) = 0
    · have := hrr.2.2 hz
      rw [bif_f (by rw [eqI_t hz]; rfl), bif_t this, bif_t this]
    · rw [bif_t (by rw [eqI_f hz]; rfl), eqI_f hz]
      cases ltI 0 (l.length : Int) <;> rfl
  · rw [ends_bad hv h0, Option.bind_some, all_bad hv h0, Option.bind_some, bif_t (by simp [eqI, h0])]
    simp [eqI]
end Go.Proofs.Ytjmcjiklfhmdlaa.Am
