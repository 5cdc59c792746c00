/- The plain law WindowReaches: the plain function says true at every input. -/
import Derived.Test.YthhojealnaiehaaLawWindowx
import Derived.Test.YthhojealnaiehaaLawFinex
set_option linter.unusedVariables false
set_option linter.unusedSimpArgs false
set_option linter.unusedSectionVars false
namespace Go.Proofs.Ythhojealnaiehaa.Am
open Go

theorem scored_trueR : gamehallkeep1_scored 300000000 = some true := by decide +kernel
theorem wreach_head : ((gamehallkeep1_three 300000000).bind fun y1 => (gamehallkeep1_near 300000000).bind fun y2 => (window_Reaches 300000000 y1 y2 1 999).bind fun y3 => some (eqI y3.2 0 && y3.1)) = some true := by decide +kernel
theorem windowReaches_at (r : RulesT) (p : PosT) (depth least : Int) : gamehallkeep1_WindowReaches 300000000 r p depth least = some true := by
  have hsc := scored_trueR
  have hhd := wreach_head
  obtain ⟨e, he, he2⟩ := mcheck_ret (N := 300000000) (by decide) r p depth
  obtain ⟨hv, hh, _⟩ := heavy_ret (N := 300000000) (by decide) r p depth
  have key : (gamehallkeep1_heavy 300000000 r p depth).bind (fun y5 =>
      bif y5 then some true
      else (minimax_Score 300000000 r p depth).bind fun y6 =>
      (window_Reaches 300000000 r p depth least).bind fun y7 =>
      bif (!(eqI y7.2 0)) then (bif (!y7.1) then some true
        else (gamehallkeep1_fine 300000000 [y6.2, y7.2]).bind fun y8 =>
        bif y8 then (some (y7.1 == (leI least y6.1)))
        else some false)
      else (gamehallkeep1_fine 300000000 [y6.2, y7.2]).bind fun y10 =>
      bif y10 then (some (y7.1 == (leI least y6.1)))
      else some false) = some true := by
    rw [hh, Option.bind_some]
    cases hv with
    | true => rfl
    | false =>
      rw [bif_f rfl]
      obtain ⟨z, hz, _⟩ := score_ret (N := 300000000) (by decide) r p depth
      unfold window_Reaches window_Reaches.e
      by_cases l1 : least ≤ -1000
      · rw [hz, Option.bind_some, bif_t (leI_t l1), he, Option.bind_some]
        by_cases h0 : e = 0
        · rw [bif_f (by rw [eqI_t h0]; rfl), Option.bind_some]; rfl
        · rw [bif_t (by rw [eqI_f h0]; rfl), Option.bind_some]
          dsimp only
          rw [bif_t (by rw [eqI_f h0]; rfl)]; rfl
      · rw [bif_f (leI_f (by omega))]
        by_cases l2 : 1000 < least
        · rw [hz, Option.bind_some, bif_t (ltI_t l2), he, Option.bind_some]
          by_cases h0 : e = 0
          · rw [bif_f (by rw [eqI_t h0]; rfl), Option.bind_some]; rfl
          · rw [bif_t (by rw [eqI_f h0]; rfl), Option.bind_some]
            dsimp only
            rw [bif_t (by rw [eqI_f h0]; rfl)]; rfl
        · rw [bif_f (ltI_f (by omega)), w64_id (x := least - 1) (by omega) (by omega)]
          by_cases h0 : e = 0
          · subst h0
            obtain ⟨hr, hp, d1, d2⟩ := he2 rfl
            obtain ⟨z1, e1, q1⟩ := wscore_good (N := 300000000) (by decide) r p depth he hr hp d1 d2 (low := least - 1) (high := least) (by omega) (by omega) (by omega)
            have x1 := clp_cases (show least - 1 < least by omega) (val r depth.toNat p)
            rw [← q1.1] at x1
            rw [score_good (by decide) r p depth he hr hp d1 d2, Option.bind_some, e1, Option.bind_some, bif_t (eqI_t q1.2), Option.bind_some]
            dsimp only
            rw [q1.2, bif_f (by rfl), fine_eq (by simp) (by simp), Option.bind_some, bif_t (by simp)]
            by_cases k : least ≤ val r depth.toNat p
            · rw [leI_t k, leI_t (by omega)]; rfl
            · rw [leI_f (by omega), leI_f (by omega)]; rfl
          · rw [score_bad (by decide) r p depth he h0, Option.bind_some, wscore_bad (by decide) r p depth he h0, Option.bind_some]
            dsimp only
            rw [bif_f (eqI_f h0), Option.bind_some]
            dsimp only
            rw [bif_t (by rw [eqI_f h0]; rfl)]; rfl
  unfold gamehallkeep1_WindowReaches gamehallkeep1_WindowReaches.e
  cases h1 : gamehallkeep1_three 300000000 with
  | none => rw [h1] at hhd; cases hhd
  | some y1 =>
    rw [h1, Option.bind_some] at hhd
    rw [Option.bind_some]
    cases h2 : gamehallkeep1_near 300000000 with
    | none => rw [h2] at hhd; cases hhd
    | some y2 =>
      rw [h2, Option.bind_some] at hhd
      rw [Option.bind_some]
      cases h3 : window_Reaches 300000000 y1 y2 1 999 with
      | none => rw [h3] at hhd; cases hhd
      | some y3 =>
        rw [h3, Option.bind_some, Option.some.injEq, Bool.and_eq_true] at hhd
        rw [Option.bind_some, hhd.1, hhd.2, hsc]
        exact key
end Go.Proofs.Ythhojealnaiehaa.Am
