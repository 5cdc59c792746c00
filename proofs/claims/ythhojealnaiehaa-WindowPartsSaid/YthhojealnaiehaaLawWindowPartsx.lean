/- The plain law WindowParts: the plain function says true at every input. -/
import Derived.Test.YthhojealnaiehaaLawWindowx
import Derived.Test.YthhojealnaiehaaLawFinex
set_option linter.unusedVariables false
set_option linter.unusedSimpArgs false
set_option linter.unusedSectionVars false
namespace Go.Proofs.Ythhojealnaiehaa.Am
open Go

theorem scored_trueW : gamehallkeep1_scored 300000000 = some true := by decide +kernel
/-- the head of the law: its sure example -/
theorem wparts_head : ((gamehallkeep1_three 300000000).bind fun y1 => (gamehallkeep1_near 300000000).bind fun y2 => (window_Score 300000000 y1 y2 2 0 1).bind fun y3 => some (eqI y3.2.2 0 && (eqI y3.1 1 && !(ltI y3.2.1 1)))) = some true := by decide +kernel
theorem windowParts_at (r : RulesT) (p : PosT) (depth n : Int) : gamehallkeep1_WindowParts 300000000 r p depth n = some true := by
  have hsc := scored_trueW
  have hhd := wparts_head
  obtain ⟨e, he, he2⟩ := mcheck_ret (N := 300000000) (by decide) r p depth
  obtain ⟨hv, hh, _⟩ := heavy_ret (N := 300000000) (by decide) r p depth
  have key : (gamehallkeep1_heavy 300000000 r p depth).bind (fun y5 =>
      bif y5 then some true
      else (minimax_Score 300000000 r p depth).bind fun y8 =>
      (window_Score 300000000 r p depth (-1000) (w64 (Int.tmod (w64 (Int.tmod n 999 + 999)) 999 - 499))).bind fun y9 =>
      (window_Score 300000000 r p depth (w64 (Int.tmod (w64 (Int.tmod n 999 + 999)) 999 - 499)) 1000).bind fun y10 =>
      (window_Score 300000000 r p depth (-1000) 1000).bind fun y11 =>
      bif (!(eqI y8.2 0)) then (bif (eqI y9.2.2 y8.2) then (bif (eqI y10.2.2 y8.2) then (bif (eqI y11.2.2 y8.2) then (bif (eqI y9.1 0) then (bif (eqI y10.1 0) then (bif (eqI y11.1 0) then (some (eqI y11.2.1 0))
                  else some false)
                else some false)
              else some false)
            else some false)
          else some false)
        else some false)
      else (gamehallkeep1_fine 300000000 [y9.2.2, y10.2.2, y11.2.2]).bind fun y13 =>
      bif y13 then (bif (eqI y11.1 y8.1) then (bif (eqI y9.1 (bif (ltI (w64 (Int.tmod (w64 (Int.tmod n 999 + 999)) 999 - 499)) y8.1) then (w64 (Int.tmod (w64 (Int.tmod n 999 + 999)) 999 - 499)) else y8.1)) then (some (eqI y10.1 (bif (ltI y8.1 (w64 (Int.tmod (w64 (Int.tmod n 999 + 999)) 999 - 499))) then (w64 (Int.tmod (w64 (Int.tmod n 999 + 999)) 999 - 499)) else y8.1)))
          else some false)
        else some false)
      else some false) = some true := by
    have b1 := Int.tmod_lt_of_pos n (show (0 : Int) < 999 by decide)
    have b2 : -999 < Int.tmod n 999 := by
      have := Int.tmod_lt_of_pos (-n) (show (0 : Int) < 999 by decide)
      rw [Int.neg_tmod] at this
      omega
    rw [w64_id (x := Int.tmod n 999 + 999) (by omega) (by omega)]
    have c1 := Int.tmod_lt_of_pos (Int.tmod n 999 + 999) (show (0 : Int) < 999 by decide)
    have c2 := Int.tmod_nonneg 999 (show 0 ≤ Int.tmod n 999 + 999 by omega)
    rw [w64_id (x := Int.tmod (Int.tmod n 999 + 999) 999 - 499) (by omega) (by omega)]
    obtain ⟨v, hvv, hv1⟩ : ∃ v, Int.tmod (Int.tmod n 999 + 999) 999 - 499 = v ∧ (-499 ≤ v ∧ v ≤ 499) := ⟨_, rfl, by omega, by omega⟩
    rw [hvv]
    rw [hh, Option.bind_some]
    cases hv with
    | true => rfl
    | false =>
      rw [bif_f rfl]
      by_cases h0 : e = 0
      · subst h0
        obtain ⟨hr, hp, d1, d2⟩ := he2 rfl
        obtain ⟨z1, e1, q1⟩ := wscore_good (N := 300000000) (by decide) r p depth he hr hp d1 d2 (low := -1000) (high := v) (by omega) (by omega) (by omega)
        obtain ⟨z2, e2, q2⟩ := wscore_good (N := 300000000) (by decide) r p depth he hr hp d1 d2 (low := v) (high := 1000) (by omega) (by omega) (by omega)
        obtain ⟨z3, e3, q3⟩ := wscore_good (N := 300000000) (by decide) r p depth he hr hp d1 d2 (low := -1000) (high := 1000) (by omega) (by omega) (by omega)
        rw [score_good (by decide) r p depth he hr hp d1 d2, Option.bind_some, e1, Option.bind_some, e2, Option.bind_some, e3, Option.bind_some]
        dsimp only
        rw [bif_f (by rfl), q1.2, q2.2, q3.2, fine_eq (by simp) (by simp), Option.bind_some, bif_t (by simp)]
        have bd := val_bound hr depth.toNat (by omega) hp
        have x1 := clp_cases (show (-1000 : Int) < v by omega) (val r depth.toNat p)
        have x2 := clp_cases (show v < (1000 : Int) by omega) (val r depth.toNat p)
        have x3 := clp_cases (show (-1000 : Int) < 1000 by omega) (val r depth.toNat p)
        rw [← q1.1] at x1
        rw [← q2.1] at x2
        rw [← q3.1] at x3
        generalize val r depth.toNat p = w at *
        rw [bif_t (eqI_t (by omega))]
        by_cases k1 : v < w
        · rw [bif_t (x := v) (ltI_t k1), bif_t (eqI_t (by omega)), bif_f (x := v) (ltI_f (by omega)), eqI_t (by omega)]
        · rw [bif_f (x := v) (ltI_f (by omega)), bif_t (eqI_t (by omega))]
          by_cases k2 : w < v
          · rw [bif_t (x := v) (ltI_t k2), eqI_t (by omega)]
          · rw [bif_f (x := v) (ltI_f (by omega)), eqI_t (by omega)]
      · rw [score_bad (by decide) r p depth he h0, Option.bind_some, wscore_bad (by decide) r p depth he h0, Option.bind_some, wscore_bad (by decide) r p depth he h0, Option.bind_some, wscore_bad (by decide) r p depth he h0, Option.bind_some]
        dsimp only
        rw [bif_t (by rw [eqI_f h0]; rfl), bif_t (eqI_self _), bif_t (eqI_self _), bif_t (eqI_self _)]
        rfl
  unfold gamehallkeep1_WindowParts gamehallkeep1_WindowParts.e
  cases h1 : gamehallkeep1_three 300000000 with
  | none => rw [h1] at hhd; cases hhd
  | some y1 =>
    rw [h1, Option.bind_some] at hhd
    rw [Option.bind_some]
    cases h2 : gamehallkeep1_near 300000000 with
    | none => rw [h2] at hhd; cases hhd
    | some y2 =>
      rw [h2, Option.bind_some] at hhd
      rw [Option.bind_some]
      cases h3 : window_Score 300000000 y1 y2 2 0 1 with
      | none => rw [h3] at hhd; cases hhd
      | some y3 =>
        rw [h3, Option.bind_some, Option.some.injEq, Bool.and_eq_true, Bool.and_eq_true] at hhd
        rw [Option.bind_some, hhd.1, hhd.2.1, not_t.1 hhd.2.2, hsc]
        exact key
end Go.Proofs.Ythhojealnaiehaa.Am
