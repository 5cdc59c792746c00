/- The plain law EndsExchanged: the plain function says true at every input. -/
import Derived.Test.YtjmcjiklfhmdlaaLawExchg
import Derived.Test.YtjmcjiklfhmdlaaLawFineg
set_option linter.unusedVariables false
set_option linter.unusedSimpArgs false
set_option linter.unusedSectionVars false
namespace Go.Proofs.Ytjmcjiklfhmdlaa.Am
open Go

/-- what stands ahead of the law's own question -/
theorem exchHead : ∃ y1 y2 y4 y7, gamehallkeep1_three 200000000 = some y1 ∧ gamehallkeep1_near 200000000 = some y2 ∧ ltI 2 (y2.1.length : Int) = true ∧
    ends_Of 200000000 y1 ((y2.1.set (2 : Int).toNat 1), (y2.2.1, (1, y2.2.2.2))) = some y4 ∧ eqI y4.2 0 = true ∧ eqI y4.1 1 = true ∧
    place_Other 200000000 y1 y2 = some y7 ∧ eqI y7.2 0 = true ∧ eqI (y7.1.1.length : Int) 9 = true := by
  refine ⟨_, _, (1, 0), (([0, 0, 0, 1, 1, 0, 2, 2, 0], (([3], [3]), (1, 0))), 0), rfl, rfl, rfl, ?_, rfl, rfl, ?_, rfl, rfl⟩
  · decide +kernel
  · decide +kernel
/-- the rules without Falls -/
def noFall (r : RulesT) : RulesT := (r.1, (r.2.1, (r.2.2.1, (r.2.2.2.1, (r.2.2.2.2.1, (false, r.2.2.2.2.2.2))))))
theorem endsExchanged_at (r : RulesT) (p : PosT) : gamehallkeep1_EndsExchanged 200000000 r p = some true := by
  obtain ⟨y1, y2, y4, y7, h1, h2, h3, h4, h5, h6, h7, h8, h9⟩ := exchHead
  unfold gamehallkeep1_EndsExchanged gamehallkeep1_EndsExchanged.e
  rw [h2, Option.bind_some, chk_of (by rw [h3]; rfl), h1, Option.bind_some, h4, Option.bind_some, bif_f (by rw [h5]; rfl), bif_f (by rw [h6]; rfl), Option.bind_some, Option.bind_some, h7, Option.bind_some, bif_f (by rw [h8]; rfl), bif_f (by rw [h9]; rfl)]
  show ((ends_Of 200000000 (noFall r) p).bind fun y9 =>
    bif (!(eqI y9.2 0)) then (some (eqI y9.1 0))
    else (place_Other 200000000 (noFall r) p).bind fun y10 =>
    (ends_Of 200000000 (noFall r) y10.1).bind fun y11 => _) = _
  have hF : (noFall r).2.2.2.2.2.1 = false := rfl
  generalize noFall r = r' at *
  obtain ⟨v, hv, hv0⟩ := pcheck (N := 200000000) (by decide) r' p
  by_cases h0 : v = 0
  · obtain ⟨hr, hp⟩ := hv0.1 h0
    obtain ⟨l, hl, hg⟩ := gen_ret hr hp (N := 200000000) (Nat.le_refl _)
    obtain ⟨⟨o, z2⟩, hz, hz1, he, ho⟩ := other_ret hr hp (N := 200000000) (by decide)
    dsimp only at hz1 he ho
    subst hz1
    obtain ⟨k, hk, hgk⟩ := gen_ret hr ho (N := 200000000) (Nat.le_refl _)
    have he' := he.symm hr hp
    have hany : ltI 0 (k.length : Int) = ltI 0 (l.length : Int) := by
      by_cases hlz : l.length = 0
      · rw [ltI_f (a := 0) (b := (l.length : Int)) (by omega), ltI_f]
        by_cases hkz : k.length = 0
        · omega
        · exfalso
          have hm : k[0]'(by omega) ∈ l := (hg.mem _).2 (by
            have h5 := cand_exch hr ho hp he' hF ((hgk.mem _).1 (List.getElem_mem (by omega : 0 < k.length)))
            exact absurd ((hg.mem _).2 h5) (by rw [List.length_eq_zero_iff.1 hlz]; simp))
          rw [List.length_eq_zero_iff.1 hlz] at hm
          simp at hm
      · rw [ltI_t (a := 0) (b := (l.length : Int)) (by omega), ltI_t]
        by_cases hkz : k.length = 0
        · exfalso
          have h5 := cand_exch hr hp ho he hF ((hg.mem _).1 (List.getElem_mem (by omega : 0 < l.length)))
          exact absurd ((hgk.mem _).2 h5) (by rw [List.length_eq_zero_iff.1 hkz]; simp)
        · omega
    have hx := res_exch hr hp ho he (ltI 0 (l.length : Int)) (r'.2.2.2.2.2.2.2.1) hr.ends
    rw [ends_good hr hp (by decide) hl, Option.bind_some, bif_f (by rfl), hz, Option.bind_some]
    dsimp only
    rw [ends_good hr ho (by decide) hk, Option.bind_some, hany, hx, fine_eq (by simp) (by simp)]
    dsimp only
    generalize resI r' p (ltI 0 (l.length : Int)) (r'.2.2.2.2.2.2.2.1) = x
    unfold swR
    by_cases c1 : x = 1
    · subst c1; rfl
    · by_cases c2 : x = 2
      · subst c2; rfl
      · rw [bif_f (eqI_f c1), bif_f (eqI_f c2), if_neg c1, if_neg c2, Option.bind_some, eqI_self]; rfl
  · rw [ends_bad hv h0, Option.bind_some, bif_t (by simp [eqI, h0])]
    rfl
end Go.Proofs.Ytjmcjiklfhmdlaa.Am
