/- Plain: what is proved agrees with the score to any depth. -/
import Derived.Test.YtpielijehhhobaaLawProofDr
import Derived.Test.YtpielijehhhobaaLawTreer
import Derived.Test.YtpielijehhhobaaLawFiner
set_option linter.unusedVariables false
set_option linter.unusedSimpArgs false
set_option linter.unusedSectionVars false
namespace Go.Proofs.Ytpielijehhhobaa.Am
open Go
theorem mod60 (x : Int) : ∃ k : Nat, k < 60 ∧ Int.tmod (w64 ((Int.tmod x 60) + 60)) 60 = k := by
 have b1 := Int.tmod_lt_of_pos x (show (0 : Int) < 60 by decide)
 have b2 : -60 < Int.tmod x 60 := by
  have := Int.tmod_lt_of_pos (-x) (show (0 : Int) < 60 by decide)
  rw [Int.neg_tmod] at this
  omega
 rw [w64_id (x := Int.tmod x 60 + 60) (by omega) (by omega)]
 have c1 := Int.tmod_lt_of_pos (Int.tmod x 60 + 60) (show (0 : Int) < 60 by decide)
 have c2 := Int.tmod_nonneg 60 (show 0 ≤ Int.tmod x 60 + 60 by omega)
 exact ⟨(Int.tmod (Int.tmod x 60 + 60) 60).toNat, by omega, by omega⟩
theorem scored_trueP : Q18 300000000 = some true := by decide +kernel
theorem proofnumRight_at (r : RulesT) (p : PosT) (budget depth : Int) : Q7 300000000 r p budget depth = some true := by
 have ha : Q9 300000000 = some true := attacked_ok
 obtain ⟨h1, hh1, _⟩ := heavy_ret (N := 300000000) (by decide) r p depth
 obtain ⟨z, hz, hz2⟩ := score_ret (N := 300000000) (by decide) r p depth
 unfold Q7 Q7.e
 rw [ha, Option.bind_some, bif_f (by rfl), scored_trueP, Option.bind_some, bif_f (by rfl), hh1, Option.bind_some]
 cases h1 with
 | true => rfl
 | false =>
  rw [bif_f rfl]
  obtain ⟨B, hB, e1⟩ := mod60 budget
  rw [e1, hz]
  rcases prove_ok (N := 300000000) (by decide) r p with ⟨v, hv, _, hh⟩ | ⟨hr, hp, b, rfl, hb, q0, q1, _, hh⟩
  ·rw [hh B (by omega), Option.bind_some, Option.bind_some]
   dsimp only
   rw [fine_eq (by simp) (by simp), Option.bind_some, decide_eq_false (by simp [hv]), bif_t (by rfl)]
  ·obtain ⟨t1, ns1, s1, g1, l1, o1, p1⟩ := hh B (by omega)
   rw [p1, Option.bind_some, Option.bind_some]
   dsimp only
   rw [fine_eq (by simp) (by simp), Option.bind_some]
   by_cases hf : z.2 = 0
   ·rw [decide_eq_true (by simp [hf]), bif_f (by rfl)]
    rcases hz2 with ⟨k1, _⟩ | ⟨_, _, _, k3, k4, k5⟩
    ·exact absurd hf k1
    have hw := g1.wn rfl
    have hyes : stP ns1 = 0 → 0 ≤ z.1 := fun e => by
     have : (pn ns1 0).2.2.1 = 0 := by
      unfold stP at e
      by_cases c : (pn ns1 0).2.2.1 = 0
      ·exact c
      ·rw [if_neg c] at e
       by_cases c2 : (pn ns1 0).2.2.2.1 = 0
       ·rw [if_pos c2] at e; omega
       ·rw [if_neg c2] at e; omega
     rw [k5]
     exact hw.1 this depth.toNat
    have hno : stP ns1 = 1 → z.1 ≤ 0 := fun e => by
     have : (pn ns1 0).2.2.2.1 = 0 := by
      unfold stP at e
      by_cases c : (pn ns1 0).2.2.1 = 0
      ·rw [if_pos c] at e; omega
      ·rw [if_neg c] at e
       by_cases c2 : (pn ns1 0).2.2.2.1 = 0
       ·exact c2
       ·rw [if_neg c2] at e; omega
     rw [k5]
     exact hw.2 this depth.toNat
    have hst : stP ns1 = 0 ∨ stP ns1 = 1 ∨ stP ns1 = 2 := by
     unfold stP
     by_cases c : (pn ns1 0).2.2.1 = 0
     ·rw [if_pos c]; exact .inl rfl
     ·rw [if_neg c]
      by_cases c2 : (pn ns1 0).2.2.2.1 = 0
      ·rw [if_pos c2]; exact .inr (.inl rfl)
      ·rw [if_neg c2]; exact .inr (.inr rfl)
    by_cases c : z.1 ≤ 0
    ·rw [bif_t (leI_t c)]
     by_cases c2 : 0 ≤ z.1
     ·rw [bif_t (leI_t c2)]
     ·rw [bif_f (leI_f (by omega))]
      by_cases c3 : stP ns1 = 1
      ·rw [bif_t (eqI_t c3)]
      ·rw [bif_f (eqI_f c3), eqI_t (by omega)]
    ·have c3 : stP ns1 ≠ 1 := fun e => c (hno e)
     rw [bif_f (leI_f (by omega)), bif_t (by rw [eqI_f c3]; rfl), bif_t (leI_t (by omega))]
   ·rw [decide_eq_false (by simp [hf]), bif_t (by rfl)]
end Go.Proofs.Ytpielijehhhobaa.Am
