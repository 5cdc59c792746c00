/- Plain: a greater budget changes no answer. -/
import Derived.Test.YtpielijehhhobaaLawProofDb
set_option linter.unusedVariables false
set_option linter.unusedSimpArgs false
set_option linter.unusedSectionVars false
namespace Go.Proofs.Ytpielijehhhobaa.Am
open Go
theorem mod40 (x : Int) : ∃ k : Nat, k < 40 ∧ Int.tmod (w64 ((Int.tmod x 40) + 40)) 40 = k := by
 have b1 := Int.tmod_lt_of_pos x (show (0 : Int) < 40 by decide)
 have b2 : -40 < Int.tmod x 40 := by
  have := Int.tmod_lt_of_pos (-x) (show (0 : Int) < 40 by decide)
  rw [Int.neg_tmod] at this
  omega
 rw [w64_id (x := Int.tmod x 40 + 40) (by omega) (by omega)]
 have c1 := Int.tmod_lt_of_pos (Int.tmod x 40 + 40) (show (0 : Int) < 40 by decide)
 have c2 := Int.tmod_nonneg 40 (show 0 ≤ Int.tmod x 40 + 40 by omega)
 exact ⟨(Int.tmod (Int.tmod x 40 + 40) 40).toNat, by omega, by omega⟩
theorem proofnumBudget_at (r : RulesT) (p : PosT) (budget more : Int) : Q3 300000000 r p budget more = some true := by
 have ha : Q9 300000000 = some true := attacked_ok
 unfold Q3 Q3.e
 rw [ha, Option.bind_some, bif_f (by rfl)]
 dsimp only
 obtain ⟨B, hB, e1⟩ := mod40 budget
 obtain ⟨M, hM, e2⟩ := mod40 more
 rw [e1, e2, w64_id (x := (B : Int) + M) (by omega) (by omega), show (B : Int) + M = ((B + M : Nat) : Int) by omega]
 rcases prove_ok (N := 300000000) (by decide) r p with ⟨v, hv, _, hh⟩ | ⟨hr, hp, b, _, hb, q0, q1, _, hh⟩
 ·rw [hh B (by omega), hh (B + M) (by omega), Option.bind_some, Option.bind_some]
  dsimp only
  rw [bif_t (by rw [eqI_f hv]; rfl), bif_t (eqI_self v)]
  rfl
 ·obtain ⟨t1, ns1, s1, g1, l1, o1, p1⟩ := hh B (by omega)
  obtain ⟨t2, ns2, s2, g2, l2, o2, p2⟩ := hh (B + M) (by omega)
  have hNV : NV = 1099511627776 := rfl
  have r1 := g1.tri.range (by omega)
  have r2 := g2.tri.range (by omega)
  rw [p1, p2, Option.bind_some, Option.bind_some]
  dsimp only
  rw [bif_f (by rfl)]
  have hlt : t2 < t1 → False := fun h => by
   obtain ⟨ns', h1, h2, h3⟩ := s1.before t2 h
   obtain rfl := h1.eq s2
   omega
  by_cases hst : stP ns1 = 2
  ·have hop : (pn ns1 0).2.2.1 ≠ 0 ∧ (pn ns1 0).2.2.2.1 ≠ 0 := by
    unfold stP at hst
    by_cases c : (pn ns1 0).2.2.1 = 0
    ·rw [if_pos c] at hst; omega
    ·rw [if_neg c] at hst
     by_cases c2 : (pn ns1 0).2.2.2.1 = 0
     ·rw [if_pos c2] at hst; omega
     ·exact ⟨c, c2⟩
   have ht1 : t1 = B := by omega
   have ht2 : t1 ≤ t2 := Nat.le_of_not_lt fun h => hlt h
   rw [bif_f (by rw [eqI_t hst]; rfl), bif_t (eqI_self _), bif_t (eqI_t (by omega)), bif_t (leI_t (by omega)), bif_t (ltI_t (by omega)), ltI_t (by omega)]
  ·have hop : (pn ns1 0).2.2.1 = 0 ∨ (pn ns1 0).2.2.2.1 = 0 := by
    unfold stP at hst
    by_cases c : (pn ns1 0).2.2.1 = 0
    ·exact .inl c
    ·rw [if_neg c] at hst
     by_cases c2 : (pn ns1 0).2.2.2.1 = 0
     ·exact .inr c2
     ·rw [if_neg c2] at hst; omega
   have ht : t1 = t2 := by
    rcases Nat.lt_trichotomy t1 t2 with h | h | h
    ·obtain ⟨ns', h1, h2, h3⟩ := s2.before t1 h
     obtain rfl := h1.eq s1
     omega
    ·exact h
    ·exact absurd h hlt
   subst ht
   obtain rfl := s1.eq s2
   rw [bif_t (by rw [eqI_f hst]; rfl), bif_t (eqI_self _), bif_t (by rw [eqI_self, eqI_self, eqI_self, eqI_self]; rfl), leI_t (by omega)]
end Go.Proofs.Ytpielijehhhobaa.Am
