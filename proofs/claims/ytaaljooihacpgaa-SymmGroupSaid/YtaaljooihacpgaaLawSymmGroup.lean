/- The plain law SymmGroup: the plain function says true at every input. -/
import Derived.Test.YtaaljooihacpgaaLawSymmBase
set_option linter.unusedVariables false
set_option linter.unusedSimpArgs false
namespace Go.Proofs.Ytaaljooihacpgaa.Am
open Go

theorem compose_all : boards (fun w h => upto (many w h) fun a => upto (many w h) fun b => symm_Compose 1000 w h a b == some (((cmpS a b : Nat) : Int), 0)) = true := by decide +kernel
theorem inverse_all : boards (fun w h => upto (many w h) fun a => symm_Inverse 1000 w h a == some (((invS a : Nat) : Int), 0)) = true := by decide +kernel
def secOK (a b c i : Int) : Bool :=
  bif leI 4 a then eqI c (Go.bits .xor .i64 a (w64 ((w64 ((w64 ((w64 (Int.tdiv b 4)) * 4)) + (w64 ((Int.tmod b 2) * 2)))) + (Int.tmod (w64 (Int.tdiv b 2)) 2)))) && eqI i (w64 ((w64 (4 + (w64 ((Int.tmod a 2) * 2)))) + (Int.tmod (w64 (Int.tdiv a 2)) 2)))
  else eqI c (Go.bits .xor .i64 a b) && eqI i a
theorem sec_all : (upto 8 fun a => upto 8 fun b => secOK a b (cmpS a b : Nat) (invS a : Nat)) = true := by decide +kernel
theorem const_all : symm_Compose 1000 3 3 4 1 = some (6, 0) ∧ gamehallkeep1_moved 1000 = some true ∧ symm_Inverse 1000 3 3 5 = some (6, 0) := by decide +kernel

theorem many_le (w h : Nat) : many w h ≤ 8 := by unfold many; cases Nat.beq w h <;> decide
theorem compose_bad {n : Nat} {w h a b : Int} (hb : ¬ (Good w h a ∧ Good w h b)) : ∃ e, symm_Compose (n + 3) w h a b = some (0, e) ∧ e ≠ 0 := by
  obtain ⟨e1, h1, k1⟩ := symm_check_iff (N := n + 3) (w := w) (h := h) (s := a)
  obtain ⟨e2, h2, k2⟩ := symm_check_iff (N := n + 3) (w := w) (h := h) (s := b)
  simp only [symm_Compose, symm_Compose.e, symm_Compose.l0_s, symm_Compose.s0]
  rw [bif_t (ltI_t (by decide)), bif_t (eqI_t rfl)]
  simp only [h1, Option.bind_some]
  by_cases g1 : e1 = 0
  · rw [bif_f (by simp [eqI, g1])]
    rw [w64_id (by decide) (by decide), bif_t (ltI_t (by decide)), bif_f (eqI_f (by decide)), bif_t (eqI_t (by decide))]
    simp only [h2, Option.bind_some]
    have g2 : e2 ≠ 0 := fun g2 => hb ⟨k1.1 g1, k2.1 g2⟩
    rw [bif_t (by simp [eqI, g2])]
    exact ⟨e2, rfl, g2⟩
  · rw [bif_t (by simp [eqI, g1])]
    exact ⟨e1, rfl, g1⟩
theorem inverse_total {N : Nat} {w h s : Int} : ∃ r, symm_Inverse N w h s = some r := by
  obtain ⟨e1, h1, k1⟩ := symm_check_iff (N := N) (w := w) (h := h) (s := s)
  simp only [symm_Inverse, symm_Inverse.e, h1, Option.bind, Bool.cond_eq_ite]
  repeat' split
  all_goals first | exact ⟨_, rfl⟩ | (exfalso; rename_i hh; exact absurd hh (by decide))
theorem map_total {w h s q : Int} : ∃ r, symm_Map 1000 w h s q = some r := by
  by_cases hg : Good w h s
  · obtain ⟨w', h', s', rfl, rfl, rfl, h1, h2, h3, h4, h5⟩ := hg.nat
    by_cases hq : 0 ≤ q ∧ q < (w' * h' : Nat)
    · have := map_good ⟨h1, h2, h3, h4⟩ h5 (q := q.toNat) (by omega)
      rw [show ((q.toNat : Nat) : Int) = q by omega] at this
      exact ⟨_, this⟩
    · exact ⟨_, map_out ⟨h1, h2, h3, h4⟩ h5 hq⟩
  · obtain ⟨e1, h1, k1⟩ := symm_check_iff (N := 1000) (w := w) (h := h) (s := s)
    have : e1 ≠ 0 := fun g => hg (k1.1 g)
    simp only [symm_Map, symm_Map.e, h1, Option.bind_some]
    rw [bif_t (by simp [eqI, this])]
    exact ⟨_, rfl⟩

theorem symmGroup_at (w h a b q : Int) : gamehallkeep1_SymmGroup 1000 w h a b q = some true := by
  obtain ⟨c1, c2, c3⟩ := const_all
  simp only [gamehallkeep1_SymmGroup, gamehallkeep1_SymmGroup.e, c1, c2, c3, Option.bind_some]
  rw [bif_f (by rfl), bif_f (by rfl), bif_f (by rfl), bif_f (by rfl), bif_f (by rfl)]
  by_cases hg : Good w h a ∧ Good w h b
  · obtain ⟨ga, gb⟩ := hg
    obtain ⟨w', h', a', rfl, rfl, rfl, h1, h2, h3, h4, ha⟩ := ga.nat
    obtain ⟨b', rfl⟩ : ∃ b' : Nat, b = b' := ⟨b.toNat, by have := gb.s0; omega⟩
    have hb : b' < many w' h' := by have := gb.s1; simpa using this
    have hB : 1 ≤ w' ∧ w' ≤ 8 ∧ 1 ≤ h' ∧ h' ≤ 8 := ⟨h1, h2, h3, h4⟩
    have hc : symm_Compose 1000 w' h' a' b' = some (((cmpS a' b' : Nat) : Int), 0) := by
      have := upto_at (upto_at (boards_at compose_all hB) ha) hb
      simpa using this
    have hi : symm_Inverse 1000 w' h' a' = some (((invS a' : Nat) : Int), 0) := by
      have := upto_at (boards_at inverse_all hB) ha
      simpa using this
    have hm := many_le w' h'
    have hs : secOK a' b' (cmpS a' b' : Nat) (invS a' : Nat) = true := upto_at (upto_at sec_all (i := a') (by omega)) (i := b') (by omega)
    obtain ⟨g1, g2, g3⟩ := group_eq hB ha hb
    simp only [hc, hi, Option.bind_some]
    unfold secOK at hs
    by_cases hq : 0 ≤ q ∧ q < (w' * h' : Nat)
    · obtain ⟨q', rfl⟩ : ∃ q' : Nat, q = q' := ⟨q.toNat, by omega⟩
      have hq' : q' < w' * h' := by omega
      have i1 := (inv_eq hB hb hq').2
      have i2 := inv_eq hB ha i1
      have m1 := map_good hB hb hq'
      have m2 := map_good hB ha i1
      have m3 := map_good hB g2 hq'
      have m4 := map_good hB g1 i2.2
      simp only [m1, m2, m3, m4, Option.bind_some, eqI_self, Bool.not_true, cond_false]
      have e1 := g3 q' hq'
      cases h4a : leI 4 (a' : Int) with
      | true =>
        rw [h4a] at hs
        simp only [cond_true, Bool.and_eq_true] at hs
        simp only [cond_true, hs.1, hs.2, Bool.not_true, cond_false]
        rw [fine_eq (by simp) (by simp)]
        simp only [Option.bind_some]
        rw [bif_t (by simp), bif_t (eqI_t (by rw [e1])), eqI_t (by rw [i2.1])]
      | false =>
        rw [h4a] at hs
        simp only [cond_false, Bool.and_eq_true] at hs
        simp only [cond_false, hs.1, hs.2, Bool.not_true, cond_false]
        rw [fine_eq (by simp) (by simp)]
        simp only [Option.bind_some]
        rw [bif_t (by simp), bif_t (eqI_t (by rw [e1])), eqI_t (by rw [i2.1])]
    · have m1 := map_out hB hb hq
      simp only [m1, Option.bind_some, eqI_self, Bool.not_true, cond_false]
      cases h4a : leI 4 (a' : Int) with
      | true =>
        rw [h4a] at hs
        simp only [cond_true, Bool.and_eq_true] at hs
        simp only [cond_true, hs.1, hs.2, Bool.not_true, cond_false]
        rw [bif_t (by rfl)]
      | false =>
        rw [h4a] at hs
        simp only [cond_false, Bool.and_eq_true] at hs
        simp only [cond_false, hs.1, hs.2, Bool.not_true, cond_false]
        rw [bif_t (by rfl)]
  · obtain ⟨e, he, h0⟩ := compose_bad (n := 997) hg
    obtain ⟨i, hi⟩ := inverse_total (N := 1000) (w := w) (h := h) (s := a)
    obtain ⟨m, hm⟩ := map_total (w := w) (h := h) (s := b) (q := q)
    simp only [he, hi, hm, Option.bind_some]
    rw [bif_t (by simp [eqI, h0])]
    rfl
theorem symmGroup_true (x : (argTy [.d false (.int .i64), .d false (.int .i64), .d false (.int .i64), .d false (.int .i64), .d false (.int .i64)]).den) (_ : Wf (argTy [.d false (.int .i64), .d false (.int .i64), .d false (.int .i64), .d false (.int .i64), .d false (.int .i64)]) x) : ∃ N, gamehallkeep1_SymmGroup N x.1 x.2.1 x.2.2.1 x.2.2.2.1 x.2.2.2.2 = some true := ⟨1000, symmGroup_at _ _ _ _ _⟩
end Go.Proofs.Ytaaljooihacpgaa.Am
