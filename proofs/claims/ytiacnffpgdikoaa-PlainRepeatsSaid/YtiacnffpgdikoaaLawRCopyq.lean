/- Plain: rules are copied. -/
import Derived.Test.YtiacnffpgdikoaaLawEndsq
set_option linter.unusedVariables false
set_option linter.unusedSimpArgs false
set_option linter.unusedSectionVars false
namespace Go.Proofs.Ytiacnffpgdikoaa.Am
open Go

theorem copy_l0 (N : Nat) {r : RulesT} (hr : ROk r) : ∀ (k j n : Nat) (m : List PieceT), j + k = (r.2.2.2.1).length → m.length = (r.2.2.2.1).length → (∀ i, i < j → m[i]? = (r.2.2.2.1)[i]?) → k < n →
    rules_Copy.l0 N r n ((r.2.2.2.1).length : Int) (j : Int) m = some r
  | 0, j, n, m, hk, hm, hi, hn => by
    obtain ⟨n, rfl⟩ := nxt (n := n) (by omega)
    have ha := area_le' hr.b
    have hs := hr.ns
    have he := hr.ne
    have : m = r.2.2.2.1 := by
      apply List.ext_getElem?
      intro i
      by_cases h : i < j
      · exact hi i h
      · rw [List.getElem?_eq_none (by omega), List.getElem?_eq_none (by omega)]
    subst this
    rw [rules_Copy.l0_s, rules_Copy.s0, bif_f (ltI_f (by omega)), chk_cap (by omega), chk_cap (by omega)]
  | k + 1, j, n, m, hk, hm, hi, hn => by
    obtain ⟨n, rfl⟩ := nxt (n := n) (by omega)
    have hj : j < (r.2.2.2.1).length := by omega
    have h6 := hr.ps.le
    have hw := (piece_ok hr (kind := j) (by omega)).2.1
    rw [gD_nat hj] at hw
    rw [rules_Copy.l0_s, rules_Copy.s0, bif_t (ltI_t (by omega)), chk_of (idx_ok hj), gD_nat hj, chk_cap (by omega), chk_of (idx_ok (by omega)), w64_id (by omega) (by omega), show ((j : Int) + 1) = ((j + 1 : Nat) : Int) by omega, Int.toNat_natCast]
    refine copy_l0 N hr k (j + 1) n _ (by omega) (by simp [hm]) (fun i hi' => ?_) (by omega)
    rw [List.getElem?_set]
    by_cases hij : j = i
    · subst hij
      rw [if_pos rfl, if_pos (by omega), List.getElem?_eq_getElem hj]
    · rw [if_neg hij]
      exact hi i (by omega)
theorem rcopy_eq {N : Nat} (hN : 1000 ≤ N) {r : RulesT} (hr : ROk r) : rules_Copy N r = some r := by
  have h6 := hr.ps.le
  unfold rules_Copy rules_Copy.e
  dsimp only
  rw [chk_of (by
    rw [leI_t (by omega), decide_eq_true (by omega), Bool.true_and, Bool.true_and, Int.toNat_natCast]
    unfold capOk
    exact decide_eq_true (by omega))]
  have := copy_l0 N hr (r.2.2.2.1).length 0 N (List.replicate ((r.2.2.2.1).length : Int).toNat zP) (by omega) (by simp) (fun i hi => by omega) (by omega)
  rw [show ((0 : Nat) : Int) = 0 from rfl] at this
  exact this
end Go.Proofs.Ytiacnffpgdikoaa.Am
