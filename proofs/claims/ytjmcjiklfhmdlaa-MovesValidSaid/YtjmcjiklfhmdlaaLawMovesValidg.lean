/- The plain law MovesValid: the plain function says true at every input. -/
import Derived.Test.YtjmcjiklfhmdlaaLawDog
import Derived.Test.YtjmcjiklfhmdlaaFng1
set_option linter.unusedVariables false
set_option linter.unusedSimpArgs false
set_option linter.unusedSectionVars false
namespace Go.Proofs.Ytjmcjiklfhmdlaa.Am
open Go

theorem plays_true : gamehallkeep1_plays 200000000 = some true := by decide +kernel
theorem near_ok : (gamehallkeep1_three 200000000).bind (fun y2 => (gamehallkeep1_near 200000000).bind fun y3 => place_Check 200000000 y2 y3) = some 0 := by decide +kernel
section
variable {r : RulesT} (hr : ROk r) {p : PosT} (hp : POk r p) {l : List MvT} (hl : moves_Gen 200000000 r p = some l) (hg : IsGen r p l)
include hr hp hl hg
theorem valid_l0 (m : MvT) : ∀ (k j n : Nat), j + k = l.length → k < n → gamehallkeep1_MovesValid.l0 200000000 r p m n (l.length : Int) (j : Int) l = some true
  | 0, j, n, hk, hn => by
    obtain ⟨n, rfl⟩ := nxt (n := n) (by omega)
    have hlen := hg.len
    rw [gamehallkeep1_MovesValid.l0_s]
    generalize hM : 200000000 = M at *
    rw [gamehallkeep1_MovesValid.s0, bif_f (ltI_f (by omega)), legal_good (by omega) hr hp hl hg, contains_eq l m (by omega) (by omega)]
    by_cases hm : m ∈ l
    · rw [after_good (by omega) hr hp hl hg hm]
      simp [hm, eqI]
    · rw [after_none (by omega) hr hp hl hg hm]
      simp [hm, eqI]
  | k + 1, j, n, hk, hn => by
    obtain ⟨n, rfl⟩ := nxt (n := n) (by omega)
    have hlen := hg.len
    have hj : j < l.length := by omega
    have ih := valid_l0 m k (j + 1) n (by omega) (by omega)
    rw [gamehallkeep1_MovesValid.l0_s]
    generalize hM : 200000000 = M at *
    have hmem : l[j] ∈ l := List.getElem_mem _
    have hmo := cand_ok hr hp ((hg.mem _).1 hmem)
    have hlast := hp.last.1
    rw [gamehallkeep1_MovesValid.s0, bif_t (ltI_t (by omega)), chk_of (idx_ok hj), gD_nat hj, after_good (by omega) hr hp hl hg hmem, Option.bind_some, bif_f (by rfl), pcheck_ok (by omega) hr (do_ok hr hp hmo), Option.bind_some, bif_f (by rfl), w64_id (x := 1 - p.2.2.1) (by omega) (by omega), bif_f (by simp [eqI, doI]), w64_id (x := (j : Int) + 1) (by omega) (by omega), show ((j : Int) + 1) = ((j + 1 : Nat) : Int) by omega, ih]
    by_cases h0 : j = 0
    · subst h0; rfl
    · rw [bif_t (ltI_t (by omega)), w64_id (by omega) (by omega), show (j : Int) - 1 = ((j - 1 : Nat) : Int) by omega, chk_of (idx_ok (by omega)), gD_nat (by omega), mv_eq, bif_f]
      have := hg.apart (j - 1) (by omega)
      simp only [show j - 1 + 1 = j by omega] at this
      simpa using this
end
theorem movesValid_at (r : RulesT) (p : PosT) (m : MvT) : gamehallkeep1_MovesValid 200000000 r p m = some true := by
  have hpl := plays_true
  have hne := near_ok
  obtain ⟨v, hv, hv0⟩ := pcheck (N := 200000000) (by decide) r p
  unfold gamehallkeep1_MovesValid gamehallkeep1_MovesValid.e
  rw [hpl, Option.bind_some, bif_f (by rfl)]
  obtain ⟨y2, hy2, hne⟩ := Option.bind_eq_some_iff.1 hne
  obtain ⟨y3, hy3, hne⟩ := Option.bind_eq_some_iff.1 hne
  rw [hy2, Option.bind_some, hy3, Option.bind_some, hne, Option.bind_some, bif_f (by rfl)]
  by_cases h0 : v = 0
  · obtain ⟨hr, hp⟩ := hv0.1 h0
    obtain ⟨l, hl, hg⟩ := gen_ret hr hp (N := 200000000) (Nat.le_refl _)
    rw [all_good (by decide) hr hp hl hg, Option.bind_some, bif_f (by rfl)]
    exact valid_l0 hr hp hl hg m l.length 0 200000000 (by omega) (by have := hg.len; omega)
  · rw [all_bad hv h0, Option.bind_some, bif_t (by simp [eqI, h0])]
    rfl
end Go.Proofs.Ytjmcjiklfhmdlaa.Am
