/- The plain law CertMakes: the plain function says true at every input. -/
import Derived.Test.YtnckilklmkpooaaLawCertc
import Derived.Test.YtnckilklmkpooaaLawFinec
set_option linter.unusedVariables false
set_option linter.unusedSimpArgs false
set_option linter.unusedSectionVars false
namespace Go.Proofs.Ytnckilklmkpooaa.Am
open Go

theorem proved_true : gamehallkeep1_proved 300000000 = some true := by decide +kernel
theorem scored_trueC : gamehallkeep1_scored 300000000 = some true := by decide +kernel
theorem certMakes_at (r : RulesT) (p : PosT) (depth : Int) : gamehallkeep1_CertMakes 300000000 r p depth = some true := by
  have hpr := proved_true
  have hsc := scored_trueC
  obtain ⟨e, he, he2⟩ := mcheck_ret (N := 300000000) (by decide) r p depth
  obtain ⟨hv, hh, _⟩ := heavy_ret (N := 300000000) (by decide) r p depth
  unfold gamehallkeep1_CertMakes gamehallkeep1_CertMakes.e
  rw [hpr, Option.bind_some, bif_f (by rfl), hsc, Option.bind_some, bif_f (by rfl), hh, Option.bind_some]
  cases hv with
  | true => rfl
  | false =>
    rw [bif_f rfl]
    unfold cert_Make cert_Make.e
    by_cases h0 : e = 0
    · subst h0
      obtain ⟨hr, hp, d1, d2⟩ := he2 rfl
      obtain ⟨d, rfl⟩ : ∃ d : Nat, depth = d := ⟨depth.toNat, by omega⟩
      have hsz : sizeP r d p ≤ 50000 := by
        have := mcheck_size (N := 300000000) (by decide) hr hp (d := d) (by omega)
        rw [he] at this
        by_cases q : sizeP r d p ≤ 50000
        · exact q
        · rw [if_neg q] at this; cases this
      rw [score_good (by decide) r p (d : Int) he hr hp d1 d2, Option.bind_some, bif_f (by rfl), res_mvP (by decide) hr hp, Option.bind_some, Int.toNat_natCast]
      by_cases hres : resV r p = 0
      · rw [bif_f (by rw [eqI_t hres]; rfl)]
        by_cases hval : val r d p ≤ 0
        · rw [bif_t (leI_t hval), Option.bind_some]
          rw [Option.bind_some]
          show some (leI (val r d p) 0) = _
          rw [leI_t hval]
        · rw [bif_f (leI_f (by omega))]
          have hd1 : 1 ≤ d := by
            cases d with
            | zero => unfold val at hval; rw [if_neg (by simp [hres])] at hval; omega
            | succ d => omega
          have ht := hp.last.1
          obtain ⟨z, hz, hz1, hz2, hz3⟩ := add_ok hr (1 + p.2.2.1) d 300000000 p [] hd1 (by omega) (by omega) hp hres (by omega) hsz (by simp)
          rw [hz, Option.bind_some]
          rcases hz3 with hf | ⟨hf, hk, S, hS, hA⟩
          · rw [hf, bif_t rfl, Option.bind_some, Option.bind_some]
            rfl
          · have hS : z.2.2.1 = S := hS
            have hne := hA.ne
            have hle := hA.le
            have hle : S.length ≤ 5000 := by simpa using hle
            rw [hf, bif_f rfl, hS, Option.bind_some, Option.bind_some, bif_f (by rfl)]
            dsimp only
            have hcert : CertP r (1 + p.2.2.1) S d 0 p := hA.cl S fun i hi => by simp
            have htree : cert_tree 300000000 S = some true := by
              unfold cert_tree cert_tree.e
              have hsum := sumN_le S hA.few
              rw [leI_t (by omega), decide_eq_true (by omega)]
              have hc : capOk 8 (S.length : Int).toNat = true := by unfold capOk; exact decide_eq_true (by omega)
              rw [hc, chk_of (by rfl), Int.toNat_natCast]
              refine tree_l0 300000000 S hle hA.few (fun i x hx a ha => ?_) S.length 0 300000000 _ (by omega) (by rw [List.drop_zero]; omega) (by simp) (fun j hj => ?_) (fun j hj => ?_)
              · rcases hA.ord i x hx a ha with g | g
                · exact Or.inl g
                · exact Or.inr ⟨by have := g.1; simp at this; omega, by have := g.2; simp at this; omega⟩
              · rw [List.drop_zero, hA.cnt j, gD_nat (by simpa using hj), List.getElem_replicate]
                by_cases c : 0 < j
                · rw [if_pos ⟨by simpa using c, by simpa using hj⟩, if_pos c]; rfl
                · rw [if_neg (by simp; omega), if_neg c]; rfl
              · rw [gD_nat (by simpa using hj), List.getElem_replicate]; omega
            have hnode := node_cert hr (1 + p.2.2.1) S hle d (by omega) 300000000 0 p (by omega) hp hres (by omega) rfl hcert
            have vb := val_bound hr d (by omega) hp
            have vo := val_open_le hr hp hres (D := d) (by omega)
            have hchk : cert_Check 300000000 r p S = some (1000 - val r d p, 0) := by
              unfold cert_Check cert_Check.e
              rw [pcheck_ok (by decide) hr hp, Option.bind_some, bif_f (by rfl), bif_f (ltI_f (by omega)), bif_f (eqI_f (by omega)), res_mvP (by decide) hr hp, Option.bind_some, bif_f (by rw [eqI_t hres]; rfl), htree, Option.bind_some, bif_f (by rfl), w64_id (x := 1 + p.2.2.1) (by omega) (by omega)]
              rw [show ((0 : Nat) : Int) = 0 from rfl] at hnode
              rw [hnode, Option.bind_some, bif_f (eqI_f (by omega))]
            rw [hchk, Option.bind_some, fine_eq (by simp) (by simp), Option.bind_some, bif_t (by simp), bif_t (ltI_t (by omega)), w64_id (x := 1000 - val r d p) (by omega) (by omega), bif_t (eqI_self _), leI_t (by dsimp only; omega)]
      · rw [bif_t (by rw [eqI_f hres]; rfl), Option.bind_some, Option.bind_some]
        rfl
    · rw [score_bad (by decide) r p depth he h0, Option.bind_some, bif_t (by rw [eqI_f h0]; rfl), Option.bind_some, Option.bind_some]
      dsimp only
      rw [bif_t (by rw [eqI_f h0]; rfl), bif_t (by rfl), bif_t (eqI_self _)]
end Go.Proofs.Ytnckilklmkpooaa.Am
