/- The plain law CertBreaks: the plain function says true at every input. -/
import Derived.Test.YtnckilklmkpooaaLawSoundd
set_option linter.unusedVariables false
set_option linter.unusedSimpArgs false
set_option linter.unusedSectionVars false
namespace Go.Proofs.Ytnckilklmkpooaa.Am
open Go

theorem proved_trueB : gamehallkeep1_proved 300000000 = some true := by decide +kernel
theorem scored_trueB : gamehallkeep1_scored 300000000 = some true := by decide +kernel
theorem bif_same {b : Bool} {y : Option Bool} (h : b = false → y = some true) : (bif b then some true else y) = some true := by
  cases b
  · exact h rfl
  · rfl
theorem bif_same2 {α : Type} {b : Bool} {x y v : α} (h1 : b = true → x = v) (h2 : b = false → y = v) : (bif b then x else y) = v := by
  cases b
  · exact h2 rfl
  · exact h1 rfl
/-- behind the check of the changed list -/
def afterB (N : Nat) (r : RulesT) (p : PosT) (x : Option (Int × Int)) : Option Bool :=
  x.bind fun y20 =>
  bif (!(eqI y20.2 0)) then (some (eqI y20.1 0))
  else bif (ltI 6 y20.1) then some true
  else (gamehallkeep1_heavy N r p y20.1).bind fun y21 =>
  bif y21 then some true
  else (minimax_Score N r p y20.1).bind fun y22 =>
  bif (eqI y22.2 0) then (some (leI (w64 (1000 - y20.1)) y22.1))
  else some false
theorem afterB_true {N : Nat} (hN : 200020000 ≤ N) {r : RulesT} {p : PosT} (hr : ROk r) (hp : POk r p) (h : resV r p = 0) (l : List NodeT) (hl : l.length ≤ 5000) (hne : 0 < l.length) (hfew : ∀ x ∈ l, x.2.length ≤ 8192) : afterB N r p (cert_Check N r p l) = some true := by
  obtain ⟨z, hz, hz2⟩ := check_sound hN hr hp l hl hne hfew h
  unfold afterB
  rw [hz, Option.bind_some]
  rcases hz2 with ⟨z1, z2⟩ | ⟨z1, z2, z3⟩
  · rw [bif_t (by rw [eqI_f z1]; rfl), eqI_t z2]
  · rw [bif_f (by rw [eqI_t z1]; rfl)]
    by_cases h6 : 6 < z.1
    · rw [bif_t (ltI_t h6)]
    · rw [bif_f (ltI_f (by omega))]
      obtain ⟨n, hn⟩ : ∃ n : Nat, z.1 = n := ⟨z.1.toNat, by omega⟩
      rw [hn] at z2 z3 h6 ⊢
      have hsz := mcheck_size (N := N) (by omega) hr hp (d := n) (by omega)
      have htg := tree_good (N := N) (by omega) r p n hr hp (by omega) (pch_good (by omega) r p (n : Int) hr hp (by omega) (by omega))
      by_cases hs : sizeP r n p ≤ 50000
      · rw [if_pos hs] at hsz
        obtain ⟨b, hb, _⟩ := heavy_ret (N := N) (by omega) r p (n : Int)
        rw [hb, Option.bind_some]
        refine bif_same fun _ => ?_
        have hv := z3 n (Int.le_refl _) (by omega)
        rw [score_good (by omega) r p (n : Int) hsz hr hp (by omega) (by omega), Option.bind_some, bif_t (by rfl), w64_id (x := 1000 - (n : Int)) (by omega) (by omega), Int.toNat_natCast, leI_t hv]
      · rw [if_neg hs] at htg
        have hh : gamehallkeep1_heavy N r p (n : Int) = some true := by
          unfold gamehallkeep1_heavy gamehallkeep1_heavy.e
          rw [htg, Option.bind_some, bif_t (by rfl)]
        rw [hh, Option.bind_some, bif_t rfl]
theorem clone_few {N : Nat} {l : List Int} (hl : l.length ≤ 8192) : slices_Clone_int_int N l = some l := by
  unfold slices_Clone_int_int slices_Clone_int_int.e
  rw [chk_cap (by simp; omega)]
  rfl
theorem clone_nodes {N : Nat} {l : List NodeT} (hl : l.length ≤ 5000) : slices_Clone_api_CertNode_api_CertNode N l = some l := by
  unfold slices_Clone_api_CertNode_api_CertNode slices_Clone_api_CertNode_api_CertNode.e
  rw [chk_cap (by simp; omega)]
  rfl
/-- an index made small -/
theorem wheel (a : Int) (n : Nat) (h0 : 0 < n) (h1 : n ≤ 10000) : ∃ k : Nat, Int.tmod (w64 (Int.tmod a (n : Int) + (n : Int))) (n : Int) = (k : Int) ∧ k < n := by
  have b1 : -(n : Int) < Int.tmod a (n : Int) := Int.lt_tmod_of_pos a (by omega)
  have b2 : Int.tmod a (n : Int) < (n : Int) := Int.tmod_lt_of_pos a (by omega)
  rw [w64_id (by omega) (by omega)]
  have c1 : 0 ≤ Int.tmod (Int.tmod a (n : Int) + (n : Int)) (n : Int) := Int.tmod_nonneg _ (by omega)
  have c2 := Int.tmod_lt_of_pos (Int.tmod a (n : Int) + (n : Int)) (b := (n : Int)) (by omega)
  exact ⟨(Int.tmod (Int.tmod a (n : Int) + (n : Int)) (n : Int)).toNat, by omega, by omega⟩
theorem few_set {l : List NodeT} (h : ∀ x ∈ l, x.2.length ≤ 8192) (k : Nat) {y : NodeT} (hy : y.2.length ≤ 8192) : ∀ x ∈ l.set k y, x.2.length ≤ 8192 := by
  intro x hx
  rcases List.mem_or_eq_of_mem_set hx with e | e
  · exact h x e
  · rw [e]; exact hy
theorem certBreaks_at (r : RulesT) (p : PosT) (depth at_ to : Int) : gamehallkeep1_CertBreaks 300000000 r p depth at_ to = some true := by
  have hpr := proved_trueB
  have hsc := scored_trueB
  obtain ⟨e, he, he2⟩ := mcheck_ret (N := 300000000) (by decide) r p depth
  obtain ⟨hv, hh, _⟩ := heavy_ret (N := 300000000) (by decide) r p depth
  unfold gamehallkeep1_CertBreaks gamehallkeep1_CertBreaks.e
  rw [hpr, Option.bind_some, bif_f (by rfl), hsc, Option.bind_some, bif_f (by rfl), hh, Option.bind_some]
  cases hv with
  | true => rfl
  | false =>
    rw [bif_f rfl]
    unfold cert_Make cert_Make.e
    by_cases h0 : e = 0
    · subst h0
      obtain ⟨hr, hp, d1, d2⟩ := he2 rfl
      obtain ⟨d, rfl⟩ : ∃ d : Nat, depth = d := ⟨depth.toNat, by omega⟩
      have hsz : sizeP r d p ≤ 50000 := by
        have := mcheck_size (N := 300000000) (by decide) hr hp (d := d) (by omega)
        rw [he] at this
        by_cases q : sizeP r d p ≤ 50000
        · exact q
        · rw [if_neg q] at this; cases this
      rw [score_good (by decide) r p (d : Int) he hr hp d1 d2, Option.bind_some, bif_f (by rfl), res_mvP (by decide) hr hp, Option.bind_some, Int.toNat_natCast]
      by_cases hres : resV r p = 0
      · rw [bif_f (by rw [eqI_t hres]; rfl)]
        by_cases hval : val r d p ≤ 0
        · rw [bif_t (leI_t hval), Option.bind_some]
          rfl
        · rw [bif_f (leI_f (by omega))]
          have hd1 : 1 ≤ d := by
            cases d with
            | zero => unfold val at hval; rw [if_neg (by simp [hres])] at hval; omega
            | succ d => omega
          have ht := hp.last.1
          obtain ⟨z, hz, hz1, hz2, hz3⟩ := add_ok hr (1 + p.2.2.1) d 300000000 p [] hd1 (by omega) (by omega) hp hres (by omega) hsz (by simp)
          rw [hz, Option.bind_some]
          rcases hz3 with hf | ⟨hf, hk, S, hS, hA⟩
          · rw [hf, bif_t rfl, Option.bind_some]
            rfl
          · have hS : z.2.2.1 = S := hS
            have hne := hA.ne
            have hle := hA.le
            have hle : S.length ≤ 5000 := by simpa using hle
            have hne0 : (S.length : Int) ≠ 0 := by omega
            rw [hf, bif_f rfl, hS, Option.bind_some, bif_f (by rfl)]
            dsimp only
            rw [bif_f (eqI_f hne0), clone_nodes hle, Option.bind_some, bif_f (eqI_f hne0), bif_f (eqI_f hne0)]
            obtain ⟨k, hk1, hk2⟩ := wheel at_ S.length (by omega) (by omega)
            rw [hk1, chk_of (idx_ok hk2), gD_nat hk2]
            have hf8 := hA.few _ (List.getElem_mem hk2)
            rw [clone_few hf8, Option.bind_some, Int.toNat_natCast]
            have fin : ∀ y : NodeT, y.2.length ≤ 8192 → afterB 300000000 r p (cert_Check 300000000 r p (S.set k y)) = some true := fun y hy =>
              afterB_true (by decide) hr hp hres _ (by rw [List.length_set]; exact hle) (by rw [List.length_set]; exact hne) (few_set hA.few k hy)
            refine bif_same2 (fun _ => bif_same2 (fun c => ?_) (fun _ => ?_)) (fun _ => ?_)
            · rw [ltI_iff] at c
              have hn0 : (S[k].2.length : Int) ≠ 0 := by omega
              obtain ⟨i, hi1, hi2⟩ := wheel to S[k].2.length (by omega) (by omega)
              rw [bif_f (eqI_f hn0), bif_f (eqI_f hn0), hi1, chk_of (idx_ok hi2), chk_of (idx_ok hi2), chk_of (idx_ok hk2)]
              exact fin (S[k].1, _) (by rw [List.length_set]; exact hf8)
            · rw [chk_of (idx_ok hk2)]
              exact fin ((_, (_, _)), S[k].2) hf8
            · rw [chk_of (idx_ok hk2)]
              exact fin ((_, (_, _)), S[k].2) hf8
      · rw [bif_t (by rw [eqI_f hres]; rfl), Option.bind_some]
        rfl
    · rw [score_bad (by decide) r p depth he h0, Option.bind_some, bif_t (by rw [eqI_f h0]; rfl), Option.bind_some]
      dsimp only
      rw [bif_t (by rw [eqI_f h0]; rfl)]
      rfl
end Go.Proofs.Ytnckilklmkpooaa.Am
