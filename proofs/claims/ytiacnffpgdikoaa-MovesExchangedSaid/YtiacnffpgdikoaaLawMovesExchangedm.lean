/- The plain law MovesExchanged: the plain function says true at every input. -/
import Derived.Test.YtiacnffpgdikoaaLawGenNm
import Derived.Test.YtiacnffpgdikoaaLawExchCm
import Derived.Test.YtiacnffpgdikoaaLawDoFm
import Derived.Test.YtiacnffpgdikoaaLawFinem
set_option linter.unusedVariables false
set_option linter.unusedSimpArgs false
set_option linter.unusedSectionVars false
namespace Go.Proofs.Ytiacnffpgdikoaa.Am
open Go

theorem nodup_len : ∀ (l k : List MvT), l.Nodup → (∀ x ∈ l, x ∈ k) → l.length ≤ k.length
  | [], k, _, _ => Nat.zero_le _
  | a :: l, k, h, hs => by
    have h1 := List.nodup_cons.1 h
    have ha := hs a (List.mem_cons_self ..)
    have ih := nodup_len l (k.erase a) h1.2 fun x hx => (List.mem_erase_of_ne (fun e => h1.1 (by rw [← e]; exact hx))).2 (hs x (List.mem_cons_of_mem _ hx))
    rw [List.length_erase_of_mem ha] at ih
    have := List.length_pos_of_mem ha
    rw [List.length_cons]
    omega
theorem nodup_map {f g : MvT → MvT} {l : List MvT} (h : l.Nodup) (hg : ∀ x ∈ l, g (f x) = x) : (l.map f).Nodup := by
  unfold List.Nodup at h ⊢
  rw [List.pairwise_map]
  refine List.Pairwise.imp_of_mem ?_ h
  intro a b ha hb hab e
  exact hab (by rw [← hg a ha, ← hg b hb, e])
theorem turnM_turnM {r : RulesT} (hr : ROk r) {p : PosT} (hp : POk r p) {m : MvT} (hm : MoveOk r p m) : turnM r (turnM r m) = m := by
  obtain ⟨a, b, c⟩ := m
  have ht := hm.to
  have t2 := turn_ok hr.b ht
  unfold turnM
  dsimp only at *
  rw [t2.2.2.2]
  by_cases h : a < 0
  · rw [if_pos h, if_pos h]
  · rw [if_neg h]
    have hs : 0 ≤ a ∧ a < r.2.1 * r.2.2.1 := by
      rcases hm.src with ⟨h1, _⟩ | ⟨h1, h2, _⟩
      · dsimp only at h1; omega
      · exact ⟨h1, h2⟩
    have t1 := turn_ok hr.b hs
    rw [if_neg (by omega), t1.2.2.2]
abbrev noFallM (r : RulesT) : RulesT := (r.1, (r.2.1, (r.2.2.1, (r.2.2.2.1, (r.2.2.2.2.1, (false, r.2.2.2.2.2.2))))))
noncomputable def mx0 (N : Nat) (r : RulesT) (p : PosT) (n : Nat) (len j : Int) (l k : List MvT) : Option Bool := gamehallkeep1_MovesExchanged.l0 N r p n len j l k
theorem mx_l0 {N : Nat} (hN : 200000 ≤ N) (r : RulesT) (p0 : PosT) (hb : 1 ≤ r.2.1 ∧ r.2.1 ≤ 8 ∧ 1 ≤ r.2.2.1 ∧ r.2.2.1 ≤ 8) (l k : List MvT) (hll : l.length ≤ 8192) (hlk : k.length ≤ 8192)
    (hl : ∀ m ∈ l, (0 ≤ m.2.1 ∧ m.2.1 < r.2.1 * r.2.2.1) ∧ (m.1 < 0 ∨ (0 ≤ m.1 ∧ m.1 < r.2.1 * r.2.2.1)) ∧ turnM r m ∈ k) : ∀ (i j n : Nat), j + i = l.length → i < n → mx0 N r p0 n (l.length : Int) (j : Int) l k = some true
  | 0, j, n, hj, hn => by
    obtain ⟨n, rfl⟩ := nxt (n := n) (by omega)
    unfold mx0
    rw [gamehallkeep1_MovesExchanged.l0_s, gamehallkeep1_MovesExchanged.s0, bif_f (ltI_f (by omega))]
  | i + 1, j, n, hj, hn => by
    obtain ⟨n, rfl⟩ := nxt (n := n) (by omega)
    have hjl : j < l.length := by omega
    have ih := mx_l0 hN r p0 hb l k hll hlk hl i (j + 1) n (by omega) (by omega)
    obtain ⟨h1, h2, h3⟩ := hl _ (List.getElem_mem hjl)
    unfold mx0 at ih ⊢
    rw [gamehallkeep1_MovesExchanged.l0_s, gamehallkeep1_MovesExchanged.s0, bif_t (ltI_t (by omega)), chk_of (idx_ok hjl)]
    have e : gD ((0 : Int), ((0 : Int), (0 : Int))) l (j : Int) = l[j] := gD_nat hjl
    have val : ∀ s : Int, 0 ≤ s → s < r.2.1 * r.2.2.1 → (w64 ((w64 ((w64 ((w64 (r.2.2.1 - 1)) - (w64 (Int.tdiv s r.2.1)))) * r.2.1)) + (Int.tmod s r.2.1))) = turnI r s := by
      intro s g1 g2
      have hq := sq_parts hb ⟨g1, g2⟩
      have ht := turn_ok hb ⟨g1, g2⟩
      have hbd := sq_bound (x := s % r.2.1) (y := r.2.2.1 - 1 - s / r.2.1) hb (by omega) (by omega)
      rw [Int.tdiv_eq_ediv_of_nonneg g1, Int.tmod_eq_emod_of_nonneg g1, w64_id (x := r.2.2.1 - 1) (by omega) (by omega), w64_id (x := s / r.2.1) (by omega) (by omega), w64_id (x := r.2.2.1 - 1 - s / r.2.1) (by omega) (by omega), w64_id (x := (r.2.2.1 - 1 - s / r.2.1) * r.2.1) (by omega) (by omega), w64_id (by omega) (by omega)]
      rfl
    rw [e]
    generalize l[j] = m at h1 h2 h3
    obtain ⟨a, b, c⟩ := m
    dsimp only at h1 h2 h3 ⊢
    have hc := contains_eq (N := N) k (turnM r (a, (b, c))) (by omega) hN
    rw [decide_eq_true h3] at hc
    unfold turnM at hc
    dsimp only at hc
    have hb0 : ltI b 0 = false := ltI_f h1.1
    have hw0 : eqI r.2.1 0 = false := eqI_f (by omega)
    have v2 := val b h1.1 h1.2
    have hj1 : w64 ((j : Int) + 1) = ((j + 1 : Nat) : Int) := by rw [w64_id (by omega) (by omega)]; omega
    by_cases ha : a < 0
    · rw [if_pos ha] at hc
      have ha0 : ltI a 0 = true := ltI_t ha
      simp only [ha0, hb0, hw0, cond_true, cond_false, v2, bothK_same, hc, Option.bind_some, Bool.not_true, hj1, ih]
    · rw [if_neg ha] at hc
      have ha0 : ltI a 0 = false := ltI_f (by omega)
      have v1 := val a (by omega) (by omega)
      simp only [ha0, hb0, hw0, cond_true, cond_false, v1, v2, bothK_same, hc, Option.bind_some, Bool.not_true, hj1, ih]
theorem plays_trueM : gamehallkeep1_plays 300000000 = some true := by decide +kernel
theorem headM : ∃ y1 y2 y3, gamehallkeep1_three 300000000 = some y1 ∧ gamehallkeep1_near 300000000 = some y2 ∧ place_Other 300000000 y1 y2 = some y3 ∧ y3.2 = 0 ∧ (y3.1.1.length : Int) = 9 := by
  refine ⟨_, _, (([0, 0, 0, 1, 1, 0, 2, 2, 0], (([3], [3]), (1, 0))), 0), rfl, rfl, ?_, rfl, rfl⟩
  decide +kernel
theorem movesExchanged_at (r : RulesT) (p : PosT) : gamehallkeep1_MovesExchanged 300000000 r p = some true := by
  obtain ⟨y1, y2, y3, a1, a2, a3, a4, a5⟩ := headM
  unfold gamehallkeep1_MovesExchanged gamehallkeep1_MovesExchanged.e
  rw [a1, Option.bind_some, a2, Option.bind_some, a3, Option.bind_some, bif_f (by rw [eqI_t a4]; rfl), bif_f (by rw [eqI_t a5]; rfl), plays_trueM, Option.bind_some, bif_f (by rfl)]
  change (moves_All 300000000 (noFallM r) p).bind _ = _
  obtain ⟨v, hv, hv2⟩ := pcheck (N := 300000000) (by decide) (noFallM r) p
  by_cases h0 : v = 0
  · obtain ⟨hr, hp⟩ := hv2.1 h0
    obtain ⟨l, hl, hg, hnd, _⟩ := gen_nodup hr hp (N := 300000000) (by decide)
    obtain ⟨z, hz, hz1, hz2, hz3⟩ := other_ret hr hp (N := 300000000) (by decide)
    obtain ⟨k, hk, hgk, hndk, _⟩ := gen_nodup hr hz3 (N := 300000000) (by decide)
    have hgl := hg.len
    have hkl := hgk.len
    have hF : (noFallM r).2.2.2.2.2.1 = false := rfl
    have fwd : ∀ m ∈ l, turnM (noFallM r) m ∈ k := fun m hm => (hgk.mem _).2 (cand_exch hr hp hz3 hz2 hF ((hg.mem m).1 hm))
    have bwd : ∀ m ∈ k, turnM (noFallM r) m ∈ l := fun m hm => (hg.mem _).2 (cand_exch hr hz3 hp (hz2.symm hr hp) hF ((hgk.mem m).1 hm))
    have le1 : l.length ≤ k.length := by
      have := nodup_len (l.map (turnM (noFallM r))) k (nodup_map (g := turnM (noFallM r)) hnd fun x hx => turnM_turnM hr hp (cand_ok hr hp ((hg.mem x).1 hx))) (fun x hx => by
        obtain ⟨m, hm, rfl⟩ := List.mem_map.1 hx
        exact fwd m hm)
      rwa [List.length_map] at this
    have le2 : k.length ≤ l.length := by
      have := nodup_len (k.map (turnM (noFallM r))) l (nodup_map (g := turnM (noFallM r)) hndk fun x hx => turnM_turnM hr hz3 (cand_ok hr hz3 ((hgk.mem x).1 hx))) (fun x hx => by
        obtain ⟨m, hm, rfl⟩ := List.mem_map.1 hx
        exact bwd m hm)
      rwa [List.length_map] at this
    have hlen : k.length = l.length := by omega
    rw [all_good (by decide) hr hp hl hg, Option.bind_some, bif_f (by rfl)]
    change (place_Other 300000000 (noFallM r) p).bind _ = _
    rw [hz, Option.bind_some]
    change (moves_All 300000000 (noFallM r) z.1).bind _ = _
    rw [all_good (by decide) hr hz3 hk hgk, Option.bind_some, fine_eq (by simp) (by simp), Option.bind_some, bif_f (by simp [hz1]), bif_f (by rw [eqI_t (by dsimp only; omega)]; rfl)]
    dsimp only
    refine mx_l0 (by decide) r p hr.b l k (by omega) (by omega) (fun m hm => ?_) l.length 0 300000000 (by omega) (by omega)
    have hmo := cand_ok hr hp ((hg.mem m).1 hm)
    refine ⟨hmo.to, ?_, fwd m hm⟩
    rcases hmo.src with ⟨h1, _⟩ | ⟨h1, h2, _⟩
    · exact Or.inl (by omega)
    · exact Or.inr ⟨h1, h2⟩
  · rw [all_bad hv h0, Option.bind_some, bif_t (by rw [eqI_f h0]; rfl)]
    rfl
end Go.Proofs.Ytiacnffpgdikoaa.Am
