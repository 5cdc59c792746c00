/- The plain law PlainReplays: the plain function says true at every input. -/
import Derived.Test.YtiacnffpgdikoaaLawPlayedp
set_option linter.unusedVariables false
set_option linter.unusedSimpArgs false
set_option linter.unusedSectionVars false
namespace Go.Proofs.Ytiacnffpgdikoaa.Am
open Go

noncomputable def pr0 (N : Nat) (r : RulesT) (picks : List Int) (n : Nat) (l : List Int) (len j : Int) (g : PlayT) : Option Bool :=
  gamehallkeep1_PlainReplays.l0 N r picks n l len j g.1.1 g.1.2.1 g.1.2.2.1 g.1.2.2.2.2.2.1 g.1.2.2.2.2.2.2.1 g.1.2.2.2.2.2.2.2.2.1 g.1.2.2.2.2.2.2.2.2.2.1 g.1.2.2.2.2.2.2.2.2.2.2 g.1.2.2.2.1 g.1.2.2.2.2.1 g.1.2.2.2.2.2.2.2.1 g.2.1 g.2.2
theorem pr0_s (N : Nat) (r : RulesT) (picks : List Int) (n : Nat) (l : List Int) (len j : Int) (g : PlayT) : pr0 N r picks (n + 1) l len j g =
  bif (ltI j len) then (chk ((leI 0 j) && (ltI j (l.length : Int))) <|
    bif (eqI (gD (0 : Int) l j) (-1)) then ((plain_Game_Back' N g).bind fun y8 => pr0 N r picks n l len (w64 (j + 1)) y8.2)
    else (plain_Game_Position N g).bind fun y9 =>
    (moves_All N r y9).bind fun y10 =>
    bif (!(eqI y10.2 0)) then some false
    else bif (eqI (y10.1.length : Int) 0) then ((plain_Game_Play' N g (0, (0, 0))).bind fun y12 =>
      bif (!(eqI y12.1 14)) then some false
      else pr0 N r picks n l len (w64 (j + 1)) y12.2)
    else (plain_Game_Result N g).bind fun y13 =>
    bif (!(eqI y13 0)) then ((plain_Game_Play' N g (0, (0, 0))).bind fun y14 =>
      bif (!(eqI y14.1 14)) then some false
      else pr0 N r picks n l len (w64 (j + 1)) y14.2)
    else (gamehallkeep1_some_api_Move N y10.1 (gD (0 : Int) l j)).bind fun y15 =>
    (plain_Game_Play' N g y15).bind fun y16 =>
    bif (!(eqI y16.1 0)) then some false
    else pr0 N r picks n l len (w64 (j + 1)) y16.2)
  else (plain_Game_Moves N g).bind fun y17 =>
  (plain_Run N r y17).bind fun y18 =>
  bif (eqI y18.2.2 0) then ((plain_Game_Result N g).bind fun y19 =>
    bif (eqI y18.2.1 y19) then ((plain_Game_Position N g).bind fun y20 =>
      (gamehallkeep1_same N y18.1 y20).bind fun y21 =>
      some y21)
    else some false)
  else some false := rfl
theorem pr_l0 {r : RulesT} (hr : ROk r) (picks l : List Int) (hl : l.length ≤ 30) : ∀ (k j n : Nat) (ms : List MvT), j + k = l.length → k < n → GoodP r ms → ms.length ≤ j →
    pr0 300000000 r picks n l (l.length : Int) (j : Int) (r, (plc r ms, ms)) = some true
  | 0, j, n, ms, hk, hn, hg, hm => by
    obtain ⟨n, rfl⟩ := nxt (n := n) (by omega)
    have hlen := plc_len r ms
    have hok := plc_ok hr hg
    have hmv : plain_Game_Moves 300000000 (r, (plc r ms, ms)) = some ms := by
      unfold plain_Game_Moves plain_Game_Moves.e
      rw [chk_cap (by dsimp only; omega)]
    have hlast := hok _ (lstP_mem (l := plc r ms) (by omega))
    rw [pr0_s, bif_f (ltI_f (by omega)), hmv, Option.bind_some, run_eq hr hg (by omega), Option.bind_some]
    dsimp only
    rw [bif_t (by rfl), gres_eq (by decide) hr _ ms (by omega) (by omega) hok, Option.bind_some, bif_t (eqI_self _), pos_eq (by decide) hr _ ms (by omega) (by omega) hok, Option.bind_some, same_self (by decide) hr hlast, Option.bind_some]
  | k + 1, j, n, ms, hk, hn, hg, hm => by
    obtain ⟨n, rfl⟩ := nxt (n := n) (by omega)
    have hj : j < l.length := by omega
    have hlen := plc_len r ms
    have hok := plc_ok hr hg
    have hlast := hok _ (lstP_mem (l := plc r ms) (by omega))
    have ih := fun ms (h1 : GoodP r ms) (h2 : ms.length ≤ j + 1) => pr_l0 hr picks l hl k (j + 1) n ms (by omega) (by omega) h1 h2
    rw [pr0_s, bif_t (ltI_t (by omega)), chk_of (idx_ok hj), w64_id (x := (j : Int) + 1) (by omega) (by omega), show ((j : Int) + 1) = ((j + 1 : Nat) : Int) by omega]
    by_cases hb : gD (0 : Int) l (j : Int) = -1
    · rw [bif_t (eqI_t hb)]
      by_cases h0 : ms.length = 0
      · obtain rfl := List.eq_nil_of_length_eq_zero h0
        rw [back_empty (by decide) hr _ (by omega) (by omega) hok, Option.bind_some]
        exact ih [] hg (by simp)
      · rw [back_good (by decide) hr _ ms (by omega) (by omega) hok (by omega) (by omega), Option.bind_some]
        dsimp only
        rw [plc_take r ms (by omega)]
        exact ih _ (GoodP_take hg _) (by rw [List.length_take]; omega)
    · obtain ⟨g, hgen, hgg⟩ := gen_ret hr hlast (N := 300000000) (by decide)
      have hgl := hgg.len
      rw [bif_f (eqI_f hb), pos_eq (by decide) hr _ ms (by omega) (by omega) hok, Option.bind_some, all_good (by decide) hr hlast hgen hgg, Option.bind_some, bif_f (by rfl)]
      dsimp only
      by_cases hg0 : g.length = 0
      · rw [bif_t (eqI_t (by omega))]
        have hov : gres r (plc r ms) ≠ 0 := by
          intro h
          have h2 : resV r (lstP (plc r ms)) = 0 := by
            unfold gres at h
            split at h
            · cases h
            · exact h
          refine cand_ne hr hlast h2 (List.eq_nil_iff_forall_not_mem.2 fun m hm => ?_)
          have := (hgg.mem m).2 hm
          rw [List.eq_nil_of_length_eq_zero hg0] at this
          cases this
        rw [play_over (by decide) hr _ ms (by omega) (by omega) hok _ hov, Option.bind_some, bif_f (by rfl)]
        exact ih ms hg (by omega)
      · rw [bif_f (eqI_f (by omega)), gres_eq (by decide) hr _ ms (by omega) (by omega) hok, Option.bind_some]
        by_cases hov : gres r (plc r ms) = 0
        · obtain ⟨m, hm1, hm2⟩ := some_eqP 300000000 (l := g) (gD (0 : Int) l (j : Int)) (by omega) (by omega)
          have hmc := (hgg.mem m).1 hm2
          rw [bif_f (by rw [eqI_t hov]; rfl), hm1, Option.bind_some, play_good (by decide) hr _ ms (by omega) (by omega) hok hov hmc (by omega), Option.bind_some, bif_f (by rfl)]
          dsimp only
          rw [← plc_snoc]
          exact ih _ (GoodP_snoc hg hov hmc) (by simp; omega)
        · rw [bif_t (by rw [eqI_f hov]; rfl), play_over (by decide) hr _ ms (by omega) (by omega) hok _ hov, Option.bind_some, bif_f (by rfl)]
          exact ih ms hg (by omega)
theorem plainReplays_at (r : RulesT) (picks : List Int) : gamehallkeep1_PlainReplays 300000000 r picks = some true := by
  unfold gamehallkeep1_PlainReplays gamehallkeep1_PlainReplays.e
  rw [played_trueP, Option.bind_some, bif_f (by rfl), plays_trueP, Option.bind_some, bif_f (by rfl)]
  rcases newP (N := 300000000) (by decide) r with ⟨e, h0, he⟩ | ⟨hr, h⟩
  · rw [he, Option.bind_some]
    show (bif (!(eqI e 0)) then (some (!(eqI e 0))) else some (!(eqI e 0))) = some true
    rw [eqI_f h0]
    rfl
  · rw [h, Option.bind_some]
    simp only [oCase]
    rw [bif_f (by rfl)]
    have hmin : ∃ K : Nat, (bif (ltI 30 (picks.length : Int)) then 30 else (picks.length : Int)) = (K : Int) ∧ K ≤ 30 ∧ K ≤ picks.length := by
      by_cases c : 30 < (picks.length : Int)
      · rw [bif_t (ltI_t c)]
        exact ⟨30, rfl, by omega, by omega⟩
      · rw [bif_f (ltI_f (by omega))]
        exact ⟨picks.length, rfl, by omega, by omega⟩
    obtain ⟨K, hK, hK3, hKp⟩ := hmin
    rw [hK, chk_t1 (by omega) (by omega), Int.toNat_natCast]
    generalize hL : (picks.take K).drop (0 : Int).toNat = L
    have hLl : L.length ≤ 30 := by rw [← hL]; simp; omega
    exact pr_l0 hr picks L hLl L.length 0 300000000 [] (by omega) (by omega) GoodP_nil (by simp)
end Go.Proofs.Ytiacnffpgdikoaa.Am
