/- The plain law PlainRepeats: the plain function says true at every input. -/
import Derived.Test.YtiacnffpgdikoaaLawPlayedq
set_option linter.unusedVariables false
set_option linter.unusedSimpArgs false
set_option linter.unusedSectionVars false
namespace Go.Proofs.Ytiacnffpgdikoaa.Am
open Go

noncomputable def qr0 (N : Nat) (r : RulesT) (picks : List Int) (n : Nat) (l : List Int) (len j : Int) (g : PlayT) : Option Bool :=
  gamehallkeep1_PlainRepeats.l0 N r picks n l len j g.1.1 g.1.2.1 g.1.2.2.1 g.1.2.2.2.2.2.1 g.1.2.2.2.2.2.2.1 g.1.2.2.2.2.2.2.2.2.1 g.1.2.2.2.2.2.2.2.2.2.1 g.1.2.2.2.2.2.2.2.2.2.2 g.1.2.2.2.1 g.1.2.2.2.2.1 g.1.2.2.2.2.2.2.2.1 g.2.1 g.2.2
/-- the looks at the game, the result told -/
noncomputable def lkQ (N : Nat) (r : RulesT) (g : PlayT) (e want : Int) (K : List MvT × Int → Option Bool) : Option Bool :=
  bif (!(eqI e 0)) then some false
  else (plain_Game_Result N g).bind fun y16 =>
  bif (!(eqI y16 want)) then some false
  else (plain_Game_Count N g).bind fun y17 =>
  bif (ltI y17 1) then some false
  else (plain_Game_Count N g).bind fun y18 =>
  (plain_Game_Moves N g).bind fun y19 =>
  bif (ltI (w64 ((y19.length : Int) + 1)) y18) then some false
  else (plain_Game_Position N g).bind fun y21 =>
  (moves_All N r y21).bind fun y22 => K y22
noncomputable def goQ (N : Nat) (r : RulesT) (picks : List Int) (n : Nat) (l : List Int) (len j : Int) (g : PlayT) (want : Int) (y22 : List MvT × Int) : Option Bool :=
  bif (!(eqI y22.2 0)) then (some (eqI y22.2 0))
  else bif (!(eqI want 0)) then (some (eqI y22.2 0))
  else (gamehallkeep1_some_api_Move N y22.1 (gD (0 : Int) l j)).bind fun y30 =>
  (plain_Game_Play' N g y30).bind fun y31 =>
  bif (!(eqI y31.1 0)) then some false
  else qr0 N r picks n l len (w64 (j + 1)) y31.2
theorem qr0_s (N : Nat) (r : RulesT) (picks : List Int) (n : Nat) (l : List Int) (len j : Int) (g : PlayT) : qr0 N r picks (n + 1) l len j g =
  bif (ltI j len) then (chk ((leI 0 j) && (ltI j (l.length : Int))) <|
    (plain_Game_Position N g).bind fun y11 =>
    (ends_Of N r y11).bind fun y12 =>
    bif (eqI y12.1 0) then (bif (ltI 0 r.2.2.2.2.2.2.2.2.2.2) then ((plain_Game_Count N g).bind fun y14 =>
        bif (leI r.2.2.2.2.2.2.2.2.2.2 y14) then lkQ N r g y12.2 3 fun y22 => bif (!(eqI y22.2 0)) then (some (eqI y22.2 0)) else some (eqI y22.2 0)
        else lkQ N r g y12.2 y12.1 (goQ N r picks n l len j g y12.1))
      else lkQ N r g y12.2 y12.1 (goQ N r picks n l len j g y12.1))
    else lkQ N r g y12.2 y12.1 (goQ N r picks n l len j g y12.1))
  else some true := rfl
theorem qr_l0 {r : RulesT} (hr : ROk r) (picks l : List Int) (hl : l.length ≤ 30) : ∀ (k j n : Nat) (ms : List MvT), j + k = l.length → k < n → GoodP r ms → ms.length ≤ j →
    qr0 300000000 r picks n l (l.length : Int) (j : Int) (r, (plc r ms, ms)) = some true
  | 0, j, n, ms, hk, hn, hg, hm => by
    obtain ⟨n, rfl⟩ := nxt (n := n) (by omega)
    rw [qr0_s, bif_f (ltI_f (by omega))]
  | k + 1, j, n, ms, hk, hn, hg, hm => by
    obtain ⟨n, rfl⟩ := nxt (n := n) (by omega)
    have hj : j < l.length := by omega
    have hlen := plc_len r ms
    have hok := plc_ok hr hg
    have hlast := hok _ (lstP_mem (l := plc r ms) (by omega))
    obtain ⟨g, hgen, hgg⟩ := gen_ret hr hlast (N := 300000000) (by decide)
    have hgl := hgg.len
    have hmv : plain_Game_Moves 300000000 (r, (plc r ms, ms)) = some ms := by
      unfold plain_Game_Moves plain_Game_Moves.e
      rw [chk_cap (by dsimp only; omega)]
    have hc1 : 1 ≤ cntP (plc r ms) := by
      unfold cntP
      refine List.countP_pos_iff.2 ⟨lstP (plc r ms), lstP_mem (by omega), ?_⟩
      simp [sameB]
    have hc2 : cntP (plc r ms) ≤ ms.length + 1 := by
      have := List.countP_le_length (p := fun x => sameB x (lstP (plc r ms))) (l := plc r ms)
      unfold cntP
      omega
    have lk : ∀ (want : Int) (K : List MvT × Int → Option Bool), gres r (plc r ms) = want → K (g, 0) = some true → lkQ 300000000 r (r, (plc r ms, ms)) 0 want K = some true := by
      intro want K hw hK
      unfold lkQ
      rw [bif_f (by rfl), gres_eq (by decide) hr _ ms (by omega) (by omega) hok, Option.bind_some, bif_f (by rw [eqI_t hw]; rfl), count_eq (by decide) hr _ ms (by omega) (by omega) hok, Option.bind_some, bif_f (ltI_f (by omega)), Option.bind_some, hmv, Option.bind_some, w64_id (by omega) (by omega), bif_f (ltI_f (by omega)), pos_eq (by decide) hr _ ms (by omega) (by omega) hok, Option.bind_some, all_good (by decide) hr hlast hgen hgg, Option.bind_some]
      exact hK
    have go : gres r (plc r ms) = resV r (lstP (plc r ms)) → goQ 300000000 r picks n l (l.length : Int) (j : Int) (r, (plc r ms, ms)) (resV r (lstP (plc r ms))) (g, 0) = some true := by
      intro hw
      unfold goQ
      rw [bif_f (by rfl)]
      by_cases h0 : resV r (lstP (plc r ms)) = 0
      · rw [bif_f (by rw [eqI_t h0]; rfl)]
        have hg0 : 0 < g.length := by
          cases hc : g with
          | nil =>
            exfalso
            refine cand_ne hr hlast h0 (List.eq_nil_iff_forall_not_mem.2 fun m hm => ?_)
            have := (hgg.mem m).2 hm
            rw [hc] at this
            cases this
          | cons a b => simp
        obtain ⟨m, hm1, hm2⟩ := some_eqP 300000000 (l := g) (gD (0 : Int) l (j : Int)) (by omega) (by omega)
        have hmc := (hgg.mem m).1 hm2
        rw [hm1, Option.bind_some, play_good (by decide) hr _ ms (by omega) (by omega) hok (by rw [hw]; exact h0) hmc (by omega), Option.bind_some, bif_f (by rfl), w64_id (x := (j : Int) + 1) (by omega) (by omega), show ((j : Int) + 1) = ((j + 1 : Nat) : Int) by omega]
        dsimp only
        rw [← plc_snoc]
        exact qr_l0 hr picks l hl k (j + 1) n _ (by omega) (by omega) (GoodP_snoc hg (by rw [hw]; exact h0) hmc) (by simp; omega)
      · rw [bif_t (by rw [eqI_f h0]; rfl)]
        rfl
    have hof : ends_Of 300000000 r (lstP (plc r ms)) = some (resV r (lstP (plc r ms)), 0) := by
      have hres : ends_Result 300000000 r (lstP (plc r ms)) = some (resV r (lstP (plc r ms))) := by rw [result_eq hr hlast (by decide) hgen, any_eq hgg]; rfl
      unfold ends_Of ends_Of.e
      rw [pcheck_ok (by decide) hr hlast, Option.bind_some, bif_f (by rfl), hres, Option.bind_some]
    rw [qr0_s, bif_t (ltI_t (by omega)), chk_of (idx_ok hj), pos_eq (by decide) hr _ ms (by omega) (by omega) hok, Option.bind_some, hof, Option.bind_some]
    dsimp only
    by_cases c1 : resV r (lstP (plc r ms)) = 0
    · rw [bif_t (eqI_t c1)]
      by_cases c2 : 0 < r.2.2.2.2.2.2.2.2.2.2
      · rw [bif_t (ltI_t c2), count_eq (by decide) hr _ ms (by omega) (by omega) hok, Option.bind_some]
        by_cases c3 : r.2.2.2.2.2.2.2.2.2.2 ≤ (cntP (plc r ms) : Int)
        · rw [bif_t (leI_t c3)]
          exact lk 3 _ (by unfold gres; rw [if_pos ⟨c1, c2, c3⟩]) rfl
        · rw [bif_f (leI_f (by omega))]
          have hw : gres r (plc r ms) = resV r (lstP (plc r ms)) := by unfold gres; rw [if_neg (fun h => c3 h.2.2)]
          exact lk _ _ hw (go hw)
      · rw [bif_f (ltI_f (by omega))]
        have hw : gres r (plc r ms) = resV r (lstP (plc r ms)) := by unfold gres; rw [if_neg (fun h => c2 h.2.1)]
        exact lk _ _ hw (go hw)
    · rw [bif_f (eqI_f c1)]
      have hw : gres r (plc r ms) = resV r (lstP (plc r ms)) := by unfold gres; rw [if_neg (fun h => c1 h.1)]
      exact lk _ _ hw (go hw)
theorem near_winP : ends_Of 300000000 threeP (([1, 1, 1, 2, 2, 0, 0, 0, 0] : List Int), (([3], [3]), (1, 0))) = some (1, 0) := by decide +kernel
theorem plainRepeats_at (r : RulesT) (picks : List Int) : gamehallkeep1_PlainRepeats 300000000 r picks = some true := by
  have hnear : gamehallkeep1_near 300000000 = some (([1, 1, 0, 2, 2, 0, 0, 0, 0] : List Int), (([3], [3]), (0, 0))) := rfl
  have hset : ((([1, 1, 0, 2, 2, 0, 0, 0, 0] : List Int)).set (2 : Int).toNat 1) = [1, 1, 1, 2, 2, 0, 0, 0, 0] := rfl
  unfold gamehallkeep1_PlainRepeats gamehallkeep1_PlainRepeats.e
  rw [hnear, Option.bind_some]
  dsimp only
  rw [chk_of (by rfl), threeP_eq, Option.bind_some, hset, near_winP, Option.bind_some, bif_f (by rfl), bif_f (by rfl), played_trueP, Option.bind_some, bif_f (by rfl), plays_trueP, Option.bind_some, bif_f (by rfl)]
  rcases newP (N := 300000000) (by decide) r with ⟨e, h0, he⟩ | ⟨hr, h⟩
  · rw [he, Option.bind_some]
    show (bif (!(eqI e 0)) then (some (!(eqI e 0))) else some (!(eqI e 0))) = some true
    rw [eqI_f h0]
    rfl
  · rw [h, Option.bind_some]
    simp only [oCase]
    rw [bif_f (by rfl)]
    have hmin : ∃ K : Nat, (bif (ltI 30 (picks.length : Int)) then 30 else (picks.length : Int)) = (K : Int) ∧ K ≤ 30 ∧ K ≤ picks.length := by
      by_cases c : 30 < (picks.length : Int)
      · rw [bif_t (ltI_t c)]
        exact ⟨30, rfl, by omega, by omega⟩
      · rw [bif_f (ltI_f (by omega))]
        exact ⟨picks.length, rfl, by omega, by omega⟩
    obtain ⟨K, hK, hK3, hKp⟩ := hmin
    rw [hK, chk_t1 (by omega) (by omega), Int.toNat_natCast]
    generalize hL : (picks.take K).drop (0 : Int).toNat = L
    have hLl : L.length ≤ 30 := by rw [← hL]; simp; omega
    exact qr_l0 hr picks L hLl L.length 0 300000000 [] (by omega) (by omega) GoodP_nil (by simp)
end Go.Proofs.Ytiacnffpgdikoaa.Am
