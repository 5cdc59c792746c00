/- The plain law MinimaxWins: the plain function says true at every input. -/
import Derived.Test.YthhojealnaiehaaLawCheckw
import Derived.Test.YthhojealnaiehaaLawFinew
import Derived.Test.YthhojealnaiehaaLawDoFw
import Derived.Test.YthhojealnaiehaaLawEndsFw
set_option linter.unusedVariables false
set_option linter.unusedSimpArgs false
set_option linter.unusedSectionVars false
namespace Go.Proofs.Ythhojealnaiehaa.Am
open Go

/-- lost to the full: only where the game is over -/
theorem val_lost {r : RulesT} (hr : ROk r) {p : PosT} (hp : POk r p) {d : Nat} (hd : d ≤ 900) : val r d p = -1000 ↔ resV r p = 2 - p.2.2.1 := by
  have ht := hp.last.1
  by_cases h : resV r p = 0
  · refine ⟨fun hv => ?_, fun h2 => by omega⟩
    exfalso
    cases d with
    | zero => unfold val at hv; rw [if_neg (by simp [h])] at hv; omega
    | succ d =>
      rw [val_open hr h] at hv
      have f2 := foldMax_spec ((cand r p).map fun m => near (-(val r d (doI r p m)))) (-1000)
      obtain ⟨m0, hm0⟩ : ∃ m, m ∈ cand r p := by
        cases hc : cand r p with
        | nil => exact absurd hc (cand_ne hr hp h)
        | cons m l => exact ⟨m, List.mem_cons_self ..⟩
      have bnd := val_bound hr d (by omega) (do_ok hr hp (cand_ok hr hp hm0))
      have nb := near_cases (-(val r d (doI r p m0)))
      have u2 := f2.2.1 _ (List.mem_map.2 ⟨m0, hm0, rfl⟩)
      omega
  · rw [val_over hr h]
    unfold scoreV
    split
    · omega
    · split
      · omega
      · omega
def bs0 (N : Nat) (b0 : BoardT) (depth : Int) (n : Nat) (most len j : Int) (b : BoardT) (out : MvT) (ms : List MvT) : Option (MvT × Int × BoardT) :=
  minimax_best'.l0 N b0 depth n most len j b.1.1 b.1.2.1 b.1.2.2.1 b.1.2.2.2.2.2.1 b.1.2.2.2.2.2.2.1 b.1.2.2.2.2.2.2.2.2.1 b.1.2.2.2.2.2.2.2.2.2.1 b.1.2.2.2.2.2.2.2.2.2.2 b.2.1.2.2.1 b.2.1.2.2.2 b.2.2.1 out.1 out.2.1 out.2.2 ms b.1.2.2.2.1 b.1.2.2.2.2.1 b.1.2.2.2.2.2.2.2.1 b.2.1.1 b.2.1.2.1.1 b.2.1.2.1.2 b.2.2.2
theorem bs0_s (N : Nat) (b0 : BoardT) (depth : Int) (n : Nat) (most len j : Int) (b : BoardT) (out : MvT) (ms : List MvT) : bs0 N b0 depth (n + 1) most len j b out ms =
    bif ltI j len then (chk (leI 0 j && ltI j (ms.length : Int)) <|
      (board_Board_Make' N b (gD z0 ms j)).bind fun y2 =>
      (minimax_Value' N y2 (w64 (depth - 1))).bind fun y3 =>
      (minimax_Nearer N (w64 (0 - y3.1))).bind fun y4 =>
      (board_Board_Undo' N y3.2).bind fun y5 =>
      bif (ltI most y4) then (bs0 N b0 depth n y4 len (w64 (j + 1)) y5.2 (gD z0 ms j) ms)
      else bs0 N b0 depth n most len (w64 (j + 1)) y5.2 out ms)
    else some (out, (most, b)) := rfl
theorem best_l0 {N : Nat} (hN : 200000100 ≤ N) (b0 : BoardT) (d : Nat) (hd : d ≤ 19) {b : BoardT} (hb : BOk b) (hl : b.2.2.2.length ≤ 1000) (ms : List MvT) (hms : ∀ m ∈ ms, MoveOk b.1 b.2.1 m) (hlen : ms.length ≤ 100000) :
    ∀ (k j n : Nat) (most : Int) (out : MvT), j + k = ms.length → k < n → ((0 < k ∧ most = -1001) ∨ (out ∈ ms ∧ most = near (-(val b.1 d (doI b.1 b.2.1 out))))) →
    Ret (bs0 N b0 ((d + 1 : Nat) : Int) n most (ms.length : Int) (j : Int) b out ms) fun z => z.1 ∈ ms ∧ z.2.1 = near (-(val b.1 d (doI b.1 b.2.1 z.1)))
  | 0, j, n, most, out, hk, hn, hm => by
    obtain ⟨n, rfl⟩ := nxt (n := n) (by omega)
    rw [bs0_s, bif_f (ltI_f (by omega))]
    rcases hm with ⟨h, _⟩ | h
    · omega
    · exact Ret.ret h
  | k + 1, j, n, most, out, hk, hn, hm => by
    obtain ⟨n, rfl⟩ := nxt (n := n) (by omega)
    have hj : j < ms.length := by omega
    have hmem : ms[j] ∈ ms := List.getElem_mem _
    have hmo := hms _ hmem
    have hv := val_bound hb.r d (by omega) (do_ok hb.r hb.p hmo)
    have hself := value_ok d N (by omega) (by omega) (make_ok hb (by omega) hmo) (by
      show (b.2.2.2 ++ [undoI b ms[j]]).length + d ≤ 100000
      rw [List.length_append]
      simp only [List.length_singleton]
      omega)
    rw [show val (makeB b ms[j]).1 d (makeB b ms[j]).2.1 = val b.1 d (doI b.1 b.2.1 ms[j]) from rfl] at hself
    rw [bs0_s, bif_t (ltI_t (by omega)), chk_of (idx_ok hj), gD_nat hj, make_eq hb (by omega) hmo, Option.bind_some, w64_id (x := ((d + 1 : Nat) : Int) - 1) (by omega) (by omega), show ((d + 1 : Nat) : Int) - 1 = (d : Int) by omega, hself, Option.bind_some]
    dsimp only
    rw [w64_id (x := 0 - val b.1 d (doI b.1 b.2.1 ms[j])) (by omega) (by omega), nearer_eq N (by omega), Option.bind_some, undo_make hb (by omega) hmo, Option.bind_some, w64_id (by omega) (by omega), show ((j : Int) + 1) = ((j + 1 : Nat) : Int) by omega, show 0 - val b.1 d (doI b.1 b.2.1 ms[j]) = -(val b.1 d (doI b.1 b.2.1 ms[j])) by omega]
    have hnc := near_cases (-(val b.1 d (doI b.1 b.2.1 ms[j])))
    refine Ret.bif (fun c => ?_) (fun c => ?_)
    · exact best_l0 hN b0 d hd hb hl ms hms hlen k (j + 1) n _ _ (by omega) (by omega) (Or.inr ⟨hmem, rfl⟩)
    · rw [ltI_iff'] at c
      refine best_l0 hN b0 d hd hb hl ms hms hlen k (j + 1) n _ _ (by omega) (by omega) (Or.inr ?_)
      rcases hm with ⟨_, h⟩ | h
      · omega
      · exact h
theorem best_ok {N : Nat} (hN : 200000100 ≤ N) (d : Nat) (hd : d ≤ 19) {b : BoardT} (hb : BOk b) (hl : b.2.2.2.length ≤ 1000) (h : resV b.1 b.2.1 = 0) :
    Ret (minimax_best' N b ((d + 1 : Nat) : Int)) fun z => z.1 ∈ cand b.1 b.2.1 ∧ z.2.1 = near (-(val b.1 d (doI b.1 b.2.1 z.1))) := by
  obtain ⟨l, hl1, _, hl2⟩ := bmoves_ret (N := N) (by omega) hb
  have hg := hl2 h
  have hgl := hg.len
  have hne : 0 < l.length := by
    cases hc : cand b.1 b.2.1 with
    | nil => exact absurd hc (cand_ne hb.r hb.p h)
    | cons m c =>
      have := (hg.mem m).2 (by rw [hc]; exact List.mem_cons_self ..)
      exact List.length_pos_of_mem this
  unfold minimax_best' minimax_best'.e
  rw [hl1, Option.bind_some]
  have := best_l0 hN b d hd hb hl l (fun m hm => cand_ok hb.r hb.p ((hg.mem m).1 hm)) (by omega) l.length 0 N (-1001) ((0 : Int), ((0 : Int), (0 : Int))) (by omega) (by omega) (Or.inl ⟨hne, rfl⟩)
  exact Ret.mono this fun z hz => ⟨(hg.mem _).1 hz.1, hz.2⟩
theorem scored_trueM : gamehallkeep1_scored 300000000 = some true := by decide +kernel
theorem plays_trueM : gamehallkeep1_plays 300000000 = some true := by decide +kernel
theorem mwins_head : ((gamehallkeep1_near 300000000).bind fun y1 =>
  chk (true && (ltI 2 (y1.1.length : Int))) <|
  (gamehallkeep1_three 300000000).bind fun y3 =>
  (ends_Of 300000000 y3 ((y1.1.set (2 : Int).toNat 1), (y1.2.1, (1, y1.2.2.2)))).bind fun y4 => some (eqI y4.2 0 && eqI y4.1 1)) = some true := by decide +kernel
theorem minimaxWins_at (r : RulesT) (p : PosT) (depth : Int) : gamehallkeep1_MinimaxWins 300000000 r p depth = some true := by
  have hsc := scored_trueM
  have hpl := plays_trueM
  have hhd := mwins_head
  obtain ⟨e, he, he2⟩ := mcheck_ret (N := 300000000) (by decide) r p depth
  obtain ⟨hv, hh, _⟩ := heavy_ret (N := 300000000) (by decide) r p depth
  have key : (gamehallkeep1_heavy 300000000 r p depth).bind (fun y7 =>
      bif y7 then some true
      else (minimax_Best 300000000 r p depth).bind fun y8 =>
      bif (!(eqI y8.2.2 0)) then (bif (eqI y8.2.1 0) then (some ((eqI y8.1.1 0) && ((eqI y8.1.2.1 0) && ((eqI y8.1.2.2 0) && true))))
        else some false)
      else (moves_After 300000000 r p y8.1).bind fun y10 =>
      (ends_Of 300000000 r y10.1).bind fun y11 =>
      (gamehallkeep1_fine 300000000 [y10.2, y11.2]).bind fun y12 =>
      bif y12 then (some ((eqI y8.2.1 999) == (eqI y11.1 (w64 (1 + p.2.2.1)))))
      else some false) = some true := by
    rw [hh, Option.bind_some]
    cases hv with
    | true => rfl
    | false =>
      rw [bif_f rfl]
      unfold minimax_Best minimax_Best.e
      rw [he, Option.bind_some]
      by_cases h0 : e = 0
      · subst h0
        obtain ⟨hr, hp, d1, d2⟩ := he2 rfl
        have ht := hp.last.1
        have hbk : BOk (r, (p, (U (keyS p), []))) := ⟨hr, hp, rfl⟩
        rw [bif_f (by rfl), new_good (by decide) hr hp, Option.bind_some]
        obtain ⟨d, rfl⟩ : ∃ d : Nat, depth = d := ⟨depth.toNat, by omega⟩
        show ((bif (eqI (d : Int) 0) then (some (((0, (0, 0)), (0, 1)) : (Int × Int × Int) × Int × Int)) else (board_Board_Result 300000000 (r, (p, (U (keyS p), [])))).bind fun y4 => _).bind _) = _
        cases d with
        | zero => rfl
        | succ d =>
          rw [bif_f (eqI_f (by omega)), bresult_eq (by decide) hbk, Option.bind_some]
          by_cases h : resV r p = 0
          · rw [bif_f (by rw [eqI_t h]; rfl)]
            obtain ⟨z, hz, hz1, hz2⟩ := best_ok (N := 300000000) (by decide) d (by omega) hbk (by simp) h
            have hz1 : z.1 ∈ cand r p := hz1
            have hz2 : z.2.1 = near (-(val r d (doI r p z.1))) := hz2
            obtain ⟨l, hl, hg⟩ := gen_ret hr hp (N := 300000000) (by decide)
            have hmo := cand_ok hr hp hz1
            have hdo := do_ok hr hp hmo
            obtain ⟨l2, hl2, hg2⟩ := gen_ret hr hdo (N := 300000000) (by decide)
            have ha := after_good (N := 300000000) (by decide) hr hp hl hg ((hg.mem _).2 hz1)
            have hb := ends_good (N := 300000000) hr hdo (by decide) hl2
            rw [any_eq hg2] at hb
            have hb : ends_Of 300000000 r (doI r p z.1) = some (resV r (doI r p z.1), 0) := hb
            rw [hz, Option.bind_some, Option.bind_some]
            show (bif (!(eqI 0 0)) then _ else (moves_After 300000000 r p z.1).bind _) = _
            rw [bif_f (by rfl), ha, Option.bind_some]
            show (ends_Of 300000000 r (doI r p z.1)).bind _ = _
            rw [hb, Option.bind_some, fine_eq (by simp) (by simp), Option.bind_some, bif_t (by simp)]
            have lost := val_lost hr hdo (d := d) (by omega)
            have bd := val_bound hr d (by omega) hdo
            have nn := near_cases (-(val r d (doI r p z.1)))
            have tt : (doI r p z.1).2.2.1 = 1 - p.2.2.1 := rfl
            rw [← hz2] at nn
            rw [tt] at lost
            show some (eqI z.2.1 999 == eqI (resV r (doI r p z.1)) (w64 (1 + p.2.2.1))) = _
            rw [w64_id (by omega) (by omega)]
            by_cases k : val r d (doI r p z.1) = -1000
            · rw [eqI_t (by omega), eqI_t (by have := lost.1 k; omega)]; rfl
            · rw [eqI_f (by omega), eqI_f (fun h => k (lost.2 (by omega)))]; rfl
          · rw [bif_t (by rw [eqI_f h]; rfl)]
            rfl
      · rw [bif_t (by rw [eqI_f h0]; rfl), Option.bind_some]
        dsimp only
        rw [bif_t (by rw [eqI_f h0]; rfl)]
        rfl
  unfold gamehallkeep1_MinimaxWins gamehallkeep1_MinimaxWins.e
  cases h1 : gamehallkeep1_near 300000000 with
  | none => rw [h1] at hhd; cases hhd
  | some y1 =>
    rw [h1, Option.bind_some] at hhd
    rw [Option.bind_some]
    cases hb : (true && (ltI 2 (y1.1.length : Int))) with
    | false => rw [hb] at hhd; cases hhd
    | true =>
      rw [hb] at hhd
      rw [chk_of rfl] at hhd ⊢
      cases h2 : gamehallkeep1_three 300000000 with
      | none => rw [h2] at hhd; cases hhd
      | some y3 =>
        rw [h2, Option.bind_some] at hhd
        rw [Option.bind_some]
        cases h3 : ends_Of 300000000 y3 ((y1.1.set (2 : Int).toNat 1), (y1.2.1, (1, y1.2.2.2))) with
        | none => rw [h3] at hhd; cases hhd
        | some y4 =>
          rw [h3, Option.bind_some, Option.some.injEq, Bool.and_eq_true] at hhd
          rw [Option.bind_some, hhd.1, hhd.2, hsc, hpl]
          exact key
end Go.Proofs.Ythhojealnaiehaa.Am
