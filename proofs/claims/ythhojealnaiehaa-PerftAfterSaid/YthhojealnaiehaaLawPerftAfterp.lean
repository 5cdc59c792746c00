/- The plain law PerftAfter: the plain function says true at every input. -/
import Derived.Test.YthhojealnaiehaaLawLeavesp
import Derived.Test.YthhojealnaiehaaLawFinep
import Derived.Test.YthhojealnaiehaaLawDoFp
set_option linter.unusedVariables false
set_option linter.unusedSimpArgs false
set_option linter.unusedSectionVars false
namespace Go.Proofs.Ythhojealnaiehaa.Am
open Go

theorem counted_trueA : gamehallkeep1_counted 300000000 = some true := by decide +kernel
theorem plays_trueA : gamehallkeep1_plays 300000000 = some true := by decide +kernel
theorem pafter_head : ((gamehallkeep1_three 300000000).bind fun y1 => (gamehallkeep1_near 300000000).bind fun y2 => (place_Check 300000000 y1 y2).bind fun v => (board_Board_Moves 300000000 (y1, (y2, (U (keyS y2), [])))).bind fun l =>
    some (eqI v 0 && eqI (l.length : Int) 5)) = some true := by decide +kernel
theorem sumL_oneA : ∀ l : List MvT, sumL (fun _ => (1 : Int)) l = (l.length : Int)
  | [] => rfl
  | a :: l => by
    have := sumL_oneA l
    show (1 : Int) + sumL (fun _ => (1 : Int)) l = ((l.length + 1 : Nat) : Int)
    omega
theorem someP_ret (N : Nat) {l : List PartT} (h0 : 0 < l.length) (h1 : l.length ≤ 100000) (n : Int) : Ret (gamehallkeep1_some_api_PerftPart N l n) fun m => m ∈ l := by
  unfold gamehallkeep1_some_api_PerftPart gamehallkeep1_some_api_PerftPart.e
  have b1 := Int.tmod_lt_of_pos n (show (0 : Int) < l.length by omega)
  have b2 : -(l.length : Int) < Int.tmod n l.length := by
    have := Int.tmod_lt_of_pos (-n) (show (0 : Int) < l.length by omega)
    rw [Int.neg_tmod] at this
    omega
  rw [bif_f (eqI_f (by omega)), bif_f (eqI_f (by omega)), w64_id (by omega) (by omega)]
  have c1 := Int.tmod_lt_of_pos (Int.tmod n l.length + l.length) (show (0 : Int) < l.length by omega)
  have c2 := Int.tmod_nonneg (l.length : Int) (show 0 ≤ Int.tmod n l.length + l.length by omega)
  dsimp only
  rw [chk_idx c2 c1]
  obtain ⟨i, hi⟩ : ∃ i : Nat, Int.tmod (Int.tmod n l.length + l.length) l.length = i := ⟨_, (Int.toNat_of_nonneg c2).symm⟩
  rw [hi] at c1 ⊢
  rw [gD_nat (by omega)]
  exact Ret.ret (List.getElem_mem _)
theorem perftAfter_at (r : RulesT) (p : PosT) (depth n : Int) : gamehallkeep1_PerftAfter 300000000 r p depth n = some true := by
  have hct := counted_trueA
  have hpl := plays_trueA
  have hhd := pafter_head
  obtain ⟨hv, hh, _⟩ := heavy_ret (N := 300000000) (by decide) r p depth
  unfold gamehallkeep1_PerftAfter gamehallkeep1_PerftAfter.e
  rw [hct, Option.bind_some, bif_f (by rfl), hpl, Option.bind_some, bif_f (by rfl)]
  cases h1 : gamehallkeep1_three 300000000 with
  | none => rw [h1] at hhd; cases hhd
  | some y1 =>
  rw [h1, Option.bind_some] at hhd
  rw [Option.bind_some]
  cases h2 : gamehallkeep1_near 300000000 with
  | none => rw [h2] at hhd; cases hhd
  | some y2 =>
  rw [h2, Option.bind_some] at hhd
  rw [Option.bind_some]
  obtain ⟨v, hv1, hv2⟩ := pcheck (N := 300000000) (by decide) y1 y2
  rw [hv1, Option.bind_some] at hhd
  cases h3 : board_Board_Moves 300000000 (y1, (y2, (U (keyS y2), []))) with
  | none => rw [h3] at hhd; cases hhd
  | some l =>
  rw [h3, Option.bind_some, Option.some.injEq, Bool.and_eq_true] at hhd
  obtain ⟨k1, k2⟩ := hhd
  obtain ⟨hr1, hp1⟩ := hv2.1 (by simpa [eqI] using k1)
  have hm : l = mvP y1 y2 := by
    have := bmoves_mvP (N := 300000000) (by decide) (b := (y1, (y2, (U (keyS y2), [])))) ⟨hr1, hp1, rfl⟩
    rw [h3] at this
    exact Option.some.inj this
  have hlen : (l.length : Int) = 5 := by simpa [eqI] using k2
  have hdv : perft_Divide 300000000 y1 y2 1 = some (l.map (partL y1 0 y2), 0) := by
    have := divide_good (N := 300000000) (by decide) y1 y2 0 hr1 hp1 (by omega) (pch_good (by decide) y1 y2 _ hr1 hp1 (by omega) (by omega))
    rw [if_pos (by show 1 + sumL (fun _ => (1 : Int)) (mvP y1 y2) ≤ 50000; rw [sumL_oneA, ← hm]; omega), ← hm] at this
    exact this
  have hle : (((l.map (partL y1 0 y2)).length : Nat) : Int) = 5 := by rw [List.length_map]; exact hlen
  rw [hdv, Option.bind_some, bif_f (by rfl)]
  dsimp only
  rw [hle, bif_f (by rfl), hh, Option.bind_some]
  cases hv with
  | true => rfl
  | false =>
    rw [bif_f rfl]
    rcases pch (N := 300000000) (by decide) r p depth with ⟨e, e0, he⟩ | ⟨hr, hp, d1, d2, he⟩
    · rw [divide_bad (by decide) r p depth e0 he, Option.bind_some, bif_t (by rw [eqI_f e0]; rfl)]
      rfl
    · obtain ⟨d, rfl⟩ : ∃ d : Nat, depth = d := ⟨depth.toNat, by omega⟩
      cases d with
      | zero =>
        have v1 := divide_zero (N := 300000000) (by decide) r p hr hp he
        rw [show ((0 : Nat) : Int) = 0 from rfl]
        rw [v1, Option.bind_some]
        rfl
      | succ d =>
        have v1 := divide_good (N := 300000000) (by decide) r p d hr hp (by omega) he
        by_cases q : sizeP r (d + 1) p ≤ 50000
        · rw [if_pos q] at v1
          rw [v1, Option.bind_some, bif_f (by rfl)]
          dsimp only
          have hg := mvP_spec hr hp
          by_cases hz : (mvP r p).length = 0
          · rw [bif_t (eqI_t (by rw [List.length_map]; omega)), eqI_t (by rw [List.length_map]; omega)]
          · rw [bif_f (eqI_f (by rw [List.length_map]; omega))]
            obtain ⟨x, hx, hx2⟩ := someP_ret 300000000 (l := (mvP r p).map (partL r d p)) (by rw [List.length_map]; omega) (by rw [List.length_map]; omega) n
            obtain ⟨m, hm2, rfl⟩ := List.mem_map.1 hx2
            have hmo := (hg.2 m hm2).1
            obtain ⟨g, hg1, hg2⟩ := gen_ret hr hp (N := 300000000) (by decide)
            have ha := after_good (N := 300000000) (by decide) hr hp hg1 hg2 ((hg2.mem m).2 (hg.2 m hm2).2)
            have hdo := do_ok hr hp hmo
            have sz : sizeP r d (doI r p m) ≤ 50000 := by
              have := sumL_mem (f := fun m => sizeP r d (doI r p m)) (mvP r p) (fun m _ => by have := sizeP_pos r d (doI r p m); omega) m hm2
              have e : sizeP r (d + 1) p = 1 + sumL (fun m => sizeP r d (doI r p m)) (mvP r p) := rfl
              omega
            have c1 := count_good (N := 300000000) (by decide) r (doI r p m) d hr hdo (by omega) (pch_good (by decide) r (doI r p m) (d : Int) hr hdo (by omega) (by omega))
            rw [if_pos sz] at c1
            rw [hx, Option.bind_some]
            show (moves_After 300000000 r p m).bind _ = _
            rw [ha, Option.bind_some, w64_id (x := ((d + 1 : Nat) : Int) - 1) (by omega) (by omega), show ((d + 1 : Nat) : Int) - 1 = (d : Int) by omega]
            show (perft_Count 300000000 r (doI r p m) (d : Int)).bind _ = _
            rw [c1, Option.bind_some, fine_eq (by simp) (by simp), Option.bind_some, bif_t (by simp)]
            show some (eqI (leaves r d (doI r p m)) (leaves r d (doI r p m))) = _
            rw [eqI_self]
        · rw [if_neg q] at v1
          rw [v1, Option.bind_some]
          rfl
end Go.Proofs.Ythhojealnaiehaa.Am
