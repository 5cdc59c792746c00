/- Plain: the first look at a game says true. -/
import Derived.Test.YtiacnffpgdikoaaLawPlainGameq
set_option linter.unusedVariables false
set_option linter.unusedSimpArgs false
set_option linter.unusedSectionVars false
namespace Go.Proofs.Ytiacnffpgdikoaa.Am
open Go

theorem three_checkP : rules_Check 300000000 threeP = some 0 := by decide +kernel
theorem threeP_ok : ROk threeP := by
  obtain ⟨e2, g1, g2⟩ := rcheck (N := 300000000) (by decide) threeP
  rw [three_checkP] at g1
  exact g2.1 (Option.some.inj g1).symm
abbrev putP (k : Int) : MvT := (-1, (k, 0))
theorem put_eqP (k : Int) : gamehallkeep1_put 300000000 k = some (putP k) := rfl
theorem played_good : GoodP threeP [putP 0, putP 3, putP 1, putP 4, putP 2] := by
  unfold GoodP
  decide +kernel
theorem played_end : gres threeP (plc threeP [putP 0, putP 3, putP 1, putP 4, putP 2]) = 1 ∧ (lstP (plc threeP [putP 0, putP 3, putP 1, putP 4, putP 2])).1.length = 9 := by decide +kernel
theorem played_first : gres threeP (plc threeP []) = 0 ∧ putP 9 ∉ cand threeP (lstP (plc threeP [])) ∧ putP 4 ∈ cand threeP (lstP (plc threeP [])) ∧ cntP (plc threeP [putP 4]) = 1 := by decide +kernel
theorem play_badP {m : MvT} (h : gres threeP (plc threeP []) = 0) (hm : m ∉ cand threeP (lstP (plc threeP []))) : plain_Game_Play' 300000000 (threeP, (plc threeP [], [])) m = some (13, (threeP, (plc threeP [], []))) := by
  have hok := plc_ok threeP_ok (GoodP_nil (r := threeP))
  obtain ⟨e1, e2, e3, e4⟩ := last_idx (N := 300000000) (by decide) threeP_ok (plc threeP []) (by decide) (by decide) hok
  obtain ⟨g, hg, hgg⟩ := gen_ret threeP_ok e4 (N := 300000000) (by decide)
  have haf : moves_After 300000000 threeP (gD noP (plc threeP []) (((plc threeP []).length - 1 : Nat) : Int)) m = some (noP, 13) := by rw [e3]; exact after_none (by decide) threeP_ok e4 hg hgg (fun h => hm ((hgg.mem m).1 h))
  unfold plain_Game_Play' plain_Game_Play'.e
  rw [gres_eq (by decide) threeP_ok _ [] (by decide) (by decide) hok, Option.bind_some, bif_f (by rw [eqI_t h]; rfl)]
  simp only [bothK_same]
  rw [e1, chk_of (idx_ok e2)]
  show (moves_After 300000000 threeP (gD noP (plc threeP []) (((plc threeP []).length - 1 : Nat) : Int)) m).bind _ = _
  rw [haf, Option.bind_some, bif_t (by rfl)]
theorem played_trueP : gamehallkeep1_played 300000000 = some true := by
  have h1 := played_good
  have h2 := played_end
  have h3 := played_first
  have hok := plc_ok threeP_ok (GoodP_nil (r := threeP))
  have hg4 : GoodP threeP [putP 4] := by
    have := GoodP_snoc (GoodP_nil (r := threeP)) h3.1 h3.2.2.1
    exact this
  have hok4 := plc_ok threeP_ok hg4
  have hnew : plain_New 300000000 threeP = some (some (threeP, (plc threeP [], [])), 0) := by
    unfold plain_New plain_New.e place_Begin place_Begin.e
    rw [three_checkP, Option.bind_some, bif_f (by rfl), fresh_eq _ threeP_ok (by decide), Option.bind_some, Option.bind_some, bif_f (by rfl), rcopy_eq (by decide) threeP_ok, Option.bind_some, bothK_same]
    rfl
  have hp4 := play_good (N := 300000000) (by decide) threeP_ok (plc threeP []) [] (by decide) (by decide) hok h3.1 h3.2.2.1 (by decide)
  rw [← plc_snoc] at hp4
  have hp4 : plain_Game_Play' 300000000 (threeP, (plc threeP [], [])) (putP 4) = some (0, (threeP, (plc threeP [putP 4], [putP 4]))) := hp4
  have hc := count_eq (N := 300000000) (by decide) threeP_ok (plc threeP [putP 4]) [putP 4] (by decide) (by decide) hok4
  have hb := back_good (N := 300000000) (by decide) threeP_ok (plc threeP [putP 4]) [putP 4] (by decide) (by decide) hok4 (by decide) (by decide)
  rw [plc_take threeP [putP 4] (by decide)] at hb
  have hb : plain_Game_Back' 300000000 (threeP, (plc threeP [putP 4], [putP 4])) = some (0, (threeP, (plc threeP [], []))) := hb
  have hb2 := back_empty (N := 300000000) (by decide) threeP_ok (plc threeP []) (by decide) (by decide) hok
  unfold gamehallkeep1_played gamehallkeep1_played.e
  rw [threeP_eq, Option.bind_some, put_eqP, Option.bind_some, put_eqP, Option.bind_some, put_eqP, Option.bind_some, put_eqP, Option.bind_some, put_eqP, Option.bind_some, run_eq threeP_ok h1 (by decide), Option.bind_some, Option.bind_some, hnew, Option.bind_some]
  simp only [oCase]
  rw [fine_eq (by simp) (by simp), Option.bind_some, bif_t (by simp), h2.1, bif_t (by rfl), h2.2, bif_t (by rfl), put_eqP, Option.bind_some, play_badP h3.1 h3.2.1, Option.bind_some, bif_t (by rfl), Option.bind_some]
  dsimp only
  rw [hp4, Option.bind_some, bif_t (by rfl)]
  dsimp only
  rw [hc, Option.bind_some, h3.2.2.2, bif_t (by rfl), hb, Option.bind_some, bif_t (by rfl)]
  dsimp only
  rw [hb2, Option.bind_some, bif_t (by rfl)]
  rfl
end Go.Proofs.Ytiacnffpgdikoaa.Am
