/- The plain law BoardKeys: the plain function says true at every input. -/
import Derived.Test.YthhojealnaiehaaLawChaink
import Derived.Test.YthhojealnaiehaaLawDoFk
import Derived.Test.YthhojealnaiehaaLawEndsFk
import Derived.Test.YthhojealnaiehaaLawFinek
set_option linter.unusedVariables false
set_option linter.unusedSimpArgs false
set_option linter.unusedSectionVars false
namespace Go.Proofs.Ythhojealnaiehaa.Am
open Go

theorem boarded_trueK : gamehallkeep1_boarded 200000000 = some true := by decide +kernel
theorem keyed_trueK : gamehallkeep1_keyed 200000000 = some true := by decide +kernel
theorem plays_trueK : gamehallkeep1_plays 200000000 = some true := by decide +kernel
/-- lists of moves compared -/
theorem equalM_loop (N : Nat) (a : List MvT) (hs : a.length < 4611686018427387904) : ∀ (k j n : Nat), j + k = a.length → k < n →
    slices_Equal_api_Move_api_Move.l0 N a a n (j : Int) = some true
  | 0, j, n + 1, hk, hn => by
    simp only [slices_Equal_api_Move_api_Move.l0_s, slices_Equal_api_Move_api_Move.s0]
    rw [bif_f (ltI_f (by omega))]
  | k + 1, j, n + 1, hk, hn => by
    have hj : j < a.length := by omega
    simp only [slices_Equal_api_Move_api_Move.l0_s, slices_Equal_api_Move_api_Move.s0]
    rw [bif_t (ltI_t (by omega)), chk_of (idx_ok hj), chk_of (idx_ok hj), eqI_self, eqI_self, eqI_self, bif_f (by rfl), w64_id (by omega) (by omega)]
    have := equalM_loop N a hs k (j + 1) n (by omega) (by omega)
    rw [show ((j : Int) + 1) = ((j + 1 : Nat) : Int) by omega, this]
theorem equalM_self {N : Nat} {a : List MvT} (ha : a.length < 4611686018427387904) (hN : a.length < N) : slices_Equal_api_Move_api_Move N a a = some true := by
  simp only [slices_Equal_api_Move_api_Move, slices_Equal_api_Move_api_Move.e]
  rw [eqI_self, bif_f (by rfl)]
  exact equalM_loop N a ha a.length 0 N (by omega) hN
def bk0 (N : Nat) (r : RulesT) (p : PosT) (picks : List Int) (n : Nat) (l : List Int) (len j : Int) (b : BoardT) : Option Bool :=
  gamehallkeep1_BoardKeys.l0 N r p picks n l len j b.1.1 b.1.2.1 b.1.2.2.1 b.1.2.2.2.2.2.1 b.1.2.2.2.2.2.2.1 b.1.2.2.2.2.2.2.2.2.1 b.1.2.2.2.2.2.2.2.2.2.1 b.1.2.2.2.2.2.2.2.2.2.2 b.2.1.2.2.1 b.2.1.2.2.2 b.2.2.1 b.1.2.2.2.1 b.1.2.2.2.2.1 b.1.2.2.2.2.2.2.2.1 b.2.1.1 b.2.1.2.1.1 b.2.1.2.1.2 b.2.2.2
/-- what comes after the comparison -/
def bkT (N : Nat) (r : RulesT) (p : PosT) (picks : List Int) (n : Nat) (l : List Int) (len j : Int) (b : BoardT) (y8 : List MvT) : Option Bool :=
  bif (eqI (y8.length : Int) 0) then some true
  else bif (eqI (gD (0 : Int) l j) (-1)) then ((board_Board_Undo' N b).bind fun y22 => bk0 N r p picks n l len (w64 (j + 1)) y22.2)
  else (gamehallkeep1_some_api_Move N y8 (gD (0 : Int) l j)).bind fun y23 =>
  (board_Board_Do' N b y23).bind fun y24 =>
  bif (!(eqI y24.1 0)) then some false
  else bk0 N r p picks n l len (w64 (j + 1)) y24.2
theorem bk0_s (N : Nat) (r : RulesT) (p : PosT) (picks : List Int) (n : Nat) (l : List Int) (len j : Int) (b : BoardT) : bk0 N r p picks (n + 1) l len j b =
    bif ltI j len then (chk (leI 0 j && ltI j (l.length : Int)) <|
      (board_Board_Moves N b).bind fun y8 =>
      (board_Board_Position N b).bind fun y9 =>
      (zob_Key N r y9).bind fun y10 =>
      (board_Board_Position N b).bind fun y11 =>
      (moves_All N r y11).bind fun y12 =>
      (board_Board_Position N b).bind fun y13 =>
      (ends_Of N r y13).bind fun y14 =>
      (gamehallkeep1_fine N [y10.2, y12.2, y14.2]).bind fun y15 =>
      bif (!y15) then some false
      else (board_Board_Key N b).bind fun y16 =>
      bif (!(eqI y10.1 y16)) then some false
      else (board_Board_Result N b).bind fun y17 =>
      bif (!(eqI y14.1 y17)) then some false
      else bif (eqI y14.1 0) then ((slices_Equal_api_Move_api_Move N y12.1 y8).bind fun y18 =>
        bif (!y18) then some false
        else bif (!(eqI y14.1 0)) then (bif (ltI 0 (y8.length : Int)) then some false else bkT N r p picks n l len j b y8)
        else bkT N r p picks n l len j b y8)
      else bif (!(eqI y14.1 0)) then (bif (ltI 0 (y8.length : Int)) then some false else bkT N r p picks n l len j b y8)
      else bkT N r p picks n l len j b y8)
    else some true := rfl
section
variable {N : Nat} (hN : 200000000 ≤ N) {r : RulesT} (hr : ROk r) {p : PosT} (hp : POk r p) (picks : List Int)
include hN hr hp
theorem keys_l0 (b0 : BoardT) (hb0 : b0 = (r, (p, (U (keyS p), [])))) (l : List Int) (hl : l.length ≤ 20) : ∀ (k j n c : Nat) (b : BoardT), j + k = l.length → Chain b0 b c → c ≤ j → k + 100 ≤ n → bk0 N r p picks n l (l.length : Int) (j : Int) b = some true
  | 0, j, n, c, b, hk, hc, hcj, hn => by
    obtain ⟨n, rfl⟩ := nxt (n := n) (by omega)
    rw [bk0_s, bif_f (ltI_f (by omega))]
  | k + 1, j, n, c, b, hk, hc, hcj, hn => by
    obtain ⟨n, rfl⟩ := nxt (n := n) (by omega)
    have hok0 : BOk b0 := by subst hb0; exact ⟨hr, hp, rfl⟩
    have hd0 : b0.2.2.2 = [] := by subst hb0; rfl
    have hr0 : b0.1 = r := by subst hb0; rfl
    obtain ⟨hbk, hlen, hbr⟩ := hc.ok hok0 hd0
    rw [hr0] at hbr
    have hj : j < l.length := by omega
    obtain ⟨g, hg, hgg⟩ := gen_ret hbk.r hbk.p (N := N) hN
    have hgl := hgg.len
    have hres := result_eq hbk.r hbk.p (N := N) (by omega) hg
    have hrb : board_Board_Result N b = some (resI b.1 b.2.1 (ltI 0 (g.length : Int)) b.1.2.2.2.2.2.2.2.1) := by
      unfold board_Board_Result board_Board_Result.e
      rw [hres, Option.bind_some]
    have hall : moves_All N r b.2.1 = some (g, 0) := by
      rw [← hbr]; exact all_good (by omega) hbk.r hbk.p hg hgg
    have hend : ends_Of N r b.2.1 = some (resI b.1 b.2.1 (ltI 0 (g.length : Int)) b.1.2.2.2.2.2.2.2.1, 0) := by
      rw [← hbr]; exact ends_good hbk.r hbk.p (by omega) hg
    have hkey : zob_Key N r b.2.1 = some (U (keyS b.2.1), 0) := by
      rw [← hbr]
      unfold zob_Key zob_Key.e
      rw [pcheck_ok (by omega) hbk.r hbk.p, Option.bind_some, bif_f (by rfl), of_eq hbk.r hbk.p (by omega), Option.bind_some]
    have hmv : board_Board_Moves N b = some (bif (!(eqI (resI b.1 b.2.1 (ltI 0 (g.length : Int)) b.1.2.2.2.2.2.2.2.1) 0)) then [] else g) := by
      unfold board_Board_Moves board_Board_Moves.e
      rw [hrb, Option.bind_some]
      cases (!(eqI (resI b.1 b.2.1 (ltI 0 (g.length : Int)) b.1.2.2.2.2.2.2.2.1) 0))
      · rw [bif_f rfl, hg, Option.bind_some]; rfl
      · rfl
    rw [bk0_s, bif_t (ltI_t (by omega)), chk_of (idx_ok hj), hmv, Option.bind_some, pos_eq N hbk, Option.bind_some, hkey, Option.bind_some, Option.bind_some, hall, Option.bind_some, Option.bind_some, hend, Option.bind_some, fine_eq (by simp) (by simp; omega), Option.bind_some, bif_f (by simp), key_eq, Option.bind_some, bif_f (by rw [eqI_t hbk.key.symm]; rfl), hrb, Option.bind_some, bif_f (by rw [eqI_self]; rfl)]
    dsimp only
    by_cases h0 : resI b.1 b.2.1 (ltI 0 (g.length : Int)) b.1.2.2.2.2.2.2.2.1 = 0
    · rw [eqI_t h0, bif_t (by rfl), bif_f (by rfl), equalM_self (by omega) (by omega), Option.bind_some, bif_f (by rfl), bif_f (by rfl)]
      unfold bkT
      by_cases hz : g.length = 0
      · rw [bif_t (eqI_t (by omega))]
      · rw [bif_f (eqI_f (by omega))]
        by_cases hu : gD (0 : Int) l j = -1
        · rw [bif_t (eqI_t hu)]
          cases hc with
          | nil =>
            subst hb0
            have hun : board_Board_Undo' N (r, (p, (U (keyS p), []))) = some (8, (r, (p, (U (keyS p), [])))) := rfl
            rw [hun, Option.bind_some, w64_id (by omega) (by omega), show ((j : Int) + 1) = ((j + 1 : Nat) : Int) by omega]
            exact keys_l0 _ rfl l hl k (j + 1) n 0 _ (by omega) .nil (by omega) (by omega)
          | @step b n' m h1 h2 h3 =>
            rw [undo_make h2 (by have := (h1.ok hok0 hd0).2.1; omega) h3, Option.bind_some, w64_id (by omega) (by omega), show ((j : Int) + 1) = ((j + 1 : Nat) : Int) by omega]
            exact keys_l0 b0 hb0 l hl k (j + 1) n n' b (by omega) h1 (by omega) (by omega)
        · rw [bif_f (eqI_f hu)]
          obtain ⟨m, hm, hmem⟩ := someM_ret N (l := g) (by omega) (by omega) (gD 0 l j)
          have hmo := cand_ok hbk.r hbk.p ((hgg.mem m).1 hmem)
          have hdo : board_Board_Do' N b m = some (0, makeB b m) := by
            unfold board_Board_Do' board_Board_Do'.e
            rw [hres, Option.bind_some, bif_f (by rw [eqI_t h0]; rfl), hg, Option.bind_some, contains_eq g m (by omega) (by omega), Option.bind_some, bif_f (by simp [hmem]), bif_f (eqI_f (by omega)), make_eq hbk (by omega) hmo, Option.bind_some]
          rw [hm, Option.bind_some, hdo, Option.bind_some, bif_f (by rfl), w64_id (by omega) (by omega), show ((j : Int) + 1) = ((j + 1 : Nat) : Int) by omega]
          exact keys_l0 b0 hb0 l hl k (j + 1) n (c + 1) (makeB b m) (by omega) (.step hc hbk hmo) (by omega) (by omega)
    · rw [eqI_f h0, bif_f (by rfl), bif_t (by rfl), bif_f (by rfl)]
      rfl
end
theorem boardKeys_at (r : RulesT) (p : PosT) (picks : List Int) : gamehallkeep1_BoardKeys 200000000 r p picks = some true := by
  have hbd := boarded_trueK
  have hky := keyed_trueK
  have hpl := plays_trueK
  obtain ⟨v, hv, hv0⟩ := pcheck (N := 200000000) (by decide) r p
  unfold gamehallkeep1_BoardKeys gamehallkeep1_BoardKeys.e
  rw [hbd, Option.bind_some, bif_f (by rfl), hky, Option.bind_some, bif_f (by rfl), hpl, Option.bind_some, bif_f (by rfl)]
  by_cases h0 : v = 0
  · obtain ⟨hr, hp⟩ := hv0.1 h0
    rw [new_good (by decide) hr hp, Option.bind_some]
    show (bif (!(eqI 0 0)) then (some (!(eqI 0 0)))
      else _) = _
    rw [bif_f (by rfl)]
    have h20 : 0 ≤ (bif (ltI 12 (picks.length : Int)) then 12 else (picks.length : Int)) ∧ (bif (ltI 12 (picks.length : Int)) then 12 else (picks.length : Int)) ≤ 12 ∧ (bif (ltI 12 (picks.length : Int)) then 12 else (picks.length : Int)) ≤ picks.length := by
      by_cases c : 12 < (picks.length : Int)
      · rw [bif_t (ltI_t c)]; omega
      · rw [bif_f (ltI_f (by omega))]; omega
    dsimp only
    generalize (bif (ltI 12 (picks.length : Int)) then 12 else (picks.length : Int)) = v5 at *
    rw [chk_t1 h20.1 h20.2.2]
    have hl : ((picks.take v5.toNat).drop (0 : Int).toNat).length ≤ 20 := by simp; omega
    exact keys_l0 (Nat.le_refl _) hr hp picks (r, (p, (U (keyS p), []))) rfl _ hl ((picks.take v5.toNat).drop (0 : Int).toNat).length 0 200000000 0 (r, (p, (U (keyS p), []))) (by omega) .nil (by omega) (by omega)
  · rw [new_bad hv h0, Option.bind_some]
    show (bif (!(eqI v 0)) then (some (!(eqI v 0))) else some (!(eqI v 0))) = _
    rw [eqI_f h0]
    rfl
end Go.Proofs.Ythhojealnaiehaa.Am
