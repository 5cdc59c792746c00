/- Plain: games that are played by the rules alone: whole games. -/
import Derived.Test.YtiacnffpgdikoaaLawPlain0q
import Derived.Test.YtiacnffpgdikoaaLawFineq
set_option linter.unusedVariables false
set_option linter.unusedSimpArgs false
set_option linter.unusedSectionVars false
namespace Go.Proofs.Ytiacnffpgdikoaa.Am
open Go

theorem plays_trueP : gamehallkeep1_plays 300000000 = some true := by decide +kernel
theorem wheelP (a : Int) (n : Nat) (h0 : 0 < n) (h1 : n ≤ 10000) : ∃ k : Nat, Int.tmod (w64 (Int.tmod a (n : Int) + (n : Int))) (n : Int) = (k : Int) ∧ k < n := by
  have b1 : -(n : Int) < Int.tmod a (n : Int) := Int.lt_tmod_of_pos a (by omega)
  have b2 : Int.tmod a (n : Int) < (n : Int) := Int.tmod_lt_of_pos a (by omega)
  rw [w64_id (by omega) (by omega)]
  have c1 : 0 ≤ Int.tmod (Int.tmod a (n : Int) + (n : Int)) (n : Int) := Int.tmod_nonneg _ (by omega)
  have c2 := Int.tmod_lt_of_pos (Int.tmod a (n : Int) + (n : Int)) (b := (n : Int)) (by omega)
  exact ⟨(Int.tmod (Int.tmod a (n : Int) + (n : Int)) (n : Int)).toNat, by omega, by omega⟩
theorem some_eqP (N : Nat) {l : List MvT} (n : Int) (h0 : 0 < l.length) (h1 : l.length ≤ 10000) : Ret (gamehallkeep1_some_api_Move N l n) fun m => m ∈ l := by
  obtain ⟨k, hk1, hk2⟩ := wheelP n l.length h0 h1
  unfold gamehallkeep1_some_api_Move gamehallkeep1_some_api_Move.e
  rw [bif_f (eqI_f (by omega)), bif_f (eqI_f (by omega)), hk1]
  dsimp only
  rw [chk_of (idx_ok hk2), gD_nat hk2]
  exact Ret.ret (List.getElem_mem hk2)
/-- the positions of a game, from its moves -/
def plc (r : RulesT) (ms : List MvT) : List PosT := ms.foldl (fun ps m => ps ++ [doI r (lstP ps) m]) [freshP r]
theorem plc_snoc (r : RulesT) (ms : List MvT) (m : MvT) : plc r (ms ++ [m]) = plc r ms ++ [doI r (lstP (plc r ms)) m] := by
  unfold plc
  rw [List.foldl_append]
  rfl
theorem take_snoc {α : Type} (l : List α) (t : Nat) (h : t < l.length) : l.take (t + 1) = l.take t ++ [l[t]] := by
  rw [List.take_add_one, List.getElem?_eq_getElem h]
  rfl
theorem plc_len (r : RulesT) (ms : List MvT) : (plc r ms).length = ms.length + 1 := by
  have : ∀ t, t ≤ ms.length → (plc r (ms.take t)).length = t + 1 := by
    intro t
    induction t with
    | zero => intro _; rfl
    | succ t ih =>
      intro h
      rw [take_snoc ms t (by omega), plc_snoc, List.length_append, ih (by omega)]
      rfl
  have := this ms.length (Nat.le_refl _)
  rwa [List.take_length] at this
theorem plc_take (r : RulesT) (ms : List MvT) (h : 0 < ms.length) : (plc r ms).take ((plc r ms).length - 1) = plc r (ms.take (ms.length - 1)) := by
  have e := take_snoc ms (ms.length - 1) (by omega)
  rw [show ms.length - 1 + 1 = ms.length by omega, List.take_length] at e
  have key : ∀ (a : List MvT) (m : MvT), (plc r (a ++ [m])).take ((plc r (a ++ [m])).length - 1) = plc r a := by
    intro a m
    rw [plc_snoc, List.length_append, List.length_singleton, Nat.add_sub_cancel, List.take_left']
    rfl
  have := key (ms.take (ms.length - 1)) ms[ms.length - 1]
  rwa [← e] at this
/-- each move was made in a game that was not over -/
def GoodP (r : RulesT) (ms : List MvT) : Prop := ∀ t (h : t < ms.length), gres r (plc r (ms.take t)) = 0 ∧ ms[t] ∈ cand r (lstP (plc r (ms.take t)))
theorem GoodP_nil {r : RulesT} : GoodP r [] := fun t h => absurd h (by simp)
theorem GoodP_take {r : RulesT} {ms : List MvT} (h : GoodP r ms) (k : Nat) : GoodP r (ms.take k) := by
  intro t ht
  have ht2 : t < ms.length ∧ t < k := by rw [List.length_take] at ht; omega
  have := h t ht2.1
  rw [List.take_take, Nat.min_eq_left (by omega), List.getElem_take]
  exact this
theorem GoodP_snoc {r : RulesT} {ms : List MvT} {m : MvT} (h : GoodP r ms) (h1 : gres r (plc r ms) = 0) (h2 : m ∈ cand r (lstP (plc r ms))) : GoodP r (ms ++ [m]) := by
  intro t ht
  rw [List.length_append, List.length_singleton] at ht
  by_cases e : t < ms.length
  · rw [List.take_append_of_le_length (by omega), List.getElem_append_left e]
    exact h t e
  · obtain rfl : t = ms.length := by omega
    rw [List.take_left']
    · rw [List.getElem_append_right (Nat.le_refl _)]
      simp only [Nat.sub_self, List.getElem_cons_zero]
      exact ⟨h1, h2⟩
    · rfl
section
variable {r : RulesT} (hr : ROk r) {ms : List MvT} (hg : GoodP r ms)
include hr hg
theorem plc_ok : ∀ p ∈ plc r ms, POk r p := by
  have : ∀ t, t ≤ ms.length → ∀ p ∈ plc r (ms.take t), POk r p := by
    intro t
    induction t with
    | zero =>
      intro _ p hp
      have hp : p ∈ [freshP r] := hp
      rw [List.mem_singleton.1 hp]
      exact fresh_ok hr
    | succ t ih =>
      intro h p hp
      have ih := ih (by omega)
      rw [take_snoc ms t (by omega), plc_snoc] at hp
      rcases List.mem_append.1 hp with hp | hp
      · exact ih p hp
      · rw [List.mem_singleton.1 hp]
        have hl := plc_len r (ms.take t)
        have hlast := ih _ (lstP_mem (l := plc r (ms.take t)) (by omega))
        exact do_ok hr hlast (cand_ok hr hlast (hg t (by omega)).2)
  have := this ms.length (Nat.le_refl _)
  rwa [List.take_length] at this
end
theorem newP {N : Nat} (hN : 1000 ≤ N) (r : RulesT) : (∃ e, e ≠ 0 ∧ plain_New N r = some (none, e)) ∨ (ROk r ∧ plain_New N r = some (some (r, (plc r [], [])), 0)) := by
  obtain ⟨e, he, he2⟩ := rcheck hN r
  unfold plain_New plain_New.e place_Begin place_Begin.e
  rw [he, Option.bind_some]
  by_cases h0 : e = 0
  · have hr := he2.1 h0
    refine Or.inr ⟨hr, ?_⟩
    rw [bif_f (by rw [eqI_t h0]; rfl), fresh_eq N hr hN, Option.bind_some, Option.bind_some, bif_f (by rfl), rcopy_eq hN hr, Option.bind_some, bothK_same]
    rfl
  · refine Or.inl ⟨e, h0, ?_⟩
    rw [bif_t (by rw [eqI_f h0]; rfl), Option.bind_some]
    dsimp only
    rw [bif_t (by rw [eqI_f h0]; rfl)]
/-! ### a game is played again -/
noncomputable def rn0 (N : Nat) (r : RulesT) (l : List MvT) (n : Nat) (j : Int) (g : PlayT) : Option (PosT × Int × Int) :=
  plain_Run.l0 N r l n j g.1.1 g.1.2.1 g.1.2.2.1 g.1.2.2.2.2.2.1 g.1.2.2.2.2.2.2.1 g.1.2.2.2.2.2.2.2.2.1 g.1.2.2.2.2.2.2.2.2.2.1 g.1.2.2.2.2.2.2.2.2.2.2 g.1.2.2.2.1 g.1.2.2.2.2.1 g.1.2.2.2.2.2.2.2.1 g.2.1 g.2.2
theorem rn0_s (N : Nat) (r : RulesT) (l : List MvT) (n : Nat) (j : Int) (g : PlayT) : rn0 N r l (n + 1) j g =
  bif (ltI j (l.length : Int)) then (chk ((leI 0 j) && (ltI j (l.length : Int))) <|
    (plain_Game_Play' N g (gD ((0 : Int), ((0 : Int), (0 : Int))) l j)).bind fun y4 =>
    bif (!(eqI y4.1 0)) then (some (([], (([], []), (0, 0))), (0, y4.1)))
    else rn0 N r l n (w64 (j + 1)) y4.2)
  else (plain_Game_Position N g).bind fun y5 =>
  (plain_Game_Result N g).bind fun y6 =>
  some (y5, (y6, 0)) := rfl
section
variable {r : RulesT} (hr : ROk r) {ms : List MvT} (hg : GoodP r ms) (hlen : ms.length ≤ 100)
include hr hg hlen
theorem run_l0 : ∀ (k j n : Nat), j + k = ms.length → k < n → rn0 300000000 r ms n (j : Int) (r, (plc r (ms.take j), ms.take j)) = some (lstP (plc r ms), (gres r (plc r ms), 0))
  | 0, j, n, hk, hn => by
    obtain ⟨n, rfl⟩ := nxt (n := n) (by omega)
    have hl := plc_len r ms
    have hok := plc_ok hr hg
    rw [rn0_s, bif_f (ltI_f (by omega)), List.take_of_length_le (by omega), pos_eq (by decide) hr _ ms (by omega) (by omega) hok, Option.bind_some, gres_eq (by decide) hr _ ms (by omega) (by omega) hok, Option.bind_some]
  | k + 1, j, n, hk, hn => by
    obtain ⟨n, rfl⟩ := nxt (n := n) (by omega)
    have hj : j < ms.length := by omega
    have hl := plc_len r (ms.take j)
    have hlt : (ms.take j).length = j := by rw [List.length_take]; omega
    have hok := plc_ok hr (GoodP_take hg j)
    have hgj := hg j hj
    rw [rn0_s, bif_t (ltI_t (by omega)), chk_of (idx_ok hj), gD_nat hj, play_good (by decide) hr _ _ (by omega) (by omega) hok hgj.1 hgj.2 (by omega), Option.bind_some, bif_f (by rfl), w64_id (by omega) (by omega), show ((j : Int) + 1) = ((j + 1 : Nat) : Int) by omega]
    dsimp only
    rw [← plc_snoc, ← take_snoc ms j hj]
    exact run_l0 k (j + 1) n (by omega) (by omega)
theorem run_eq : plain_Run 300000000 r ms = some (lstP (plc r ms), (gres r (plc r ms), 0)) := by
  unfold plain_Run plain_Run.e
  rcases newP (N := 300000000) (by decide) r with ⟨e, h0, he⟩ | ⟨_, h⟩
  · exfalso
    obtain ⟨e2, g1, g2⟩ := rcheck (N := 300000000) (by decide) r
    have h2 := g2.2 hr
    unfold plain_New plain_New.e place_Begin place_Begin.e at he
    rw [g1, Option.bind_some, bif_f (by rw [eqI_t h2]; rfl), fresh_eq _ hr (by decide), Option.bind_some, Option.bind_some, bif_f (by rfl), rcopy_eq (by decide) hr, Option.bind_some, bothK_same] at he
    simp at he
  · rw [h, Option.bind_some]
    simp only [oCase]
    rw [bif_f (by rfl)]
    exact run_l0 hr hg hlen ms.length 0 300000000 (by omega) (by omega)
end
abbrev threeP : RulesT := ((⟨#[84, 73, 67]⟩ : ByteArray), (3, (3, ([(65, (5, (0, [])))], ((List.replicate (9 : Int).toNat (0 : Int)), (false, (false, ([(0, (0, (3, false)))], (2, (0, 0))))))))))
theorem threeP_eq : gamehallkeep1_three 300000000 = some threeP := rfl
end Go.Proofs.Ytiacnffpgdikoaa.Am
