/- Plain: games that are played by the rules alone. -/
import Derived.Test.YtiacnffpgdikoaaLawDoFq
import Derived.Test.YtiacnffpgdikoaaLawEqualq
import Derived.Test.YtiacnffpgdikoaaLawRCopyq
import Derived.Test.YtiacnffpgdikoaaLawEndsq
import Derived.Test.YtiacnffpgdikoaaLawRes0q
import Derived.Test.YtiacnffpgdikoaaLawGameq
set_option linter.unusedVariables false
set_option linter.unusedSimpArgs false
set_option linter.unusedSectionVars false
namespace Go.Proofs.Ytiacnffpgdikoaa.Am
open Go

abbrev PlayT := RulesT × (List PosT × List MvT)
abbrev handsR (r : RulesT) (j : Nat) : List Int := ((r.2.2.2.1).drop j).map fun x => x.2.1
abbrev freshP (r : RulesT) : PosT := (r.2.2.2.2.1, ((handsR r 0, handsR r 0), (0, 0)))
section
variable (N : Nat) {r : RulesT} (hr : ROk r)
include hr
theorem fr_l1a (st : List Int) (B : Nat) (E : Option PosT) : ∀ (k j n : Nat) (m4 : List Int), m4.length ≤ j → j + k = (r.2.2.2.1).length → B + k < n → (∀ n, B ≤ n → place_Fresh.l0 N r n 1 st (m4 ++ handsR r j) [] = E) → place_Fresh.l1 N r n 0 0 ((r.2.2.2.1).length : Int) (j : Int) st m4 [] = E
  | 0, j, n, m4, hm, hk, hn, hE => by
    obtain ⟨n, rfl⟩ := nxt (n := n) (by omega)
    rw [place_Fresh.l1_s, place_Fresh.s1, bif_f (ltI_f (by omega))]
    have := hE n (by omega)
    rw [handsR, List.drop_of_length_le (by omega)] at this
    rw [show w64 ((0 : Int) + 1) = 1 by decide]
    simpa using this
  | k + 1, j, n, m4, hm, hk, hn, hE => by
    obtain ⟨n, rfl⟩ := nxt (n := n) (by omega)
    have h6 := hr.ps.le
    have h6 : (r.2.2.2.1).length ≤ 6 := h6
    have hj : j < (r.2.2.2.1).length := by omega
    rw [place_Fresh.l1_s, place_Fresh.s1, bif_t (ltI_t (by omega)), chk_of (idx_ok hj), bif_t (by rfl)]
    dsimp only
    rw [chk_cap (by simp only [List.length_singleton]; omega), w64_id (by omega) (by omega), show ((j : Int) + 1) = ((j + 1 : Nat) : Int) by omega]
    refine fr_l1a st B E k (j + 1) n _ (by simp; omega) (by omega) (by omega) fun n hn => ?_
    have := hE n hn
    rw [handsR, List.drop_eq_getElem_cons hj] at this
    rw [gD_nat (l := r.2.2.2.1) hj, List.append_assoc]
    exact this
theorem fr_l1b (st m4 : List Int) (B : Nat) (E : Option PosT) : ∀ (k j n : Nat) (m5 : List Int), m5.length ≤ j → j + k = (r.2.2.2.1).length → B + k < n → (∀ n, B ≤ n → place_Fresh.l0 N r n 2 st m4 (m5 ++ handsR r j) = E) → place_Fresh.l1 N r n 1 1 ((r.2.2.2.1).length : Int) (j : Int) st m4 m5 = E
  | 0, j, n, m5, hm, hk, hn, hE => by
    obtain ⟨n, rfl⟩ := nxt (n := n) (by omega)
    rw [place_Fresh.l1_s, place_Fresh.s1, bif_f (ltI_f (by omega))]
    have := hE n (by omega)
    rw [handsR, List.drop_of_length_le (by omega)] at this
    rw [show w64 ((1 : Int) + 1) = 2 by decide]
    simpa using this
  | k + 1, j, n, m5, hm, hk, hn, hE => by
    obtain ⟨n, rfl⟩ := nxt (n := n) (by omega)
    have h6 := hr.ps.le
    have h6 : (r.2.2.2.1).length ≤ 6 := h6
    have hj : j < (r.2.2.2.1).length := by omega
    rw [place_Fresh.l1_s, place_Fresh.s1, bif_t (ltI_t (by omega)), chk_of (idx_ok hj), bif_f (by rfl), bif_t (by rfl)]
    dsimp only
    rw [chk_cap (by simp only [List.length_singleton]; omega), w64_id (by omega) (by omega), show ((j : Int) + 1) = ((j + 1 : Nat) : Int) by omega]
    refine fr_l1b st m4 B E k (j + 1) n _ (by simp; omega) (by omega) (by omega) fun n hn => ?_
    have := hE n hn
    rw [handsR, List.drop_eq_getElem_cons hj] at this
    rw [gD_nat (l := r.2.2.2.1) hj, List.append_assoc]
    exact this
theorem fresh_eq (hN : 1000 ≤ N) : place_Fresh N r = some (freshP r) := by
  have h6 := hr.ps.le
  have h6 : (r.2.2.2.1).length ≤ 6 := h6
  have ha := area_le' hr.b
  have hns := hr.ns
  unfold place_Fresh place_Fresh.e
  rw [clone_eq (by omega), Option.bind_some]
  obtain ⟨N', hN'⟩ := nxt (n := N) (by omega)
  have go2 : ∀ n, 1 ≤ n → place_Fresh.l0 N r n 2 r.2.2.2.2.1 (handsR r 0) ([] ++ handsR r 0) = some (freshP r) := fun n hn => by
    obtain ⟨n, rfl⟩ := nxt (n := n) (by omega)
    rw [place_Fresh.l0_s, place_Fresh.s0, bif_f (by rfl)]
    rfl
  have go1 : ∀ n, 10 ≤ n → place_Fresh.l0 N r n 1 r.2.2.2.2.1 ([] ++ handsR r 0) [] = some (freshP r) := fun n hn => by
    obtain ⟨n, rfl⟩ := nxt (n := n) (by omega)
    rw [place_Fresh.l0_s, place_Fresh.s0, bif_t (by rfl)]
    exact fr_l1b N hr r.2.2.2.2.1 _ 1 _ (r.2.2.2.1).length 0 n [] (by simp) (by omega) (by omega) go2
  have go0 : ∀ n, 20 ≤ n → place_Fresh.l0 N r n 0 r.2.2.2.2.1 [] [] = some (freshP r) := fun n hn => by
    obtain ⟨n, rfl⟩ := nxt (n := n) (by omega)
    rw [place_Fresh.l0_s, place_Fresh.s0, bif_t (by rfl)]
    exact fr_l1a N hr r.2.2.2.2.1 10 _ (r.2.2.2.1).length 0 n [] (by simp) (by omega) (by omega) go1
  exact go0 N (by omega)
theorem fresh_ok : POk r (freshP r) := by
  have hh : handOk (handsR r 0) := by
    intro c hc
    rw [handsR, List.drop_zero] at hc
    obtain ⟨x, hx, rfl⟩ := List.mem_map.1 hc
    obtain ⟨i, hi, rfl⟩ := List.mem_iff_getElem.1 hx
    have := (hr.ps.each i hi).1.2.1
    rw [show gD zP r.2.2.2.1 (i : Int) = (r.2.2.2.1)[i] from gD_nat hi] at this
    omega
  have hl : (handsR r 0).length = r.2.2.2.1.length := by rw [handsR, List.drop_zero, List.length_map]
  exact ⟨hr.ns, hl, hl, hr.cells, hh, hh, ⟨Or.inl rfl, Int.le_refl _, by show (0 : Int) ≤ 200; omega⟩⟩
end
/-- the last position -/
def lstP (l : List PosT) : PosT := l.getD (l.length - 1) noP
theorem lstP_snoc (l : List PosT) (x : PosT) : lstP (l ++ [x]) = x := by
  unfold lstP
  rw [List.getD_eq_getElem?_getD, List.length_append]
  simp
theorem lstP_mem {l : List PosT} (h : 0 < l.length) : lstP l ∈ l := by
  unfold lstP
  rw [List.getD_eq_getElem?_getD, List.getElem?_eq_getElem (by omega)]
  exact List.getElem_mem _
/-- the same position, but for what is counted -/
def sameB (a b : PosT) : Bool := decide (a.1 = b.1 ∧ a.2.1 = b.2.1 ∧ a.2.2.1 = b.2.2.1)
theorem same_eqP {N : Nat} (hN : 1000 ≤ N) {r : RulesT} (hr : ROk r) {a b : PosT} (ha : POk r a) (hb : POk r b) : place_Same N a b = some (sameB a b) := by
  have la := len_le hr ha
  have lb := len_le hr hb
  have a0 := ha.h0
  have a1 := ha.h1
  have b0 := hb.h0
  have b1 := hb.h1
  have h6 : r.2.2.2.1.length ≤ 6 := hr.ps.le
  obtain ⟨c, ⟨⟨h0, h1⟩, ⟨t, q⟩⟩⟩ := a
  obtain ⟨c', ⟨⟨h0', h1'⟩, ⟨t', q'⟩⟩⟩ := b
  dsimp only at *
  unfold place_Same place_Same.e sameB
  dsimp only
  rw [equal_eq (by omega) (by omega) (by omega), equal_eq (by omega) (by omega) (by omega), equal_eq (by omega) (by omega) (by omega)]
  by_cases e1 : t = t' <;> by_cases e2 : c = c' <;> by_cases e3 : h0 = h0' <;> by_cases e4 : h1 = h1' <;> simp [e1, e2, e3, e4, eqI]
/-- how often the last position has occurred -/
def cntP (l : List PosT) : Nat := l.countP fun x => sameB x (lstP l)
/-- the result of a game -/
def gres (r : RulesT) (l : List PosT) : Int := if resV r (lstP l) = 0 ∧ 0 < r.2.2.2.2.2.2.2.2.2.2 ∧ r.2.2.2.2.2.2.2.2.2.2 ≤ (cntP l : Int) then 3 else resV r (lstP l)
section
variable {N : Nat} (hN : 200000000 ≤ N) {r : RulesT} (hr : ROk r) (ps : List PosT) (ms : List MvT) (h0 : 0 < ps.length) (h1 : ps.length ≤ 100000) (hps : ∀ p ∈ ps, POk r p)
include hN hr h0 h1 hps
theorem last_idx : w64 ((ps.length : Int) - 1) = ((ps.length - 1 : Nat) : Int) ∧ ps.length - 1 < ps.length ∧ gD noP ps ((ps.length - 1 : Nat) : Int) = lstP ps ∧ POk r (lstP ps) := by
  refine ⟨by rw [w64_id (by omega) (by omega)]; omega, by omega, ?_, hps _ (lstP_mem h0)⟩
  rw [gD_nat']
  rfl
theorem pos_eq : plain_Game_Position N (r, (ps, ms)) = some (lstP ps) := by
  obtain ⟨e1, e2, e3, e4⟩ := last_idx hN hr ps h0 h1 hps
  unfold plain_Game_Position plain_Game_Position.e
  dsimp only
  rw [e1, chk_of (idx_ok e2)]
  show (place_Copy N (gD noP ps ((ps.length - 1 : Nat) : Int))).bind _ = _
  rw [e3, copy_eq hr e4, Option.bind_some]
theorem count_l0 : ∀ (k j n : Nat) (c : Nat), j + k = ps.length → k < n → c ≤ j → plain_Game_Count.l0 N (r, (ps, ms)) n (c : Int) (j : Int) = some ((c + (ps.drop j).countP (fun x => sameB x (lstP ps)) : Nat) : Int)
  | 0, j, n, c, hk, hn, hc => by
    obtain ⟨n, rfl⟩ := nxt (n := n) (by omega)
    rw [plain_Game_Count.l0_s, plain_Game_Count.s0, bif_f (ltI_f (by show (ps.length : Int) ≤ _; omega)), List.drop_of_length_le (by omega)]
    rfl
  | k + 1, j, n, c, hk, hn, hc => by
    obtain ⟨n, rfl⟩ := nxt (n := n) (by omega)
    obtain ⟨e1, e2, e3, e4⟩ := last_idx hN hr ps h0 h1 hps
    have hj : j < ps.length := by omega
    have hpj := hps _ (List.getElem_mem hj)
    have ej : gD noP ps (j : Int) = ps[j] := gD_nat hj
    have ih := fun c (hc : c ≤ j + 1) => count_l0 k (j + 1) n c (by omega) (by omega) hc
    rw [plain_Game_Count.l0_s, plain_Game_Count.s0, bif_t (ltI_t (by show (j : Int) < (ps.length : Int); omega)), bothK_same]
    dsimp only
    rw [chk_of (idx_ok hj), e1, chk_of (idx_ok e2)]
    show (place_Same N (gD noP ps (j : Int)) (gD noP ps ((ps.length - 1 : Nat) : Int))).bind _ = _
    rw [e3, ej, same_eqP (by omega) hr hpj e4, Option.bind_some, List.drop_eq_getElem_cons hj, List.countP_cons, w64_id (x := (j : Int) + 1) (by omega) (by omega), show ((j : Int) + 1) = ((j + 1 : Nat) : Int) by omega]
    cases hsm : sameB ps[j] (lstP ps) with
    | true =>
      rw [bif_t rfl, w64_id (by omega) (by omega), show ((c : Int) + 1) = ((c + 1 : Nat) : Int) by omega, ih (c + 1) (by omega)]
      simp only [if_true]
      congr 2
      omega
    | false =>
      rw [bif_f rfl, ih c (by omega)]
      simp
theorem count_eq : plain_Game_Count N (r, (ps, ms)) = some (cntP ps : Int) := by
  unfold plain_Game_Count plain_Game_Count.e
  have := count_l0 hN hr ps ms h0 h1 hps ps.length 0 N 0 (by omega) (by omega) (by omega)
  rw [List.drop_zero, Nat.zero_add] at this
  exact this
theorem gres_eq : plain_Game_Result N (r, (ps, ms)) = some (gres r ps) := by
  obtain ⟨e1, e2, e3, e4⟩ := last_idx hN hr ps h0 h1 hps
  obtain ⟨g, hg, hgg⟩ := gen_ret hr e4 hN
  have hres : ends_Result N r (lstP ps) = some (resV r (lstP ps)) := by rw [result_eq hr e4 (by omega) hg, any_eq hgg]; rfl
  unfold plain_Game_Result plain_Game_Result.e gres
  dsimp only
  rw [bothK_same, e1, chk_of (idx_ok e2)]
  show (ends_Result N r (gD noP ps ((ps.length - 1 : Nat) : Int))).bind _ = _
  rw [e3, hres, Option.bind_some, count_eq hN hr ps ms h0 h1 hps]
  by_cases c1 : resV r (lstP ps) = 0
  · rw [bif_t (eqI_t c1)]
    by_cases c2 : 0 < r.2.2.2.2.2.2.2.2.2.2
    · rw [bif_t (ltI_t c2), Option.bind_some]
      by_cases c3 : r.2.2.2.2.2.2.2.2.2.2 ≤ (cntP ps : Int)
      · rw [bif_t (leI_t c3), if_pos ⟨c1, c2, c3⟩]
      · rw [bif_f (leI_f (by omega)), if_neg (fun h => c3 h.2.2)]
    · rw [bif_f (ltI_f (by omega)), if_neg (fun h => c2 h.2.1)]
  · rw [bif_f (eqI_f c1), if_neg (fun h => c1 h.1)]
/-- a move in a game that is over -/
theorem play_over (m : MvT) (h : gres r ps ≠ 0) : plain_Game_Play' N (r, (ps, ms)) m = some (14, (r, (ps, ms))) := by
  unfold plain_Game_Play' plain_Game_Play'.e
  rw [gres_eq hN hr ps ms h0 h1 hps, Option.bind_some, bif_t (by rw [eqI_f h]; rfl)]
theorem play_good {m : MvT} (h : gres r ps = 0) (hm : m ∈ cand r (lstP ps)) (hms : ms.length < 400) : plain_Game_Play' N (r, (ps, ms)) m = some (0, (r, (ps ++ [doI r (lstP ps) m], ms ++ [m]))) := by
  obtain ⟨e1, e2, e3, e4⟩ := last_idx hN hr ps h0 h1 hps
  obtain ⟨g, hg, hgg⟩ := gen_ret hr e4 hN
  have haf : moves_After N r (gD noP ps ((ps.length - 1 : Nat) : Int)) m = some (doI r (lstP ps) m, 0) := by rw [e3]; exact after_good (by omega) hr e4 hg hgg ((hgg.mem m).2 hm)
  unfold plain_Game_Play' plain_Game_Play'.e
  rw [gres_eq hN hr ps ms h0 h1 hps, Option.bind_some, bif_f (by rw [eqI_t h]; rfl)]
  simp only [bothK_same]
  rw [e1, chk_of (idx_ok e2)]
  show (moves_After N r (gD noP ps ((ps.length - 1 : Nat) : Int)) m).bind _ = _
  rw [haf, Option.bind_some, bif_f (by rfl), bif_f (eqI_f (by omega)), chk_cap (by simp only [List.length_singleton]; omega), chk_cap (by simp only [List.length_singleton]; omega)]
theorem back_empty : plain_Game_Back' N (r, (ps, ([] : List MvT))) = some (8, (r, (ps, []))) := by
  unfold plain_Game_Back' plain_Game_Back'.e
  rw [bif_t (by rfl)]
theorem back_good (hms : 0 < ms.length) (hms2 : ms.length ≤ 1000) : plain_Game_Back' N (r, (ps, ms)) = some (0, (r, (ps.take (ps.length - 1), ms.take (ms.length - 1)))) := by
  unfold plain_Game_Back' plain_Game_Back'.e
  dsimp only
  rw [bif_f (eqI_f (by omega)), w64_id (x := (ps.length : Int) - 1) (by omega) (by omega), w64_id (x := (ms.length : Int) - 1) (by omega) (by omega), show (ps.length : Int) - 1 = ((ps.length - 1 : Nat) : Int) by omega, show (ms.length : Int) - 1 = ((ms.length - 1 : Nat) : Int) by omega, bothK_same]
  rw [chk_idx' (x := some _) (i := ((ms.length - 1 : Nat) : Int)) (by omega) (by omega), chk_idx' (by omega) (by omega), chk_idx' (by omega) (by omega), bothK_same, Int.toNat_natCast, Int.toNat_natCast]
end
end Go.Proofs.Ytiacnffpgdikoaa.Am
