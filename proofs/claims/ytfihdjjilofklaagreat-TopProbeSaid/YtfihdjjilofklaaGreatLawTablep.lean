/- Plain: games that are played by the rules alone. -/
import Derived.Test.YtfihdjjilofklaaGreatLawDoFp
import Derived.Test.YtfihdjjilofklaaGreatLawRCopyp
set_option linter.unusedVariables false
set_option linter.unusedSimpArgs false
set_option linter.unusedSectionVars false
namespace Go.Proofs.YtfihdjjilofklaaGreat.Am
open Go
abbrev PlayT := RulesT × (List PosT × List MvT)
abbrev handsR (r : RulesT) (j : Nat) : List Int := ((r.2.2.2.1).drop j).map fun x => x.2.1
abbrev freshP (r : RulesT) : PosT := (r.2.2.2.2.1, ((handsR r 0, handsR r 0), (0, 0)))
section
variable (N : Nat) {r : RulesT} (hr : ROk r)
include hr
theorem fr_l1a (st : List Int) (B : Nat) (E : Option PosT) : ∀ (k j n : Nat) (m4 : List Int), m4.length ≤ j → j + k = (r.2.2.2.1).length → B + k < n → (∀ n, B ≤ n → Q31.l0 N r n 1 st (m4 ++ handsR r j) [] = E) → Q31.l1 N r n 0 0 ((r.2.2.2.1).length : Int) (j : Int) st m4 [] = E
 | 0, j, n, m4, hm, hk, hn, hE => by
  obtain ⟨n, rfl⟩ := nxt (n := n) (by omega)
  rw [Q31.l1_s, Q31.s1, bif_f (ltI_f (by omega))]
  have := hE n (by omega)
  rw [handsR, List.drop_of_length_le (by omega)] at this
  rw [show w64 ((0 : Int) + 1) = 1 by decide]
  simpa using this
 | k + 1, j, n, m4, hm, hk, hn, hE => by
  obtain ⟨n, rfl⟩ := nxt (n := n) (by omega)
  have h6 := hr.ps.le
  have h6 : (r.2.2.2.1).length ≤ 6 := h6
  have hj : j < (r.2.2.2.1).length := by omega
  rw [Q31.l1_s, Q31.s1, bif_t (ltI_t (by omega)), chk_of (idx_ok hj), bif_t (by rfl)]
  dsimp only
  rw [chk_cap (by simp only [List.length_singleton]; omega), w64_id (by omega) (by omega), show ((j : Int) + 1) = ((j + 1 : Nat) : Int) by omega]
  refine fr_l1a st B E k (j + 1) n _ (by simp; omega) (by omega) (by omega) fun n hn => ?_
  have := hE n hn
  rw [handsR, List.drop_eq_getElem_cons hj] at this
  rw [gD_nat (l := r.2.2.2.1) hj, List.append_assoc]
  exact this
theorem fr_l1b (st m4 : List Int) (B : Nat) (E : Option PosT) : ∀ (k j n : Nat) (m5 : List Int), m5.length ≤ j → j + k = (r.2.2.2.1).length → B + k < n → (∀ n, B ≤ n → Q31.l0 N r n 2 st m4 (m5 ++ handsR r j) = E) → Q31.l1 N r n 1 1 ((r.2.2.2.1).length : Int) (j : Int) st m4 m5 = E
 | 0, j, n, m5, hm, hk, hn, hE => by
  obtain ⟨n, rfl⟩ := nxt (n := n) (by omega)
  rw [Q31.l1_s, Q31.s1, bif_f (ltI_f (by omega))]
  have := hE n (by omega)
  rw [handsR, List.drop_of_length_le (by omega)] at this
  rw [show w64 ((1 : Int) + 1) = 2 by decide]
  simpa using this
 | k + 1, j, n, m5, hm, hk, hn, hE => by
  obtain ⟨n, rfl⟩ := nxt (n := n) (by omega)
  have h6 := hr.ps.le
  have h6 : (r.2.2.2.1).length ≤ 6 := h6
  have hj : j < (r.2.2.2.1).length := by omega
  rw [Q31.l1_s, Q31.s1, bif_t (ltI_t (by omega)), chk_of (idx_ok hj), bif_f (by rfl), bif_t (by rfl)]
  dsimp only
  rw [chk_cap (by simp only [List.length_singleton]; omega), w64_id (by omega) (by omega), show ((j : Int) + 1) = ((j + 1 : Nat) : Int) by omega]
  refine fr_l1b st m4 B E k (j + 1) n _ (by simp; omega) (by omega) (by omega) fun n hn => ?_
  have := hE n hn
  rw [handsR, List.drop_eq_getElem_cons hj] at this
  rw [gD_nat (l := r.2.2.2.1) hj, List.append_assoc]
  exact this
theorem fresh_eq (hN : 1000 ≤ N) : Q31 N r = some (freshP r) := by
 have h6 := hr.ps.le
 have h6 : (r.2.2.2.1).length ≤ 6 := h6
 have ha := area_le' hr.b
 have hns := hr.ns
 unfold Q31 Q31.e
 rw [clone_eq (by omega), ob]
 obtain ⟨N', hN'⟩ := nxt (n := N) (by omega)
 have go2 : ∀ n, 1 ≤ n → Q31.l0 N r n 2 r.2.2.2.2.1 (handsR r 0) ([] ++ handsR r 0) = some (freshP r) := fun n hn => by
  obtain ⟨n, rfl⟩ := nxt (n := n) (by omega)
  rw [Q31.l0_s, Q31.s0, bif_f (by rfl)]
  rfl
 have go1 : ∀ n, 10 ≤ n → Q31.l0 N r n 1 r.2.2.2.2.1 ([] ++ handsR r 0) [] = some (freshP r) := fun n hn => by
  obtain ⟨n, rfl⟩ := nxt (n := n) (by omega)
  rw [Q31.l0_s, Q31.s0, bif_t (by rfl)]
  exact fr_l1b N hr r.2.2.2.2.1 _ 1 _ (r.2.2.2.1).length 0 n [] (by simp) (by omega) (by omega) go2
 have go0 : ∀ n, 20 ≤ n → Q31.l0 N r n 0 r.2.2.2.2.1 [] [] = some (freshP r) := fun n hn => by
  obtain ⟨n, rfl⟩ := nxt (n := n) (by omega)
  rw [Q31.l0_s, Q31.s0, bif_t (by rfl)]
  exact fr_l1a N hr r.2.2.2.2.1 10 _ (r.2.2.2.1).length 0 n [] (by simp) (by omega) (by omega) go1
 exact go0 N (by omega)
theorem fresh_ok : POk r (freshP r) := by
 have hh : handOk (handsR r 0) := by
  intro c hc
  rw [handsR, List.drop_zero] at hc
  obtain ⟨x, hx, rfl⟩ := List.mem_map.1 hc
  obtain ⟨i, hi, rfl⟩ := List.mem_iff_getElem.1 hx
  have := (hr.ps.each i hi).1.2.1
  rw [show gD zP r.2.2.2.1 (i : Int) = (r.2.2.2.1)[i] from gD_nat hi] at this
  omega
 have hl : (handsR r 0).length = r.2.2.2.1.length := by rw [handsR, List.drop_zero, List.length_map]
 exact ⟨hr.ns, hl, hl, hr.cells, hh, hh, ⟨Or.inl rfl, Int.le_refl _, by show (0 : Int) ≤ 200; omega⟩⟩
end
def lstP (l : List PosT) : PosT := l.getD (l.length - 1) noP
theorem lstP_snoc (l : List PosT) (x : PosT) : lstP (l ++ [x]) = x := by
 unfold lstP
 rw [List.getD_eq_getElem?_getD, List.length_append]
 simp
theorem lstP_mem {l : List PosT} (h : 0 < l.length) : lstP l ∈ l := by
 unfold lstP
 rw [List.getD_eq_getElem?_getD, List.getElem?_eq_getElem (by omega)]
 exact List.getElem_mem _
def sameB (a b : PosT) : Bool := decide (a.1 = b.1 ∧ a.2.1 = b.2.1 ∧ a.2.2.1 = b.2.2.1)
theorem same_eqP {N : Nat} (hN : 1000 ≤ N) {r : RulesT} (hr : ROk r) {a b : PosT} (ha : POk r a) (hb : POk r b) : Q74 N a b = some (sameB a b) := by
 have la := len_le hr ha
 have lb := len_le hr hb
 have a0 := ha.h0
 have a1 := ha.h1
 have b0 := hb.h0
 have b1 := hb.h1
 have h6 : r.2.2.2.1.length ≤ 6 := hr.ps.le
 obtain ⟨c, ⟨⟨h0, h1⟩, ⟨t, q⟩⟩⟩ := a
 obtain ⟨c', ⟨⟨h0', h1'⟩, ⟨t', q'⟩⟩⟩ := b
 dsimp only at *
 unfold Q74 Q74.e sameB
 dsimp only
 rw [equal_eq (by omega) (by omega) (by omega), equal_eq (by omega) (by omega) (by omega), equal_eq (by omega) (by omega) (by omega)]
 by_cases e1 : t = t' <;> by_cases e2 : c = c' <;> by_cases e3 : h0 = h0' <;> by_cases e4 : h1 = h1' <;> simp [e1, e2, e3, e4, eqI]
def cntP (l : List PosT) : Nat := l.countP fun x => sameB x (lstP l)
def gres (r : RulesT) (l : List PosT) : Int := if resV r (lstP l) = 0 ∧ 0 < r.2.2.2.2.2.2.2.2.2.2 ∧ r.2.2.2.2.2.2.2.2.2.2 ≤ (cntP l : Int) then 3 else resV r (lstP l)
section
variable {N : Nat} (hN : 200000000 ≤ N) {r : RulesT} (hr : ROk r) (ps : List PosT) (ms : List MvT) (h0 : 0 < ps.length) (h1 : ps.length ≤ 100000) (hps : ∀ p ∈ ps, POk r p)
include hN hr h0 h1 hps
theorem last_idx : w64 ((ps.length : Int) - 1) = ((ps.length - 1 : Nat) : Int) ∧ ps.length - 1 < ps.length ∧ gD noP ps ((ps.length - 1 : Nat) : Int) = lstP ps ∧ POk r (lstP ps) := by
 refine ⟨by rw [w64_id (by omega) (by omega)]; omega, by omega, ?_, hps _ (lstP_mem h0)⟩
 rw [gD_nat']
 rfl
theorem pos_eq : Q27 N (r, (ps, ms)) = some (lstP ps) := by
 obtain ⟨e1, e2, e3, e4⟩ := last_idx hN hr ps h0 h1 hps
 unfold Q27 Q27.e
 dsimp only
 rw [e1, chk_of (idx_ok e2)]
 show (Q18 N (gD noP ps ((ps.length - 1 : Nat) : Int))).bind _ = _
 rw [e3, copy_eq hr e4, ob]
theorem count_l0 : ∀ (k j n : Nat) (c : Nat), j + k = ps.length → k < n → c ≤ j → Q49.l0 N (r, (ps, ms)) n (c : Int) (j : Int) = some ((c + (ps.drop j).countP (fun x => sameB x (lstP ps)) : Nat) : Int)
 | 0, j, n, c, hk, hn, hc => by
  obtain ⟨n, rfl⟩ := nxt (n := n) (by omega)
  rw [Q49.l0_s, Q49.s0, bif_f (ltI_f (by show (ps.length : Int) ≤ _; omega)), List.drop_of_length_le (by omega)]
  rfl
 | k + 1, j, n, c, hk, hn, hc => by
  obtain ⟨n, rfl⟩ := nxt (n := n) (by omega)
  obtain ⟨e1, e2, e3, e4⟩ := last_idx hN hr ps h0 h1 hps
  have hj : j < ps.length := by omega
  have hpj := hps _ (List.getElem_mem hj)
  have ej : gD noP ps (j : Int) = ps[j] := gD_nat hj
  have ih := fun c (hc : c ≤ j + 1) => count_l0 k (j + 1) n c (by omega) (by omega) hc
  rw [Q49.l0_s, Q49.s0, bif_t (ltI_t (by show (j : Int) < (ps.length : Int); omega)), bothK_same]
  dsimp only
  rw [chk_of (idx_ok hj), e1, chk_of (idx_ok e2)]
  show (Q74 N (gD noP ps (j : Int)) (gD noP ps ((ps.length - 1 : Nat) : Int))).bind _ = _
  rw [e3, ej, same_eqP (by omega) hr hpj e4, ob, List.drop_eq_getElem_cons hj, List.countP_cons, w64_id (x := (j : Int) + 1) (by omega) (by omega), show ((j : Int) + 1) = ((j + 1 : Nat) : Int) by omega]
  cases hsm : sameB ps[j] (lstP ps) with
  | true =>
   rw [bif_t rfl, w64_id (by omega) (by omega), show ((c : Int) + 1) = ((c + 1 : Nat) : Int) by omega, ih (c + 1) (by omega)]
   simp only [if_true]
   congr 2
   omega
  | false =>
   rw [bif_f rfl, ih c (by omega)]
   simp
theorem count_eq : Q49 N (r, (ps, ms)) = some (cntP ps : Int) := by
 unfold Q49 Q49.e
 have := count_l0 hN hr ps ms h0 h1 hps ps.length 0 N 0 (by omega) (by omega) (by omega)
 rw [List.drop_zero, Nat.zero_add] at this
 exact this
theorem gres_eq : Q28 N (r, (ps, ms)) = some (gres r ps) := by
 obtain ⟨e1, e2, e3, e4⟩ := last_idx hN hr ps h0 h1 hps
 obtain ⟨g, hg, hgg⟩ := gen_ret hr e4 hN
 have hres : Q32 N r (lstP ps) = some (resV r (lstP ps)) := by rw [result_eq hr e4 (by omega) hg, any_eq hgg]; rfl
 unfold Q28 Q28.e gres
 dsimp only
 rw [bothK_same, e1, chk_of (idx_ok e2)]
 show (Q32 N r (gD noP ps ((ps.length - 1 : Nat) : Int))).bind _ = _
 rw [e3, hres, ob, count_eq hN hr ps ms h0 h1 hps]
 by_cases c1 : resV r (lstP ps) = 0
 ·rw [bif_t (eqI_t c1)]
  by_cases c2 : 0 < r.2.2.2.2.2.2.2.2.2.2
  ·rw [bif_t (ltI_t c2), ob]
   by_cases c3 : r.2.2.2.2.2.2.2.2.2.2 ≤ (cntP ps : Int)
   ·rw [bif_t (leI_t c3), if_pos ⟨c1, c2, c3⟩]
   ·rw [bif_f (leI_f (by omega)), if_neg (fun h => c3 h.2.2)]
  ·rw [bif_f (ltI_f (by omega)), if_neg (fun h => c2 h.2.1)]
 ·rw [bif_f (eqI_f c1), if_neg (fun h => c1 h.1)]
theorem play_good {m : MvT} (h : gres r ps = 0) (hm : m ∈ cand r (lstP ps)) (hms : ms.length < 400) : Q26 N (r, (ps, ms)) m = some (0, (r, (ps ++ [doI r (lstP ps) m], ms ++ [m]))) := by
 obtain ⟨e1, e2, e3, e4⟩ := last_idx hN hr ps h0 h1 hps
 obtain ⟨g, hg, hgg⟩ := gen_ret hr e4 hN
 have haf : Q47 N r (gD noP ps ((ps.length - 1 : Nat) : Int)) m = some (doI r (lstP ps) m, 0) := by rw [e3]; exact after_good (by omega) hr e4 hg hgg ((hgg.mem m).2 hm)
 unfold Q26 Q26.e
 rw [gres_eq hN hr ps ms h0 h1 hps, ob, bif_f (by rw [eqI_t h]; rfl)]
 simp only [bothK_same]
 rw [e1, chk_of (idx_ok e2)]
 show (Q47 N r (gD noP ps ((ps.length - 1 : Nat) : Int)) m).bind _ = _
 rw [haf, ob, bif_f (by rfl), bif_f (eqI_f (by omega)), chk_cap (by simp only [List.length_singleton]; omega), chk_cap (by simp only [List.length_singleton]; omega)]
end
end Go.Proofs.YtfihdjjilofklaaGreat.Am
set_option linter.unusedVariables false
set_option linter.unusedSimpArgs false
set_option linter.unusedSectionVars false
namespace Go.Proofs.YtfihdjjilofklaaGreat.Am
open Go
def plc (r : RulesT) (ms : List MvT) : List PosT := ms.foldl (fun ps m => ps ++ [doI r (lstP ps) m]) [freshP r]
theorem plc_snoc (r : RulesT) (ms : List MvT) (m : MvT) : plc r (ms ++ [m]) = plc r ms ++ [doI r (lstP (plc r ms)) m] := by
 unfold plc
 rw [List.foldl_append]
 rfl
theorem take_snoc {α : Type} (l : List α) (t : Nat) (h : t < l.length) : l.take (t + 1) = l.take t ++ [l[t]] := by
 rw [List.take_add_one, List.getElem?_eq_getElem h]
 rfl
theorem plc_len (r : RulesT) (ms : List MvT) : (plc r ms).length = ms.length + 1 := by
 have : ∀ t, t ≤ ms.length → (plc r (ms.take t)).length = t + 1 := by
  intro t
  induction t with
  | zero => intro _; rfl
  | succ t ih =>
   intro h
   rw [take_snoc ms t (by omega), plc_snoc, List.length_append, ih (by omega)]
   rfl
 have := this ms.length (Nat.le_refl _)
 rwa [List.take_length] at this
def GoodP (r : RulesT) (ms : List MvT) : Prop := ∀ t (h : t < ms.length), gres r (plc r (ms.take t)) = 0 ∧ ms[t] ∈ cand r (lstP (plc r (ms.take t)))
theorem GoodP_nil {r : RulesT} : GoodP r [] := fun t h => absurd h (by simp)
theorem GoodP_take {r : RulesT} {ms : List MvT} (h : GoodP r ms) (k : Nat) : GoodP r (ms.take k) := by
 intro t ht
 have ht2 : t < ms.length ∧ t < k := by rw [List.length_take] at ht; omega
 have := h t ht2.1
 rw [List.take_take, Nat.min_eq_left (by omega), List.getElem_take]
 exact this
theorem GoodP_snoc {r : RulesT} {ms : List MvT} {m : MvT} (h : GoodP r ms) (h1 : gres r (plc r ms) = 0) (h2 : m ∈ cand r (lstP (plc r ms))) : GoodP r (ms ++ [m]) := by
 intro t ht
 rw [List.length_append, List.length_singleton] at ht
 by_cases e : t < ms.length
 ·rw [List.take_append_of_le_length (by omega), List.getElem_append_left e]
  exact h t e
 ·obtain rfl : t = ms.length := by omega
  rw [List.take_left']
  ·rw [List.getElem_append_right (Nat.le_refl _)]
   simp only [Nat.sub_self, List.getElem_cons_zero]
   exact ⟨h1, h2⟩
  ·rfl
section
variable {r : RulesT} (hr : ROk r) {ms : List MvT} (hg : GoodP r ms)
include hr hg
theorem plc_ok : ∀ p ∈ plc r ms, POk r p := by
 have : ∀ t, t ≤ ms.length → ∀ p ∈ plc r (ms.take t), POk r p := by
  intro t
  induction t with
  | zero =>
   intro _ p hp
   have hp : p ∈ [freshP r] := hp
   rw [List.mem_singleton.1 hp]
   exact fresh_ok hr
  | succ t ih =>
   intro h p hp
   have ih := ih (by omega)
   rw [take_snoc ms t (by omega), plc_snoc] at hp
   rcases List.mem_append.1 hp with hp | hp
   ·exact ih p hp
   ·rw [List.mem_singleton.1 hp]
    have hl := plc_len r (ms.take t)
    have hlast := ih _ (lstP_mem (l := plc r (ms.take t)) (by omega))
    exact do_ok hr hlast (cand_ok hr hlast (hg t (by omega)).2)
 have := this ms.length (Nat.le_refl _)
 rwa [List.take_length] at this
end
theorem newP {N : Nat} (hN : 1000 ≤ N) (r : RulesT) : (∃ e, e ≠ 0 ∧ Q25 N r = some (none, e)) ∨ (ROk r ∧ Q25 N r = some (some (r, (plc r [], [])), 0)) := by
 obtain ⟨e, he, he2⟩ := rcheck hN r
 unfold Q25 Q25.e Q46 Q46.e
 rw [he, ob]
 by_cases h0 : e = 0
 ·have hr := he2.1 h0
  refine Or.inr ⟨hr, ?_⟩
  rw [bif_f (by rw [eqI_t h0]; rfl), fresh_eq N hr hN, ob, ob, bif_f (by rfl), rcopy_eq hN hr, ob, bothK_same]
  rfl
 ·refine Or.inl ⟨e, h0, ?_⟩
  rw [bif_t (by rw [eqI_f h0]; rfl), ob]
  dsimp only
  rw [bif_t (by rw [eqI_f h0]; rfl)]
noncomputable def rn0 (N : Nat) (r : RulesT) (l : List MvT) (n : Nat) (j : Int) (g : PlayT) : Option (PosT × Int × Int) :=
 Q10.l0 N r l n j g.1.1 g.1.2.1 g.1.2.2.1 g.1.2.2.2.2.2.1 g.1.2.2.2.2.2.2.1 g.1.2.2.2.2.2.2.2.2.1 g.1.2.2.2.2.2.2.2.2.2.1 g.1.2.2.2.2.2.2.2.2.2.2 g.1.2.2.2.1 g.1.2.2.2.2.1 g.1.2.2.2.2.2.2.2.1 g.2.1 g.2.2
theorem rn0_s (N : Nat) (r : RulesT) (l : List MvT) (n : Nat) (j : Int) (g : PlayT) : rn0 N r l (n + 1) j g =
 bif (ltI j (l.length : Int)) then (chk ((leI 0 j) && (ltI j (l.length : Int))) <|
  (Q26 N g (gD dM l j)).bind fun y4 =>
  bif (!(eqI y4.1 0)) then (some (([], (([], []), (0, 0))), (0, y4.1)))
  else rn0 N r l n (w64 (j + 1)) y4.2)
 else (Q27 N g).bind fun y5 =>
 (Q28 N g).bind fun y6 =>
 some (y5, (y6, 0)) := rfl
section
variable {r : RulesT} (hr : ROk r) {ms : List MvT} (hg : GoodP r ms) (hlen : ms.length ≤ 100)
include hr hg hlen
theorem run_l0 : ∀ (k j n : Nat), j + k = ms.length → k < n → rn0 300000000 r ms n (j : Int) (r, (plc r (ms.take j), ms.take j)) = some (lstP (plc r ms), (gres r (plc r ms), 0))
 | 0, j, n, hk, hn => by
  obtain ⟨n, rfl⟩ := nxt (n := n) (by omega)
  have hl := plc_len r ms
  have hok := plc_ok hr hg
  rw [rn0_s, bif_f (ltI_f (by omega)), List.take_of_length_le (by omega), pos_eq (by decide) hr _ ms (by omega) (by omega) hok, ob, gres_eq (by decide) hr _ ms (by omega) (by omega) hok, ob]
 | k + 1, j, n, hk, hn => by
  obtain ⟨n, rfl⟩ := nxt (n := n) (by omega)
  have hj : j < ms.length := by omega
  have hl := plc_len r (ms.take j)
  have hlt : (ms.take j).length = j := by rw [List.length_take]; omega
  have hok := plc_ok hr (GoodP_take hg j)
  have hgj := hg j hj
  rw [rn0_s, bif_t (ltI_t (by omega)), chk_of (idx_ok hj), gD_nat hj, play_good (by decide) hr _ _ (by omega) (by omega) hok hgj.1 hgj.2 (by omega), ob, bif_f (by rfl), w64_id (by omega) (by omega), show ((j : Int) + 1) = ((j + 1 : Nat) : Int) by omega]
  dsimp only
  rw [← plc_snoc, ← take_snoc ms j hj]
  exact run_l0 k (j + 1) n (by omega) (by omega)
theorem run_eq : Q10 300000000 r ms = some (lstP (plc r ms), (gres r (plc r ms), 0)) := by
 unfold Q10 Q10.e
 rcases newP (N := 300000000) (by decide) r with ⟨e, h0, he⟩ | ⟨_, h⟩
 ·exfalso
  obtain ⟨e2, g1, g2⟩ := rcheck (N := 300000000) (by decide) r
  have h2 := g2.2 hr
  unfold Q25 Q25.e Q46 Q46.e at he
  rw [g1, ob, bif_f (by rw [eqI_t h2]; rfl), fresh_eq _ hr (by decide), ob, ob, bif_f (by rfl), rcopy_eq (by decide) hr, ob, bothK_same] at he
  simp at he
 ·rw [h, ob]
  simp only [oCase]
  rw [bif_f (by rfl)]
  exact run_l0 hr hg hlen ms.length 0 300000000 (by omega) (by omega)
end
end Go.Proofs.YtfihdjjilofklaaGreat.Am
set_option linter.unusedVariables false
set_option linter.unusedSimpArgs false
set_option linter.unusedSectionVars false
namespace Go.Proofs.YtfihdjjilofklaaGreat.Am
open Go
abbrev u8 (x : Int) : Int := IntKind.wrap .u8 x
abbrev u8h (x : Int) : Int := IntKind.wrap .u8 (Int.fdiv x (2 ^ (min (8 : Int).toNat 64)))
theorem u8_eq (x : Int) : u8 x = x % 256 := IntKind.wrap_u8 x
theorem u8h_eq {x : Int} (h0 : 0 ≤ x) : u8h x = x / 256 % 256 := by
 show IntKind.wrap .u8 (Int.fdiv x (2 ^ (min (8 : Int).toNat 64))) = _
 rw [IntKind.wrap_u8, show (2 : Int) ^ (min (8 : Int).toNat 64) = 256 by decide, Int.fdiv_eq_ediv_of_nonneg _ (by omega)]
def hkl (h : List Int) : List Int := h.flatMap fun n => [u8 n, u8h n]
def kl (p : PosT) : List Int := p.1.map u8 ++ hkl p.2.1.1 ++ hkl p.2.1.2 ++ [u8 p.2.2.1]
def keyB (p : PosT) : ByteArray := strOfNums (kl p)
theorem hkl_len (h : List Int) : (hkl h).length = 2 * h.length := by
 induction h with
 | nil => rfl
 | cons a h ih => simp only [hkl, List.flatMap_cons, List.length_append, List.length_cons, List.length_nil] at ih ⊢; omega
theorem hkl_cons (a : Int) (h : List Int) : hkl (a :: h) = u8 a :: u8h a :: hkl h := rfl
theorem hkl_drop {h : List Int} {j : Nat} (hj : j < h.length) : hkl (h.drop j) = [u8 h[j], u8h h[j]] ++ hkl (h.drop (j + 1)) := by
 rw [List.drop_eq_getElem_cons hj, hkl_cons]; rfl
section
variable (N : Nat) (p : PosT)
theorem key_l2 (hand : List Int) (t : Int) (E : Option ByteArray) (B : Nat) : ∀ (k j n : Nat) (b : List Int), j + k = hand.length → b.length + 2 * k ≤ 5000 → B + k < n → hand.length ≤ 1000 →
  (∀ n, B ≤ n → Q53.l1 N p n (w64 (t + 1)) (b ++ hkl (hand.drop j)) = E) → Q53.l2 N p n t hand (hand.length : Int) (j : Int) b = E
 | 0, j, n, b, hk, hb, hn, hh, hE => by
  obtain ⟨n, rfl⟩ := nxt (n := n) (by omega)
  rw [Q53.l2_s, Q53.s2, bif_f (ltI_f (by omega))]
  have := hE n (by omega)
  rw [List.drop_of_length_le (by omega)] at this
  simpa [hkl] using this
 | k + 1, j, n, b, hk, hb, hn, hh, hE => by
  obtain ⟨n, rfl⟩ := nxt (n := n) (by omega)
  have hj : j < hand.length := by omega
  rw [Q53.l2_s, Q53.s2, bif_t (ltI_t (by omega)), chk_of (idx_ok hj), gD_nat hj]
  dsimp only
  rw [chk_cap (by simp only [List.length_cons, List.length_nil]; omega), w64_id (by omega) (by omega), show ((j : Int) + 1) = ((j + 1 : Nat) : Int) by omega]
  refine key_l2 hand t E B k (j + 1) n _ (by omega) (by simp only [List.length_append, List.length_cons, List.length_nil]; omega) (by omega) hh fun n hn => ?_
  rw [← hE n hn, hkl_drop hj, List.append_assoc]
theorem key_l0 (E : Option ByteArray) (B : Nat) : ∀ (k j n : Nat) (b : List Int), j + k = p.1.length → b.length + k ≤ 5000 → B + k < n → p.1.length ≤ 1000 →
  (∀ n, B ≤ n → Q53.l1 N p n 0 (b ++ (p.1.drop j).map u8) = E) → Q53.l0 N p n (j : Int) b = E
 | 0, j, n, b, hk, hb, hn, hh, hE => by
  obtain ⟨n, rfl⟩ := nxt (n := n) (by omega)
  rw [Q53.l0_s, Q53.s0, bif_f (ltI_f (by omega))]
  have := hE n (by omega)
  rw [List.drop_of_length_le (by omega)] at this
  simpa using this
 | k + 1, j, n, b, hk, hb, hn, hh, hE => by
  obtain ⟨n, rfl⟩ := nxt (n := n) (by omega)
  have hj : j < p.1.length := by omega
  rw [Q53.l0_s, Q53.s0, bif_t (ltI_t (by omega)), chk_of (idx_ok hj), gD_nat hj]
  dsimp only
  rw [chk_cap (by simp only [List.length_cons, List.length_nil]; omega), w64_id (by omega) (by omega), show ((j : Int) + 1) = ((j + 1 : Nat) : Int) by omega]
  refine key_l0 E B k (j + 1) n _ (by omega) (by simp only [List.length_append, List.length_cons, List.length_nil]; omega) (by omega) hh fun n hn => ?_
  rw [← hE n hn, List.drop_eq_getElem_cons hj, List.map_cons, List.append_assoc]
  rfl
end
structure KOk (p : PosT) : Prop where
 c : p.1.length ≤ 1000
 h0 : p.2.1.1.length ≤ 1000
 h1 : p.2.1.2.length ≤ 1000
theorem key_eq {N : Nat} (hN : 10000 ≤ N) {p : PosT} (hp : KOk p) : Q53 N p = some (keyB p) := by
 have h1 := hp.c
 have h2 := hp.h0
 have h3 := hp.h1
 unfold Q53 Q53.e
 rw [w64_id (by omega) (by omega)]
 dsimp only
 rw [chk_of (by
  simp only [Bool.and_eq_true]
  refine ⟨leI_t (by omega), decide_eq_true (by omega), ?_⟩
  unfold capOk
  exact decide_eq_true (by omega))]
 refine key_l0 N p _ 5000 p.1.length 0 N [] (by omega) (by simp; omega) (by omega) h1 fun n hn => ?_
 obtain ⟨n, rfl⟩ := nxt (n := n) (by omega)
 rw [List.drop_zero, List.nil_append, Q53.l1_s, Q53.s1, bif_t (by rfl), bif_t (by rfl)]
 refine key_l2 N p p.2.1.1 0 _ 3000 p.2.1.1.length 0 n _ (by omega) (by simp; omega) (by omega) h2 fun n hn => ?_
 obtain ⟨n, rfl⟩ := nxt (n := n) (by omega)
 rw [List.drop_zero, show w64 ((0 : Int) + 1) = 1 by decide, Q53.l1_s, Q53.s1, bif_t (by rfl), bif_f (by rfl), bif_t (by rfl)]
 refine key_l2 N p p.2.1.2 1 _ 1 p.2.1.2.length 0 n _ (by omega) (by simp only [List.length_append, List.length_map, hkl_len]; omega) (by omega) h3 fun n hn => ?_
 obtain ⟨n, rfl⟩ := nxt (n := n) (by omega)
 rw [List.drop_zero, show w64 ((1 : Int) + 1) = 2 by decide, Q53.l1_s, Q53.s1, bif_f (by rfl)]
 dsimp only
 rw [chk_cap (by simp only [List.length_append, List.length_map, hkl_len, List.length_cons, List.length_nil]; omega)]
 rfl
theorem map_inj {α β : Type} {f : α → β} {P : α → Prop} (hf : ∀ a b, P a → P b → f a = f b → a = b) : ∀ {l m : List α}, (∀ a ∈ l, P a) → (∀ a ∈ m, P a) → l.map f = m.map f → l = m
 | [], [], _, _, _ => rfl
 | [], _ :: _, _, _, h => by simp at h
 | _ :: _, [], _, _, h => by simp at h
 | a :: l, b :: m, hl, hm, h => by
  simp only [List.map_cons, List.cons.injEq] at h
  rw [hf a b (hl a (by simp)) (hm b (by simp)) h.1, map_inj hf (fun a ha => hl a (by simp [ha])) (fun a ha => hm a (by simp [ha])) h.2]
theorem str_inj {l m : List Int} (hl : ∀ a ∈ l, 0 ≤ a ∧ a < 256) (hm : ∀ a ∈ m, 0 ≤ a ∧ a < 256) (h : strOfNums l = strOfNums m) : l = m := by
 refine map_inj (f := fun n : Int => UInt8.ofNat n.toNat) (P := fun a => 0 ≤ a ∧ a < 256) (fun a b ha hb e => ?_) hl hm ?_
 ·have e2 := congrArg UInt8.toNat e
  simp only [UInt8.toNat_ofNat'] at e2
  omega
 ·rw [← strOfNums_data, ← strOfNums_data, h]
theorem hkl_inj : ∀ {l m : List Int}, handOk l → handOk m → hkl l = hkl m → l = m
 | [], [], _, _, _ => rfl
 | [], _ :: _, _, _, h => by simp [hkl] at h
 | _ :: _, [], _, _, h => by simp [hkl] at h
 | a :: l, b :: m, hl, hm, h => by
  rw [hkl_cons, hkl_cons] at h
  simp only [List.cons.injEq] at h
  obtain ⟨h1, h2, h3⟩ := h
  have ha := hl a (by simp)
  have hb := hm b (by simp)
  rw [u8_eq, u8_eq] at h1
  rw [u8h_eq (by omega), u8h_eq (by omega)] at h2
  rw [show a = b by omega, hkl_inj (fun c hc => hl c (by simp [hc])) (fun c hc => hm c (by simp [hc])) h3]
theorem hkl_byte {l : List Int} (hl : handOk l) : ∀ a ∈ hkl l, 0 ≤ a ∧ a < 256 := by
 intro a ha
 obtain ⟨x, hx, hxa⟩ := List.mem_flatMap.1 ha
 have := hl x hx
 simp only [List.mem_cons, List.not_mem_nil, or_false] at hxa
 rcases hxa with rfl | rfl
 ·rw [u8_eq]; omega
 ·rw [u8h_eq (by omega)]; omega
def q0 (p : PosT) : PosT := (p.1, (p.2.1, (p.2.2.1, 0)))
section
variable {r : RulesT} (hr : ROk r)
include hr
theorem POk.k {p : PosT} (hp : POk r p) : KOk p := by
 have h1 := hp.len
 have h2 := hp.h0
 have h3 := hp.h1
 have h6 : r.2.2.2.1.length ≤ 6 := hr.ps.le
 have ha := len_le hr hp
 exact ⟨by omega, by omega, by omega⟩
theorem kl_byte {p : PosT} (hp : POk r p) : ∀ a ∈ kl p, 0 ≤ a ∧ a < 256 := by
 intro a ha
 unfold kl at ha
 simp only [List.mem_append, List.mem_singleton] at ha
 rcases ha with ((ha | ha) | ha) | rfl
 ·obtain ⟨x, hx, rfl⟩ := List.mem_map.1 ha
  rw [u8_eq]; omega
 ·exact hkl_byte hp.o0 a ha
 ·exact hkl_byte hp.o1 a ha
 ·rw [u8_eq]; omega
theorem key_inj {p q : PosT} (hp : POk r p) (hq : POk r q) (h : keyB p = keyB q) : q0 p = q0 q := by
 have e := str_inj (kl_byte hr hp) (kl_byte hr hq) h
 have h6 : r.2.2.2.1.length ≤ 6 := hr.ps.le
 unfold kl at e
 have e1 := List.append_inj e (by simp only [List.length_append, List.length_map, hkl_len]; have := hp.len; have := hq.len; have := hp.h0; have := hq.h0; have := hp.h1; have := hq.h1; omega)
 have e2 := List.append_inj e1.1 (by simp only [List.length_append, List.length_map, hkl_len]; have := hp.len; have := hq.len; have := hp.h0; have := hq.h0; omega)
 have e3 := List.append_inj e2.1 (by simp only [List.length_map]; have := hp.len; have := hq.len; omega)
 have c : p.1 = q.1 := map_inj (P := fun a => 0 ≤ a ∧ a < 256) (fun a b ha hb e => by rw [u8_eq, u8_eq] at e; omega) (fun a ha => by have := hp.cells a ha; omega) (fun a ha => by have := hq.cells a ha; omega) e3.1
 have h0 := hkl_inj hp.o0 hq.o0 e3.2
 have h1 := hkl_inj hp.o1 hq.o1 e2.2
 have ht : p.2.2.1 = q.2.2.1 := by
  have e4 := e1.2
  simp only [List.cons.injEq, and_true] at e4
  rw [u8_eq, u8_eq] at e4
  have a1 : p.2.2.1 = 0 ∨ p.2.2.1 = 1 := hp.last.1
  have a2 : q.2.2.1 = 0 ∨ q.2.2.1 = 1 := hq.last.1
  omega
 unfold q0
 rw [c, ht, show p.2.1 = q.2.1 from Prod.ext h0 h1]
end
end Go.Proofs.YtfihdjjilofklaaGreat.Am
set_option linter.unusedVariables false
set_option linter.unusedSimpArgs false
set_option linter.unusedSectionVars false
namespace Go.Proofs.YtfihdjjilofklaaGreat.Am
open Go
abbrev TabT := RulesT × (List PosT × (List (List Int) × (List (List MvT) × (List (Int × Int) × List (ByteArray × Int)))))
abbrev zPos : PosT := (([] : List Int), ((([] : List Int), ([] : List Int)), ((0 : Int), (0 : Int))))
theorem eqDS_iff {a b : ByteArray} : eqDS a b = true ↔ a = b := by
 unfold eqDS
 rw [beq_iff_eq]
 constructor
 ·intro h
  cases a; cases b
  simp only at h
  rw [ByteArray.mk.injEq]
  exact Array.toList_inj.1 h
 ·rintro rfl; rfl
theorem eqDS_self (a : ByteArray) : eqDS a a = true := eqDS_iff.2 rfl
theorem eqDS_ne {a b : ByteArray} (h : a ≠ b) : eqDS a b = false := by
 cases e : eqDS a b
 ·rfl
 ·exact absurd (eqDS_iff.1 e) h
theorem mget_put {υ : Type} (k : ByteArray) (v : υ) (k' : ByteArray) : ∀ l : List (ByteArray × υ), mget eqDS (mput eqDS l k v) k' = if k = k' then some v else mget eqDS l k'
 | [] => by
  simp only [mput, mget]
  by_cases h : k = k'
  ·subst h; rw [eqDS_self, cond_true, if_pos rfl]
  ·rw [eqDS_ne h, cond_false, if_neg h]
 | p :: l => by
  have ih := mget_put k v k' l
  simp only [mput]
  by_cases h1 : p.1 = k
  ·subst h1
   rw [eqDS_self, cond_true]
   simp only [mget]
   by_cases h : p.1 = k'
   ·rw [if_pos h, h, eqDS_self, cond_true]
   ·rw [if_neg h, eqDS_ne h, cond_false, cond_false]
  ·rw [eqDS_ne h1, cond_false]
   simp only [mget]
   rw [ih]
   by_cases h : p.1 = k'
   ·subst h
    rw [eqDS_self, cond_true, cond_true, if_neg (fun e => h1 e.symm)]
   ·rw [eqDS_ne h, cond_false, cond_false]
structure TOk (r : RulesT) (l : List PosT) (f : List (ByteArray × Int)) : Prop where
 ok : ∀ p ∈ l, POk r p ∧ q0 p = p
 fnd : ∀ s k, mget eqDS f s = some k ↔ ∃ (j : Nat) (p : PosT), k = (j : Int) ∧ l[j]? = some p ∧ keyB p = s
theorem TOk.nil (r : RulesT) : TOk r [] [] := ⟨fun p h => (by cases h), fun s k => ⟨fun h => (by cases h), fun ⟨j, p, _, h, _⟩ => (by simp at h)⟩⟩
theorem q0_ok {r : RulesT} {p : PosT} (hp : POk r p) : POk r (q0 p) := ⟨hp.len, hp.h0, hp.h1, hp.cells, hp.o0, hp.o1, ⟨hp.last.1, Int.le_refl _, by show (0 : Int) ≤ 200; omega⟩⟩
theorem keyB_size {r : RulesT} (hr : ROk r) {p : PosT} (hp : POk r p) : okDS (keyB p) = true := by
 have := hp.k hr
 have h1 := this.c
 have h2 := this.h0
 have h3 := this.h1
 unfold okDS keyB
 rw [strOfNums_size]
 refine decide_eq_true ?_
 unfold kl
 simp only [List.length_append, List.length_map, hkl_len, List.length_cons, List.length_nil]
 omega
structure Added (r : RulesT) (T T' : TabT) (p : PosT) (j : Nat) : Prop where
 rr : T'.1 = T.1
 nx : T'.2.2.1 = T.2.2.1
 mv : T'.2.2.2.1 = T.2.2.2.1
 en : T'.2.2.2.2.1 = T.2.2.2.2.1
 ok : TOk r T'.2.1 T'.2.2.2.2.2
 pre : T.2.1 <+: T'.2.1
 len : T'.2.1.length ≤ T.2.1.length + 1
 at_ : T'.2.1[j]? = some (q0 p)
theorem add_ret {N : Nat} (hN : 10000 ≤ N) {r : RulesT} (hr : ROk r) {T : TabT} (h : TOk r T.2.1 T.2.2.2.2.2) {p : PosT} (hp : POk r p) (hl : T.2.1.length ≤ 1000000) :
  Ret (Q30 N T p) fun y => ∃ j : Nat, y.1 = (j : Int) ∧ Added r T y.2 p j := by
 obtain ⟨R, L, NX, MV, EN, F⟩ := T
 dsimp only at h hl
 have hq := q0_ok hp
 unfold Q30 Q30.e
 rw [show (p.1, (p.2.1, (p.2.2.1, (0 : Int)))) = q0 p from rfl, key_eq hN (hq.k hr), ob, chk_of (keyB_size hr hq)]
 dsimp only
 cases hg : mget eqDS F (keyB (q0 p)) with
 | some k =>
  rw [bif_t (by rfl)]
  obtain ⟨j, q, e1, e2, e3⟩ := (h.fnd _ _).1 hg
  obtain ⟨o1, o2⟩ := h.ok q (List.mem_of_getElem? e2)
  have e4 := key_inj hr o1 hq e3
  refine Ret.ret ⟨j, e1, ⟨rfl, rfl, rfl, rfl, h, List.prefix_refl _, Nat.le_succ _, ?_⟩⟩
  dsimp only
  rw [e2, ← o2, e4]
  rfl
 | none =>
  rw [bif_f (by rfl), chk_of (keyB_size hr hq), chk_cap (by simp only [List.length_singleton]; omega)]
  refine Ret.ret ⟨L.length, ?_, ⟨rfl, rfl, rfl, rfl, ⟨?_, ?_⟩, List.prefix_append _ _, by simp, by simp⟩⟩
  ·dsimp only
   rw [List.length_append, List.length_singleton, w64_id (by omega) (by omega)]
   omega
  ·intro q hm
   rcases List.mem_append.1 hm with hm | hm
   ·exact h.ok q hm
   ·rw [List.mem_singleton.1 hm]; exact ⟨hq, rfl⟩
  ·intro s k
   dsimp only
   rw [mget_put]
   by_cases e : keyB (q0 p) = s
   ·rw [if_pos e]
    constructor
    ·intro hk
     cases hk
     exact ⟨L.length, q0 p, rfl, by simp, e⟩
    ·rintro ⟨j, q, e1, e2, e3⟩
     rcases Nat.lt_or_ge j L.length with hj | hj
     ·rw [List.getElem?_append_left hj] at e2
      have := (h.fnd (keyB (q0 p)) (j : Int)).2 ⟨j, q, rfl, e2, by rw [e3, e]⟩
      rw [hg] at this
      cases this
     ·have hj2 : j < (L ++ [q0 p]).length := (List.getElem?_eq_some_iff.1 e2).1
      rw [List.length_append, List.length_singleton] at hj2
      rw [e1, show j = L.length by omega]
   ·rw [if_neg e, h.fnd]
    constructor
    ·rintro ⟨j, q, e1, e2, e3⟩
     exact ⟨j, q, e1, by rw [List.getElem?_append_left (List.getElem?_eq_some_iff.1 e2).1]; exact e2, e3⟩
    ·rintro ⟨j, q, e1, e2, e3⟩
     rcases Nat.lt_or_ge j L.length with hj | hj
     ·rw [List.getElem?_append_left hj] at e2
      exact ⟨j, q, e1, e2, e3⟩
     ·exfalso
      have hj2 : j < (L ++ [q0 p]).length := (List.getElem?_eq_some_iff.1 e2).1
      rw [List.length_append, List.length_singleton] at hj2
      have : j = L.length := by omega
      subst this
      simp only [List.getElem?_concat_length, Option.some.injEq] at e2
      rw [← e2] at e3
      exact e e3
end Go.Proofs.YtfihdjjilofklaaGreat.Am
