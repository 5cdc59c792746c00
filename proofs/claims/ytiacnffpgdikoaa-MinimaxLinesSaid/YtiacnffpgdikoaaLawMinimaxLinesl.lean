/- The plain law MinimaxLines: the plain function says true at every input; with the functions that make moves. -/
import Derived.Test.YtiacnffpgdikoaaLawDol
import Derived.Test.YtiacnffpgdikoaaLawCheckl
import Derived.Test.YtiacnffpgdikoaaLawLeavesl
import Derived.Test.YtiacnffpgdikoaaLawFinel
set_option linter.unusedVariables false
set_option linter.unusedSimpArgs false
set_option linter.unusedSectionVars false
namespace Go.Proofs.Ytiacnffpgdikoaa.Am
open Go

/-! ### DoEq -/
section
variable {r : RulesT} (hr : ROk r) {p : PosT} (hp : POk r p)
include hr hp
theorem do_eq (N : Nat) {m : MvT} (hm : MoveOk r p m) : moves_Do N r p m = some (doI r p m) := by
  have hll := len_le hr hp
  have hl := hp.len
  have h0 := hp.h0
  have h1 := hp.h1
  have hto := hm.to
  have hpi := hm.piece
  have hlast := hp.last
  have hc := cell_ok hp hto
  have hcell : moves_Cell N m.2.2 p.2.2.1 = some (2 * m.2.2 + p.2.2.1 + 1) := by
    unfold moves_Cell moves_Cell.e
    simp (disch := omega) only [w64_id]
  have hk : gD 0 p.1 m.2.1 ≠ 0 → moves_Kind N (gD 0 p.1 m.2.1) = some (kindI (gD 0 p.1 m.2.1)) ∧ 0 ≤ kindI (gD 0 p.1 m.2.1) ∧ kindI (gD 0 p.1 m.2.1) < (r.2.2.2.1).length := fun h => ⟨kind_eq (by omega) (by omega), kind_lt (by omega) hc.2⟩
  have hb0 : ∀ i : Int, 0 ≤ i → i < (r.2.2.2.1).length → 0 ≤ gD 0 (p.2.1.1) i ∧ gD 0 (p.2.1.1) i ≤ 1000 := fun i hi hi' => gD_ok hp.o0 hi (by omega)
  have hb1 : ∀ i : Int, 0 ≤ i → i < (r.2.2.2.1).length → 0 ≤ gD 0 (p.2.1.2) i ∧ gD 0 (p.2.1.2) i ≤ 1000 := fun i hi hi' => gD_ok hp.o1 hi (by omega)
  have hm0 := hb0 _ hpi.1 hpi.2
  have hm1 := hb1 _ hpi.1 hpi.2
  unfold moves_Do moves_Do.e
  rw [copy_eq hr hp, Option.bind_some, hcell]
  unfold doI setH hand2 hand1 cells2 handT
  by_cases hs : m.1 < 0
  · have hz : gD 0 p.1 m.2.1 = 0 := by
      rcases hm.src with h | h
      · exact h.2.1
      · omega
    rw [bif_t (ltI_t hs)]
    rcases hlast.1 with ht | ht
    · rw [bif_t (eqI_t ht)]
      simp (disch := omega) only [chk_idx, w64_id, hz, eqI_t, Bool.not_true, cond_false, Option.bind_some, if_pos hs, if_pos ht, Bool.cond_false]
      simp [hs]
    · rw [bif_f (eqI_f (by omega)), bif_t (eqI_t ht)]
      simp (disch := omega) only [chk_idx, w64_id, hz, eqI_t, Bool.not_true, cond_false, Option.bind_some, if_pos hs, if_neg (show ¬ p.2.2.1 = 0 by omega)]
      simp [hs]
  · have hsrc : 0 ≤ m.1 ∧ m.1 < r.2.1 * r.2.2.1 := by
      rcases hm.src with h | h
      · omega
      · exact ⟨h.1, h.2.1⟩
    rw [bif_f (ltI_f (by omega))]
    simp only [if_neg hs]
    by_cases hz : gD 0 p.1 m.2.1 = 0
    · simp (disch := omega) only [chk_idx, w64_id, hz, eqI_t, Bool.not_true, cond_false, Option.bind_some, List.length_set]
      by_cases h200 : 200 < p.2.2.2 + 1
      · rcases hlast.1 with ht | ht <;> simp [hs, ht, ltI_t h200, h200]
      · rcases hlast.1 with ht | ht <;> simp [hs, ht, ltI_f (show p.2.2.2 + 1 ≤ 200 by omega), h200]
    · obtain ⟨hk1, hk2, hk3⟩ := hk hz
      have hk0 := hb0 _ hk2 hk3
      have hk1' := hb1 _ hk2 hk3
      rw [hk1]
      rcases hlast.1 with ht | ht
      · simp (disch := omega) only [chk_idx, w64_id, eqI_f hz, eqI_t ht, Bool.not_false, cond_true, Option.bind_some, List.length_set, if_pos ht]
        by_cases h1000 : 1000 < gD 0 p.2.1.1 (kindI (gD 0 p.1 m.2.1)) + 1
        · cases hK : r.2.2.2.2.2.2.1 <;> simp [hs, ht, hz, ltI_t h1000, h1000]
        · cases hK : r.2.2.2.2.2.2.1 <;> simp [hs, ht, hz, ltI_f (show gD 0 p.2.1.1 (kindI (gD 0 p.1 m.2.1)) + 1 ≤ 1000 by omega), h1000]
      · simp (disch := omega) only [chk_idx, w64_id, eqI_f hz, eqI_f (show p.2.2.1 ≠ 0 by omega), eqI_t ht, Bool.not_false, cond_true, cond_false, Option.bind_some, List.length_set, if_neg (show ¬ p.2.2.1 = 0 by omega)]
        by_cases h1000 : 1000 < gD 0 p.2.1.2 (kindI (gD 0 p.1 m.2.1)) + 1
        · cases hK : r.2.2.2.2.2.2.1 <;> simp [hs, ht, hz, ltI_t h1000, h1000]
        · cases hK : r.2.2.2.2.2.2.1 <;> simp [hs, ht, hz, ltI_f (show gD 0 p.2.1.2 (kindI (gD 0 p.1 m.2.1)) + 1 ≤ 1000 by omega), h1000]
end

/-! ### Contains -/
/-- is a move in a list? -/
theorem index_l0 (N : Nat) (l : List MvT) (v : MvT) (hl : l.length ≤ 100000) : ∀ (k j n : Nat), j + k = l.length → k < n → Ret (slices_Index_api_Move_api_Move.l0 N l v n (j : Int)) fun i => 0 ≤ i ↔ v ∈ l.drop j
  | 0, j, n, hk, hn => by
    obtain ⟨n, rfl⟩ := nxt (n := n) (by omega)
    rw [slices_Index_api_Move_api_Move.l0_s, slices_Index_api_Move_api_Move.s0, bif_f (ltI_f (by omega)), List.drop_of_length_le (by omega)]
    exact Ret.ret (by simp)
  | k + 1, j, n, hk, hn => by
    obtain ⟨n, rfl⟩ := nxt (n := n) (by omega)
    have hj : j < l.length := by omega
    have ih := index_l0 N l v hl k (j + 1) n (by omega) (by omega)
    rw [slices_Index_api_Move_api_Move.l0_s, slices_Index_api_Move_api_Move.s0, bif_t (ltI_t (by omega)), chk_of (idx_ok hj), gD_nat hj, mv_eq, w64_id (by omega) (by omega), show ((j : Int) + 1) = ((j + 1 : Nat) : Int) by omega, List.drop_eq_getElem_cons hj, List.mem_cons]
    by_cases h : v = l[j]
    · rw [bif_t (by simpa using h)]
      exact Ret.ret ⟨fun _ => Or.inl h, fun _ => by omega⟩
    · rw [bif_f (by simpa using h)]
      exact ih.mono fun i hi => hi.trans ⟨Or.inr, fun h' => h'.resolve_left h⟩
theorem contains_eq {N : Nat} (l : List MvT) (v : MvT) (hl : l.length ≤ 100000) (hN : 200000 ≤ N) : slices_Contains_api_Move_api_Move N l v = some (decide (v ∈ l)) := by
  unfold slices_Contains_api_Move_api_Move slices_Contains_api_Move_api_Move.e slices_Index_api_Move_api_Move slices_Index_api_Move_api_Move.e
  obtain ⟨i, h1, h2⟩ := index_l0 N l v hl l.length 0 N (by omega) (by omega)
  rw [List.drop_zero] at h2
  rw [show ((0 : Nat) : Int) = 0 from rfl] at h1
  rw [h1, Option.bind_some]
  by_cases h : v ∈ l
  · rw [leI_t (h2.2 h), decide_eq_true h]
  · rw [leI_f (by have := mt h2.1 h; omega), decide_eq_false h]

/-! ### DoF -/
abbrev noP : PosT := ([], (([], []), (0, 0)))
section
variable {N : Nat} (hN : 200000 ≤ N) {r : RulesT} (hr : ROk r) {p : PosT} (hp : POk r p) {l : List MvT} (hl : moves_Gen N r p = some l) (hg : IsGen r p l)
include hN hr hp hl hg
theorem all_good : moves_All N r p = some (l, 0) := by
  unfold moves_All moves_All.e
  rw [pcheck_ok (by omega) hr hp, Option.bind_some, bif_f (by rfl), hl, Option.bind_some]
theorem legal_good (m : MvT) : moves_Legal N r p m = some (decide (m ∈ l), 0) := by
  have := hg.len
  unfold moves_Legal moves_Legal.e
  rw [pcheck_ok (by omega) hr hp, Option.bind_some, bif_f (by rfl), hl, Option.bind_some, contains_eq l m (by omega) hN, Option.bind_some]
theorem after_good {m : MvT} (hm : m ∈ l) : moves_After N r p m = some (doI r p m, 0) := by
  unfold moves_After moves_After.e
  rw [legal_good hN hr hp hl hg, Option.bind_some, bif_f (by rfl), bif_f (by simp [hm]), do_eq hr hp N (cand_ok hr hp ((hg.mem m).1 hm)), Option.bind_some]
theorem after_none {m : MvT} (hm : m ∉ l) : moves_After N r p m = some (noP, 13) := by
  unfold moves_After moves_After.e
  rw [legal_good hN hr hp hl hg, Option.bind_some, bif_f (by rfl), bif_t (by simp [hm])]
end
theorem all_bad {N : Nat} {r : RulesT} {p : PosT} {v : Int} (hv : place_Check N r p = some v) (h0 : v ≠ 0) : moves_All N r p = some ([], v) := by
  unfold moves_All moves_All.e
  rw [hv, Option.bind_some, bif_t (by simp [eqI, h0])]

/-! ### MinimaxLines -/
def bq0 (N : Nat) (b0 : BoardT) (depth : Int) (n : Nat) (most len j : Int) (b : BoardT) (out : MvT) (ms : List MvT) : Option (MvT × Int × BoardT) :=
  minimax_best'.l0 N b0 depth n most len j b.1.1 b.1.2.1 b.1.2.2.1 b.1.2.2.2.2.2.1 b.1.2.2.2.2.2.2.1 b.1.2.2.2.2.2.2.2.2.1 b.1.2.2.2.2.2.2.2.2.2.1 b.1.2.2.2.2.2.2.2.2.2.2 b.2.1.2.2.1 b.2.1.2.2.2 b.2.2.1 out.1 out.2.1 out.2.2 ms b.1.2.2.2.1 b.1.2.2.2.2.1 b.1.2.2.2.2.2.2.2.1 b.2.1.1 b.2.1.2.1.1 b.2.1.2.1.2 b.2.2.2
theorem bq0_s (N : Nat) (b0 : BoardT) (depth : Int) (n : Nat) (most len j : Int) (b : BoardT) (out : MvT) (ms : List MvT) : bq0 N b0 depth (n + 1) most len j b out ms =
    bif ltI j len then (chk (leI 0 j && ltI j (ms.length : Int)) <|
      (board_Board_Make' N b (gD z0 ms j)).bind fun y2 =>
      (minimax_Value' N y2 (w64 (depth - 1))).bind fun y3 =>
      (minimax_Nearer N (w64 (0 - y3.1))).bind fun y4 =>
      (board_Board_Undo' N y3.2).bind fun y5 =>
      bif (ltI most y4) then (bq0 N b0 depth n y4 len (w64 (j + 1)) y5.2 (gD z0 ms j) ms)
      else bq0 N b0 depth n most len (w64 (j + 1)) y5.2 out ms)
    else some (out, (most, b)) := rfl
theorem bq_l0 {N : Nat} (hN : 200000100 ≤ N) (b0 : BoardT) (d : Nat) (hd : d ≤ 19) {b : BoardT} (hb : BOk b) (hl : b.2.2.2.length ≤ 1000) (ms : List MvT) (hms : ∀ m ∈ ms, MoveOk b.1 b.2.1 m) (hlen : ms.length ≤ 100000) :
    ∀ (k j n : Nat) (most : Int) (out : MvT), j + k = ms.length → k < n → ((0 < k ∧ most = -1001) ∨ (out ∈ ms ∧ most = near (-(val b.1 d (doI b.1 b.2.1 out))))) →
    Ret (bq0 N b0 ((d + 1 : Nat) : Int) n most (ms.length : Int) (j : Int) b out ms) fun z => z.1 ∈ ms ∧ z.2.1 = near (-(val b.1 d (doI b.1 b.2.1 z.1))) ∧ z.2.1 = foldMax most ((ms.drop j).map fun m => near (-(val b.1 d (doI b.1 b.2.1 m)))) ∧ z.2.2 = b
  | 0, j, n, most, out, hk, hn, hm => by
    obtain ⟨n, rfl⟩ := nxt (n := n) (by omega)
    rw [bq0_s, bif_f (ltI_f (by omega)), List.drop_of_length_le (by omega)]
    rcases hm with ⟨h, _⟩ | h
    · omega
    · exact Ret.ret ⟨h.1, h.2, rfl, rfl⟩
  | k + 1, j, n, most, out, hk, hn, hm => by
    obtain ⟨n, rfl⟩ := nxt (n := n) (by omega)
    have hj : j < ms.length := by omega
    have hmem : ms[j] ∈ ms := List.getElem_mem _
    have hmo := hms _ hmem
    have hv := val_bound hb.r d (by omega) (do_ok hb.r hb.p hmo)
    have hself := value_ok d N (by omega) (by omega) (make_ok hb (by omega) hmo) (by
      show (b.2.2.2 ++ [undoI b ms[j]]).length + d ≤ 100000
      rw [List.length_append]
      simp only [List.length_singleton]
      omega)
    rw [show val (makeB b ms[j]).1 d (makeB b ms[j]).2.1 = val b.1 d (doI b.1 b.2.1 ms[j]) from rfl] at hself
    rw [bq0_s, bif_t (ltI_t (by omega)), chk_of (idx_ok hj), gD_nat hj, make_eq hb (by omega) hmo, Option.bind_some, w64_id (x := ((d + 1 : Nat) : Int) - 1) (by omega) (by omega), show ((d + 1 : Nat) : Int) - 1 = (d : Int) by omega, hself, Option.bind_some]
    dsimp only
    rw [w64_id (x := 0 - val b.1 d (doI b.1 b.2.1 ms[j])) (by omega) (by omega), nearer_eq N (by omega), Option.bind_some, undo_make hb (by omega) hmo, Option.bind_some, w64_id (by omega) (by omega), show ((j : Int) + 1) = ((j + 1 : Nat) : Int) by omega, show 0 - val b.1 d (doI b.1 b.2.1 ms[j]) = -(val b.1 d (doI b.1 b.2.1 ms[j])) by omega, List.drop_eq_getElem_cons hj]
    have hnc := near_cases (-(val b.1 d (doI b.1 b.2.1 ms[j])))
    have e : foldMax most ((ms[j] :: ms.drop (j + 1)).map fun m => near (-(val b.1 d (doI b.1 b.2.1 m)))) = foldMax (mx most (near (-(val b.1 d (doI b.1 b.2.1 ms[j]))))) ((ms.drop (j + 1)).map fun m => near (-(val b.1 d (doI b.1 b.2.1 m)))) := rfl
    rw [e]
    have hmx := mx_eq most (near (-(val b.1 d (doI b.1 b.2.1 ms[j]))))
    refine Ret.bif (fun c => ?_) (fun c => ?_)
    · rw [ltI_iff] at c
      rw [show mx most (near (-(val b.1 d (doI b.1 b.2.1 ms[j])))) = near (-(val b.1 d (doI b.1 b.2.1 ms[j]))) by omega]
      exact bq_l0 hN b0 d hd hb hl ms hms hlen k (j + 1) n _ _ (by omega) (by omega) (Or.inr ⟨hmem, rfl⟩)
    · rw [ltI_iff'] at c
      rw [show mx most (near (-(val b.1 d (doI b.1 b.2.1 ms[j])))) = most by omega]
      refine bq_l0 hN b0 d hd hb hl ms hms hlen k (j + 1) n _ _ (by omega) (by omega) (Or.inr ?_)
      rcases hm with ⟨_, h⟩ | h
      · omega
      · exact h
theorem besty_ok {N : Nat} (hN : 200000100 ≤ N) (d : Nat) (hd : d ≤ 19) {b : BoardT} (hb : BOk b) (hl : b.2.2.2.length ≤ 1000) (h : resV b.1 b.2.1 = 0) :
    Ret (minimax_best' N b ((d + 1 : Nat) : Int)) fun z => z.1 ∈ cand b.1 b.2.1 ∧ near (-(val b.1 d (doI b.1 b.2.1 z.1))) = val b.1 (d + 1) b.2.1 ∧ z.2.2 = b := by
  obtain ⟨l, hl1, _, hl2⟩ := bmoves_ret (N := N) (by omega) hb
  have hg := hl2 h
  have hgl := hg.len
  obtain ⟨m0, hm0⟩ : ∃ m, m ∈ cand b.1 b.2.1 := by
    cases hc : cand b.1 b.2.1 with
    | nil => exact absurd hc (cand_ne hb.r hb.p h)
    | cons m c => exact ⟨m, List.mem_cons_self ..⟩
  have hm1 := (hg.mem m0).2 hm0
  have hne : 0 < l.length := List.length_pos_of_mem hm1
  unfold minimax_best' minimax_best'.e
  rw [hl1, Option.bind_some]
  have := bq_l0 hN b d hd hb hl l (fun m hm => cand_ok hb.r hb.p ((hg.mem m).1 hm)) (by omega) l.length 0 N (-1001) ((0 : Int), ((0 : Int), (0 : Int))) (by omega) (by omega) (Or.inl ⟨hne, rfl⟩)
  refine Ret.mono this fun z hz => ⟨(hg.mem _).1 hz.1, ?_, hz.2.2.2⟩
  have hz3 : z.2.1 = foldMax (-1001) ((l.drop 0).map fun m => near (-(val b.1 d (doI b.1 b.2.1 m)))) := hz.2.2.1
  rw [List.drop_zero] at hz3
  have fe : foldMax (-1001) (l.map fun m => near (-(val b.1 d (doI b.1 b.2.1 m)))) = foldMax (-1001) ((cand b.1 b.2.1).map fun m => near (-(val b.1 d (doI b.1 b.2.1 m)))) := by
    apply foldMax_ext
    intro x
    simp only [List.mem_map]
    constructor
    · rintro ⟨m, hm, rfl⟩; exact ⟨m, (hg.mem m).1 hm, rfl⟩
    · rintro ⟨m, hm, rfl⟩; exact ⟨m, (hg.mem m).2 hm, rfl⟩
  rw [← hz.2.1, hz3, fe, val_open hb.r h]
  have f1 := foldMax_spec ((cand b.1 b.2.1).map fun m => near (-(val b.1 d (doI b.1 b.2.1 m)))) (-1001)
  have f2 := foldMax_spec ((cand b.1 b.2.1).map fun m => near (-(val b.1 d (doI b.1 b.2.1 m)))) (-1000)
  have bnd := val_bound hb.r d (by omega) (do_ok hb.r hb.p (cand_ok hb.r hb.p hm0))
  have nb := near_cases (-(val b.1 d (doI b.1 b.2.1 m0)))
  have u1 := f1.2.1 _ (List.mem_map.2 ⟨m0, hm0, rfl⟩)
  have u2 := f2.2.1 _ (List.mem_map.2 ⟨m0, hm0, rfl⟩)
  apply Int.le_antisymm
  · rcases f1.2.2 with e | e
    · omega
    · exact f2.2.1 _ e
  · rcases f2.2.2 with e | e
    · omega
    · exact f1.2.1 _ e
/-! ### lines of best moves -/
def PathL (r : RulesT) : Nat → PosT → List MvT → Prop
  | _, _, [] => True
  | 0, _, _ :: _ => False
  | d + 1, p, m :: s => resV r p = 0 ∧ m ∈ cand r p ∧ near (-(val r d (doI r p m))) = val r (d + 1) p ∧ PathL r d (doI r p m) s
def endL (r : RulesT) : PosT → List MvT → PosT
  | p, [] => p
  | p, m :: s => endL r (doI r p m) s
/-- seen from k moves before -/
def nn : Nat → Int → Int
  | 0, x => x
  | k + 1, x => near (-(nn k x))
theorem nn_in : ∀ (k : Nat) (x : Int), nn k (near (-x)) = nn (k + 1) x
  | 0, _ => rfl
  | k + 1, x => by
    show near (-(nn k (near (-x)))) = near (-(nn (k + 1) x))
    rw [nn_in k x]
theorem size_childL {r : RulesT} {p : PosT} (hr : ROk r) (hp : POk r p) (h : resV r p = 0) {m : MvT} (hm : m ∈ cand r p) (d : Nat) : sizeP r d (doI r p m) < sizeP r (d + 1) p := by
  obtain ⟨l, hl, hg⟩ := gen_ret hr hp (N := 200000000) (Nat.le_refl _)
  have e : mvP r p = l := by unfold mvP; rw [if_pos h, hl]; rfl
  have := sumL_mem (f := fun m => sizeP r d (doI r p m)) (mvP r p) (fun m _ => by have := sizeP_pos r d (doI r p m); omega) m (by rw [e]; exact (hg.mem m).2 hm)
  have e2 : sizeP r (d + 1) p = 1 + sumL (fun m => sizeP r d (doI r p m)) (mvP r p) := rfl
  omega
theorem path_facts {r : RulesT} (hr : ROk r) : ∀ (s : List MvT) (d : Nat) (p : PosT), POk r p → PathL r d p s → s.length ≤ d ∧ POk r (endL r p s) ∧ sizeP r (d - s.length) (endL r p s) ≤ sizeP r d p ∧ val r d p = nn s.length (val r (d - s.length) (endL r p s))
  | [], d, p, hp, _ => ⟨Nat.zero_le _, hp, Int.le_refl _, rfl⟩
  | m :: s, 0, p, hp, h => by cases h
  | m :: s, d + 1, p, hp, h => by
    obtain ⟨h1, h2, h3, h4⟩ := h
    have hdo := do_ok hr hp (cand_ok hr hp h2)
    obtain ⟨g1, g2, g3, g4⟩ := path_facts hr s d (doI r p m) hdo h4
    have hs := size_childL hr hp h1 h2 d
    have e : d + 1 - (m :: s).length = d - s.length := by rw [List.length_cons]; omega
    refine ⟨by rw [List.length_cons]; omega, g2, ?_, ?_⟩
    · rw [e]
      show sizeP r (d - s.length) (endL r (doI r p m) s) ≤ _
      omega
    · rw [e]
      show val r (d + 1) p = near (-(nn s.length (val r (d - s.length) (endL r (doI r p m) s))))
      rw [← g4, h3]
def ln0 (N : Nat) (r : RulesT) (p0 : PosT) (depth : Int) (n : Nat) (d : Int) (b : BoardT) (out : List MvT) : Option (List MvT × Int) :=
  minimax_Line.l0 N r p0 depth n d b.1.1 b.1.2.1 b.1.2.2.1 b.1.2.2.2.2.2.1 b.1.2.2.2.2.2.2.1 b.1.2.2.2.2.2.2.2.2.1 b.1.2.2.2.2.2.2.2.2.2.1 b.1.2.2.2.2.2.2.2.2.2.2 b.2.1.2.2.1 b.2.1.2.2.2 b.2.2.1 b.1.2.2.2.1 b.1.2.2.2.2.1 b.1.2.2.2.2.2.2.2.1 b.2.1.1 b.2.1.2.1.1 b.2.1.2.1.2 b.2.2.2 out
theorem ln0_s (N : Nat) (r : RulesT) (p0 : PosT) (depth : Int) (n : Nat) (d : Int) (b : BoardT) (out : List MvT) : ln0 N r p0 depth (n + 1) d b out =
  bif (ltI 0 d) then ((board_Board_Result N b).bind fun y4 =>
    bif (eqI y4 0) then ((minimax_best' N b d).bind fun y5 =>
      chk (capOk 24 (out.length + ([y5.1] : List MvT).length)) <|
      (board_Board_Make' N y5.2.2 y5.1).bind fun y6 =>
      ln0 N r p0 depth n (w64 (d - 1)) y6 (out ++ [y5.1]))
    else some (out, 0))
  else some (out, 0) := rfl
theorem line_l0 {N : Nat} (hN : 200000100 ≤ N) (r0 : RulesT) (p0 : PosT) (depth : Int) : ∀ (d n : Nat) (b : BoardT) (out : List MvT), d ≤ 12 → d < n → BOk b → b.2.2.2.length + d ≤ 100 → out.length + d ≤ 100 →
    Ret (ln0 N r0 p0 depth n (d : Int) b out) fun z => z.2 = 0 ∧ ∃ s, z.1 = out ++ s ∧ PathL b.1 d b.2.1 s
  | 0, n, b, out, hd, hn, hb, hl, ho => by
    obtain ⟨n, rfl⟩ := nxt (n := n) (by omega)
    rw [ln0_s, bif_f (by rfl)]
    exact Ret.ret ⟨rfl, [], by simp, trivial⟩
  | d + 1, n, b, out, hd, hn, hb, hl, ho => by
    obtain ⟨n, rfl⟩ := nxt (n := n) (by omega)
    rw [ln0_s, bif_t (ltI_t (by omega)), bresult_eq (by omega) hb, Option.bind_some]
    by_cases h : resV b.1 b.2.1 = 0
    · rw [bif_t (eqI_t h)]
      refine Ret.bnd (besty_ok hN d (by omega) hb (by omega) h) fun z hz => ?_
      obtain ⟨z1, z2, z3⟩ := hz
      have hmo := cand_ok hb.r hb.p z1
      rw [chk_cap (by simp only [List.length_singleton]; omega), z3, make_eq hb (by omega) hmo, Option.bind_some, w64_id (x := ((d + 1 : Nat) : Int) - 1) (by omega) (by omega), show ((d + 1 : Nat) : Int) - 1 = (d : Int) by omega]
      refine Ret.mono (line_l0 hN r0 p0 depth d n (makeB b z.1) (out ++ [z.1]) (by omega) (by omega) (make_ok hb (by omega) hmo) (by
        show (b.2.2.2 ++ [undoI b z.1]).length + d ≤ 100
        rw [List.length_append]
        simp only [List.length_singleton]
        omega) (by rw [List.length_append]; simp only [List.length_singleton]; omega)) fun y hy => ?_
      obtain ⟨y1, s, y2, y3⟩ := hy
      exact ⟨y1, z.1 :: s, by rw [y2, List.append_assoc]; rfl, h, z1, z2, y3⟩
    · rw [bif_f (eqI_f h)]
      exact Ret.ret ⟨rfl, [], by simp, trivial⟩
/-- Line fails as the check does, or returns a line -/
theorem line_ret {N : Nat} (hN : 200000200 ≤ N) (r : RulesT) (p : PosT) (depth : Int) {e : Int} (he : minimax_Check N r p depth = some e) (he2 : e = 0 → ROk r ∧ POk r p ∧ 0 ≤ depth ∧ depth ≤ 12) :
    Ret (minimax_Line N r p depth) fun z => (e ≠ 0 ∧ z = ([], e)) ∨ (e = 0 ∧ z.2 = 0 ∧ PathL r depth.toNat p z.1) := by
  unfold minimax_Line minimax_Line.e
  rw [he, Option.bind_some]
  by_cases h0 : e = 0
  · obtain ⟨hr, hp, d1, d2⟩ := he2 h0
    obtain ⟨d, rfl⟩ : ∃ d : Nat, depth = d := ⟨depth.toNat, by omega⟩
    rw [bif_f (by rw [eqI_t h0]; rfl), new_good (by omega) hr hp, Option.bind_some]
    simp only [oCase]
    refine Ret.mono (line_l0 (N := N) (by omega) r p (d : Int) d N (r, (p, (U (keyS p), []))) [] (by omega) (by omega) ⟨hr, hp, rfl⟩ (by simp; omega) (by simp; omega)) fun z hz => ?_
    obtain ⟨z1, s, z2, z3⟩ := hz
    refine Or.inr ⟨h0, z1, ?_⟩
    rw [z2, Int.toNat_natCast, List.nil_append]
    exact z3
  · rw [bif_t (by rw [eqI_f h0]; rfl)]
    exact Ret.ret (Or.inl ⟨h0, rfl⟩)
def mm0 (N : Nat) (r : RulesT) (p0 : PosT) (depth : Int) (n : Nat) (sc len j : Int) (l : List MvT) (q : PosT) : Option Bool := gamehallkeep1_MinimaxLines.l0 N r p0 depth n sc len j l q.1 q.2.1.1 q.2.1.2 q.2.2.1 q.2.2.2
def mm1 (N : Nat) (r : RulesT) (p0 : PosT) (depth : Int) (n : Nat) (sc last g len j : Int) : Option Bool := gamehallkeep1_MinimaxLines.l1 N r p0 depth n sc last g len j
theorem mm0_s (N : Nat) (r : RulesT) (p0 : PosT) (depth : Int) (n : Nat) (sc len j : Int) (l : List MvT) (q : PosT) : mm0 N r p0 depth (n + 1) sc len j l q =
  bif (ltI j len) then (chk ((leI 0 j) && (ltI j (l.length : Int))) <|
    (moves_After N r q (gD z0 l j)).bind fun y15 =>
    bif (!(eqI y15.2 0)) then some false
    else mm0 N r p0 depth n sc len (w64 (j + 1)) l y15.1)
  else (minimax_Score N r q (w64 (depth - (l.length : Int)))).bind fun y17 =>
  mm1 N r p0 depth n sc y17.1 y17.2 (l.length : Int) 0 := rfl
theorem mm1_s (N : Nat) (r : RulesT) (p0 : PosT) (depth : Int) (n : Nat) (sc last g len j : Int) : mm1 N r p0 depth (n + 1) sc last g len j =
  bif (ltI j len) then ((minimax_Nearer N (w64 (0 - last))).bind fun y18 =>
    mm1 N r p0 depth n sc y18 g len (w64 (j + 1)))
  else bif (eqI g 0) then (some (eqI last sc))
  else some false := rfl
theorem mm1_l (N : Nat) (r : RulesT) (p0 : PosT) (depth sc : Int) (K : Nat) (hK : K ≤ 100) : ∀ (k j n : Nat) (last : Int), j + k = K → k < n → -1000 ≤ last → last ≤ 1000 → nn k last = sc → mm1 N r p0 depth n sc last 0 (K : Int) (j : Int) = some true
  | 0, j, n, last, hk, hn, h1, h2, h => by
    obtain ⟨n, rfl⟩ := nxt (n := n) (by omega)
    have h : last = sc := h
    rw [mm1_s, bif_f (ltI_f (by omega)), bif_t (by rfl), eqI_t h]
  | k + 1, j, n, last, hk, hn, h1, h2, h => by
    obtain ⟨n, rfl⟩ := nxt (n := n) (by omega)
    have nc := near_cases (-last)
    rw [mm1_s, bif_t (ltI_t (by omega)), w64_id (x := 0 - last) (by omega) (by omega), nearer_eq N (by omega), Option.bind_some, show 0 - last = -last by omega, w64_id (by omega) (by omega), show ((j : Int) + 1) = ((j + 1 : Nat) : Int) by omega]
    exact mm1_l N r p0 depth sc K hK k (j + 1) n (near (-last)) (by omega) (by omega) (by omega) (by omega) (by rw [nn_in]; exact h)
theorem mm0_l {r : RulesT} (hr : ROk r) (p0 : PosT) (depth sc : Int) (l : List MvT) (hl : l.length ≤ 100) (B : Nat) (E : Option Bool) : ∀ (s : List MvT) (j n d : Nat) (q : PosT), l.drop j = s → B + s.length < n → POk r q → PathL r d q s →
    (∀ n, B ≤ n → ((minimax_Score 300000000 r (endL r q s) (w64 (depth - (l.length : Int)))).bind fun y17 => mm1 300000000 r p0 depth n sc y17.1 y17.2 (l.length : Int) 0) = E) → mm0 300000000 r p0 depth n sc (l.length : Int) (j : Int) l q = E
  | [], j, n, d, q, hs, hn, hq, hp, hE => by
    obtain ⟨n, rfl⟩ := nxt (n := n) (by omega)
    have hj : l.length ≤ j := by
      have := congrArg List.length hs
      rw [List.length_drop, List.length_nil] at this
      omega
    rw [mm0_s, bif_f (ltI_f (by omega))]
    rw [List.length_nil] at hn
    exact hE n (by omega)
  | m :: s, j, n, 0, q, hs, hn, hq, hp, hE => by cases hp
  | m :: s, j, n, d + 1, q, hs, hn, hq, hp, hE => by
    rw [List.length_cons] at hn
    obtain ⟨n, rfl⟩ := nxt (n := n) (by omega)
    obtain ⟨h1, h2, h3, h4⟩ := hp
    have hj : j < l.length := by
      have := congrArg List.length hs
      rw [List.length_drop, List.length_cons] at this
      omega
    rw [List.drop_eq_getElem_cons hj] at hs
    obtain ⟨e1, e2⟩ := List.cons.inj hs
    obtain ⟨g, hgen, hgg⟩ := gen_ret hr hq (N := 300000000) (by decide)
    rw [mm0_s, bif_t (ltI_t (by omega)), chk_of (idx_ok hj), gD_nat hj, e1, after_good (by decide) hr hq hgen hgg ((hgg.mem m).2 h2), Option.bind_some, bif_f (by rfl), w64_id (by omega) (by omega), show ((j : Int) + 1) = ((j + 1 : Nat) : Int) by omega]
    exact mm0_l hr p0 depth sc l hl B E s (j + 1) n d (doI r q m) e2 (by omega) (do_ok hr hq (cand_ok hr hq h2)) h4 hE
theorem mcheck_sizeL {N : Nat} (hN : 200000100 ≤ N) {r : RulesT} {p : PosT} (hr : ROk r) (hp : POk r p) {d : Nat} (hd : d ≤ 12) : minimax_Check N r p (d : Int) = some (if sizeP r d p ≤ 50000 then 0 else 17) := by
  unfold minimax_Check minimax_Check.e
  rw [tree_good hN r p d hr hp hd (pch_good hN r p (d : Int) hr hp (by omega) (by omega))]
  by_cases h : sizeP r d p ≤ 50000
  · rw [if_pos h, if_pos h, Option.bind_some]
  · rw [if_neg h, if_neg h, Option.bind_some]
abbrev threeL : RulesT := ((⟨#[84, 73, 67]⟩ : ByteArray), (3, (3, ([(65, (5, (0, [])))], ((List.replicate (9 : Int).toNat (0 : Int)), (false, (false, ([(0, (0, (3, false)))], (2, (0, 0))))))))))
theorem line_three : minimax_Line 300000000 threeL (([1, 1, 0, 2, 2, 0, 0, 0, 0] : List Int), (([3], [3]), (0, 0))) 3 = some ([(-1, (2, 0))], 0) := by decide +kernel
theorem scored_trueL : gamehallkeep1_scored 300000000 = some true := by decide +kernel
theorem plays_trueL : gamehallkeep1_plays 300000000 = some true := by decide +kernel
theorem minimaxLines_at (r : RulesT) (p : PosT) (depth : Int) : gamehallkeep1_MinimaxLines 300000000 r p depth = some true := by
  have h3 : gamehallkeep1_three 300000000 = some threeL := rfl
  have hnear : gamehallkeep1_near 300000000 = some (([1, 1, 0, 2, 2, 0, 0, 0, 0] : List Int), (([3], [3]), (0, 0))) := rfl
  have hput : gamehallkeep1_put 300000000 2 = some (-1, (2, 0)) := rfl
  obtain ⟨e, he, he2⟩ := mcheck_ret (N := 300000000) (by decide) r p depth
  obtain ⟨hv, hh, _⟩ := heavy_ret (N := 300000000) (by decide) r p depth
  obtain ⟨z, hz, hz2⟩ := line_ret (N := 300000000) (by decide) r p depth he he2
  unfold gamehallkeep1_MinimaxLines gamehallkeep1_MinimaxLines.e
  rw [h3, Option.bind_some, hnear, Option.bind_some, line_three, Option.bind_some, bif_f (by rfl), bif_f (by rfl), chk_of (by rfl), hput, Option.bind_some, bif_f (by rfl), scored_trueL, Option.bind_some, bif_f (by rfl), plays_trueL, Option.bind_some, bif_f (by rfl), hh, Option.bind_some]
  cases hv with
  | true => rfl
  | false =>
    rw [bif_f rfl, hz, Option.bind_some]
    by_cases h0 : e = 0
    · subst h0
      obtain ⟨hr, hp, d1, d2⟩ := he2 rfl
      obtain ⟨d, rfl⟩ : ∃ d : Nat, depth = d := ⟨depth.toNat, by omega⟩
      rcases hz2 with ⟨h, _⟩ | ⟨_, z1, z2⟩
      · exact absurd rfl h
      rw [Int.toNat_natCast] at z2
      have hsz : sizeP r d p ≤ 50000 := by
        have := mcheck_sizeL (N := 300000000) (by decide) hr hp (d := d) (by omega)
        rw [he] at this
        by_cases q : sizeP r d p ≤ 50000
        · exact q
        · rw [if_neg q] at this; cases this
      obtain ⟨f1, f2, f3, f4⟩ := path_facts hr z.1 d p hp z2
      rw [score_good (by decide) r p (d : Int) he hr hp d1 d2, Option.bind_some, Int.toNat_natCast]
      dsimp only
      rw [fine_eq (by simp) (by simp), Option.bind_some, bif_f (by simp [z1]), bif_f (ltI_f (by omega))]
      have hv2 := val_bound hr (d - z.1.length) (by omega) f2
      refine mm0_l hr p (d : Int) (val r d p) z.1 (by omega) 1000 (some true) z.1 0 300000000 d p (by rw [List.drop_zero]) (by omega) hp z2 fun n hn => ?_
      have hck := mcheck_sizeL (N := 300000000) (by decide) hr f2 (d := d - z.1.length) (by omega)
      rw [if_pos (by omega)] at hck
      rw [w64_id (by omega) (by omega), show (d : Int) - (z.1.length : Int) = ((d - z.1.length : Nat) : Int) by omega, score_good (by decide) r _ _ hck hr f2 (by omega) (by omega), Option.bind_some, Int.toNat_natCast]
      exact mm1_l 300000000 r p (d : Int) (val r d p) z.1.length (by omega) z.1.length 0 n _ (by omega) (by omega) (by omega) (by omega) f4.symm
    · rcases hz2 with ⟨_, z1⟩ | ⟨h, _⟩
      · rw [z1, score_bad (by decide) r p depth he h0, Option.bind_some]
        dsimp only
        rw [fine_eq (by simp) (by simp), Option.bind_some, bif_t (by simp [h0]), bif_t (eqI_self _)]
        rfl
      · exact absurd h h0
end Go.Proofs.Ytiacnffpgdikoaa.Am
