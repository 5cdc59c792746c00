/- The plain law StoreScores: the plain function says true at every input; with the looks at a store and what they need. -/
import Derived.Test.YtnckilklmkpooaaGreatLawDoz
import Derived.Test.YtnckilklmkpooaaGreatLawBoardz
import Derived.Test.YtnckilklmkpooaaGreatLawEqualz
import Derived.Test.YtnckilklmkpooaaGreatLawMoves0z
import Derived.Test.YtnckilklmkpooaaGreatLawScore0z
import Derived.Test.YtnckilklmkpooaaGreatLawCheckz
set_option linter.unusedVariables false
set_option linter.unusedSimpArgs false
set_option linter.unusedSectionVars false
namespace Go.Proofs.YtnckilklmkpooaaGreat.Am
open Go

/-! ### DoEq -/
section
variable {r : RulesT} (hr : ROk r) {p : PosT} (hp : POk r p)
include hr hp
theorem do_eq (N : Nat) {m : MvT} (hm : MoveOk r p m) : moves_Do N r p m = some (doI r p m) := by
  have hll := len_le hr hp
  have hl := hp.len
  have h0 := hp.h0
  have h1 := hp.h1
  have hto := hm.to
  have hpi := hm.piece
  have hlast := hp.last
  have hc := cell_ok hp hto
  have hcell : moves_Cell N m.2.2 p.2.2.1 = some (2 * m.2.2 + p.2.2.1 + 1) := by
    unfold moves_Cell moves_Cell.e
    simp (disch := omega) only [w64_id]
  have hk : gD 0 p.1 m.2.1 ≠ 0 → moves_Kind N (gD 0 p.1 m.2.1) = some (kindI (gD 0 p.1 m.2.1)) ∧ 0 ≤ kindI (gD 0 p.1 m.2.1) ∧ kindI (gD 0 p.1 m.2.1) < (r.2.2.2.1).length := fun h => ⟨kind_eq (by omega) (by omega), kind_lt (by omega) hc.2⟩
  have hb0 : ∀ i : Int, 0 ≤ i → i < (r.2.2.2.1).length → 0 ≤ gD 0 (p.2.1.1) i ∧ gD 0 (p.2.1.1) i ≤ 1000 := fun i hi hi' => gD_ok hp.o0 hi (by omega)
  have hb1 : ∀ i : Int, 0 ≤ i → i < (r.2.2.2.1).length → 0 ≤ gD 0 (p.2.1.2) i ∧ gD 0 (p.2.1.2) i ≤ 1000 := fun i hi hi' => gD_ok hp.o1 hi (by omega)
  have hm0 := hb0 _ hpi.1 hpi.2
  have hm1 := hb1 _ hpi.1 hpi.2
  unfold moves_Do moves_Do.e
  rw [copy_eq hr hp, Option.bind_some, hcell]
  unfold doI setH hand2 hand1 cells2 handT
  by_cases hs : m.1 < 0
  · have hz : gD 0 p.1 m.2.1 = 0 := by
      rcases hm.src with h | h
      · exact h.2.1
      · omega
    rw [bif_t (ltI_t hs)]
    rcases hlast.1 with ht | ht
    · rw [bif_t (eqI_t ht)]
      simp (disch := omega) only [chk_idx, w64_id, hz, eqI_t, Bool.not_true, cond_false, Option.bind_some, if_pos hs, if_pos ht, Bool.cond_false]
      simp [hs]
    · rw [bif_f (eqI_f (by omega)), bif_t (eqI_t ht)]
      simp (disch := omega) only [chk_idx, w64_id, hz, eqI_t, Bool.not_true, cond_false, Option.bind_some, if_pos hs, if_neg (show ¬ p.2.2.1 = 0 by omega)]
      simp [hs]
  · have hsrc : 0 ≤ m.1 ∧ m.1 < r.2.1 * r.2.2.1 := by
      rcases hm.src with h | h
      · omega
      · exact ⟨h.1, h.2.1⟩
    rw [bif_f (ltI_f (by omega))]
    simp only [if_neg hs]
    by_cases hz : gD 0 p.1 m.2.1 = 0
    · simp (disch := omega) only [chk_idx, w64_id, hz, eqI_t, Bool.not_true, cond_false, Option.bind_some, List.length_set]
      by_cases h200 : 200 < p.2.2.2 + 1
      · rcases hlast.1 with ht | ht <;> simp [hs, ht, ltI_t h200, h200]
      · rcases hlast.1 with ht | ht <;> simp [hs, ht, ltI_f (show p.2.2.2 + 1 ≤ 200 by omega), h200]
    · obtain ⟨hk1, hk2, hk3⟩ := hk hz
      have hk0 := hb0 _ hk2 hk3
      have hk1' := hb1 _ hk2 hk3
      rw [hk1]
      rcases hlast.1 with ht | ht
      · simp (disch := omega) only [chk_idx, w64_id, eqI_f hz, eqI_t ht, Bool.not_false, cond_true, Option.bind_some, List.length_set, if_pos ht]
        by_cases h1000 : 1000 < gD 0 p.2.1.1 (kindI (gD 0 p.1 m.2.1)) + 1
        · cases hK : r.2.2.2.2.2.2.1 <;> simp [hs, ht, hz, ltI_t h1000, h1000]
        · cases hK : r.2.2.2.2.2.2.1 <;> simp [hs, ht, hz, ltI_f (show gD 0 p.2.1.1 (kindI (gD 0 p.1 m.2.1)) + 1 ≤ 1000 by omega), h1000]
      · simp (disch := omega) only [chk_idx, w64_id, eqI_f hz, eqI_f (show p.2.2.1 ≠ 0 by omega), eqI_t ht, Bool.not_false, cond_true, cond_false, Option.bind_some, List.length_set, if_neg (show ¬ p.2.2.1 = 0 by omega)]
        by_cases h1000 : 1000 < gD 0 p.2.1.2 (kindI (gD 0 p.1 m.2.1)) + 1
        · cases hK : r.2.2.2.2.2.2.1 <;> simp [hs, ht, hz, ltI_t h1000, h1000]
        · cases hK : r.2.2.2.2.2.2.1 <;> simp [hs, ht, hz, ltI_f (show gD 0 p.2.1.2 (kindI (gD 0 p.1 m.2.1)) + 1 ≤ 1000 by omega), h1000]
end

/-! ### Contains -/
/-- is a move in a list? -/
theorem index_l0 (N : Nat) (l : List MvT) (v : MvT) (hl : l.length ≤ 100000) : ∀ (k j n : Nat), j + k = l.length → k < n → Ret (slices_Index_api_Move_api_Move.l0 N l v n (j : Int)) fun i => 0 ≤ i ↔ v ∈ l.drop j
  | 0, j, n, hk, hn => by
    obtain ⟨n, rfl⟩ := nxt (n := n) (by omega)
    rw [slices_Index_api_Move_api_Move.l0_s, slices_Index_api_Move_api_Move.s0, bif_f (ltI_f (by omega)), List.drop_of_length_le (by omega)]
    exact Ret.ret (by simp)
  | k + 1, j, n, hk, hn => by
    obtain ⟨n, rfl⟩ := nxt (n := n) (by omega)
    have hj : j < l.length := by omega
    have ih := index_l0 N l v hl k (j + 1) n (by omega) (by omega)
    rw [slices_Index_api_Move_api_Move.l0_s, slices_Index_api_Move_api_Move.s0, bif_t (ltI_t (by omega)), chk_of (idx_ok hj), gD_nat hj, mv_eq, w64_id (by omega) (by omega), show ((j : Int) + 1) = ((j + 1 : Nat) : Int) by omega, List.drop_eq_getElem_cons hj, List.mem_cons]
    by_cases h : v = l[j]
    · rw [bif_t (by simpa using h)]
      exact Ret.ret ⟨fun _ => Or.inl h, fun _ => by omega⟩
    · rw [bif_f (by simpa using h)]
      exact ih.mono fun i hi => hi.trans ⟨Or.inr, fun h' => h'.resolve_left h⟩
theorem contains_eq {N : Nat} (l : List MvT) (v : MvT) (hl : l.length ≤ 100000) (hN : 200000 ≤ N) : slices_Contains_api_Move_api_Move N l v = some (decide (v ∈ l)) := by
  unfold slices_Contains_api_Move_api_Move slices_Contains_api_Move_api_Move.e slices_Index_api_Move_api_Move slices_Index_api_Move_api_Move.e
  obtain ⟨i, h1, h2⟩ := index_l0 N l v hl l.length 0 N (by omega) (by omega)
  rw [List.drop_zero] at h2
  rw [show ((0 : Nat) : Int) = 0 from rfl] at h1
  rw [h1, Option.bind_some]
  by_cases h : v ∈ l
  · rw [leI_t (h2.2 h), decide_eq_true h]
  · rw [leI_f (by have := mt h2.1 h; omega), decide_eq_false h]

/-! ### DoF -/
abbrev noP : PosT := ([], (([], []), (0, 0)))
section
variable {N : Nat} (hN : 200000 ≤ N) {r : RulesT} (hr : ROk r) {p : PosT} (hp : POk r p) {l : List MvT} (hl : moves_Gen N r p = some l) (hg : IsGen r p l)
include hN hr hp hl hg
theorem all_good : moves_All N r p = some (l, 0) := by
  unfold moves_All moves_All.e
  rw [pcheck_ok (by omega) hr hp, Option.bind_some, bif_f (by rfl), hl, Option.bind_some]
theorem legal_good (m : MvT) : moves_Legal N r p m = some (decide (m ∈ l), 0) := by
  have := hg.len
  unfold moves_Legal moves_Legal.e
  rw [pcheck_ok (by omega) hr hp, Option.bind_some, bif_f (by rfl), hl, Option.bind_some, contains_eq l m (by omega) hN, Option.bind_some]
theorem after_good {m : MvT} (hm : m ∈ l) : moves_After N r p m = some (doI r p m, 0) := by
  unfold moves_After moves_After.e
  rw [legal_good hN hr hp hl hg, Option.bind_some, bif_f (by rfl), bif_f (by simp [hm]), do_eq hr hp N (cand_ok hr hp ((hg.mem m).1 hm)), Option.bind_some]
theorem after_none {m : MvT} (hm : m ∉ l) : moves_After N r p m = some (noP, 13) := by
  unfold moves_After moves_After.e
  rw [legal_good hN hr hp hl hg, Option.bind_some, bif_f (by rfl), bif_t (by simp [hm])]
end
theorem all_bad {N : Nat} {r : RulesT} {p : PosT} {v : Int} (hv : place_Check N r p = some v) (h0 : v ≠ 0) : moves_All N r p = some ([], v) := by
  unfold moves_All moves_All.e
  rw [hv, Option.bind_some, bif_t (by simp [eqI, h0])]

/-! ### Store0 -/
abbrev EntT := PosT × (Int × (Int × Bool))
abbrev StoT := RulesT × (List EntT × (Int × Int))
abbrev zS : EntT := ((([] : List Int), ((([] : List Int), ([] : List Int)), ((0 : Int), (0 : Int)))), ((0 : Int), ((0 : Int), false)))
theorem wheelS (a : Int) (n : Nat) (h0 : 0 < n) (h1 : n ≤ 10000) : ∃ k : Nat, Int.tmod (w64 (Int.tmod a (n : Int) + (n : Int))) (n : Int) = (k : Int) ∧ k < n := by
  have b1 : -(n : Int) < Int.tmod a (n : Int) := Int.lt_tmod_of_pos a (by omega)
  have b2 : Int.tmod a (n : Int) < (n : Int) := Int.tmod_lt_of_pos a (by omega)
  rw [w64_id (by omega) (by omega)]
  have c1 : 0 ≤ Int.tmod (Int.tmod a (n : Int) + (n : Int)) (n : Int) := Int.tmod_nonneg _ (by omega)
  have c2 := Int.tmod_lt_of_pos (Int.tmod a (n : Int) + (n : Int)) (b := (n : Int)) (by omega)
  exact ⟨(Int.tmod (Int.tmod a (n : Int) + (n : Int)) (n : Int)).toNat, by omega, by omega⟩
/-- the slot of a position -/
def slotN (n : Nat) (p : PosT) : Nat := (U (keyS p) % (n : Int)).toNat
theorem U_small {n : Nat} (h : n ≤ 100000) : U (n : Int) = (n : Int) := by rw [U_eq]; omega
theorem slot_eq {n : Nat} (h1 : 0 < n) (h2 : n ≤ 4096) (p : PosT) : Int.tmod (U (keyS p)) (U (n : Int)) = (slotN n p : Int) ∧ slotN n p < n := by
  rw [U_small (by omega)]
  have h0 : 0 ≤ U (keyS p) := by rw [U_eq]; omega
  have e := Int.tmod_eq_emod_of_nonneg (b := (n : Int)) h0
  have b1 := Int.emod_nonneg (U (keyS p)) (b := (n : Int)) (by omega)
  have b2 := Int.emod_lt_of_pos (U (keyS p)) (b := (n : Int)) (by omega)
  unfold slotN
  rw [e]
  omega
/-- positions are compared -/
theorem pos_same {N : Nat} (hN : 1000 ≤ N) {a b : PosT} (ha0 : a.1.length ≤ 100) (ha1 : a.2.1.1.length ≤ 100) (ha2 : a.2.1.2.length ≤ 100) (hb0 : b.1.length ≤ 100) (hb1 : b.2.1.1.length ≤ 100) (hb2 : b.2.1.2.length ≤ 100) (hq : a.2.2.2 = b.2.2.2) : place_Same N a b = some (decide (a = b)) := by
  obtain ⟨c, ⟨⟨h0, h1⟩, ⟨t, q⟩⟩⟩ := a
  obtain ⟨c', ⟨⟨h0', h1'⟩, ⟨t', q'⟩⟩⟩ := b
  dsimp only at *
  subst hq
  unfold place_Same place_Same.e
  dsimp only
  rw [equal_eq (by omega) (by omega) (by omega), equal_eq (by omega) (by omega) (by omega), equal_eq (by omega) (by omega) (by omega)]
  by_cases e1 : t = t' <;> by_cases e2 : c = c' <;> by_cases e3 : h0 = h0' <;> by_cases e4 : h1 = h1' <;> simp [e1, e2, e3, e4, eqI]
theorem pos_len {r : RulesT} {p : PosT} (hr : ROk r) (hp : POk r p) : p.1.length ≤ 100 ∧ p.2.1.1.length ≤ 100 ∧ p.2.1.2.length ≤ 100 := by
  have := len_le hr hp
  have h0 := hp.h0
  have h1 := hp.h1
  have h6 := hr.ps.le
  have h6 : r.2.2.2.1.length ≤ 6 := h6
  omega
/-- a store that is as it should be -/
structure SOk (s : StoT) : Prop where
  r : ROk s.1
  n0 : 0 < s.2.1.length
  n1 : s.2.1.length ≤ 4096
  es : ∀ e ∈ s.2.1, e.2.2.2 = true → POk s.1 e.1
theorem newS {N : Nat} (hN : 1000 ≤ N) (r : RulesT) {v : Nat} (h1 : 1 ≤ v) (h2 : v ≤ 4096) : (∃ e, e ≠ 0 ∧ store_New N r (v : Int) = some (none, e)) ∨ (ROk r ∧ store_New N r (v : Int) = some (some (r, (List.replicate v zS, (0, 0))), 0)) := by
  obtain ⟨e, he, he2⟩ := rcheck hN r
  unfold store_New store_New.e
  rw [he, Option.bind_some]
  by_cases h0 : e = 0
  · refine Or.inr ⟨he2.1 h0, ?_⟩
    have hr := he2.1 h0
    rw [bif_f (by rw [eqI_t h0]; rfl), bif_f (ltI_f (by omega)), bif_f (ltI_f (by omega)), rcopy_eq hN hr, Option.bind_some, Option.bind_some, bothK_same, chk_of]
    · rw [Int.toNat_natCast]
    · rw [Int.toNat_natCast, leI_t (by omega), decide_eq_true (by omega)]
      unfold capOk
      rw [decide_eq_true (by omega)]
      rfl
  · exact Or.inl ⟨e, h0, by rw [bif_t (by rw [eqI_f h0]; rfl)]⟩
theorem new_SOk {r : RulesT} (hr : ROk r) {v : Nat} (h1 : 1 ≤ v) (h2 : v ≤ 4096) (a b : Int) : SOk (r, (List.replicate v zS, (a, b))) := by
  refine ⟨hr, by simp; omega, by simp; omega, fun e he h => ?_⟩
  have := List.eq_of_mem_replicate he
  subst this
  cases h
/-- the entry of a position's slot -/
def entS (s : StoT) (p : PosT) : EntT := s.2.1.getD (slotN s.2.1.length p) zS
def keepS (s : StoT) (p : PosT) (d sc : Int) : StoT :=
  if (entS s p).2.2.2 = true ∧ d < (entS s p).2.1 then s
  else (s.1, (s.2.1.set (slotN s.2.1.length p) (p, (d, (sc, true))), ((if (entS s p).2.2.2 = true then s.2.2.1 else w64 (s.2.2.1 + 1)), s.2.2.2)))
section
variable {N : Nat} (hN : 1000 ≤ N) {s : StoT} (hs : SOk s) {p : PosT} (hp : POk s.1 p)
include hN hs hp
theorem keep_eq (d sc : Int) : store_Store_keep' N s p d sc = some (keepS s p d sc) := by
  have h1 := slot_eq hs.n0 hs.n1 p
  have hn0 := hs.n0
  have hn1 := hs.n1
  have hU : U (s.2.1.length : Int) = (s.2.1.length : Int) := U_small (by omega)
  have he : entS s p = s.2.1.getD (slotN s.2.1.length p) ((([] : List Int), ((([] : List Int), ([] : List Int)), ((0 : Int), (0 : Int)))), ((0 : Int), ((0 : Int), false))) := rfl
  unfold store_Store_keep' store_Store_keep'.e keepS
  dsimp only
  rw [of_eq hs.r hp hN, Option.bind_some, bif_f (eqI_f (by show U (s.2.1.length : Int) ≠ 0; omega))]
  show chk ((leI 0 (Int.tmod (U (keyS p)) (U (s.2.1.length : Int)))) && (ltI (Int.tmod (U (keyS p)) (U (s.2.1.length : Int))) (s.2.1.length : Int))) _ = _
  rw [h1.1, chk_of (idx_ok h1.2), gD_nat', Int.toNat_natCast, copy_eq hs.r hp]
  simp only [Option.bind_some]
  rw [← he]
  cases hu : (entS s p).2.2.2 with
  | true =>
    rw [bif_t rfl]
    by_cases c : d < (entS s p).2.1
    · rw [bif_t (ltI_t c), if_pos ⟨rfl, c⟩]
    · rw [bif_f (ltI_f (by omega)), bif_f (by rfl), if_neg (fun h => c h.2), if_pos rfl]
  | false =>
    rw [bif_f rfl, bif_t (by rfl), if_neg (fun h => by cases h.1), if_neg (fun h => by cases h)]
theorem keep_SOk (d sc : Int) : SOk (keepS s p d sc) := by
  unfold keepS
  split
  · exact hs
  · refine ⟨hs.r, by simpa using hs.n0, by simpa using hs.n1, fun e he h => ?_⟩
    rcases List.mem_or_eq_of_mem_set he with e1 | e1
    · exact hs.es e e1 h
    · rw [e1]; exact hp
theorem find_eq (d : Int) : store_Store_find' N s p d = some (if (entS s p).2.2.2 = true ∧ (entS s p).2.1 = d ∧ (entS s p).1 = p then ((entS s p).2.2.1, (true, (s.1, (s.2.1, (s.2.2.1, w64 (s.2.2.2 + 1)))))) else (0, (false, s))) := by
  have h1 := slot_eq hs.n0 hs.n1 p
  have hn0 := hs.n0
  have hn1 := hs.n1
  have hU : U (s.2.1.length : Int) = (s.2.1.length : Int) := U_small (by omega)
  have hlp := pos_len hs.r hp
  have hent : entS s p ∈ s.2.1 := by
    unfold entS
    rw [List.getD_eq_getElem?_getD, List.getElem?_eq_getElem h1.2]
    exact List.getElem_mem _
  have he : entS s p = s.2.1.getD (slotN s.2.1.length p) ((([] : List Int), ((([] : List Int), ([] : List Int)), ((0 : Int), (0 : Int)))), ((0 : Int), ((0 : Int), false))) := rfl
  unfold store_Store_find' store_Store_find'.e
  dsimp only
  rw [of_eq hs.r hp hN, Option.bind_some, bif_f (eqI_f (by show U (s.2.1.length : Int) ≠ 0; omega))]
  show chk ((leI 0 (Int.tmod (U (keyS p)) (U (s.2.1.length : Int)))) && (ltI (Int.tmod (U (keyS p)) (U (s.2.1.length : Int))) (s.2.1.length : Int))) _ = _
  rw [h1.1, chk_of (idx_ok h1.2), gD_nat', ← he]
  cases hu : (entS s p).2.2.2 with
  | false =>
    rw [bif_t (by rfl), if_neg (fun h => by cases h.1)]
  | true =>
    have hpe := hs.es _ hent hu
    have hle := pos_len hs.r hpe
    rw [bif_f (by rfl)]
    by_cases c : (entS s p).2.1 = d
    · rw [bif_f (by rw [eqI_t c]; rfl)]
      by_cases c2 : (entS s p).1.2.2.2 = p.2.2.2
      · rw [bif_f (by rw [eqI_t c2]; rfl), pos_same hN hle.1 hle.2.1 hle.2.2 hlp.1 hlp.2.1 hlp.2.2 c2, Option.bind_some]
        by_cases c3 : (entS s p).1 = p
        · rw [bif_f (by rw [decide_eq_true c3]; rfl), if_pos ⟨rfl, c, c3⟩]
        · rw [bif_t (by rw [decide_eq_false c3]; rfl), if_neg (fun h => c3 h.2.2)]
      · rw [bif_t (by rw [eqI_f c2]; rfl), if_neg (fun h => c2 (by rw [h.2.2]))]
    · rw [bif_t (by rw [eqI_f c]; rfl), if_neg (fun h => c h.2.1)]
end
theorem check_ret {N : Nat} (hN : 1000 ≤ N) {s : StoT} (hs : SOk s) (p : PosT) (d : Int) : Ret (store_Store_check N s p d) fun v => v = 0 ↔ POk s.1 p ∧ 0 ≤ d ∧ d ≤ 12 := by
  obtain ⟨v, hv, hv2⟩ := pcheck hN s.1 p
  unfold store_Store_check store_Store_check.e
  rw [hv, Option.bind_some]
  by_cases h0 : v = 0
  · have := hv2.1 h0
    rw [bif_f (by rw [eqI_t h0]; rfl)]
    by_cases c : d < 0
    · rw [bif_t (ltI_t c)]; exact Ret.ret ⟨fun h => (by cases h), fun h => by omega⟩
    · rw [bif_f (ltI_f (by omega))]
      by_cases c2 : 12 < d
      · rw [bif_t (ltI_t c2)]; exact Ret.ret ⟨fun h => (by cases h), fun h => by omega⟩
      · rw [bif_f (ltI_f (by omega))]; exact Ret.ret ⟨fun _ => ⟨this.2, by omega, by omega⟩, fun _ => rfl⟩
  · rw [bif_t (by rw [eqI_f h0]; rfl)]
    exact Ret.ret ⟨fun h => absurd h h0, fun h => absurd (hv2.2 ⟨hs.r, h.1⟩) h0⟩
theorem put_ret {N : Nat} (hN : 1000 ≤ N) {s : StoT} (hs : SOk s) (p : PosT) (d : Int) {sc : Int} (h1 : -1000 ≤ sc) (h2 : sc ≤ 1000) : Ret (store_Store_Put' N s p d sc) fun z => (z.1 ≠ 0 ∧ z.2 = s) ∨ (z.1 = 0 ∧ POk s.1 p ∧ 0 ≤ d ∧ d ≤ 12 ∧ z.2 = keepS s p d sc) := by
  obtain ⟨v, hv, hv2⟩ := check_ret hN hs p d
  unfold store_Store_Put' store_Store_Put'.e
  rw [hv, Option.bind_some]
  by_cases h0 : v = 0
  · obtain ⟨hp, d1, d2⟩ := hv2.1 h0
    rw [bif_f (by rw [eqI_t h0]; rfl), bif_f (ltI_f (by omega)), bif_f (ltI_f (by omega)), keep_eq hN hs hp, Option.bind_some]
    exact Ret.ret (Or.inr ⟨rfl, hp, d1, d2, rfl⟩)
  · rw [bif_t (by rw [eqI_f h0]; rfl)]
    exact Ret.ret (Or.inl ⟨h0, rfl⟩)
theorem get_eq {N : Nat} (hN : 1000 ≤ N) {s : StoT} (hs : SOk s) {p : PosT} (hp : POk s.1 p) {d : Int} (d1 : 0 ≤ d) (d2 : d ≤ 12) : store_Store_Get' N s p d = some (if (entS s p).2.2.2 = true ∧ (entS s p).2.1 = d ∧ (entS s p).1 = p then ((entS s p).2.2.1, (0, (s.1, (s.2.1, (s.2.2.1, w64 (s.2.2.2 + 1)))))) else (0, (8, s))) := by
  obtain ⟨v, hv, hv2⟩ := check_ret hN hs p d
  unfold store_Store_Get' store_Store_Get'.e
  rw [hv, Option.bind_some, bif_f (by rw [eqI_t (hv2.2 ⟨hp, d1, d2⟩)]; rfl), find_eq hN hs hp, Option.bind_some]
  split
  · rfl
  · rfl

/-! ### StoreVal -/
/-- how many entries are used -/
def usedN : List EntT → Nat
  | [] => 0
  | e :: l => (if e.2.2.2 = true then 1 else 0) + usedN l
theorem usedN_le : ∀ l : List EntT, usedN l ≤ l.length
  | [] => Nat.le_refl _
  | e :: l => by
    have := usedN_le l
    unfold usedN
    split
    · simp only [List.length_cons]; omega
    · simp only [List.length_cons]; omega
theorem usedN_set : ∀ (l : List EntT) (i : Nat) (e : EntT), i < l.length → e.2.2.2 = true → usedN (l.set i e) + (if (l.getD i zS).2.2.2 = true then 1 else 0) = usedN l + 1
  | x :: l, 0, e, h, he => by
    show (if e.2.2.2 = true then 1 else 0) + usedN l + (if x.2.2.2 = true then 1 else 0) = (if x.2.2.2 = true then 1 else 0) + usedN l + 1
    rw [if_pos he]
    omega
  | x :: l, i + 1, e, h, he => by
    have := usedN_set l i e (by simpa using h) he
    show (if x.2.2.2 = true then 1 else 0) + usedN (l.set i e) + (if (l.getD i zS).2.2.2 = true then 1 else 0) = (if x.2.2.2 = true then 1 else 0) + usedN l + 1
    omega
theorem usedN_rep : ∀ v, usedN (List.replicate v zS) = 0
  | 0 => rfl
  | v + 1 => by
    have := usedN_rep v
    show (if zS.2.2.2 = true then 1 else 0) + usedN (List.replicate v zS) = 0
    rw [this]
    rfl
/-- a store whose scores are right -/
structure GOk (s : StoT) : Prop where
  ok : SOk s
  v : ∀ e ∈ s.2.1, e.2.2.2 = true → ∃ d : Nat, d ≤ 12 ∧ e.2.1 = (d : Int) ∧ e.2.2.1 = val s.1 d e.1
  many : s.2.2.1 = (usedN s.2.1 : Int)
theorem new_GOk {r : RulesT} (hr : ROk r) {v : Nat} (h1 : 1 ≤ v) (h2 : v ≤ 4096) : GOk (r, (List.replicate v zS, (0, 0))) := by
  refine ⟨new_SOk hr h1 h2 0 0, fun e he h => ?_, by rw [usedN_rep]; rfl⟩
  have := List.eq_of_mem_replicate he
  subst this
  cases h
section
variable {s : StoT} (hs : GOk s) {p : PosT} (hp : POk s.1 p)
include hs hp
theorem ent_mem : entS s p ∈ s.2.1 := by
  unfold entS
  rw [List.getD_eq_getElem?_getD, List.getElem?_eq_getElem (slot_eq hs.ok.n0 hs.ok.n1 p).2]
  exact List.getElem_mem _
theorem keep_GOk {d : Nat} (hd : d ≤ 12) : GOk (keepS s p (d : Int) (val s.1 d p)) ∧ (keepS s p (d : Int) (val s.1 d p)).1 = s.1 ∧ (keepS s p (d : Int) (val s.1 d p)).2.1.length = s.2.1.length := by
  have hk := keep_SOk (N := 1000) (by omega) hs.ok hp (d : Int) (val s.1 d p)
  have hsl := (slot_eq hs.ok.n0 hs.ok.n1 p).2
  have hle := usedN_le s.2.1
  have hn1 := hs.ok.n1
  have hu := usedN_set s.2.1 (slotN s.2.1.length p) (p, ((d : Int), (val s.1 d p, true))) hsl rfl
  have hm := hs.many
  unfold keepS at hk ⊢
  split
  · exact ⟨hs, rfl, rfl⟩
  · rename_i hn
    rw [if_neg hn] at hk
    refine ⟨⟨hk, fun e he h => ?_, ?_⟩, rfl, by simp⟩
    · rcases List.mem_or_eq_of_mem_set he with e1 | e1
      · exact hs.v e e1 h
      · rw [e1]; exact ⟨d, hd, rfl, rfl⟩
    · show (if (entS s p).2.2.2 = true then s.2.2.1 else w64 (s.2.2.1 + 1)) = _
      have he : entS s p = s.2.1.getD (slotN s.2.1.length p) zS := rfl
      rw [← he] at hu
      by_cases c : (entS s p).2.2.2 = true
      · rw [if_pos c] at hu ⊢
        rw [hm]
        show (usedN s.2.1 : Int) = (usedN (s.2.1.set (slotN s.2.1.length p) (p, ((d : Int), (val s.1 d p, true)))) : Int)
        omega
      · rw [if_neg c] at hu ⊢
        rw [hm, w64_id (by omega) (by omega)]
        show (usedN s.2.1 : Int) + 1 = (usedN (s.2.1.set (slotN s.2.1.length p) (p, ((d : Int), (val s.1 d p, true)))) : Int)
        omega
/-- what is found is right -/
theorem find_ret {N : Nat} (hN : 1000 ≤ N) (d : Nat) : Ret (store_Store_find' N s p (d : Int)) fun z => (z.2.1 = true → z.1 = val s.1 d p) ∧ GOk z.2.2 ∧ z.2.2.1 = s.1 ∧ z.2.2.2.1.length = s.2.1.length := by
  rw [find_eq hN hs.ok hp]
  refine Ret.ret ?_
  split
  · rename_i h
    refine ⟨fun _ => ?_, ⟨⟨hs.ok.r, hs.ok.n0, hs.ok.n1, hs.ok.es⟩, hs.v, hs.many⟩, rfl, rfl⟩
    obtain ⟨d', _, h2, h3⟩ := hs.v _ (ent_mem hs hp) h.1
    have : d' = d := by have := h.2.1; omega
    subst this
    show (entS s p).2.2.1 = _
    rw [h3, h.2.2]
  · exact ⟨fun h => (by cases h), hs, rfl, rfl⟩
end
theorem bpos_eq (N : Nat) {b : BoardT} (hb : BOk b) : board_Board_Position N b = some b.2.1 := by
  unfold board_Board_Position board_Board_Position.e
  rw [copy_eq hb.r hb.p, Option.bind_some]
abbrev SvT := StoT → BoardT → Int → Option (Int × StoT × BoardT)
def sv0 (N : Nat) (self : SvT) (s0 : StoT) (b0 : BoardT) (depth : Int) (n : Nat) (best len j : Int) (s : StoT) (b : BoardT) (p : PosT) (ms : List MvT) : Option (Int × StoT × BoardT) :=
  store_Store_value''.l0 N self s0 b0 depth n best len j s.1.1 s.1.2.1 s.1.2.2.1 s.1.2.2.2.1 s.1.2.2.2.2.1 s.1.2.2.2.2.2.1 s.1.2.2.2.2.2.2.1 s.1.2.2.2.2.2.2.2.1 s.1.2.2.2.2.2.2.2.2.1 s.1.2.2.2.2.2.2.2.2.2.1 s.1.2.2.2.2.2.2.2.2.2.2 s.2.2.1 s.2.2.2 b.1.1 b.1.2.1 b.1.2.2.1 b.1.2.2.2.2.2.1 b.1.2.2.2.2.2.2.1 b.1.2.2.2.2.2.2.2.2.1 b.1.2.2.2.2.2.2.2.2.2.1 b.1.2.2.2.2.2.2.2.2.2.2 b.2.1.2.2.1 b.2.1.2.2.2 b.2.2.1 p.1 p.2.1.1 p.2.1.2 p.2.2.1 p.2.2.2 s.2.1 ms b.1.2.2.2.1 b.1.2.2.2.2.1 b.1.2.2.2.2.2.2.2.1 b.2.1.1 b.2.1.2.1.1 b.2.1.2.1.2 b.2.2.2
theorem sv0_s (N : Nat) (self : SvT) (s0 : StoT) (b0 : BoardT) (depth : Int) (n : Nat) (best len j : Int) (s : StoT) (b : BoardT) (p : PosT) (ms : List MvT) : sv0 N self s0 b0 depth (n + 1) best len j s b p ms =
    bif ltI j len then (chk ((leI 0 j) && (ltI j (ms.length : Int))) <|
      (board_Board_Make' N b (gD z0 ms j)).bind fun y7 =>
      (self s y7 (w64 (depth - 1))).bind fun y8 =>
      (minimax_Nearer N (w64 (0 - y8.1))).bind fun y9 =>
      (board_Board_Undo' N y8.2.2).bind fun y11 =>
      sv0 N self s0 b0 depth n (bif (ltI best y9) then y9 else best) len (w64 (j + 1)) y8.2.1 y11.2 p ms)
    else (store_Store_keep' N s p depth best).bind fun y12 => some (best, (y12, b)) := rfl
theorem sv_e (N : Nat) (s : StoT) (b : BoardT) (depth : Int) : store_Store_value'' (N + 1) s b depth =
    (board_Board_Result N b).bind fun y1 =>
    bif (!(eqI y1 0)) then ((board_Board_Turn N b).bind fun y2 =>
      (ends_Score N y1 y2).bind fun y3 =>
      some (y3, (s, b)))
    else bif (eqI depth 0) then (some (0, (s, b)))
    else (board_Board_Position N b).bind fun y4 =>
    (store_Store_find' N s y4 depth).bind fun y5 =>
    bif y5.2.1 then (some (y5.1, (y5.2.2, b)))
    else (board_Board_Moves N b).bind fun y6 =>
    sv0 N (store_Store_value'' N) s b depth N (-1000) (y6.length : Int) 0 y5.2.2 b y4 y6 := rfl
abbrev SvQ (s : StoT) (b : BoardT) (v : Int) (z : Int × StoT × BoardT) : Prop := z.1 = v ∧ z.2.2 = b ∧ GOk z.2.1 ∧ z.2.1.1 = s.1 ∧ z.2.1.2.1.length = s.2.1.length
theorem sv_l0 {N : Nat} (hN : 1000 ≤ N) (self : SvT) (s0 : StoT) (b0 : BoardT) (d : Nat) (hd : d ≤ 11) {b : BoardT} (hb : BOk b) (hl : b.2.2.2.length ≤ 100000) (ms : List MvT) (hms : ∀ m ∈ ms, MoveOk b.1 b.2.1 m) (hlen : ms.length ≤ 100000)
    (hself : ∀ (s : StoT) m, m ∈ ms → GOk s → s.1 = b.1 → Ret (self s (makeB b m) (d : Int)) (SvQ s (makeB b m) (val b.1 d (doI b.1 b.2.1 m)))) : ∀ (k j n : Nat) (best : Int) (s : StoT), j + k = ms.length → k < n → GOk s → s.1 = b.1 →
    foldMax best ((ms.drop j).map fun m => near (-(val b.1 d (doI b.1 b.2.1 m)))) = val b.1 (d + 1) b.2.1 →
    Ret (sv0 N self s0 b0 ((d + 1 : Nat) : Int) n best (ms.length : Int) (j : Int) s b b.2.1 ms) (SvQ s b (val b.1 (d + 1) b.2.1))
  | 0, j, n, best, s, hk, hn, hs, hsr, hv => by
    obtain ⟨n, rfl⟩ := nxt (n := n) (by omega)
    rw [List.drop_of_length_le (by omega)] at hv
    have hv : best = val b.1 (d + 1) b.2.1 := hv
    have hp : POk s.1 b.2.1 := by rw [hsr]; exact hb.p
    rw [sv0_s, bif_f (ltI_f (by omega)), keep_eq hN hs.ok hp, Option.bind_some, hv, ← hsr]
    have := keep_GOk hs hp (d := d + 1) (by omega)
    exact Ret.ret ⟨rfl, rfl, this.1, this.2.1, this.2.2⟩
  | k + 1, j, n, best, s, hk, hn, hs, hsr, hv => by
    obtain ⟨n, rfl⟩ := nxt (n := n) (by omega)
    have hj : j < ms.length := by omega
    have hmem : ms[j] ∈ ms := List.getElem_mem _
    have hmo := hms _ hmem
    have hvb := val_bound hb.r d (by omega) (do_ok hb.r hb.p hmo)
    rw [sv0_s, bif_t (ltI_t (by omega)), chk_of (idx_ok hj), gD_nat hj, make_eq hb hl hmo, Option.bind_some, w64_id (x := ((d + 1 : Nat) : Int) - 1) (by omega) (by omega), show ((d + 1 : Nat) : Int) - 1 = (d : Int) by omega]
    refine Ret.bnd (hself s _ hmem hs hsr) fun z hz => ?_
    obtain ⟨z1, z2, z3, z4, z5⟩ := hz
    rw [z1, z2, w64_id (x := 0 - val b.1 d (doI b.1 b.2.1 ms[j])) (by omega) (by omega), nearer_eq N (by omega), Option.bind_some, undo_make hb hl hmo, Option.bind_some, w64_id (by omega) (by omega), show ((j : Int) + 1) = ((j + 1 : Nat) : Int) by omega, show 0 - val b.1 d (doI b.1 b.2.1 ms[j]) = -(val b.1 d (doI b.1 b.2.1 ms[j])) by omega]
    rw [List.drop_eq_getElem_cons hj] at hv
    refine Ret.mono (sv_l0 hN self s0 b0 d hd hb hl ms hms hlen hself k (j + 1) n _ z.2.1 (by omega) (by omega) z3 (by rw [z4]; exact hsr) hv) fun y hy => ?_
    exact ⟨hy.1, hy.2.1, hy.2.2.1, by rw [hy.2.2.2.1]; exact z4, by rw [hy.2.2.2.2]; exact z5⟩
theorem sv_ok : ∀ (d N : Nat), 200000000 + d < N → d ≤ 12 → ∀ {s : StoT} {b : BoardT}, BOk b → GOk s → s.1 = b.1 → b.2.2.2.length + d ≤ 100000 → Ret (store_Store_value'' N s b (d : Int)) (SvQ s b (val b.1 d b.2.1))
  | d, N, hN, hd, s, b, hb, hs, hsr, hl => by
    obtain ⟨N, rfl⟩ := nxt (n := N) (by omega)
    have ht := hb.p.last.1
    rw [sv_e, bresult_eq (by omega) hb, Option.bind_some]
    by_cases h : resV b.1 b.2.1 = 0
    · rw [bif_f (by rw [eqI_t h]; rfl)]
      cases d with
      | zero =>
        rw [bif_t (by rfl)]
        refine Ret.ret ⟨?_, rfl, hs, rfl, rfl⟩
        unfold val
        rw [if_neg (by simp [h])]
      | succ d =>
        have hp : POk s.1 b.2.1 := by rw [hsr]; exact hb.p
        rw [bif_f (eqI_f (by omega)), bpos_eq N hb, Option.bind_some]
        refine Ret.bnd (find_ret hs hp (N := N) (by omega) (d + 1)) fun z hz => ?_
        obtain ⟨z1, z2, z3, z4⟩ := hz
        refine Ret.bif (fun c => ?_) (fun c => ?_)
        · exact Ret.ret ⟨by rw [← hsr]; exact z1 c, rfl, z2, z3, z4⟩
        · obtain ⟨l, hl1, _, hl2⟩ := bmoves_ret (N := N) (by omega) hb
          have hg := hl2 h
          have hgl := hg.len
          rw [hl1, Option.bind_some]
          have hself : ∀ (s : StoT) m, m ∈ l → GOk s → s.1 = b.1 → Ret (store_Store_value'' N s (makeB b m) (d : Int)) (SvQ s (makeB b m) (val b.1 d (doI b.1 b.2.1 m))) := fun s m hm g1 g2 => by
            have hmo := cand_ok hb.r hb.p ((hg.mem m).1 hm)
            exact sv_ok d N (by omega) (by omega) (make_ok hb (by omega) hmo) g1 g2 (by
              show (b.2.2.2 ++ [undoI b m]).length + d ≤ 100000
              rw [List.length_append]
              simp only [List.length_singleton]
              omega)
          have := sv_l0 (N := N) (by omega) (store_Store_value'' N) s b d (by omega) hb (by omega) l (fun m hm => cand_ok hb.r hb.p ((hg.mem m).1 hm)) (by omega) hself l.length 0 N (-1000) z.2.2 (by omega) (by omega) z2 (by rw [z3]; exact hsr) (by
            rw [List.drop_zero, val_open hb.r h]
            apply foldMax_ext
            intro x
            simp only [List.mem_map]
            constructor
            · rintro ⟨m, hm, rfl⟩; exact ⟨m, (hg.mem m).1 hm, rfl⟩
            · rintro ⟨m, hm, rfl⟩; exact ⟨m, (hg.mem m).2 hm, rfl⟩)
          rw [show ((0 : Nat) : Int) = 0 from rfl] at this
          refine Ret.mono this fun y hy => ⟨hy.1, hy.2.1, hy.2.2.1, by rw [hy.2.2.2.1]; exact z3, by rw [hy.2.2.2.2]; exact z4⟩
    · rw [bif_t (by rw [eqI_f h]; rfl)]
      show Ret ((some b.2.1.2.2.1).bind _) _
      rw [Option.bind_some, escore_eq N _ ht, Option.bind_some]
      exact Ret.ret ⟨(val_over hb.r h d).symm, rfl, hs, rfl, rfl⟩

/-! ### Stored -/
abbrev threeS : RulesT := ((⟨#[84, 73, 67]⟩ : ByteArray), (3, (3, ([(65, (5, (0, [])))], ((List.replicate (9 : Int).toNat (0 : Int)), (false, (false, ([(0, (0, (3, false)))], (2, (0, 0))))))))))
theorem threeS_eq : gamehallkeep1_three 300000000 = some threeS := rfl
theorem three_ok : rules_Check 300000000 threeS = some 0 := by decide +kernel
theorem three_new (v : Nat) (h1 : 1 ≤ v) (h2 : v ≤ 4096) : store_New 300000000 threeS (v : Int) = some (some (threeS, (List.replicate v zS, (0, 0))), 0) := by
  rcases newS (N := 300000000) (by decide) threeS h1 h2 with ⟨e, h0, he⟩ | ⟨_, h⟩
  · obtain ⟨e2, g1, g2⟩ := rcheck (N := 300000000) (by decide) threeS
    exfalso
    have hr := g2.1 (by rw [three_ok] at g1; exact (Option.some.inj g1).symm)
    unfold store_New store_New.e at he
    rw [three_ok, Option.bind_some, bif_f (by rfl), bif_f (ltI_f (by omega)), bif_f (ltI_f (by omega)), rcopy_eq (by decide) hr, Option.bind_some, Option.bind_some, bothK_same, chk_of] at he
    · simp at he
    · rw [Int.toNat_natCast, leI_t (by omega), decide_eq_true (by omega)]
      unfold capOk
      rw [decide_eq_true (by omega)]
      rfl
  · exact h
theorem stored_true : gamehallkeep1_stored 300000000 = some true := by
  have h1 := three_new 1 (by omega) (by omega)
  have h9 := three_new 9 (by omega) (by omega)
  rw [show ((1 : Nat) : Int) = 1 from rfl] at h1
  rw [show ((9 : Nat) : Int) = 9 from rfl] at h9
  unfold gamehallkeep1_stored gamehallkeep1_stored.e
  simp only [threeS_eq, Option.bind_some, h1, h9]
  decide +kernel

/-! ### StoreScores -/
theorem plays_trueS : gamehallkeep1_plays 300000000 = some true := by decide +kernel
theorem scored_trueS : gamehallkeep1_scored 300000000 = some true := by decide +kernel
theorem some_eqS (N : Nat) {l : List MvT} (n : Int) (h0 : 0 < l.length) (h1 : l.length ≤ 10000) : Ret (gamehallkeep1_some_api_Move N l n) fun m => m ∈ l := by
  obtain ⟨k, hk1, hk2⟩ := wheelS n l.length h0 h1
  unfold gamehallkeep1_some_api_Move gamehallkeep1_some_api_Move.e
  rw [bif_f (eqI_f (by omega)), bif_f (eqI_f (by omega)), hk1]
  dsimp only
  rw [chk_of (idx_ok hk2), gD_nat hk2]
  exact Ret.ret (List.getElem_mem hk2)
def ss0 (N : Nat) (r : RulesT) (p0 : PosT) (depth size : Int) (picks : List Int) (n : Nat) (sz len j : Int) (p : PosT) (s : StoT) : Option Bool :=
  gamehallkeep1_StoreScores.l0 N r p0 depth size picks n sz len j p.1 p.2.1.1 p.2.1.2 p.2.2.1 p.2.2.2 s.1.1 s.1.2.1 s.1.2.2.1 s.1.2.2.2.1 s.1.2.2.2.2.1 s.1.2.2.2.2.2.1 s.1.2.2.2.2.2.2.1 s.1.2.2.2.2.2.2.2.1 s.1.2.2.2.2.2.2.2.2.1 s.1.2.2.2.2.2.2.2.2.2.1 s.1.2.2.2.2.2.2.2.2.2.2 s.2.2.1 s.2.2.2 s.2.1
theorem ss0_s (N : Nat) (r : RulesT) (p0 : PosT) (depth size : Int) (picks : List Int) (n : Nat) (sz len j : Int) (p : PosT) (s : StoT) : ss0 N r p0 depth size picks (n + 1) sz len j p s =
  bif (ltI j len) then ((store_Store_Score' N s p depth).bind fun y10 =>
    (minimax_Score N r p depth).bind fun y11 =>
    bif (!(eqI y10.2.1 y11.2)) then some false
    else bif (!(eqI y10.1 y11.1)) then some false
    else (store_Store_Len N y10.2.2).bind fun y12 =>
    bif (ltI sz y12) then some false
    else (moves_All N r p).bind fun y13 =>
    bif (!(eqI y10.2.1 0)) then some true
    else bif (!(eqI y13.2 0)) then some true
    else bif (eqI (y13.1.length : Int) 0) then some true
    else bif (eqI j (picks.length : Int)) then some true
    else chk ((leI 0 j) && (ltI j (picks.length : Int))) <|
    (gamehallkeep1_some_api_Move N y13.1 (gD (0 : Int) picks j)).bind fun y16 =>
    (moves_After N r p y16).bind fun y17 =>
    bif (!(eqI y17.2 0)) then (some (eqI y17.2 0))
    else (gamehallkeep1_heavy N r y17.1 depth).bind fun y18 =>
    bif y18 then (some (eqI y17.2 0))
    else ss0 N r p0 depth size picks n sz len (w64 (j + 1)) y17.1 y10.2.2)
  else some true := rfl
theorem ss_l0 (r : RulesT) (hr : ROk r) (p0 : PosT) (depth size : Int) (picks : List Int) (sz K : Nat) (hK : K ≤ 4) (hKp : K ≤ picks.length + 1) : ∀ (k j n : Nat) (p : PosT) (s : StoT), j + k = K → k < n → GOk s → s.1 = r → s.2.1.length = sz →
    ss0 300000000 r p0 depth size picks n (sz : Int) (K : Int) (j : Int) p s = some true
  | 0, j, n, p, s, hk, hn, hs, hsr, hsz => by
    obtain ⟨n, rfl⟩ := nxt (n := n) (by omega)
    rw [ss0_s, bif_f (ltI_f (by omega))]
  | k + 1, j, n, p, s, hk, hn, hs, hsr, hsz => by
    obtain ⟨n, rfl⟩ := nxt (n := n) (by omega)
    obtain ⟨e, he, he2⟩ := mcheck_ret (N := 300000000) (by decide) r p depth
    have hmany : ∀ s : StoT, GOk s → s.2.1.length = sz → ltI (sz : Int) s.2.2.1 = false := fun s hs h => by
      rw [hs.many]
      have := usedN_le s.2.1
      exact ltI_f (by omega)
    have hlen : ∀ s : StoT, store_Store_Len 300000000 s = some s.2.2.1 := fun s => rfl
    rw [ss0_s, bif_t (ltI_t (by omega))]
    by_cases h0 : e = 0
    · subst h0
      obtain ⟨_, hp, d1, d2⟩ := he2 rfl
      obtain ⟨d, rfl⟩ : ∃ d : Nat, depth = d := ⟨depth.toNat, by omega⟩
      obtain ⟨z, hz, z1, z2, z3, z4, z5⟩ := sv_ok d 300000000 (by omega) (by omega) (s := s) (b := (r, (p, (U (keyS p), [])))) ⟨hr, hp, rfl⟩ hs hsr (by simp; omega)
      have hsc : store_Store_Score' 300000000 s p (d : Int) = some (val r d p, (0, z.2.1)) := by
        unfold store_Store_Score' store_Store_Score'.e
        rw [hsr, he, Option.bind_some, bif_f (by rfl), new_good (by decide) hr hp, Option.bind_some]
        simp only [oCase]
        rw [hz, Option.bind_some, z1]
      obtain ⟨l, hl, hg⟩ := gen_ret hr hp (N := 300000000) (by decide)
      have hgl := hg.len
      rw [hsc, Option.bind_some, score_good (by decide) r p (d : Int) he hr hp d1 d2, Option.bind_some, Int.toNat_natCast]
      dsimp only
      rw [bif_f (by rw [eqI_self]; rfl), bif_f (by rw [eqI_self]; rfl), hlen, Option.bind_some, bif_f (hmany _ z3 (by rw [z5]; exact hsz)), all_good (by decide) hr hp hl hg, Option.bind_some, bif_f (by rfl), bif_f (by rfl)]
      dsimp only
      by_cases hl0 : l.length = 0
      · rw [bif_t (eqI_t (by omega))]
      · rw [bif_f (eqI_f (by omega))]
        by_cases hj : j = picks.length
        · rw [bif_t (eqI_t (by omega))]
        · rw [bif_f (eqI_f (by omega)), chk_of (idx_ok (by omega))]
          obtain ⟨m, hm1, hm2⟩ := some_eqS 300000000 (l := l) (gD (0 : Int) picks (j : Int)) (by omega) (by omega)
          rw [hm1, Option.bind_some, after_good (by decide) hr hp hl hg hm2, Option.bind_some, bif_f (by rfl)]
          obtain ⟨hv, hh, _⟩ := heavy_ret (N := 300000000) (by decide) r (doI r p m) (d : Int)
          rw [hh, Option.bind_some]
          cases hv with
          | true => rfl
          | false =>
            rw [bif_f rfl, w64_id (x := (j : Int) + 1) (by omega) (by omega), show ((j : Int) + 1) = ((j + 1 : Nat) : Int) by omega]
            exact ss_l0 r hr p0 (d : Int) size picks sz K hK hKp k (j + 1) n (doI r p m) z.2.1 (by omega) (by omega) z3 (by rw [z4]; exact hsr) (by rw [z5]; exact hsz)
    · have hsc : store_Store_Score' 300000000 s p depth = some (0, (e, s)) := by
        unfold store_Store_Score' store_Store_Score'.e
        rw [hsr, he, Option.bind_some, bif_t (by rw [eqI_f h0]; rfl)]
      have hall : Ret (moves_All 300000000 r p) fun _ => True := by
        obtain ⟨v, hv, hv2⟩ := pcheck (N := 300000000) (by decide) r p
        by_cases hv0 : v = 0
        · obtain ⟨_, hp⟩ := hv2.1 hv0
          obtain ⟨l, hl, hg⟩ := gen_ret hr hp (N := 300000000) (by decide)
          exact Ret.of_eq (all_good (by decide) hr hp hl hg) trivial
        · exact Ret.of_eq (all_bad hv hv0) trivial
      obtain ⟨za, hza, _⟩ := hall
      rw [hsc, Option.bind_some, score_bad (by decide) r p depth he h0, Option.bind_some]
      dsimp only
      rw [bif_f (by rw [eqI_self]; rfl), bif_f (by rw [eqI_self]; rfl), hlen, Option.bind_some, bif_f (hmany _ hs hsz), hza, Option.bind_some, bif_t (by rw [eqI_f h0]; rfl)]
theorem storeScores_at (r : RulesT) (p : PosT) (depth size : Int) (picks : List Int) : gamehallkeep1_StoreScores 300000000 r p depth size picks = some true := by
  unfold gamehallkeep1_StoreScores gamehallkeep1_StoreScores.e
  rw [stored_true, Option.bind_some, bif_f (by rfl), scored_trueS, Option.bind_some, bif_f (by rfl), plays_trueS, Option.bind_some, bif_f (by rfl)]
  obtain ⟨k, hk1, hk2⟩ := wheelS size 64 (by omega) (by omega)
  rw [show ((64 : Nat) : Int) = 64 from rfl] at hk1
  rw [hk1, w64_id (x := (k : Int) + 1) (by omega) (by omega), show ((k : Int) + 1) = ((k + 1 : Nat) : Int) by omega]
  dsimp only
  rcases newS (N := 300000000) (by decide) r (v := k + 1) (by omega) (by omega) with ⟨e, h0, he⟩ | ⟨hr, h⟩
  · rw [he, Option.bind_some]
    show (bif (!(eqI e 0)) then (some (!(eqI e 0))) else some (!(eqI e 0))) = some true
    rw [eqI_f h0]
    rfl
  · rw [h, Option.bind_some]
    simp only [oCase]
    obtain ⟨hv, hh, _⟩ := heavy_ret (N := 300000000) (by decide) r p depth
    rw [bif_f (by rfl), hh, Option.bind_some]
    cases hv with
    | true => rfl
    | false =>
      rw [bif_f rfl]
      have hmin : ∃ K : Nat, w64 ((bif (ltI 3 (picks.length : Int)) then 3 else (picks.length : Int)) + 1) = (K : Int) ∧ K ≤ 4 ∧ K ≤ picks.length + 1 := by
        by_cases c : 3 < (picks.length : Int)
        · rw [bif_t (ltI_t c)]
          exact ⟨4, by decide, by omega, by omega⟩
        · rw [bif_f (ltI_f (by omega)), w64_id (by omega) (by omega)]
          exact ⟨picks.length + 1, by omega, by omega, by omega⟩
      obtain ⟨K, hK, hK4, hKp⟩ := hmin
      rw [hK]
      exact ss_l0 r hr p depth size picks (k + 1) K hK4 hKp K 0 300000000 p (r, (List.replicate (k + 1) zS, (0, 0))) (by omega) (by omega) (new_GOk hr (by omega) (by omega)) rfl (by simp)
end Go.Proofs.YtnckilklmkpooaaGreat.Am
