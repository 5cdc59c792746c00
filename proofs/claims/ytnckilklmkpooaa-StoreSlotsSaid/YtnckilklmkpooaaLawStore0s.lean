/- Plain: the store of scores: a new one, what is kept, what is found. -/
import Derived.Test.YtnckilklmkpooaaLawBoards
import Derived.Test.YtnckilklmkpooaaLawEquals
set_option linter.unusedVariables false
set_option linter.unusedSimpArgs false
set_option linter.unusedSectionVars false
namespace Go.Proofs.Ytnckilklmkpooaa.Am
open Go

abbrev EntT := PosT × (Int × (Int × Bool))
abbrev StoT := RulesT × (List EntT × (Int × Int))
abbrev zS : EntT := ((([] : List Int), ((([] : List Int), ([] : List Int)), ((0 : Int), (0 : Int)))), ((0 : Int), ((0 : Int), false)))
theorem wheelS (a : Int) (n : Nat) (h0 : 0 < n) (h1 : n ≤ 10000) : ∃ k : Nat, Int.tmod (w64 (Int.tmod a (n : Int) + (n : Int))) (n : Int) = (k : Int) ∧ k < n := by
  have b1 : -(n : Int) < Int.tmod a (n : Int) := Int.lt_tmod_of_pos a (by omega)
  have b2 : Int.tmod a (n : Int) < (n : Int) := Int.tmod_lt_of_pos a (by omega)
  rw [w64_id (by omega) (by omega)]
  have c1 : 0 ≤ Int.tmod (Int.tmod a (n : Int) + (n : Int)) (n : Int) := Int.tmod_nonneg _ (by omega)
  have c2 := Int.tmod_lt_of_pos (Int.tmod a (n : Int) + (n : Int)) (b := (n : Int)) (by omega)
  exact ⟨(Int.tmod (Int.tmod a (n : Int) + (n : Int)) (n : Int)).toNat, by omega, by omega⟩
/-- the slot of a position -/
def slotN (n : Nat) (p : PosT) : Nat := (U (keyS p) % (n : Int)).toNat
theorem U_small {n : Nat} (h : n ≤ 100000) : U (n : Int) = (n : Int) := by rw [U_eq]; omega
theorem slot_eq {n : Nat} (h1 : 0 < n) (h2 : n ≤ 4096) (p : PosT) : Int.tmod (U (keyS p)) (U (n : Int)) = (slotN n p : Int) ∧ slotN n p < n := by
  rw [U_small (by omega)]
  have h0 : 0 ≤ U (keyS p) := by rw [U_eq]; omega
  have e := Int.tmod_eq_emod_of_nonneg (b := (n : Int)) h0
  have b1 := Int.emod_nonneg (U (keyS p)) (b := (n : Int)) (by omega)
  have b2 := Int.emod_lt_of_pos (U (keyS p)) (b := (n : Int)) (by omega)
  unfold slotN
  rw [e]
  omega
/-- positions are compared -/
theorem pos_same {N : Nat} (hN : 1000 ≤ N) {a b : PosT} (ha0 : a.1.length ≤ 100) (ha1 : a.2.1.1.length ≤ 100) (ha2 : a.2.1.2.length ≤ 100) (hb0 : b.1.length ≤ 100) (hb1 : b.2.1.1.length ≤ 100) (hb2 : b.2.1.2.length ≤ 100) (hq : a.2.2.2 = b.2.2.2) : place_Same N a b = some (decide (a = b)) := by
  obtain ⟨c, ⟨⟨h0, h1⟩, ⟨t, q⟩⟩⟩ := a
  obtain ⟨c', ⟨⟨h0', h1'⟩, ⟨t', q'⟩⟩⟩ := b
  dsimp only at *
  subst hq
  unfold place_Same place_Same.e
  dsimp only
  rw [equal_eq (by omega) (by omega) (by omega), equal_eq (by omega) (by omega) (by omega), equal_eq (by omega) (by omega) (by omega)]
  by_cases e1 : t = t' <;> by_cases e2 : c = c' <;> by_cases e3 : h0 = h0' <;> by_cases e4 : h1 = h1' <;> simp [e1, e2, e3, e4, eqI]
theorem pos_len {r : RulesT} {p : PosT} (hr : ROk r) (hp : POk r p) : p.1.length ≤ 100 ∧ p.2.1.1.length ≤ 100 ∧ p.2.1.2.length ≤ 100 := by
  have := len_le hr hp
  have h0 := hp.h0
  have h1 := hp.h1
  have h6 := hr.ps.le
  have h6 : r.2.2.2.1.length ≤ 6 := h6
  omega
/-- a store that is as it should be -/
structure SOk (s : StoT) : Prop where
  r : ROk s.1
  n0 : 0 < s.2.1.length
  n1 : s.2.1.length ≤ 4096
  es : ∀ e ∈ s.2.1, e.2.2.2 = true → POk s.1 e.1
theorem newS {N : Nat} (hN : 1000 ≤ N) (r : RulesT) {v : Nat} (h1 : 1 ≤ v) (h2 : v ≤ 4096) : (∃ e, e ≠ 0 ∧ store_New N r (v : Int) = some (none, e)) ∨ (ROk r ∧ store_New N r (v : Int) = some (some (r, (List.replicate v zS, (0, 0))), 0)) := by
  obtain ⟨e, he, he2⟩ := rcheck hN r
  unfold store_New store_New.e
  rw [he, Option.bind_some]
  by_cases h0 : e = 0
  · refine Or.inr ⟨he2.1 h0, ?_⟩
    have hr := he2.1 h0
    rw [bif_f (by rw [eqI_t h0]; rfl), bif_f (ltI_f (by omega)), bif_f (ltI_f (by omega)), rcopy_eq hN hr, Option.bind_some, Option.bind_some, bothK_same, chk_of]
    · rw [Int.toNat_natCast]
    · rw [Int.toNat_natCast, leI_t (by omega), decide_eq_true (by omega)]
      unfold capOk
      rw [decide_eq_true (by omega)]
      rfl
  · exact Or.inl ⟨e, h0, by rw [bif_t (by rw [eqI_f h0]; rfl)]⟩
theorem new_SOk {r : RulesT} (hr : ROk r) {v : Nat} (h1 : 1 ≤ v) (h2 : v ≤ 4096) (a b : Int) : SOk (r, (List.replicate v zS, (a, b))) := by
  refine ⟨hr, by simp; omega, by simp; omega, fun e he h => ?_⟩
  have := List.eq_of_mem_replicate he
  subst this
  cases h
/-- the entry of a position's slot -/
def entS (s : StoT) (p : PosT) : EntT := s.2.1.getD (slotN s.2.1.length p) zS
def keepS (s : StoT) (p : PosT) (d sc : Int) : StoT :=
  if (entS s p).2.2.2 = true ∧ d < (entS s p).2.1 then s
  else (s.1, (s.2.1.set (slotN s.2.1.length p) (p, (d, (sc, true))), ((if (entS s p).2.2.2 = true then s.2.2.1 else w64 (s.2.2.1 + 1)), s.2.2.2)))
section
variable {N : Nat} (hN : 1000 ≤ N) {s : StoT} (hs : SOk s) {p : PosT} (hp : POk s.1 p)
include hN hs hp
theorem keep_eq (d sc : Int) : store_Store_keep' N s p d sc = some (keepS s p d sc) := by
  have h1 := slot_eq hs.n0 hs.n1 p
  have hn0 := hs.n0
  have hn1 := hs.n1
  have hU : U (s.2.1.length : Int) = (s.2.1.length : Int) := U_small (by omega)
  have he : entS s p = s.2.1.getD (slotN s.2.1.length p) ((([] : List Int), ((([] : List Int), ([] : List Int)), ((0 : Int), (0 : Int)))), ((0 : Int), ((0 : Int), false))) := rfl
  unfold store_Store_keep' store_Store_keep'.e keepS
  dsimp only
  rw [of_eq hs.r hp hN, Option.bind_some, bif_f (eqI_f (by show U (s.2.1.length : Int) ≠ 0; omega))]
  show chk ((leI 0 (Int.tmod (U (keyS p)) (U (s.2.1.length : Int)))) && (ltI (Int.tmod (U (keyS p)) (U (s.2.1.length : Int))) (s.2.1.length : Int))) _ = _
  rw [h1.1, chk_of (idx_ok h1.2), gD_nat', Int.toNat_natCast, copy_eq hs.r hp]
  simp only [Option.bind_some]
  rw [← he]
  cases hu : (entS s p).2.2.2 with
  | true =>
    rw [bif_t rfl]
    by_cases c : d < (entS s p).2.1
    · rw [bif_t (ltI_t c), if_pos ⟨rfl, c⟩]
    · rw [bif_f (ltI_f (by omega)), bif_f (by rfl), if_neg (fun h => c h.2), if_pos rfl]
  | false =>
    rw [bif_f rfl, bif_t (by rfl), if_neg (fun h => by cases h.1), if_neg (fun h => by cases h)]
theorem keep_SOk (d sc : Int) : SOk (keepS s p d sc) := by
  unfold keepS
  split
  · exact hs
  · refine ⟨hs.r, by simpa using hs.n0, by simpa using hs.n1, fun e he h => ?_⟩
    rcases List.mem_or_eq_of_mem_set he with e1 | e1
    · exact hs.es e e1 h
    · rw [e1]; exact hp
theorem find_eq (d : Int) : store_Store_find' N s p d = some (if (entS s p).2.2.2 = true ∧ (entS s p).2.1 = d ∧ (entS s p).1 = p then ((entS s p).2.2.1, (true, (s.1, (s.2.1, (s.2.2.1, w64 (s.2.2.2 + 1)))))) else (0, (false, s))) := by
  have h1 := slot_eq hs.n0 hs.n1 p
  have hn0 := hs.n0
  have hn1 := hs.n1
  have hU : U (s.2.1.length : Int) = (s.2.1.length : Int) := U_small (by omega)
  have hlp := pos_len hs.r hp
  have hent : entS s p ∈ s.2.1 := by
    unfold entS
    rw [List.getD_eq_getElem?_getD, List.getElem?_eq_getElem h1.2]
    exact List.getElem_mem _
  have he : entS s p = s.2.1.getD (slotN s.2.1.length p) ((([] : List Int), ((([] : List Int), ([] : List Int)), ((0 : Int), (0 : Int)))), ((0 : Int), ((0 : Int), false))) := rfl
  unfold store_Store_find' store_Store_find'.e
  dsimp only
  rw [of_eq hs.r hp hN, Option.bind_some, bif_f (eqI_f (by show U (s.2.1.length : Int) ≠ 0; omega))]
  show chk ((leI 0 (Int.tmod (U (keyS p)) (U (s.2.1.length : Int)))) && (ltI (Int.tmod (U (keyS p)) (U (s.2.1.length : Int))) (s.2.1.length : Int))) _ = _
  rw [h1.1, chk_of (idx_ok h1.2), gD_nat', ← he]
  cases hu : (entS s p).2.2.2 with
  | false =>
    rw [bif_t (by rfl), if_neg (fun h => by cases h.1)]
  | true =>
    have hpe := hs.es _ hent hu
    have hle := pos_len hs.r hpe
    rw [bif_f (by rfl)]
    by_cases c : (entS s p).2.1 = d
    · rw [bif_f (by rw [eqI_t c]; rfl)]
      by_cases c2 : (entS s p).1.2.2.2 = p.2.2.2
      · rw [bif_f (by rw [eqI_t c2]; rfl), pos_same hN hle.1 hle.2.1 hle.2.2 hlp.1 hlp.2.1 hlp.2.2 c2, Option.bind_some]
        by_cases c3 : (entS s p).1 = p
        · rw [bif_f (by rw [decide_eq_true c3]; rfl), if_pos ⟨rfl, c, c3⟩]
        · rw [bif_t (by rw [decide_eq_false c3]; rfl), if_neg (fun h => c3 h.2.2)]
      · rw [bif_t (by rw [eqI_f c2]; rfl), if_neg (fun h => c2 (by rw [h.2.2]))]
    · rw [bif_t (by rw [eqI_f c]; rfl), if_neg (fun h => c h.2.1)]
end
theorem check_ret {N : Nat} (hN : 1000 ≤ N) {s : StoT} (hs : SOk s) (p : PosT) (d : Int) : Ret (store_Store_check N s p d) fun v => v = 0 ↔ POk s.1 p ∧ 0 ≤ d ∧ d ≤ 12 := by
  obtain ⟨v, hv, hv2⟩ := pcheck hN s.1 p
  unfold store_Store_check store_Store_check.e
  rw [hv, Option.bind_some]
  by_cases h0 : v = 0
  · have := hv2.1 h0
    rw [bif_f (by rw [eqI_t h0]; rfl)]
    by_cases c : d < 0
    · rw [bif_t (ltI_t c)]; exact Ret.ret ⟨fun h => (by cases h), fun h => by omega⟩
    · rw [bif_f (ltI_f (by omega))]
      by_cases c2 : 12 < d
      · rw [bif_t (ltI_t c2)]; exact Ret.ret ⟨fun h => (by cases h), fun h => by omega⟩
      · rw [bif_f (ltI_f (by omega))]; exact Ret.ret ⟨fun _ => ⟨this.2, by omega, by omega⟩, fun _ => rfl⟩
  · rw [bif_t (by rw [eqI_f h0]; rfl)]
    exact Ret.ret ⟨fun h => absurd h h0, fun h => absurd (hv2.2 ⟨hs.r, h.1⟩) h0⟩
theorem put_ret {N : Nat} (hN : 1000 ≤ N) {s : StoT} (hs : SOk s) (p : PosT) (d : Int) {sc : Int} (h1 : -1000 ≤ sc) (h2 : sc ≤ 1000) : Ret (store_Store_Put' N s p d sc) fun z => (z.1 ≠ 0 ∧ z.2 = s) ∨ (z.1 = 0 ∧ POk s.1 p ∧ 0 ≤ d ∧ d ≤ 12 ∧ z.2 = keepS s p d sc) := by
  obtain ⟨v, hv, hv2⟩ := check_ret hN hs p d
  unfold store_Store_Put' store_Store_Put'.e
  rw [hv, Option.bind_some]
  by_cases h0 : v = 0
  · obtain ⟨hp, d1, d2⟩ := hv2.1 h0
    rw [bif_f (by rw [eqI_t h0]; rfl), bif_f (ltI_f (by omega)), bif_f (ltI_f (by omega)), keep_eq hN hs hp, Option.bind_some]
    exact Ret.ret (Or.inr ⟨rfl, hp, d1, d2, rfl⟩)
  · rw [bif_t (by rw [eqI_f h0]; rfl)]
    exact Ret.ret (Or.inl ⟨h0, rfl⟩)
theorem get_eq {N : Nat} (hN : 1000 ≤ N) {s : StoT} (hs : SOk s) {p : PosT} (hp : POk s.1 p) {d : Int} (d1 : 0 ≤ d) (d2 : d ≤ 12) : store_Store_Get' N s p d = some (if (entS s p).2.2.2 = true ∧ (entS s p).2.1 = d ∧ (entS s p).1 = p then ((entS s p).2.2.1, (0, (s.1, (s.2.1, (s.2.2.1, w64 (s.2.2.2 + 1)))))) else (0, (8, s))) := by
  obtain ⟨v, hv, hv2⟩ := check_ret hN hs p d
  unfold store_Store_Get' store_Store_Get'.e
  rw [hv, Option.bind_some, bif_f (by rw [eqI_t (hv2.2 ⟨hp, d1, d2⟩)]; rfl), find_eq hN hs hp, Option.bind_some]
  split
  · rfl
  · rfl
end Go.Proofs.Ytnckilklmkpooaa.Am
