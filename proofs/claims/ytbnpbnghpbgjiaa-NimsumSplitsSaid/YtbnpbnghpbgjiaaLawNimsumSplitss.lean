/- The plain law NimsumSplits: the plain function says true at every input of bytes. -/
import Derived.Test.YtbnpbnghpbgjiaaLawNsB0s
import Derived.Test.YtbnpbnghpbgjiaaLawNsB1s
import Derived.Test.YtbnpbnghpbgjiaaLawNsB2s
import Derived.Test.YtbnpbnghpbgjiaaLawNsB3s
set_option linter.unusedVariables false
set_option linter.unusedSimpArgs false
namespace Go.Proofs.Ytbnpbnghpbgjiaa.Am
open Go

def insN (a : Nat) : List Nat → List Nat
  | [] => [a]
  | b :: l => if a ≤ b then a :: b :: l else b :: insN a l
def srtN (l : List Nat) : List Nat := l.foldr insN []
def nsAll : List (List Nat) := nsL0 ++ nsL1 ++ nsL2 ++ nsL3
theorem nsAll_ok : nsAll.all nsOk = true := by
  unfold nsAll
  simp only [List.all_append, nsT0, nsT1, nsT2, nsT3, Bool.and_self]
theorem ns_in0 : nsAll.contains [] = true := by decide +kernel
theorem ns_in1 : ∀ a : Nat, a < 7 → nsAll.contains [a] = true := by decide +kernel
theorem ns_in2 : ∀ a : Nat, a < 7 → ∀ b : Nat, b < 7 → (nsAll.contains (srtN [a, b]) && Nat.beq (grF 0 (srtN [a, b])) (grF 0 [a, b])) = true := by decide +kernel
theorem ns_in3 : ∀ a : Nat, a < 7 → ∀ b : Nat, b < 7 → ∀ c : Nat, c < 7 → (nsAll.contains (srtN [a, b, c]) && Nat.beq (grF 0 (srtN [a, b, c])) (grF 0 [a, b, c])) = true := by decide +kernel

/-! ### the sort of few bytes -/
theorem len_some : ∀ k : Nat, k < 4 → (math_bits_Len 300000000 (IntKind.wrap .u64 (k : Int))).isSome = true := by decide +kernel
theorem sort_few {N : Nat} {m : List Int} (hl : m.length < 4) {y : Int} (hy : math_bits_Len (N + 2) (IntKind.wrap .u64 (m.length : Int)) = some y) : slices_Sort_byte_byte' (N + 2) m = slices_insertionSortOrdered_byte' (N + 1) m 0 (m.length : Int) := by
  unfold slices_Sort_byte_byte' slices_Sort_byte_byte'.e
  rw [hy, Option.bind_some, slices_pdqsortOrdered_byte'_s]
  unfold slices_pdqsortOrdered_byte'.e
  rw [slices_pdqsortOrdered_byte'.l0_s, slices_pdqsortOrdered_byte'.s0, bif_t (by rw [w64_id (by omega) (by omega)]; exact leI_t (by omega))]
  cases slices_insertionSortOrdered_byte' (N + 1) m 0 (m.length : Int) <;> rfl
theorem ins1 : ∀ a : Nat, a < 7 → slices_insertionSortOrdered_byte' 299999999 (nI [a]) 0 1 = some (nI [a]) := by decide +kernel
theorem ins2 : ∀ a : Nat, a < 7 → ∀ b : Nat, b < 7 → slices_insertionSortOrdered_byte' 299999999 (nI [a, b]) 0 2 = some (nI (srtN [a, b])) := by decide +kernel
theorem ins3 : ∀ a : Nat, a < 7 → ∀ b : Nat, b < 7 → ∀ c : Nat, c < 7 → slices_insertionSortOrdered_byte' 299999999 (nI [a, b, c]) 0 3 = some (nI (srtN [a, b, c])) := by decide +kernel
theorem ins0 : slices_insertionSortOrdered_byte' 299999999 (nI []) 0 0 = some (nI []) := by decide +kernel

/-- what comes behind the loop -/
def nsFin (w : Nat) (m : List Nat) : Option Bool :=
  (slices_Sort_byte_byte' 300000000 (nI m)).bind fun y8 => (nimsum_Value_string 300000000 () (strOfNums y8) 20000).bind fun y9 => bif (eqI y9.2 0) then (some (eqI y9.1 (w : Int))) else some false
theorem ns_ok {t : List Nat} (h : nsAll.contains t = true) : nimsum_Value_string 300000000 () (strOfNums (nI t)) 20000 = some (((grF 0 t : Nat) : Int), 0) :=
  of_decide_eq_true (List.all_eq_true.1 nsAll_ok t (List.contains_iff_mem.1 h))
theorem ns_fin {m s : List Nat} (hl : m.length < 4) (hs : slices_insertionSortOrdered_byte' 299999999 (nI m) 0 (m.length : Int) = some (nI s)) (hc : nsAll.contains s = true) (hg : grF 0 s = grF 0 m) : nsFin (grF 0 m) m = some true := by
  have hn : (nI m).length = m.length := List.length_map _
  have h := len_some m.length hl
  cases hy : math_bits_Len 300000000 (IntKind.wrap .u64 (m.length : Int)) with
  | none => rw [hy] at h; cases h
  | some y =>
    unfold nsFin
    rw [sort_few (N := 299999998) (by rw [hn]; exact hl) (y := y) (by rw [hn]; exact hy), hn, hs, Option.bind_some, ns_ok hc, Option.bind_some]
    rw [hg]
    show (bif eqI 0 0 then some (eqI (((grF 0 m : Nat) : Int)) ((grF 0 m : Nat) : Int)) else some false) = some true
    rw [bif_t (eqI_t rfl), eqI_t rfl]
theorem ns_end (m : List Nat) (hl : m.length < 4) (h : ∀ x ∈ m, x < 7) : nsFin (grF 0 m) m = some true := by
  match m, hl, h with
  | [], hl, h => exact ns_fin hl ins0 ns_in0 rfl
  | [a], hl, h => exact ns_fin hl (ins1 a (h a (by simp))) (ns_in1 a (h a (by simp))) rfl
  | [a, b], hl, h =>
    have h1 := ns_in2 a (h a (by simp)) b (h b (by simp))
    rw [Bool.and_eq_true] at h1
    exact ns_fin hl (ins2 a (h a (by simp)) b (h b (by simp))) h1.1 (Nat.eq_of_beq_eq_true h1.2)
  | [a, b, c], hl, h =>
    have h1 := ns_in3 a (h a (by simp)) b (h b (by simp)) c (h c (by simp))
    rw [Bool.and_eq_true] at h1
    exact ns_fin hl (ins3 a (h a (by simp)) b (h b (by simp)) c (h c (by simp))) h1.1 (Nat.eq_of_beq_eq_true h1.2)
  | _ :: _ :: _ :: _ :: _, hl, h => simp at hl; omega

/-! ### the loop over the heaps -/
theorem grN_lt (a : Nat) : grN a < 4 := by
  unfold grN
  by_cases h : a < 7
  · revert h
    have : ∀ a : Nat, a < 7 → [0, 0, 0, 1, 0, 2, 1].getD a 0 < 4 := by decide
    exact this a
  · rw [List.getD_eq_getElem?_getD, List.getElem?_eq_none (by simpa using h)]
    decide
theorem nI_one (d : List Nat) {j v : Nat} (hj : j < d.length) : ((nI (d.set j v)).take (j + 1)).drop j = nI [v] := by
  have h1 : (nI (d.set j v)).length = d.length := by simp [nI]
  rw [List.drop_take, List.drop_eq_getElem_cons (by omega), Nat.add_sub_cancel_left]
  simp [nI]
theorem ns_l0 (l : List Int) : ∀ (k j n a : Nat) (d : List Nat), j + k = d.length → k < n → d.length ≤ 3 → a < 4 → gamehallkeep1_NimsumSplits.l0 300000000 l n (a : Int) (d.length : Int) (j : Int) (nI d) = nsFin (grF a ((d.drop j).map (· % 7))) (d.take j ++ (d.drop j).map (· % 7))
  | 0, j, n, a, d, hk, hn, hl, ha => by
    obtain ⟨n, rfl⟩ := nxtS hn
    rw [gamehallkeep1_NimsumSplits.l0_s, gamehallkeep1_NimsumSplits.s0, bif_f (ltI_f (by omega)), List.drop_of_length_le (by omega), List.take_of_length_le (by omega), List.map_nil, List.append_nil]
    rfl
  | k + 1, j, n, a, d, hk, hn, hl, ha => by
    obtain ⟨n, rfl⟩ := nxtS hn
    have hj : j < d.length := by omega
    have hN : (nI d).length = d.length := List.length_map _
    have hj' : j < (nI d).length := by omega
    have hv : Int.tmod (gD (0 : Int) (nI d) (j : Int)) 7 = ((d[j] % 7 : Nat) : Int) := by
      rw [gD_nat hj']
      simp [nI]
      rfl
    have hs : (nI d).set (j : Int).toNat ((d[j] % 7 : Nat) : Int) = nI (d.set j (d[j] % 7)) := by
      simp [nI, List.map_set]
    have hw : w64 ((j : Int) + 1) = ((j + 1 : Nat) : Int) := by rw [w64_id (by omega) (by omega)]; omega
    have hm : d[j] % 7 < 7 := Nat.mod_lt _ (by decide)
    have hsl : (nI (d.set j (d[j] % 7))).length = d.length := by simp [nI]
    rw [gamehallkeep1_NimsumSplits.l0_s, gamehallkeep1_NimsumSplits.s0, bif_t (ltI_t (by omega)), chk_of (idx_ok hj')]
    dsimp only
    rw [hv, hs, hw, chk_of (idx_ok hj'), chk_of (by rw [leI_t (by omega), leI_t (by omega), leI_t (by rw [hsl]; omega)]; rfl)]
    rw [Int.toNat_natCast, Int.toNat_natCast, nI_one d hj, ns_one _ hm, Option.bind_some, bif_f (by rw [eqI_t rfl]; rfl), sum_eq (by simp) (by decide), Option.bind_some]
    have hx : ([(a : Int), ((grN (d[j] % 7) : Nat) : Int)] : List Int).foldl bx 0 = ((a ^^^ grN (d[j] % 7) : Nat) : Int) := by
      have h4 := grN_lt (d[j] % 7)
      show bx (bx ((0 : Nat) : Int) (a : Int)) _ = _
      rw [bx_nat (by omega) (by omega), Nat.zero_xor, bx_nat (by omega) (by omega)]
    have h4 : a ^^^ grN (d[j] % 7) < 4 := Nat.xor_lt_two_pow (n := 2) ha (grN_lt _)
    have ih := ns_l0 l k (j + 1) n (a ^^^ grN (d[j] % 7)) (d.set j (d[j] % 7)) (by simp; omega) (by omega) (by simpa using hl) h4
    rw [List.length_set] at ih
    rw [hx, ih]
    have e1 : (d.set j (d[j] % 7)).drop (j + 1) = d.drop (j + 1) := List.drop_set_of_lt (by omega)
    have e2 : (d.set j (d[j] % 7)).take (j + 1) = d.take j ++ [d[j] % 7] := by
      rw [List.take_succ_eq_append_getElem (by simpa using hj), List.take_set_of_le (by omega), List.getElem_set_self]
    rw [e1, e2, List.drop_eq_getElem_cons hj, List.map_cons, List.append_assoc]
    rfl
theorem nI_bytes : ∀ {l : List Int}, (∀ x ∈ l, 0 ≤ x) → ∃ d : List Nat, l = nI d
  | [], _ => ⟨[], rfl⟩
  | x :: l, h => by
    obtain ⟨d, hd⟩ := nI_bytes (l := l) fun y hy => h y (by simp [hy])
    refine ⟨x.toNat :: d, ?_⟩
    have := h x (by simp)
    rw [hd]
    show _ = Int.ofNat x.toNat :: nI d
    congr 1
    show x = (x.toNat : Int)
    omega
theorem nimsumSplits_at (l : List Int) (hb : ∀ x ∈ l, 0 ≤ x) : gamehallkeep1_NimsumSplits 300000000 l = some true := by
  unfold gamehallkeep1_NimsumSplits gamehallkeep1_NimsumSplits.e
  rw [summed_true, Option.bind_some, show (!true) = false from rfl, bif_f rfl]
  have hv : ∃ v : Nat, (bif (ltI 3 (l.length : Int)) then 3 else (l.length : Int)) = (v : Int) ∧ v ≤ l.length ∧ v ≤ 3 := by
    by_cases h : 3 < l.length
    · exact ⟨3, by rw [bif_t (ltI_t (by omega))]; rfl, by omega, by omega⟩
    · exact ⟨l.length, by rw [bif_f (ltI_f (by omega))], by omega, by omega⟩
  obtain ⟨v, h1, h2, h3⟩ := hv
  dsimp only
  rw [h1, leI_t (by omega), leI_t (by omega), chk_of (by rfl)]
  have hl : (l.take v).length ≤ 3 := by rw [List.length_take]; omega
  have hc : slices_Clone_byte_byte 300000000 ((l.take (v : Int).toNat).drop (0 : Int).toNat) = some (l.take v) := by
    unfold slices_Clone_byte_byte slices_Clone_byte_byte.e
    rw [show (0 : Int).toNat = 0 from rfl, List.drop_zero, Int.toNat_natCast, List.nil_append, chk_of (by unfold capOk; exact decide_eq_true (by simp only [List.length_nil]; omega))]
  rw [hc, Option.bind_some]
  obtain ⟨d, hd⟩ := nI_bytes (l := l.take v) fun x hx => hb x (List.mem_of_mem_take hx)
  have hn : (nI d).length = d.length := List.length_map _
  rw [hd, hn]
  have hl3 : d.length ≤ 3 := by rw [← hn, ← hd]; exact hl
  have := ns_l0 l d.length 0 300000000 0 d (by omega) (by omega) hl3 (by omega)
  rw [List.drop_zero, List.take_zero, List.nil_append] at this
  refine Eq.trans this (ns_end _ (by rw [List.length_map]; omega) fun x hx => ?_)
  obtain ⟨y, _, rfl⟩ := List.mem_map.1 hx
  exact Nat.mod_lt _ (by decide)
end Go.Proofs.Ytbnpbnghpbgjiaa.Am
