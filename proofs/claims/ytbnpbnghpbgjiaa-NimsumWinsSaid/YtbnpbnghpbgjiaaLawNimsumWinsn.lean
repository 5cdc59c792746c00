/- The plain law NimsumWins: the plain function says true at every input. -/
import Derived.Test.YtbnpbnghpbgjiaaLawNimHn
set_option linter.unusedVariables false
set_option linter.unusedSimpArgs false
namespace Go.Proofs.Ytbnpbnghpbgjiaa.Am
open Go

theorem wins_five : nimsum_Wins_int 300000000 2 5 100 = some (3, 0) := by decide +kernel
theorem fine2 : gamehallkeep1_fine 300000000 [0, 0] = some true := by decide +kernel
theorem index_l0 (N : Nat) {l : List Int} (hl : l.length ≤ 1000) {v : Int} (hv : v ∈ l) : ∀ (k j n : Nat), j + k = l.length → k < n → (∀ (i : Nat) (hi : i < l.length), i < j → l[i] ≠ v) → Ret (slices_Index_int_int.l0 N l v n (j : Int)) fun y => 0 ≤ y
  | 0, j, n, hk, hn, h => by
    obtain ⟨i, hi, e⟩ := List.getElem_of_mem hv
    exact absurd e (h i hi (by omega))
  | k + 1, j, n, hk, hn, h => by
    obtain ⟨n, rfl⟩ := nxtS hn
    have hj : j < l.length := by omega
    rw [slices_Index_int_int.l0_s, slices_Index_int_int.s0, bif_t (ltI_t (by omega)), chk_of (idx_ok hj), gD_nat hj]
    by_cases c : v = l[j]
    · rw [bif_t (eqI_t c)]
      exact Ret.ret (by omega)
    · rw [bif_f (eqI_f c), w64_id (by omega) (by omega), show ((j : Int) + 1) = ((j + 1 : Nat) : Int) by omega]
      refine index_l0 N hl hv k (j + 1) n (by omega) (by omega) fun i hi hij => ?_
      by_cases e : i = j
      · subst e; exact fun e => c e.symm
      · exact h i hi (by omega)
theorem contains_eq {N : Nat} (hN : 2000 ≤ N) {l : List Int} (hl : l.length ≤ 1000) {v : Int} (hv : v ∈ l) : slices_Contains_int_int N l v = some true := by
  unfold slices_Contains_int_int slices_Contains_int_int.e slices_Index_int_int slices_Index_int_int.e
  obtain ⟨y, hy, hq⟩ := index_l0 N hl hv l.length 0 N (by omega) (by omega) fun i hi hij => by omega
  have hy : slices_Index_int_int.l0 N l v N 0 = some y := hy
  rw [hy, Option.bind_some, leI_t hq]
theorem wins_l0 {N : Nat} (hN : 300000 ≤ N) {h n : Int} (h0 : 0 ≤ n) (h1 : n < 60) : ∀ (k j fuel : Nat), j + k = (nxH h n).length → k < fuel → (∀ (i : Nat) (hi : i < (nxH h n).length), i < j → grH h (nxH h n)[i] ≠ 0) →
    Ret (nimsum_Wins_int.l0 N h n 100 fuel ((nxH h n).length : Int) (j : Int) (nxH h n)) fun y => (y = (0, 8) ∧ ∀ t ∈ nxH h n, grH h t ≠ 0) ∨ (y.2 = 0 ∧ y.1 ∈ nxH h n ∧ grH h y.1 = 0) := by
  have hlen := (heap_gm (h := h) (M := 60) (by decide)).len n ⟨h0, by omega⟩
  intro k
  induction k with
  | zero =>
    intro j fuel hk hf hh
    obtain ⟨f, rfl⟩ := nxtS hf
    rw [nimsum_Wins_int.l0_s, nimsum_Wins_int.s0, bif_f (ltI_f (by omega))]
    refine Ret.ret (.inl ⟨rfl, fun t ht => ?_⟩)
    obtain ⟨i, hi, e⟩ := List.getElem_of_mem ht
    have := hh i hi (by omega)
    rw [e] at this
    exact this
  | succ k ih =>
    intro j fuel hk hf hh
    obtain ⟨f, rfl⟩ := nxtS hf
    have hj : j < (nxH h n).length := by omega
    have ht := (nxH_mem h0).1 (List.getElem_mem hj)
    rw [nimsum_Wins_int.l0_s, nimsum_Wins_int.s0, bif_t (ltI_t (by omega)), chk_of (idx_ok hj), gD_nat hj, heap_value hN (by omega) (by omega) (by omega) (by decide), Option.bind_some, bif_t (eqI_t rfl)]
    by_cases c : grH h (nxH h n)[j] = 0
    · rw [bif_t (eqI_t (by omega))]
      exact Ret.ret (.inr ⟨rfl, List.getElem_mem hj, c⟩)
    · rw [bif_f (eqI_f (by omega)), w64_id (by omega) (by omega), show ((j : Int) + 1) = ((j + 1 : Nat) : Int) by omega]
      refine ih (j + 1) f (by omega) (by omega) fun i hi hij => ?_
      by_cases e : i = j
      · subst e; exact c
      · exact hh i hi (by omega)
theorem nimsumWins_at (n most : Int) : gamehallkeep1_NimsumWins 300000000 n most = some true := by
  have hn := tmodP (a := n) 60 (by decide) (by decide)
  unfold gamehallkeep1_NimsumWins gamehallkeep1_NimsumWins.e
  rw [wins_five, Option.bind_some, bif_f (by rfl), bif_f (by rfl), summed_true, Option.bind_some, bif_f (by rfl)]
  dsimp only
  generalize Int.tmod (w64 (Int.tmod n 60 + 60)) 60 = s at *
  generalize Int.tmod (w64 (Int.tmod most 9 + 9)) 9 = h at *
  have hg := heap_gm (h := h) (M := 60) (by decide)
  have hs : GoodH 60 s := ⟨hn.1, by omega⟩
  have hv := heap_value (N := 300000000) (by decide) (h := h) hn.1 (by omega) (most := 100) (by omega) (by decide)
  have hnx := heap_next (N := 300000000) (by decide) (h := h) hn.1 (by omega)
  obtain ⟨y, hy, hq⟩ := wins_l0 (N := 300000000) (by decide) (h := h) hn.1 hn.2 (nxH h s).length 0 300000000 (by omega) (by have := hg.len s hs; omega) fun i hi hij => by omega
  have hy : nimsum_Wins_int.l0 300000000 h s 100 300000000 ((nxH h s).length : Int) 0 (nxH h s) = some y := hy
  have hw : nimsum_Wins_int 300000000 h s 100 = some y := by
    unfold nimsum_Wins_int nimsum_Wins_int.e
    rw [hv, Option.bind_some, bif_f (by rfl), hnx, Option.bind_some]
    exact hy
  rw [hv, Option.bind_some, hw, Option.bind_some]
  rcases hq with ⟨rfl, hno⟩ | ⟨h2, hm, h3⟩
  · have h0 : grH h s = 0 := by
      rcases Nat.eq_zero_or_pos (grH h s) with e | e
      · exact e
      · obtain ⟨t, ht, e2⟩ := hg.lt s 0 hs e
        exact absurd e2 (hno t ht)
    rw [bif_t (by rfl), bif_t (eqI_t rfl), bif_t (eqI_t (by omega)), bif_t (by rfl)]
    rfl
  · have ht := (nxH_mem hn.1).1 hm
    have hne := hg.ne s y.1 hs hm
    have hv2 := heap_value (N := 300000000) (by decide) (h := h) (n := y.1) (by omega) (by omega) (most := 100) (by omega) (by decide)
    rw [bif_f (by rw [eqI_t h2]; rfl), hv2, Option.bind_some]
    dsimp only
    rw [fine2, Option.bind_some, bif_t rfl, bif_t (by rw [eqI_f (by omega)]; rfl), bif_t (eqI_t (by omega)), hnx, Option.bind_some, contains_eq (by decide) (by have := hg.len s hs; omega) hm, Option.bind_some]
end Go.Proofs.Ytbnpbnghpbgjiaa.Am
