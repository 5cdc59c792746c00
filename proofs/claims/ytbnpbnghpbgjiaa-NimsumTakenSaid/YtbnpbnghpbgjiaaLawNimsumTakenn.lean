/- The plain law NimsumTaken: the plain function says true at every input. -/
import Derived.Test.YtbnpbnghpbgjiaaLawNimXn
set_option linter.unusedVariables false
set_option linter.unusedSimpArgs false
namespace Go.Proofs.Ytbnpbnghpbgjiaa.Am
open Go

def InR (vs : List Int) : Prop := ∀ v ∈ vs, 0 ≤ v ∧ v ≤ 100000000
/-- what Take answers -/
def TQ (vs : List Int) (y : Int × Int × Int) : Prop :=
  (y.1 = 0 ∧ y.2.1 = 0 ∧ y.2.2 ≠ 0 ∧ y.2.2 ≠ 8) ∨
  (InR vs ∧ vs.length ≤ 256 ∧ y = (0, 0, 8) ∧ ∀ (i : Nat) (hi : i < vs.length), ¬ bx vs[i] (vs.foldl bx 0) < vs[i]) ∨
  (InR vs ∧ vs.length ≤ 256 ∧ y.2.2 = 0 ∧ ∃ (i : Nat) (hi : i < vs.length), y.1 = i ∧ y.2.1 = bx vs[i] (vs.foldl bx 0) ∧ y.2.1 < vs[i])
theorem take_l1 {N : Nat} {vs : List Int} (hr : InR vs) (hl : vs.length ≤ 256) (hN : 1000 < N) : ∀ (k j n : Nat), j + k = vs.length → k < n → (∀ (i : Nat) (hi : i < vs.length), i < j → ¬ bx vs[i] (vs.foldl bx 0) < vs[i]) →
    Ret (nimsum_Take.l1 N vs n (vs.foldl bx 0) (j : Int)) (TQ vs)
  | 0, j, n, hk, hn, h => by
    obtain ⟨n, rfl⟩ := nxtS hn
    rw [nimsum_Take.l1_s, nimsum_Take.s1, bif_f (ltI_f (by omega))]
    exact Ret.ret (.inr (.inl ⟨hr, hl, rfl, fun i hi => h i hi (by omega)⟩))
  | k + 1, j, n, hk, hn, h => by
    obtain ⟨n, rfl⟩ := nxtS hn
    have hj : j < vs.length := by omega
    rw [nimsum_Take.l1_s, nimsum_Take.s1, bif_t (ltI_t (by omega)), chk_of (idx_ok hj), gD_nat hj]
    show Ret (bif ltI (bx vs[j] (vs.foldl bx 0)) vs[j] then some ((j : Int), (bx vs[j] (vs.foldl bx 0), (0 : Int))) else _) _
    by_cases c : bx vs[j] (vs.foldl bx 0) < vs[j]
    · rw [bif_t (ltI_t c)]
      exact Ret.ret (.inr (.inr ⟨hr, hl, rfl, j, hj, rfl, rfl, c⟩))
    · rw [bif_f (ltI_f (by omega)), w64_id (by omega) (by omega), show ((j : Int) + 1) = ((j + 1 : Nat) : Int) by omega]
      refine take_l1 hr hl hN k (j + 1) n (by omega) (by omega) fun i hi hij => ?_
      by_cases e : i = j
      · subst e; exact c
      · exact h i hi (by omega)
theorem take_l0 {N : Nat} {vs : List Int} (hl : vs.length ≤ 256) (hN : 1000 < N) (hN2 : N < 2 ^ 62) : ∀ (k j n : Nat), j + k = vs.length → k + 300 < n → (∀ v ∈ vs.take j, 0 ≤ v ∧ v ≤ 100000000) → Ret (nimsum_Take.l0 N vs n (j : Int)) (TQ vs)
  | 0, j, n, hk, hn, h => by
    obtain ⟨n, rfl⟩ := nxtS (k := 0) (n := n) (by omega)
    have hr : InR vs := by rw [List.take_of_length_le (by omega)] at h; exact h
    rw [nimsum_Take.l0_s, nimsum_Take.s0, bif_f (ltI_f (by omega)), sum_eq (by omega) hN2, Option.bind_some]
    exact take_l1 hr hl hN vs.length 0 n (by omega) (by omega) fun i hi hij => by omega
  | k + 1, j, n, hk, hn, h => by
    obtain ⟨n, rfl⟩ := nxtS (k := 0) (n := n) (by omega)
    have hj : j < vs.length := by omega
    rw [nimsum_Take.l0_s, nimsum_Take.s0, bif_t (ltI_t (by omega)), chk_of (idx_ok hj), gD_nat hj]
    by_cases c1 : vs[j] < 0
    · rw [bif_t (ltI_t c1)]
      exact Ret.ret (.inl ⟨rfl, rfl, by decide, by decide⟩)
    rw [bif_f (ltI_f (by omega))]
    by_cases c2 : 100000000 < vs[j]
    · rw [bif_t (ltI_t c2)]
      exact Ret.ret (.inl ⟨rfl, rfl, by decide, by decide⟩)
    rw [bif_f (ltI_f (by omega)), w64_id (by omega) (by omega), show ((j : Int) + 1) = ((j + 1 : Nat) : Int) by omega]
    refine take_l0 hl hN hN2 k (j + 1) n (by omega) (by omega) fun v hv => ?_
    rw [List.take_add_one, List.getElem?_eq_getElem hj] at hv
    rcases List.mem_append.1 hv with hv | hv
    · exact h v hv
    · have : v = vs[j] := by simpa using hv
      subst this
      omega
theorem take_ret {N : Nat} (hN : 1000 < N) (hN2 : N < 2 ^ 62) (vs : List Int) : Ret (nimsum_Take N vs) (TQ vs) := by
  unfold nimsum_Take nimsum_Take.e
  by_cases c : 256 < (vs.length : Int)
  · rw [bif_t (ltI_t c)]
    exact Ret.ret (.inl ⟨rfl, rfl, by decide, by decide⟩)
  · rw [bif_f (ltI_f (by omega))]
    exact take_l0 (by omega) hN hN2 vs.length 0 N (by omega) (by omega) fun v hv => by simp at hv
/-- numbers in range as natural ones -/
theorem inR_nat {vs : List Int} (hr : InR vs) : ∃ ns : List Nat, vs = ns.map Int.ofNat ∧ ∀ a ∈ ns, a < 2 ^ 62 := by
  refine ⟨vs.map Int.toNat, ?_, fun a ha => ?_⟩
  · rw [List.map_map]
    conv => lhs; rw [← List.map_id vs]
    apply List.map_congr_left
    intro v hv
    have := hr v hv
    show v = ((v.toNat : Nat) : Int)
    omega
  · obtain ⟨v, hv, rfl⟩ := List.mem_map.1 ha
    have := hr v hv
    have : v.toNat ≤ 100000000 := by omega
    exact Nat.lt_of_le_of_lt this (by decide)
theorem nimsumTaken_at (heaps : List Int) : gamehallkeep1_NimsumTaken 300000000 heaps = some true := by
  unfold gamehallkeep1_NimsumTaken gamehallkeep1_NimsumTaken.e
  rw [summed_true, Option.bind_some, bif_f (by rfl)]
  obtain ⟨y, hy, hq⟩ := take_ret (N := 300000000) (by decide) (by decide) heaps
  rw [hy, Option.bind_some]
  rcases hq with ⟨h1, h2, h3, h4⟩ | ⟨hr, hl, rfl, hno⟩ | ⟨hr, hl, h3, i, hi, h4, h5, h6⟩
  · rw [bif_t (by rw [eqI_f h3]; rfl), bif_t (eqI_t h1), bif_t (eqI_t h2), bif_t (by rw [eqI_f h4]; rfl)]
  · rw [bif_t (by rfl), bif_t (by rfl), bif_t (by rfl), bif_f (by rfl), sum_eq (by omega) (by decide), Option.bind_some]
    obtain ⟨ns, rfl, hns⟩ := inR_nat hr
    have hx : (ns.map Int.ofNat).foldl bx 0 = ((xl ns : Nat) : Int) := by
      have := xl_fold ns 0 (by decide) hns
      rw [Nat.zero_xor] at this
      exact this
    have h0 : xl ns = 0 := by
      apply Classical.byContradiction
      intro hne
      obtain ⟨b, b1, b2⟩ := top_bit hne
      obtain ⟨a, ha, ha2⟩ := xl_bit ns b b1
      obtain ⟨i, hi, rfl⟩ := List.getElem_of_mem ha
      have := hno i (by simpa using hi)
      rw [hx, List.getElem_map] at this
      have e : bx (Int.ofNat ns[i]) ((xl ns : Nat) : Int) = ((ns[i] ^^^ xl ns : Nat) : Int) := bx_nat (hns _ ha) (xl_lt hns)
      rw [e] at this
      have hlt := xor_less ha2 b1 b2
      exact this (by show ((ns[i] ^^^ xl ns : Nat) : Int) < ((ns[i] : Nat) : Int); omega)
    rw [hx, h0]
    rfl
  · have hb := hr _ (List.getElem_mem hi)
    have hl2 : (heaps.length : Int) ≤ 256 := by omega
    obtain ⟨ns, rfl, hns⟩ := inR_nat hr
    have hi' : i < ns.length := by simpa using hi
    have hx : (ns.map Int.ofNat).foldl bx 0 = ((xl ns : Nat) : Int) := by
      have := xl_fold ns 0 (by decide) hns
      rw [Nat.zero_xor] at this
      exact this
    rw [hx, List.getElem_map] at h5
    have e : bx (Int.ofNat ns[i]) ((xl ns : Nat) : Int) = ((ns[i] ^^^ xl ns : Nat) : Int) := bx_nat (hns _ (List.getElem_mem hi')) (xl_lt hns)
    rw [e] at h5
    obtain ⟨y1, y2, y3⟩ := y
    have g3 : y3 = 0 := h3
    have g4 : y1 = (i : Int) := h4
    have g5 : y2 = ((ns[i] ^^^ xl ns : Nat) : Int) := h5
    have g6 : y2 < (ns.map Int.ofNat)[i] := h6
    clear h3 h4 h5 h6
    subst g3 g4
    have hlen : ((ns.map Int.ofNat).length : Int) = (ns.length : Int) := by simp
    rw [bif_f (by rfl), bif_f (ltI_f (by omega)), bif_f (leI_f (by show ((i : Nat) : Int) < _; omega)), bif_f (ltI_f (by show (0 : Int) ≤ y2; omega)), chk_of (idx_ok hi), gD_nat hi, bif_f (leI_f g6)]
    unfold slices_Clone_int_int slices_Clone_int_int.e
    rw [chk_of (by unfold capOk; exact decide_eq_true (by simp only [List.length_nil]; omega)), Option.bind_some, List.nil_append, chk_of (idx_ok hi), Int.toNat_natCast]
    show (nimsum_Sum 300000000 ((ns.map Int.ofNat).set i y2)).bind _ = some true
    have hset : (ns.map Int.ofNat).set i y2 = (ns.set i (ns[i] ^^^ xl ns)).map Int.ofNat := by
      rw [List.map_set, g5]
      rfl
    have hv : ns[i] ^^^ xl ns < 2 ^ 62 := Nat.xor_lt_two_pow (hns _ (List.getElem_mem hi')) (xl_lt hns)
    rw [hset, sum_eq (by simp only [List.length_map, List.length_set] at *; omega) (by decide), Option.bind_some]
    have hx2 : ((ns.set i (ns[i] ^^^ xl ns)).map Int.ofNat).foldl bx 0 = ((xl (ns.set i (ns[i] ^^^ xl ns)) : Nat) : Int) := by
      have := xl_fold (ns.set i (ns[i] ^^^ xl ns)) 0 (by decide) (fun b hb => by
        rcases List.mem_or_eq_of_mem_set hb with h | h
        · exact hns b h
        · rw [h]; exact hv)
      rw [Nat.zero_xor] at this
      exact this
    have h0 : xl (ns.set i (ns[i] ^^^ xl ns)) = 0 := by
      rw [xl_set ns i _ hi', ← Nat.xor_assoc (ns[i]) (ns[i]), Nat.xor_self, Nat.zero_xor, Nat.xor_self]
    rw [hx2, h0]
    rfl
end Go.Proofs.Ytbnpbnghpbgjiaa.Am
