/- The plain law BitsBack: the plain function says true at every input. -/
import Derived.Test.YtbnpbnghpbgjiaaDoorLawBitsL
set_option linter.unusedVariables false
set_option linter.unusedSimpArgs false
namespace Go.Proofs.YtbnpbnghpbgjiaaDoor.Am
open Go

def orS (a : Nat) (l : List Nat) : Nat := l.foldl (fun a i => a ||| 2 ^ i) a
theorem orS_bit : ∀ (l : List Nat) (a j : Nat), (orS a l).testBit j = (a.testBit j || decide (j ∈ l))
  | [], a, j => by simp [orS]
  | i :: l, a, j => by
    show (orS (a ||| 2 ^ i) l).testBit j = _
    rw [orS_bit l, Nat.testBit_or, Nat.testBit_two_pow]
    by_cases h : i = j
    · subst h; simp
    · simp [h, show ¬ j = i by omega]
theorem of_l0 {N : Nat} (l : List Nat) (hl : l.length ≤ 100) (h64 : ∀ i ∈ l, i < 64) (hs : l.Pairwise (· < ·)) : ∀ (k j n a : Nat), j + k = l.length → k < n → a < 2 ^ 64 → (∀ i ∈ l.drop j, a.testBit i = false) → bits_Of.l0 N (nI l) n (a : Int) (j : Int) = some (((orS a (l.drop j) : Nat) : Int), 0)
  | 0, j, n, a, hj, hn, ha, hd => by
    obtain ⟨n, rfl⟩ := nxtS hn
    have hlen : (nI l).length = l.length := List.length_map _
    rw [bits_Of.l0_s, bits_Of.s0, bif_f (ltI_f (by omega)), List.drop_of_length_le (by omega)]
    rfl
  | k + 1, j, n, a, hj, hn, ha, hd => by
    obtain ⟨n, rfl⟩ := nxtS hn
    have hlen : (nI l).length = l.length := List.length_map _
    have hjl : j < l.length := by omega
    have hg : gD (0 : Int) (nI l) (j : Int) = ((l[j] : Nat) : Int) := by
      rw [gD_nat (by omega)]
      simp [nI]
    have hi := h64 l[j] (List.getElem_mem hjl)
    have hd0 := hd l[j] (by rw [List.drop_eq_getElem_cons hjl]; exact List.mem_cons_self)
    rw [bits_Of.l0_s, bits_Of.s0, bif_t (ltI_t (by omega)), chk_of (idx_ok (by omega)), hg]
    rw [bif_f (ltI_f (by omega)), bif_f (leI_f (by omega)), bif_f (ltI_f (by omega)), Int.toNat_natCast, show min l[j] 64 = l[j] by omega]
    generalize hx : l[j] = x at *
    have hp : 2 ^ x < 2 ^ 64 := Nat.pow_lt_pow_right (by decide) hi
    have e1 : Int.fdiv (a : Int) (2 ^ x) = ((a / 2 ^ x : Nat) : Int) := by
      rw [Int.fdiv_eq_ediv_of_nonneg _ (Int.pow_nonneg (by decide)), Int.natCast_ediv, Int.natCast_pow]
      rfl
    have e2 : IntKind.wrap .u64 (1 * 2 ^ x) = ((2 ^ x : Nat) : Int) := by
      rw [Int.one_mul]
      have : ((2 : Int) ^ x) = ((2 ^ x : Nat) : Int) := by rw [Int.natCast_pow]; rfl
      rw [this]
      exact u64_id (Int.natCast_nonneg _) (Int.ofNat_lt.2 hp)
    have hd1 : a / 2 ^ x < 2 ^ 64 := Nat.lt_of_le_of_lt (Nat.div_le_self _ _) ha
    have e3 : Go.bits .and .u64 ((a / 2 ^ x : Nat) : Int) 1 = 0 := by
      have := bAnd hd1 (show 1 < 2 ^ 64 by decide)
      rw [Nat.and_one_is_mod] at this
      rw [show (1 : Int) = ((1 : Nat) : Int) from rfl, this]
      have hb : (a / 2 ^ x).testBit 0 = false := by rw [Nat.testBit_div_two_pow, Nat.zero_add]; exact hd0
      rw [Nat.testBit_zero, decide_eq_false_iff_not] at hb
      omega
    rw [e1, e3, bif_f (show eqI (0 : Int) 1 = false from rfl), bif_f (ltI_f (by omega)), e2, bOr ha hp, w64_id (by omega) (by omega), show ((j : Int) + 1) = ((j + 1 : Nat) : Int) by omega]
    have hpw : ∀ i ∈ l.drop (j + 1), x < i := by
      intro i hi
      have h1 : (l.drop j).Pairwise (· < ·) := hs.sublist (List.drop_sublist j l)
      rw [List.drop_eq_getElem_cons hjl, List.pairwise_cons, hx] at h1
      exact h1.1 i hi
    have ih := of_l0 (N := N) l hl h64 hs k (j + 1) n (a ||| 2 ^ x) (by omega) (by omega) (Nat.or_lt_two_pow ha hp) (fun i hi => by
      rw [Nat.testBit_or, Nat.testBit_two_pow, hd i (by rw [List.drop_eq_getElem_cons hjl]; exact List.mem_cons_of_mem _ hi)]
      have := hpw i hi
      simp; omega)
    rw [ih, List.drop_eq_getElem_cons hjl, hx]
    rfl
theorem of_bl {N m : Nat} (hN : 200 < N) (hm : m < 2 ^ 64) : bits_Of N (nI (bl m)) = some ((m : Int), 0) := by
  obtain ⟨h1, h2, h3⟩ := bl_facts hm
  have hp := pc_le m
  unfold bits_Of bits_Of.e
  have h := of_l0 (N := N) (bl m) (by omega) (fun i hi => bit_lt hm ((h2 i).1 hi)) h3 (bl m).length 0 N 0 (by omega) (by omega) (by decide) (fun i _ => Nat.zero_testBit i)
  rw [List.drop_zero] at h
  have e : orS 0 (bl m) = m := by
    apply Nat.eq_of_testBit_eq
    intro j
    rw [orS_bit, Nat.zero_testBit, Bool.false_or]
    apply Bool.eq_iff_iff.2
    rw [decide_eq_true_eq]
    exact h2 j
  rw [e] at h
  exact h
theorem back_l0 {N : Nat} {b : Int} (hN : 1000 < N) (l : List Nat) (hl : l.length ≤ 100) : ∀ (f m n : Nat) (a : List Nat), pc m ≤ f → m < 2 ^ 64 → f + 2 ≤ n → a.length ≤ 3 → l = a ++ blF f m → gamehallkeep1_BitsBack.l0 N b n (m : Int) (nI l) (nI a) = some true := by
  have hend : ∀ (n : Nat) (a : List Nat), a = l.take (min l.length 3) → gamehallkeep1_BitsBack.l1 N b (n + 1) (nI l) (nI a) = some true := by
    intro n a ha
    have hlen : (nI l).length = l.length := List.length_map _
    rw [gamehallkeep1_BitsBack.l1_s, gamehallkeep1_BitsBack.s1, hlen]
    have hv : (bif (ltI (l.length : Int) 3) then (l.length : Int) else 3) = ((min l.length 3 : Nat) : Int) := by
      by_cases h : l.length < 3
      · rw [bif_t (ltI_t (by omega))]; omega
      · rw [bif_f (ltI_f (by omega))]; omega
    simp only [hv]
    rw [leI_t (by omega), leI_t (by omega), Bool.and_self, chk_true, Int.toNat_natCast]
    have e : (nI l).take (min l.length 3) = nI a := by rw [ha]; simp [nI, List.map_take]
    have hla : (nI a).length ≤ 900 := by
      have : (nI a).length = a.length := List.length_map _
      rw [this, ha, List.length_take]
      omega
    rw [e, equal_self (nI a) hla hN]
    rfl
  intro f
  induction f with
  | zero =>
    intro m n a hp hm hn ha hla
    have h0 : m = 0 := by
      apply Classical.byContradiction
      intro h
      have := pc_pos h hm
      omega
    subst h0
    obtain ⟨n, rfl⟩ := nxtS (k := 1) (n := n) (by omega)
    obtain ⟨n, rfl⟩ := nxtS (k := 0) (n := n) (by omega)
    rw [gamehallkeep1_BitsBack.l0_s, gamehallkeep1_BitsBack.s0, bif_t (show eqI ((0 : Nat) : Int) 0 = true from rfl)]
    refine hend n a ?_
    have : l = a := by rw [hla, blF_zero, List.append_nil]
    rw [this, Nat.min_eq_left ha, List.take_length]
  | succ f ih =>
    intro m n a hp hm hn ha hla
    obtain ⟨n, rfl⟩ := nxtS (k := 1) (n := n) (by omega)
    have hlen : (nI a).length = a.length := List.length_map _
    rw [gamehallkeep1_BitsBack.l0_s, gamehallkeep1_BitsBack.s0]
    by_cases h0 : m = 0
    · subst h0
      obtain ⟨n, rfl⟩ := nxtS (k := 0) (n := n) (by omega)
      rw [bif_t (show eqI ((0 : Nat) : Int) 0 = true from rfl)]
      refine hend n a ?_
      have : l = a := by rw [hla, blF_zero, List.append_nil]
      rw [this, Nat.min_eq_left ha, List.take_length]
    · obtain ⟨h1, h2, h3, h4, h5, _⟩ := low_facts h0 hm
      have hz : eqI (m : Int) 0 = false := eqI_f (by omega)
      have hcap : capOk 8 ((nI a).length + ([((low m : Nat) : Int)] : List Int).length) = true := cap8 (by rw [hlen, List.length_singleton]; omega)
      rw [hz, h3, h4, Option.bind_some, hcap, chk_true, hlen]
      by_cases ha3 : a.length = 3
      · obtain ⟨n, rfl⟩ := nxtS (k := 0) (n := n) (by omega)
        have h3' : 3 ≤ l.length := by rw [hla, List.length_append]; omega
        have hz3 : eqI (a.length : Int) 3 = true := eqI_t (by omega)
        rw [hz3]
        exact hend n a (by rw [Nat.min_eq_right h3', hla, List.take_append_of_le_length (by omega), ← ha3, List.take_length])
      · have hz3 : eqI (a.length : Int) 3 = false := eqI_f (by omega)
        have h := ih (clr m) n (a ++ [low m]) (by omega) (by omega) (by omega) (by rw [List.length_append, List.length_singleton]; omega) (by
          rw [hla, List.append_assoc, blF_succ h0]
          rfl)
        have e : nI (a ++ [low m]) = nI a ++ [((low m : Nat) : Int)] := List.map_append
        rw [e] at h
        rw [hz3]
        exact h
theorem bitsBack_at (b : Int) (hb0 : 0 ≤ b) (hb1 : b ≤ 18446744073709551615) : gamehallkeep1_BitsBack 300000000 b = some true := by
  obtain ⟨m, rfl⟩ : ∃ m : Nat, b = m := ⟨b.toNat, by omega⟩
  have hm : m < 2 ^ 64 := by omega
  obtain ⟨h1, h2, h3⟩ := bl_facts hm
  have hp := pc_le m
  have hlen : (nI (bl m)).length = (bl m).length := List.length_map _
  have h513 : bits_List 300000000 513 = some [0, 9] := by
    have h := list_eq (N := 300000000) (m := 513) (by omega) (by decide)
    have e : bl 513 = [0, 9] := by decide +kernel
    rw [e] at h
    exact h
  unfold gamehallkeep1_BitsBack gamehallkeep1_BitsBack.e
  rw [count513, Option.bind_some, bif_f (by rw [eqI_t rfl]; rfl), h513, Option.bind_some, equal_self [0, 9] (by decide) (by omega), Option.bind_some, show (!true) = false from rfl, bif_f rfl, list_eq (by omega) hm, Option.bind_some, of_bl (by omega) hm, Option.bind_some]
  simp only
  rw [bif_f (by rw [eqI_t rfl]; rfl), bif_f (by rw [eqI_t rfl]; rfl), count_eq (by omega) hm, Option.bind_some, hlen, h1, bif_f (by rw [eqI_t rfl]; rfl)]
  exact back_l0 (b := (m : Int)) (N := 300000000) (by omega) (bl m) (by omega) 64 m 300000000 [] (pc_le m) hm (by omega) (by simp) (by simp [bl])
end Go.Proofs.YtbnpbnghpbgjiaaDoor.Am
