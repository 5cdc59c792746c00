/- The plain law BitsParts: the plain function says true at every input. -/
import Derived.Test.YtbnpbnghpbgjiaaDoorLawBitsF
set_option linter.unusedVariables false
set_option linter.unusedSimpArgs false
namespace Go.Proofs.YtbnpbnghpbgjiaaDoor.Am
open Go

theorem some_int {N : Nat} {l : List Nat} (h0 : l ≠ []) (hl : l.length ≤ 100) (n : Int) : ∃ s, s ∈ l ∧ gamehallkeep1_some_int N (nI l) n = some ((s : Nat) : Int) := by
  have hlen : (nI l).length = l.length := List.length_map _
  have hpos : 0 < l.length := List.length_pos_iff.2 h0
  have h1 : -(l.length : Int) < Int.tmod n l.length ∧ Int.tmod n l.length < l.length := by
    constructor
    · exact Int.lt_tmod_of_pos n (by omega)
    · exact Int.tmod_lt_of_pos n (by omega)
  have h2 : w64 (Int.tmod n l.length + l.length) = Int.tmod n l.length + l.length := w64_id (by omega) (by omega)
  have h3 : 0 ≤ Int.tmod (Int.tmod n l.length + l.length) l.length := Int.tmod_nonneg _ (by omega)
  have h4 := Int.tmod_lt_of_pos (Int.tmod n l.length + l.length) (b := (l.length : Int)) (by omega)
  obtain ⟨v, hv⟩ : ∃ v : Nat, Int.tmod (Int.tmod n l.length + l.length) l.length = v := ⟨(Int.tmod (Int.tmod n l.length + l.length) l.length).toNat, by omega⟩
  have hvl : v < l.length := by omega
  refine ⟨l[v], List.getElem_mem hvl, ?_⟩
  unfold gamehallkeep1_some_int gamehallkeep1_some_int.e
  rw [hlen, bif_f (eqI_f (by omega)), bif_f (eqI_f (by omega)), h2]
  simp only [hv]
  rw [leI_t (by omega), ltI_t (by omega), Bool.and_self, chk_true, gD_nat (by omega)]
  simp [nI]
theorem adj_of {i j : Nat} {dx dy : Int} (h : stp dx dy i j) (hd : (dx = 1 ∧ dy = 0) ∨ (dx = -1 ∧ dy = 0) ∨ (dx = 0 ∧ dy = 1) ∨ (dx = 0 ∧ dy = -1)) : adj i j := by
  rcases hd with ⟨rfl, rfl⟩ | ⟨rfl, rfl⟩ | ⟨rfl, rfl⟩ | ⟨rfl, rfl⟩
  · exact .inl h
  · exact .inr (.inl h)
  · exact .inr (.inr (.inl h))
  · exact .inr (.inr (.inr h))
theorem parts_loop {N B : Nat} {n : Int} (hN : 1000 < N) (hB : B < 2 ^ 64) : ∀ (l pre : List Nat) (rest fuel : Nat), PL B rest l → (pre ++ l).length ≤ 100 → 10 * l.length + 10 < fuel → rest < 2 ^ 64 →
    gamehallkeep1_BitsParts.l0 N (B : Int) n fuel ((nn B rest : Nat) : Int) ((pre ++ l).length : Int) (pre.length : Int) (nI (pre ++ l)) = some true := by
  intro l
  induction l with
  | nil =>
    intro pre rest fuel hpl hlen hf hr
    cases hpl
    obtain ⟨fuel, rfl⟩ := nxtS (k := 0) (n := fuel) (by omega)
    have hz : nn B 0 = B := by
      apply Nat.eq_of_testBit_eq
      intro j
      rw [nn_bit hB (by decide), Nat.zero_testBit]
      simp
    rw [List.append_nil, gamehallkeep1_BitsParts.l0_s, gamehallkeep1_BitsParts.s0, bif_f (ltI_f (by omega)), hz, eqI_t rfl]
  | cons p l ih =>
    intro pre rest fuel hpl hlen hf hr
    cases hpl with
    | cons h0 hrl hs hc hfo hnext =>
    have hnI : (nI (pre ++ p :: l)).length = (pre ++ p :: l).length := List.length_map _
    have hpre : pre.length < (pre ++ p :: l).length := by rw [List.length_append, List.length_cons]; omega
    have hg : gD (0 : Int) (nI (pre ++ p :: l)) (pre.length : Int) = (p : Int) := by
      rw [gD_nat (by omega)]
      simp [nI]
    obtain ⟨k1, k2, k3, k4, k5, k6, k7, k8⟩ := low_facts h0 hrl
    have hlp : p.testBit (low rest) = true := hfo.base _ (by rw [Nat.testBit_two_pow]; simp) k6
    have hp0 : p ≠ 0 := fun e => by rw [e, Nat.zero_testBit] at hlp; cases hlp
    have hall := nn_lt (b := rest) hB
    have hallb := fun j => nn_bit hB hr j
    have hdis : nn B rest &&& p = 0 := by
      apply Nat.eq_of_testBit_eq
      intro j
      rw [Nat.testBit_and, hallb, Nat.zero_testBit]
      cases hj : p.testBit j with
      | false => simp
      | true => rw [hfo.sub j hj]; simp
    obtain ⟨fuel, rfl⟩ := nxtS (k := 0) (n := fuel) (by omega)
    rw [gamehallkeep1_BitsParts.l0_s, gamehallkeep1_BitsParts.s0, bif_t (ltI_t (by omega)), chk_of (by rw [hnI, leI_t (by omega), ltI_t (by omega)]; rfl), hg]
    rw [bif_f (eqI_f (by omega)), bAnd hall hfo.lt, hdis, show (!(eqI ((0 : Nat) : Int) 0)) = false from rfl, bif_f rfl, list_eq (by omega) hfo.lt, Option.bind_some]
    obtain ⟨b1, b2, b3⟩ := bl_facts hfo.lt
    have hple := pc_le p
    obtain ⟨s, hsm, hse⟩ := some_int (N := N) (l := bl p) (fun e => by have := (b2 (low rest)).2 hlp; rw [e] at this; cases this) (by omega) n
    have hps := (b2 s).1 hsm
    have hs64 := bit_lt hfo.lt hps
    have h2s : 2 ^ s < 2 ^ 64 := Nat.pow_lt_pow_right (by decide) hs64
    have e2 : IntKind.wrap .u64 (1 * 2 ^ (min (s : Int).toNat 64)) = ((2 ^ s : Nat) : Int) := by
      rw [Int.toNat_natCast, show min s 64 = s by omega, Int.one_mul]
      have : ((2 : Int) ^ s) = ((2 ^ s : Nat) : Int) := by rw [Int.natCast_pow]; rfl
      rw [this]
      exact u64_id (Int.natCast_nonneg _) (Int.ofNat_lt.2 h2s)
    obtain ⟨r, hr1, hr2⟩ := fill_eq (N := N) (by omega) hB h2s
    have hrp := part_any hs hc hfo hps hr2
    rw [hse, Option.bind_some, bif_f (ltI_f (by omega)), e2, hr1, Option.bind_some, hrp, show (!(eqI (p : Int) (p : Int))) = false from by rw [eqI_t rfl]; rfl, bif_f rfl]
    have hsh : ∀ dx dy : Int, ((dx = 1 ∧ dy = 0) ∨ (dx = -1 ∧ dy = 0) ∨ (dx = 0 ∧ dy = 1) ∨ (dx = 0 ∧ dy = -1)) → (bits_Shift N (p : Int) dx dy) = some ((sh p dx dy : Nat) : Int) ∧ (!(eqI (Go.bits .and .u64 ((sh p dx dy : Nat) : Int) ((nn B rest : Nat) : Int)) 0)) = false := by
      intro dx dy hd
      have hlt := sh_lt dx dy hfo.lt
      refine ⟨shift_eq (by omega) hfo.lt ⟨by omega, by omega⟩ ⟨by omega, by omega⟩, ?_⟩
      rw [bAnd hlt hall]
      have : sh p dx dy &&& nn B rest = 0 := by
        apply Nat.eq_of_testBit_eq
        intro j
        rw [Nat.testBit_and, hallb, Nat.zero_testBit]
        cases hj : (sh p dx dy).testBit j with
        | false => rfl
        | true =>
          obtain ⟨i, g1, g2⟩ := (sh_stp hfo.lt j).1 hj
          cases hBj : B.testBit j with
          | false => rfl
          | true =>
            rw [hc i j (hfo.sub i g1) (adj_of g2 hd) hBj]
            rfl
      rw [this]
      rfl
    obtain ⟨d1, q1⟩ := hsh 1 0 (.inl ⟨rfl, rfl⟩)
    obtain ⟨d2, q2⟩ := hsh (-1) 0 (.inr (.inl ⟨rfl, rfl⟩))
    obtain ⟨d3, q3⟩ := hsh 0 1 (.inr (.inr (.inl ⟨rfl, rfl⟩)))
    obtain ⟨d4, q4⟩ := hsh 0 (-1) (.inr (.inr (.inr ⟨rfl, rfl⟩)))
    obtain ⟨fuel, rfl⟩ := nxtS (k := 0) (n := fuel) (by omega)
    obtain ⟨fuel, rfl⟩ := nxtS (k := 0) (n := fuel) (by omega)
    obtain ⟨fuel, rfl⟩ := nxtS (k := 0) (n := fuel) (by omega)
    obtain ⟨fuel, rfl⟩ := nxtS (k := 0) (n := fuel) (by omega)
    obtain ⟨fuel, rfl⟩ := nxtS (k := 0) (n := fuel) (by omega)
    have w1 : w64 ((0 : Int) + 1) = 1 := rfl
    have w2 : w64 ((1 : Int) + 1) = 2 := rfl
    have w3 : w64 ((2 : Int) + 1) = 3 := rfl
    have w4 : w64 ((3 : Int) + 1) = 4 := rfl
    rw [gamehallkeep1_BitsParts.l1_s, gamehallkeep1_BitsParts.s1, bif_t (show ltI (0 : Int) 4 = true from rfl), bif_t (show eqI (0 : Int) 0 = true from rfl), d1, Option.bind_some, q1, bif_f rfl, w1]
    rw [gamehallkeep1_BitsParts.l1_s, gamehallkeep1_BitsParts.s1, bif_t (show ltI (1 : Int) 4 = true from rfl), bif_f (show eqI (1 : Int) 0 = false from rfl), bif_t (show eqI (1 : Int) 1 = true from rfl), d2, Option.bind_some, q2, bif_f rfl, w2]
    rw [gamehallkeep1_BitsParts.l1_s, gamehallkeep1_BitsParts.s1, bif_t (show ltI (2 : Int) 4 = true from rfl), bif_f (show eqI (2 : Int) 0 = false from rfl), bif_f (show eqI (2 : Int) 1 = false from rfl), bif_t (show eqI (2 : Int) 2 = true from rfl), d3, Option.bind_some, q3, bif_f rfl, w3]
    rw [gamehallkeep1_BitsParts.l1_s, gamehallkeep1_BitsParts.s1, bif_t (show ltI (3 : Int) 4 = true from rfl), bif_f (show eqI (3 : Int) 0 = false from rfl), bif_f (show eqI (3 : Int) 1 = false from rfl), bif_f (show eqI (3 : Int) 2 = false from rfl), bif_t (show eqI (3 : Int) 3 = true from rfl), d4, Option.bind_some, q4, bif_f rfl, w4]
    rw [gamehallkeep1_BitsParts.l1_s, gamehallkeep1_BitsParts.s1, bif_f (show ltI (4 : Int) 4 = false from rfl), bOr hall hfo.lt]
    have hor : nn B rest ||| p = nn B (nn rest p) := by
      apply Nat.eq_of_testBit_eq
      intro j
      rw [Nat.testBit_or, hallb, nn_bit hB (nn_lt hr), nn_bit hr hfo.lt]
      cases hj : p.testBit j with
      | false => simp
      | true => rw [hs j (hfo.sub j hj)]; simp
    have hw : w64 ((pre.length : Int) + 1) = (((pre ++ [p]).length : Nat) : Int) := by
      rw [List.length_append, List.length_singleton, w64_id (by omega) (by omega)]
      omega
    have e : pre ++ p :: l = (pre ++ [p]) ++ l := by simp
    have hlen2 : ((pre ++ [p]) ++ l).length ≤ 100 := by rw [← e]; exact hlen
    have := ih (pre ++ [p]) (nn rest p) fuel hnext hlen2 (by rw [List.length_cons] at hf; omega) (nn_lt hr)
    rw [hor, hw, e]
    exact this
theorem parts_chk : bits_Parts 300000000 32769 = some [1, 32768] := by decide +kernel
theorem fill_chk : bits_Fill 300000000 1 3 = some 3 := by decide +kernel
theorem bitsParts_at (b n : Int) (hb0 : 0 ≤ b) (hb1 : b ≤ 18446744073709551615) : gamehallkeep1_BitsParts 300000000 b n = some true := by
  obtain ⟨m, rfl⟩ : ∃ m : Nat, b = m := ⟨b.toNat, by omega⟩
  have hm : m < 2 ^ 64 := by omega
  obtain ⟨l, h1, h2, h3⟩ := parts_eq (N := 300000000) (by omega) hm
  have hlen : (nI l).length = l.length := List.length_map _
  unfold gamehallkeep1_BitsParts gamehallkeep1_BitsParts.e
  rw [parts_chk, Option.bind_some, show (!(eqI (([1, 32768] : List Int).length : Int) 2)) = false from rfl, bif_f rfl, fill_chk, Option.bind_some, show (!(eqI (3 : Int) 3)) = false from rfl, bif_f rfl, shifts_true, Option.bind_some, show (!true) = false from rfl, bif_f rfl, h1, Option.bind_some, hlen]
  have h := parts_loop (N := 300000000) (n := n) (by omega) hm l [] m 300000000 h2 (by rw [List.nil_append]; omega) (by omega) hm
  have hz : nn m m = 0 := by
    apply Nat.eq_of_testBit_eq
    intro j
    rw [nn_bit hm hm, Nat.zero_testBit]
    cases m.testBit j <;> rfl
  rw [hz, List.nil_append] at h
  exact h
end Go.Proofs.YtbnpbnghpbgjiaaDoor.Am
