/- Plain: filling, and the parts of a set. -/
import Derived.Test.YtbnpbnghpbgjiaaDoorLawBitsL
set_option linter.unusedVariables false
set_option linter.unusedSimpArgs false
namespace Go.Proofs.YtbnpbnghpbgjiaaDoor.Am
open Go

theorem pcF_sub : ∀ (f a b : Nat), a < 2 ^ f → b < 2 ^ f → (∀ j, a.testBit j = true → b.testBit j = true) → pcF f a ≤ pcF f b ∧ (a ≠ b → pcF f a < pcF f b)
  | 0, a, b, ha, hb, h => ⟨Nat.le_refl _, fun hne => absurd (show a = b by omega) hne⟩
  | f + 1, a, b, ha, hb, h => by
    obtain ⟨h1, h2⟩ := pcF_sub f (a / 2) (b / 2) (by rw [Nat.pow_succ] at ha; omega) (by rw [Nat.pow_succ] at hb; omega) fun j hj => by
      rw [Nat.testBit_div_two] at hj ⊢
      exact h _ hj
    have h0 : a % 2 = 1 → b % 2 = 1 := by
      intro e
      have := h 0 (by rw [Nat.testBit_zero]; exact decide_eq_true e)
      rw [Nat.testBit_zero] at this
      exact of_decide_eq_true this
    unfold pcF
    have hm : a % 2 ≤ b % 2 := by
      by_cases e : a % 2 = 1
      · have := h0 e; omega
      · omega
    refine ⟨by omega, fun hne => ?_⟩
    by_cases e : a / 2 = b / 2
    · have : a % 2 < b % 2 := by
        apply Nat.lt_of_le_of_ne hm
        intro e2
        exact hne (by omega)
      omega
    · have := h2 e
      omega
theorem pc_sub {a b : Nat} (ha : a < 2 ^ 64) (hb : b < 2 ^ 64) (h : ∀ j, a.testBit j = true → b.testBit j = true) (hne : a ≠ b) : pc a < pc b := (pcF_sub 64 a b ha hb h).2 hne

/-- squares side by side -/
def stp (dx dy : Int) (i j : Nat) : Prop := i < 64 ∧ j < 64 ∧ 0 ≤ ((i % 8 : Nat) : Int) + dx ∧ ((i % 8 : Nat) : Int) + dx < 8 ∧ (i : Int) + (8 * dy + dx) = j
def adj (i j : Nat) : Prop := stp 1 0 i j ∨ stp (-1) 0 i j ∨ stp 0 1 i j ∨ stp 0 (-1) i j
theorem adj_symm {i j : Nat} (h : adj i j) : adj j i := by
  unfold adj stp at *
  omega
theorem sh_stp {m : Nat} {dx dy : Int} (hm : m < 2 ^ 64) (j : Nat) : (sh m dx dy).testBit j = true ↔ ∃ i, m.testBit i = true ∧ stp dx dy i j := by
  constructor
  · intro h
    have hj := bit_lt (sh_lt dx dy hm) h
    obtain ⟨i, g0, g1, g2, g3, g4⟩ := (sh_bit hm hj).1 h
    exact ⟨i, g1, g0, hj, g2, g3, g4⟩
  · rintro ⟨i, g1, g0, hj, g2, g3, g4⟩
    exact (sh_bit hm hj).2 ⟨i, g0, g1, g2, g3, g4⟩
/-- one step of filling -/
def gr (W b : Nat) : Nat := (b ||| sh b 1 0 ||| sh b (-1) 0 ||| sh b 0 1 ||| sh b 0 (-1)) &&& W
theorem gr_lt {W b : Nat} (hW : W < 2 ^ 64) : gr W b < 2 ^ 64 := Nat.and_lt_two_pow _ hW
theorem gr_bit {W b : Nat} (hb : b < 2 ^ 64) (j : Nat) : (gr W b).testBit j = true ↔ W.testBit j = true ∧ (b.testBit j = true ∨ ∃ i, b.testBit i = true ∧ adj i j) := by
  unfold gr
  rw [Nat.testBit_and, Nat.testBit_or, Nat.testBit_or, Nat.testBit_or, Nat.testBit_or, Bool.and_eq_true, Bool.or_eq_true, Bool.or_eq_true, Bool.or_eq_true, Bool.or_eq_true, sh_stp hb, sh_stp hb, sh_stp hb, sh_stp hb]
  constructor
  · rintro ⟨(((h | ⟨i, h, k⟩) | ⟨i, h, k⟩) | ⟨i, h, k⟩) | ⟨i, h, k⟩, hw⟩
    · exact ⟨hw, .inl h⟩
    · exact ⟨hw, .inr ⟨i, h, .inl k⟩⟩
    · exact ⟨hw, .inr ⟨i, h, .inr (.inl k)⟩⟩
    · exact ⟨hw, .inr ⟨i, h, .inr (.inr (.inl k))⟩⟩
    · exact ⟨hw, .inr ⟨i, h, .inr (.inr (.inr k))⟩⟩
  · rintro ⟨hw, h | ⟨i, h, k | k | k | k⟩⟩
    · exact ⟨.inl (.inl (.inl (.inl h))), hw⟩
    · exact ⟨.inl (.inl (.inl (.inr ⟨i, h, k⟩))), hw⟩
    · exact ⟨.inl (.inl (.inr ⟨i, h, k⟩)), hw⟩
    · exact ⟨.inl (.inr ⟨i, h, k⟩), hw⟩
    · exact ⟨.inr ⟨i, h, k⟩, hw⟩
/-- r is what b fills within W -/
structure FillOk (W b r : Nat) : Prop where
  lt : r < 2 ^ 64
  sub : ∀ j, r.testBit j = true → W.testBit j = true
  base : ∀ j, b.testBit j = true → W.testBit j = true → r.testBit j = true
  closed : ∀ i j, r.testBit i = true → adj i j → W.testBit j = true → r.testBit j = true
  least : ∀ c : Nat → Prop, (∀ j, b.testBit j = true → W.testBit j = true → c j) → (∀ i j, r.testBit i = true → c i → adj i j → W.testBit j = true → c j) → ∀ j, r.testBit j = true → c j
theorem fill_l0 {N W b : Nat} {bb : Int} (hN : 100 < N) (hW : W < 2 ^ 64) : ∀ (k n x : Nat), 64 - pc x ≤ k → k < n → x < 2 ^ 64 → (∀ j, x.testBit j = true → W.testBit j = true) → (∀ j, b.testBit j = true → W.testBit j = true → x.testBit j = true) →
    (∀ c : Nat → Prop, (∀ j, b.testBit j = true → W.testBit j = true → c j) → (∀ i j, x.testBit i = true → c i → adj i j → W.testBit j = true → c j) → ∀ j, x.testBit j = true → c j) →
    ∃ r : Nat, bits_Fill.l0 N bb (W : Int) n (x : Int) = some (r : Int) ∧ FillOk W b r := by
  intro k
  induction k with
  | zero =>
    intro n x hk hn hx hs hb hl
    obtain ⟨n, rfl⟩ := nxtS hn
    have hg := gr_lt (b := x) hW
    have hsub : ∀ j, x.testBit j = true → (gr W x).testBit j = true := fun j hj => (gr_bit hx j).2 ⟨hs j hj, .inl hj⟩
    have he : gr W x = x := by
      apply Classical.byContradiction
      intro hne
      have := pc_sub hx hg hsub (fun e => hne e.symm)
      have := pc_le (gr W x)
      omega
    refine ⟨x, ?_, hx, hs, hb, fun i j h1 h2 h3 => ?_, hl⟩
    · have h1 := sh_lt 1 0 hx
      have h2 := sh_lt (-1) 0 hx
      have h3 := sh_lt 0 1 hx
      have h4 := sh_lt 0 (-1) hx
      have o1 := Nat.or_lt_two_pow hx h1
      have o2 := Nat.or_lt_two_pow o1 h2
      have o3 := Nat.or_lt_two_pow o2 h3
      have o4 := Nat.or_lt_two_pow o3 h4
      rw [bits_Fill.l0_s, bits_Fill.s0, shift_eq hN hx ⟨by decide, by decide⟩ ⟨by decide, by decide⟩, Option.bind_some, shift_eq hN hx ⟨by decide, by decide⟩ ⟨by decide, by decide⟩, Option.bind_some, shift_eq hN hx ⟨by decide, by decide⟩ ⟨by decide, by decide⟩, Option.bind_some, shift_eq hN hx ⟨by decide, by decide⟩ ⟨by decide, by decide⟩, Option.bind_some, bOr hx h1, bOr o1 h2, bOr o2 h3, bOr o3 h4, bAnd o4 hW]
      show (bif eqI ((gr W x : Nat) : Int) (x : Int) then _ else _) = _
      rw [he, bif_t (eqI_t rfl)]
    · rw [← he]
      exact (gr_bit hx j).2 ⟨h3, .inr ⟨i, h1, h2⟩⟩
  | succ k ih =>
    intro n x hk hn hx hs hb hl
    obtain ⟨n, rfl⟩ := nxtS hn
    have hg := gr_lt (b := x) hW
    have hsub : ∀ j, x.testBit j = true → (gr W x).testBit j = true := fun j hj => (gr_bit hx j).2 ⟨hs j hj, .inl hj⟩
    have h1 := sh_lt 1 0 hx
    have h2 := sh_lt (-1) 0 hx
    have h3 := sh_lt 0 1 hx
    have h4 := sh_lt 0 (-1) hx
    have o1 := Nat.or_lt_two_pow hx h1
    have o2 := Nat.or_lt_two_pow o1 h2
    have o3 := Nat.or_lt_two_pow o2 h3
    have o4 := Nat.or_lt_two_pow o3 h4
    rw [bits_Fill.l0_s, bits_Fill.s0, shift_eq hN hx ⟨by decide, by decide⟩ ⟨by decide, by decide⟩, Option.bind_some, shift_eq hN hx ⟨by decide, by decide⟩ ⟨by decide, by decide⟩, Option.bind_some, shift_eq hN hx ⟨by decide, by decide⟩ ⟨by decide, by decide⟩, Option.bind_some, shift_eq hN hx ⟨by decide, by decide⟩ ⟨by decide, by decide⟩, Option.bind_some, bOr hx h1, bOr o1 h2, bOr o2 h3, bOr o3 h4, bAnd o4 hW]
    show ∃ r : Nat, (bif eqI ((gr W x : Nat) : Int) (x : Int) then some (x : Int) else bits_Fill.l0 N bb (W : Int) n ((gr W x : Nat) : Int)) = some (r : Int) ∧ FillOk W b r
    by_cases he : gr W x = x
    · refine ⟨x, by rw [he, bif_t (eqI_t rfl)], hx, hs, hb, fun i j h1 h2 h3 => ?_, hl⟩
      rw [← he]
      exact (gr_bit hx j).2 ⟨h3, .inr ⟨i, h1, h2⟩⟩
    · rw [bif_f (eqI_f (by omega))]
      have hpc := pc_sub hx hg hsub (fun e => he e.symm)
      refine ih n (gr W x) (by omega) (by omega) hg (fun j hj => ((gr_bit hx j).1 hj).1) (fun j h1 h2 => hsub j (hb j h1 h2)) fun c c1 c2 j hj => ?_
      have hc : ∀ i, x.testBit i = true → c i := hl c c1 fun i j g1 g2 g3 g4 => c2 i j (hsub i g1) g2 g3 g4
      obtain ⟨g1, g2 | ⟨i, g2, g3⟩⟩ := (gr_bit hx j).1 hj
      · exact hc j g2
      · exact c2 i j (hsub i g2) (hc i g2) g3 g1
theorem fill_eq {N W b : Nat} (hN : 100 < N) (hW : W < 2 ^ 64) (hb : b < 2 ^ 64) : ∃ r : Nat, bits_Fill N (b : Int) (W : Int) = some (r : Int) ∧ FillOk W b r := by
  unfold bits_Fill bits_Fill.e
  rw [bAnd hb hW]
  have hx : b &&& W < 2 ^ 64 := Nat.and_lt_two_pow _ hW
  have hbit : ∀ j, (b &&& W).testBit j = true ↔ b.testBit j = true ∧ W.testBit j = true := fun j => by rw [Nat.testBit_and, Bool.and_eq_true]
  exact fill_l0 (bb := (b : Int)) hN hW 64 N (b &&& W) (by omega) (by omega) hx (fun j hj => ((hbit j).1 hj).2) (fun j h1 h2 => (hbit j).2 ⟨h1, h2⟩) fun c c1 c2 j hj => c1 j ((hbit j).1 hj).1 ((hbit j).1 hj).2

/-! ### the parts -/
/-- the parts of what is left of B -/
inductive PL (B : Nat) : Nat → List Nat → Prop
  | nil : PL B 0 []
  | cons {rest p : Nat} {l : List Nat} : rest ≠ 0 → rest < 2 ^ 64 → (∀ j, rest.testBit j = true → B.testBit j = true) → (∀ i j, rest.testBit i = true → adj i j → B.testBit j = true → rest.testBit j = true) → FillOk rest (2 ^ low rest) p → PL B (nn rest p) l → PL B rest (p :: l)
theorem lowest {N : Nat} {m : Nat} (h0 : m ≠ 0) (hm : m < 2 ^ 64) : Go.bits .and .u64 (m : Int) (IntKind.wrap .u64 (0 - (m : Int))) = ((2 ^ low m : Nat) : Int) := by
  obtain ⟨k, q, rfl⟩ := lowb m h0
  have hl : low (2 ^ k * (2 * q + 1)) = k := by unfold low; rw [tz_eq hm]; simp
  have hn := neg_eq hm
  have hp : 0 < 2 ^ k * (2 * q + 1) := Nat.mul_pos (Nat.two_pow_pos k) (by omega)
  rw [hl]
  have e1 : IntKind.wrap .u64 (0 - ((2 ^ k * (2 * q + 1) : Nat) : Int)) = ((2 ^ 64 - 2 ^ k * (2 * q + 1) : Nat) : Int) := by
    show (0 - ((2 ^ k * (2 * q + 1) : Nat) : Int)) % 18446744073709551616 = _
    generalize 2 ^ k * (2 * q + 1) = m at *
    omega
  rw [e1, bAnd hm (by omega), hn]
theorem parts_l0 {N B : Nat} {bb : Int} (hN : 100 < N) (hB : B < 2 ^ 64) : ∀ (k rest n : Nat) (out : List Int), pc rest ≤ k → k + 1 < n → out.length + k ≤ 900 → rest < 2 ^ 64 → (∀ j, rest.testBit j = true → B.testBit j = true) → (∀ i j, rest.testBit i = true → adj i j → B.testBit j = true → rest.testBit j = true) →
    ∃ l, bits_Parts.l0 N bb n (rest : Int) out = some (out ++ nI l) ∧ PL B rest l ∧ l.length ≤ k := by
  intro k
  induction k with
  | zero =>
    intro rest n out hk hn ho hr hs hc
    have h0 : rest = 0 := by
      apply Classical.byContradiction
      intro h
      have := pc_pos h hr
      omega
    subst h0
    obtain ⟨n, rfl⟩ := nxtS (k := 0) (n := n) (by omega)
    refine ⟨[], ?_, .nil, Nat.le_refl _⟩
    rw [bits_Parts.l0_s, bits_Parts.s0, show (!(eqI ((0 : Nat) : Int) 0)) = false from rfl, bif_f rfl]
    simp [nI]
  | succ k ih =>
    intro rest n out hk hn ho hr hs hc
    obtain ⟨n, rfl⟩ := nxtS (k := 0) (n := n) (by omega)
    by_cases h0 : rest = 0
    · subst h0
      refine ⟨[], ?_, .nil, Nat.zero_le _⟩
      rw [bits_Parts.l0_s, bits_Parts.s0, show (!(eqI ((0 : Nat) : Int) 0)) = false from rfl, bif_f rfl]
      simp [nI]
    · obtain ⟨h1, h2, h3, h4, h5, h6, h7, h8⟩ := low_facts h0 hr
      have hlow : 2 ^ low rest < 2 ^ 64 := Nat.pow_lt_pow_right (by decide) h1
      obtain ⟨p, hp, hf⟩ := fill_eq (N := N) hN hr hlow
      have hnn := nn_lt (b := p) hr
      have hnb := fun j => nn_bit hr hf.lt j
      have hlp : p.testBit (low rest) = true := hf.base _ (by rw [Nat.testBit_two_pow]; simp) h6
      have hpc : pc (nn rest p) < pc rest := by
        refine pc_sub hnn hr (fun j hj => ?_) fun e => ?_
        · rw [hnb, Bool.and_eq_true] at hj
          exact hj.1
        · have := hnb (low rest)
          rw [e, h6, hlp] at this
          cases this
      have hs' : ∀ j, (nn rest p).testBit j = true → B.testBit j = true := fun j hj => by
        rw [hnb, Bool.and_eq_true] at hj
        exact hs j hj.1
      have hc' : ∀ i j, (nn rest p).testBit i = true → adj i j → B.testBit j = true → (nn rest p).testBit j = true := fun i j h1 h2 h3 => by
        rw [hnb, Bool.and_eq_true] at h1 ⊢
        have hj := hc i j h1.1 h2 h3
        refine ⟨hj, ?_⟩
        cases hpj : p.testBit j with
        | false => rfl
        | true =>
          have := hf.closed j i hpj (adj_symm h2) h1.1
          rw [this] at h1
          simp at h1
      have hcap : capOk 8 (out.length + ([(p : Int)] : List Int).length) = true := cap8 (by rw [List.length_singleton]; omega)
      obtain ⟨l, hl1, hl2, hl3⟩ := ih (nn rest p) n (out ++ [(p : Int)]) (by omega) (by omega) (by rw [List.length_append, List.length_singleton]; omega) hnn hs' hc'
      refine ⟨p :: l, ?_, .cons h0 hr hs hc hf hl2, by rw [List.length_cons]; omega⟩
      have hz : (!(eqI (rest : Int) 0)) = true := by rw [eqI_f (by omega)]; rfl
      rw [bits_Parts.l0_s, bits_Parts.s0, hz, lowest (N := N) h0 hr, hp, Option.bind_some, hcap, chk_true, bNot hr hf.lt]
      show bits_Parts.l0 N bb n _ _ = _
      rw [hl1]
      simp [nI]
theorem parts_eq {N B : Nat} (hN : 1000 < N) (hB : B < 2 ^ 64) : ∃ l, bits_Parts N (B : Int) = some (nI l) ∧ PL B B l ∧ l.length ≤ 64 := by
  unfold bits_Parts bits_Parts.e
  obtain ⟨l, h1, h2, h3⟩ := parts_l0 (bb := (B : Int)) (N := N) (by omega) hB 64 B N [] (pc_le B) (by omega) (by simp) hB (fun j hj => hj) (fun i j _ _ h => h)
  rw [List.nil_append] at h1
  exact ⟨l, h1, h2, h3⟩
/-- a part is filled from any of its squares -/
theorem part_any {B rest p r s : Nat} (hs : ∀ j, rest.testBit j = true → B.testBit j = true) (hc : ∀ i j, rest.testBit i = true → adj i j → B.testBit j = true → rest.testBit j = true) (hf : FillOk rest (2 ^ low rest) p) (hps : p.testBit s = true) (hr : FillOk B (2 ^ s) r) : r = p := by
  have hpc : ∀ i j, p.testBit i = true → adj i j → B.testBit j = true → p.testBit j = true := fun i j h1 h2 h3 => hf.closed i j h1 h2 (hc i j (hf.sub i h1) h2 h3)
  have hsr : r.testBit s = true := hr.base s (by rw [Nat.testBit_two_pow]; simp) (hs s (hf.sub s hps))
  have h1 : ∀ j, r.testBit j = true → p.testBit j = true := hr.least (fun j => p.testBit j = true) (fun j hj _ => by
    rw [Nat.testBit_two_pow, decide_eq_true_eq] at hj
    subst hj
    exact hps) (fun i j _ h2 h3 h4 => hpc i j h2 h3 h4)
  have h2 : ∀ j, p.testBit j = true → r.testBit j = true := by
    cases hl : r.testBit (low rest) with
    | true =>
      exact hf.least (fun j => r.testBit j = true) (fun j hj _ => by
        rw [Nat.testBit_two_pow, decide_eq_true_eq] at hj
        subst hj
        exact hl) (fun i j _ g2 g3 g4 => hr.closed i j g2 g3 (hs j g4))
    | false =>
      have := hf.least (fun j => r.testBit j = false) (fun j hj _ => by
        rw [Nat.testBit_two_pow, decide_eq_true_eq] at hj
        subst hj
        exact hl) (fun i j g1 g2 g3 g4 => by
          cases hj : r.testBit j with
          | false => rfl
          | true =>
            have := hr.closed j i hj (adj_symm g3) (hs i (hf.sub i g1))
            rw [this] at g2
            cases g2) s hps
      rw [hsr] at this
      cases this
  apply Nat.eq_of_testBit_eq
  intro j
  apply Bool.eq_iff_iff.2
  exact ⟨h1 j, h2 j⟩
end Go.Proofs.YtbnpbnghpbgjiaaDoor.Am
