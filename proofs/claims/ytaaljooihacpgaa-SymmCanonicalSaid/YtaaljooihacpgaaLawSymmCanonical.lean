/- The plain law SymmCanonical: the plain function says true at every input. -/
import Derived.Test.YtaaljooihacpgaaLawSymmBase
import Derived.Test.YtaaljooihacpgaaLawLists
set_option linter.unusedVariables false
set_option linter.unusedSimpArgs false
namespace Go.Proofs.Ytaaljooihacpgaa.Am
open Go

theorem inv2_all : boards (fun w h => upto (many w h) fun a => Nat.blt (invS a) (many w h) && (upto (w * h) fun q => (Nat.beq (img w h a (img w h (invS a) q)) q && Nat.blt (img w h (invS a) q) (w * h)) && Nat.beq (img w h (invS 0) q) q)) = true := by decide +kernel
theorem comp2_all : boards (fun w h => upto (many w h) fun a => upto (many w h) fun b => Nat.blt (cmpS a b) (many w h) && ((upto (w * h) fun q => Nat.beq (img w h (invS b) (img w h (invS a) q)) (img w h (invS (cmpS a b)) q)) && (List.range (many w h)).any fun u => Nat.beq (cmpS u b) a)) = true := by decide +kernel
theorem const2_all : (match symm_Canon 1000 2 1 [6, 5] with | some y => y == ([5, 6], (1, 0)) | none => false) = true ∧ gamehallkeep1_moved 1000 = some true := by decide +kernel

/-- cells after a symmetry -/
def actL (w h s : Nat) (l : List Int) : List Int := (List.range (w * h)).map fun q => l.getD (img w h (invS s) q) 0
theorem actL_len {w h s : Nat} {l : List Int} : (actL w h s l).length = w * h := by simp [actL]
theorem many_pos (w h : Nat) : 0 < many w h := by unfold many; cases Nat.beq w h <;> decide
section
variable {w h : Nat} (hB : 1 ≤ w ∧ w ≤ 8 ∧ 1 ≤ h ∧ h ≤ 8)
include hB
theorem inv2_eq {s : Nat} (hs : s < many w h) : invS s < many w h ∧ ∀ q, q < w * h → img w h s (img w h (invS s) q) = q ∧ img w h (invS s) q < w * h := by
  have := upto_at (boards_at inv2_all hB) hs
  simp only [Bool.and_eq_true] at this
  refine ⟨blt_lt this.1, fun q hq => ?_⟩
  have := upto_at this.2 hq
  simp only [Bool.and_eq_true] at this
  exact ⟨Nat.eq_of_beq_eq_true this.1.1, blt_lt this.1.2⟩
theorem img0_eq {q : Nat} (hq : q < w * h) : img w h (invS 0) q = q := by
  have := upto_at (boards_at inv2_all hB) (many_pos w h)
  simp only [Bool.and_eq_true] at this
  have := upto_at this.2 hq
  simp only [Bool.and_eq_true] at this
  exact Nat.eq_of_beq_eq_true this.2
theorem act0 {l : List Int} (hl : l.length = w * h) : actL w h 0 l = l := by
  apply List.ext_getElem
  · rw [actL_len, hl]
  · intro q h1 h2
    have hq : q < w * h := by rw [actL_len] at h1; exact h1
    simp [actL, img0_eq hB hq, h2]
theorem act_act {a b : Nat} {l : List Int} (ha : a < many w h) (hb : b < many w h) : actL w h a (actL w h b l) = actL w h (cmpS a b) l := by
  apply List.ext_getElem
  · rw [actL_len, actL_len]
  · intro q h1 h2
    have hq : q < w * h := by rw [actL_len] at h1; exact h1
    have h3 := ((inv2_eq hB ha).2 q hq).2
    have := upto_at (upto_at (boards_at comp2_all hB) ha) hb
    simp only [Bool.and_eq_true] at this
    have := Nat.eq_of_beq_eq_true (upto_at this.2.1 hq)
    simp [actL, h3, this]
theorem cmp_lt {a b : Nat} (ha : a < many w h) (hb : b < many w h) : cmpS a b < many w h := by
  have := upto_at (upto_at (boards_at comp2_all hB) ha) hb
  simp only [Bool.and_eq_true] at this
  exact blt_lt this.1
theorem cmp_onto {a b : Nat} (ha : a < many w h) (hb : b < many w h) : ∃ u, u < many w h ∧ cmpS u b = a := by
  have := upto_at (upto_at (boards_at comp2_all hB) ha) hb
  simp only [Bool.and_eq_true, List.any_eq_true] at this
  obtain ⟨u, h1, h2⟩ := this.2.2
  exact ⟨u, List.mem_range.1 h1, Nat.eq_of_beq_eq_true h2⟩

/-- cells as far as they have been moved -/
def part (w h s j : Nat) (l : List Int) : List Int := (List.range (w * h)).map fun q => if img w h (invS s) q < j then l.getD (img w h (invS s) q) 0 else 0
theorem part_set {s j : Nat} {l : List Int} (hs : s < many w h) (hj : j < w * h) : (part w h s j l).set (img w h s j) (l.getD j 0) = part w h s (j + 1) l := by
  apply List.ext_getElem
  · simp [part]
  · intro q h1 h2
    have hq : q < w * h := by simpa [part] using h2
    have k1 := (inv2_eq hB hs).2 q hq
    have k2 := inv_eq hB hs hj
    rw [List.getElem_set]
    by_cases he : img w h s j = q
    · rw [if_pos he]
      have : img w h (invS s) q = j := by rw [← he, k2.1]
      simp [part, this]
    · rw [if_neg he]
      have : img w h (invS s) q ≠ j := fun e => he (by rw [← e, k1.1])
      simp only [part, List.getElem_map, List.getElem_range]
      by_cases h3 : img w h (invS s) q < j
      · rw [if_pos h3, if_pos (by omega)]
      · rw [if_neg h3, if_neg (by omega)]
theorem part_end {s : Nat} {l : List Int} (hs : s < many w h) : part w h s (w * h) l = actL w h s l := by
  apply List.ext_getElem
  · simp [part, actL]
  · intro q h1 h2
    have hq : q < w * h := by simpa [part] using h1
    simp [part, actL, ((inv2_eq hB hs).2 q hq).2]
theorem apply_loop {s : Nat} {l : List Int} (hs : s < many w h) (hl : l.length = w * h) : ∀ (k j n : Nat), j + k = w * h → k < n →
    symm_Apply.l0 1000 n w h s l (l.length : Int) (j : Int) (part w h s j l) = some (actL w h s l, 0)
  | 0, j, n + 1, hk, hn => by
    simp only [symm_Apply.l0_s, symm_Apply.s0]
    rw [bif_f (ltI_f (by omega)), show j = w * h by omega, part_end hB hs]
  | k + 1, j, n + 1, hk, hn => by
    have hj : j < w * h := by omega
    have ha := area_le hB
    have hp : (part w h s j l).length = w * h := by simp [part]
    have hi := (inv_eq hB hs hj).2
    simp only [symm_Apply.l0_s, symm_Apply.s0]
    rw [bif_t (ltI_t (by omega)), chk_of (idx_ok (by omega)), image_eq hB hs hj, Option.bind_some, chk_of (idx_ok (by omega)), w64_id (by omega) (by omega), gD_nat', Int.toNat_natCast, part_set hB hs hj]
    have := apply_loop hs hl k (j + 1) n (by omega) (by omega)
    rw [show ((j : Int) + 1) = ((j + 1 : Nat) : Int) by omega, this]
theorem apply_open {M s : Nat} {l : List Int} (hs : s < many w h) (hl : l.length = w * h) : symm_Apply M w h s l = symm_Apply.l0 M M w h s l (l.length : Int) 0 (part w h s 0 l) := by
  have ha := area_le hB
  have hc : (w : Int) * (h : Int) = ((w * h : Nat) : Int) := by simp
  have hp : List.replicate (l.length : Int).toNat (0 : Int) = part w h s 0 l := by
    rw [Int.toNat_natCast, hl]
    apply List.ext_getElem
    · simp [part]
    · intro q h1 h2
      simp [part]
  rw [← hp]
  generalize hr : symm_Apply.l0 M M = r0
  unfold symm_Apply
  rw [hr]
  unfold symm_Apply.e
  rw [symm_check_good (Good.of hB hs), Option.bind_some, bif_f (by rfl), hc, w64_id (by omega) (by omega), bif_f (by rw [hl, eqI_self]; rfl)]
  rw [chk_of (by
    rw [leI_t (by omega), decide_eq_true (by omega), Bool.true_and, Bool.true_and, Int.toNat_natCast]
    unfold capOk
    exact decide_eq_true (by omega))]
theorem apply_good {s : Nat} {l : List Int} (hs : s < many w h) (hl : l.length = w * h) : symm_Apply 1000 w h s l = some (actL w h s l, 0) := by
  have ha := area_le hB
  rw [apply_open hB hs hl]
  exact apply_loop hB hs hl (w * h) 0 1000 (by omega) (by omega)
theorem canon_loop {l : List Int} (hl : l.length = w * h) : ∀ (k j n b : Nat), j + k = many w h → k < n → b < many w h → (∀ t, t < j → lexLt (actL w h t l) (actL w h b l) = false) → (b ≠ 0 → lexLt (actL w h b l) (actL w h 0 l) = true) →
    ∃ b', symm_Canon.l0 1000 n w h l (b : Int) (j : Int) (actL w h b l) = some (actL w h b' l, ((b' : Nat) : Int), 0) ∧ b' < many w h ∧ (∀ t, t < many w h → lexLt (actL w h t l) (actL w h b' l) = false) ∧ (b' ≠ 0 → lexLt (actL w h b' l) (actL w h 0 l) = true)
  | 0, j, n + 1, b, hk, hn, hb, h1, h2 => by
    simp only [symm_Canon.l0_s, symm_Canon.s0, many_eq, Option.bind_some]
    rw [bif_f (ltI_f (by omega))]
    exact ⟨b, rfl, hb, fun t ht => h1 t (by omega), h2⟩
  | k + 1, j, n + 1, b, hk, hn, hb, h1, h2 => by
    have hj : j < many w h := by omega
    have hm := area_le hB
    simp only [symm_Canon.l0_s, symm_Canon.s0, many_eq, Option.bind_some]
    obtain ⟨r, k1, k2⟩ := compare_eq (N := 1000) (a := actL w h j l) (b := actL w h b l) (by rw [actL_len]; omega) (by rw [actL_len]; omega) (by rw [actL_len]; omega)
    have hm8 : many w h ≤ 8 := by unfold many; cases Nat.beq w h <;> decide
    rw [bif_t (ltI_t (by omega)), apply_good hB hj hl]
    simp only [Option.bind_some, k1]
    rw [w64_id (by omega) (by omega), show ((j : Int) + 1) = ((j + 1 : Nat) : Int) by omega]
    by_cases hr : r < 0
    · rw [bif_t (ltI_t hr)]
      have hlt := k2.1 hr
      refine canon_loop hl k (j + 1) n j (by omega) (by omega) hj (fun t ht => ?_) (fun h0 => ?_)
      · by_cases ht' : t = j
        · subst ht'; exact lexLt_irrefl _
        · have h3 := h1 t (by omega)
          cases h4 : lexLt (actL w h t l) (actL w h j l) with
          | false => rfl
          | true => rw [lexLt_trans h4 hlt] at h3; cases h3
      · by_cases hb0 : b = 0
        · subst hb0; exact hlt
        · exact lexLt_trans hlt (h2 hb0)
    · rw [bif_f (ltI_f (by omega))]
      refine canon_loop hl k (j + 1) n b (by omega) (by omega) hb (fun t ht => ?_) h2
      by_cases ht' : t = j
      · subst ht'
        cases h4 : lexLt (actL w h t l) (actL w h b l) with
        | false => rfl
        | true => exact absurd (k2.2 h4) hr
      · exact h1 t (by omega)
theorem canon_good {l : List Int} (hl : l.length = w * h) : ∃ b, symm_Canon 1000 w h l = some (actL w h b l, ((b : Nat) : Int), 0) ∧ b < many w h ∧ (∀ t, t < many w h → lexLt (actL w h t l) (actL w h b l) = false) ∧ (b ≠ 0 → lexLt (actL w h b l) (actL w h 0 l) = true) := by
  have hm8 : many w h ≤ 8 := by unfold many; cases Nat.beq w h <;> decide
  have hp := many_pos w h
  have h0 := apply_good hB hp hl
  simp only [symm_Canon, symm_Canon.e]
  rw [show ((0 : Nat) : Int) = 0 from rfl] at h0
  rw [h0]
  simp only [Option.bind_some, eqI_self, Bool.not_true, cond_false]
  exact canon_loop hB hl (many w h - 1) 1 1000 0 (by omega) (by omega) hp (fun t ht => by rw [show t = 0 by omega]; exact lexLt_irrefl _) (fun h => absurd rfl h)
/-- what has no less form than it is its own form -/
theorem least_eq {l l' : List Int} {s a b : Nat} (hs : s < many w h) (hl' : l' = actL w h s l) (ha : a < many w h) (hb : b < many w h) (h1 : ∀ t, t < many w h → lexLt (actL w h t l) (actL w h a l) = false)
    (h2 : ∀ t, t < many w h → lexLt (actL w h t l') (actL w h b l') = false) : actL w h b l' = actL w h a l := by
  subst hl'
  apply lexLt_total
  · rw [act_act hB hb hs]
    exact h1 _ (cmp_lt hB hb hs)
  · obtain ⟨u, hu, e⟩ := cmp_onto hB ha hs
    have := h2 u hu
    rw [act_act hB hu hs, e] at this
    exact this
end
theorem apply_bad {w h s : Int} {l : List Int} (hl : l.length ≤ 9223372036854775807) (hb : ¬ (Good w h s ∧ (l.length : Int) = w * h)) : ∃ e, symm_Apply 1000 w h s l = some ([], e) ∧ e ≠ 0 := by
  obtain ⟨e1, h1, k1⟩ := symm_check_iff (N := 1000) (w := w) (h := h) (s := s)
  simp only [symm_Apply, symm_Apply.e, h1, Option.bind_some]
  by_cases g1 : e1 = 0
  · have hg := k1.1 g1
    obtain ⟨w', h', s', rfl, rfl, rfl, k1, k2, k3, k4, k5⟩ := hg.nat
    have ha := area_le ⟨k1, k2, k3, k4⟩
    have hc : (w' : Int) * (h' : Int) = ((w' * h' : Nat) : Int) := by simp
    rw [bif_f (by simp [eqI, g1]), hc, w64_id (by omega) (by omega), bif_t (by
      have : ¬ (l.length : Int) = ((w' * h' : Nat) : Int) := fun e => hb ⟨hg, by rw [hc]; exact e⟩
      simp only [eqI_f this, Bool.not_false])]
    exact ⟨3, rfl, by decide⟩
  · rw [bif_t (by simp [eqI, g1])]
    exact ⟨e1, rfl, g1⟩
theorem canon_bad {w h : Int} {l : List Int} (hl : l.length ≤ 9223372036854775807) (hb : ¬ (Good w h 0 ∧ (l.length : Int) = w * h)) : ∃ e, symm_Canon 1000 w h l = some ([], 0, e) ∧ e ≠ 0 := by
  obtain ⟨e, h1, h2⟩ := apply_bad hl hb
  simp only [symm_Canon, symm_Canon.e, h1, Option.bind_some]
  rw [bif_t (by simp [eqI, h2])]
  exact ⟨e, rfl, h2⟩

theorem symmCanonical_at (w h s : Int) (l : List Int) (hlen : l.length ≤ 9223372036854775807) : gamehallkeep1_SymmCanonical 1000 w h s l = some true := by
  obtain ⟨c1, c2⟩ := const2_all
  have c1 : symm_Canon 1000 2 1 [6, 5] = some ([5, 6], (1, 0)) := by
    split at c1
    · rename_i y hy
      rw [hy]
      rw [show y = ([5, 6], (1, 0)) by simpa using c1]
    · cases c1
  simp only [gamehallkeep1_SymmCanonical, gamehallkeep1_SymmCanonical.e, c1, c2, Option.bind_some, eqI_self, Bool.not_true, cond_false]
  rw [equal_eq (by simp) (by simp) (by simp)]
  simp only [Option.bind_some, decide_true, Bool.not_true, cond_false]
  by_cases g0 : Good w h 0 ∧ (l.length : Int) = w * h
  · obtain ⟨g0, hl⟩ := g0
    obtain ⟨w', h', z, rfl, rfl, hz, h1, h2, h3, h4, _⟩ := g0.nat
    have hB : 1 ≤ w' ∧ w' ≤ 8 ∧ 1 ≤ h' ∧ h' ≤ 8 := ⟨h1, h2, h3, h4⟩
    have ha := area_le hB
    have hl : l.length = w' * h' := by
      have hc : (w' : Int) * (h' : Int) = ((w' * h' : Nat) : Int) := by simp
      rw [hc] at hl
      omega
    obtain ⟨b, e1, b1, b2, b3⟩ := canon_good hB hl
    simp only [e1, Option.bind_some]
    by_cases g1 : Good w' h' s
    · obtain ⟨_, _, s', hw, hh, rfl, _, _, _, _, hs⟩ := g1.nat
      have hw : _ = w' := (Int.ofNat_inj.1 hw).symm
      have hh : _ = h' := (Int.ofNat_inj.1 hh).symm
      subst hw hh
      obtain ⟨c, e2, c1, c2, c3⟩ := canon_good hB (l := actL _ _ s' l) actL_len
      obtain ⟨d, e3, d1, d2, d3⟩ := canon_good hB (l := actL _ _ b l) actL_len
      have q1 := least_eq hB hs rfl b1 c1 b2 c2
      have q2 := least_eq hB b1 rfl b1 d1 b2 d2
      have q3 : d = 0 := by
        by_cases hd : d = 0
        · exact hd
        · have := d3 hd
          rw [q2, act0 hB actL_len, lexLt_irrefl] at this
          cases this
      subst q3
      simp only [apply_good hB hs hl, apply_good hB b1 hl, Option.bind_some, e2, e3]
      rw [fine_eq (by simp) (by simp)]
      simp only [Option.bind_some]
      rw [bif_f (by simp), fine_eq (by simp) (by simp)]
      simp only [Option.bind_some]
      rw [bif_t (by simp), equal_eq (by rw [actL_len]; omega) (by rw [actL_len]; omega) (by rw [actL_len]; omega), Option.bind_some, bif_t (by simp [q1]),
        equal_eq (by rw [actL_len]; omega) (by rw [actL_len]; omega) (by rw [actL_len]; omega), Option.bind_some, bif_t (by simp [q2]), bif_t (show eqI ((0 : Nat) : Int) 0 = true from rfl),
        equal_eq (by rw [actL_len]; omega) (by rw [actL_len]; omega) (by rw [actL_len]; omega), Option.bind_some]
      simp
    · obtain ⟨e, e2, k2⟩ := apply_bad hlen (fun k => g1 k.1)
      simp only [e2, Option.bind_some]
      rw [fine_eq (by simp) (by simp)]
      simp only [Option.bind_some]
      rw [bif_t (by simp [k2]), bif_t (eqI_t rfl)]
  · obtain ⟨e, e1, k1⟩ := canon_bad hlen g0
    simp only [e1, Option.bind_some]
    have : ∃ r, symm_Apply 1000 w h s l = some r := by
      by_cases g1 : Good w h s ∧ (l.length : Int) = w * h
      · obtain ⟨g1, hl⟩ := g1
        obtain ⟨w', h', s', rfl, rfl, rfl, h1, h2, h3, h4, hs⟩ := g1.nat
        have hc : (w' : Int) * (h' : Int) = ((w' * h' : Nat) : Int) := by simp
        exact ⟨_, apply_good ⟨h1, h2, h3, h4⟩ hs (by rw [hc] at hl; omega)⟩
      · obtain ⟨e, e2, _⟩ := apply_bad hlen g1
        exact ⟨_, e2⟩
    obtain ⟨r, e2⟩ := this
    simp only [e2, Option.bind_some]
    rw [fine_eq (by simp) (by simp)]
    simp only [Option.bind_some]
    rw [bif_t (by simp [k1]), bif_f (eqI_f k1)]
    rfl
theorem symmCanonical_true (x : (argTy [.d false (.int .i64), .d false (.int .i64), .d false (.int .i64), .d false (.slice 3 (.int .i64))]).den) (hx : Wf (argTy [.d false (.int .i64), .d false (.int .i64), .d false (.int .i64), .d false (.slice 3 (.int .i64))]) x) : ∃ N, gamehallkeep1_SymmCanonical N x.1 x.2.1 x.2.2.1 x.2.2.2 = some true := ⟨1000, symmCanonical_at _ _ _ _ hx.2.2.2.1⟩
end Go.Proofs.Ytaaljooihacpgaa.Am
