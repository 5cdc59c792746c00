/- Plain: rules are checked. -/
import Derived.Test.YtjmcjiklfhmdlaaLawRulesBasez
import Derived.Test.YtjmcjiklfhmdlaaLawBoardsz
set_option linter.unusedVariables false
set_option linter.unusedSimpArgs false
namespace Go.Proofs.Ytjmcjiklfhmdlaa.Am
open Go

theorem pieces_l0 (N : Nat) (l : List PieceT) (hl : l.length ≤ 6) : ∀ (k j : Nat), j + k = l.length → ∃ v, (∀ n, 26 * k + 1 ≤ n → rules_pieces.l0 N l n (j : Int) = some v) ∧ (v = 0 → ∀ p ∈ l.drop j, p.2.2.2.length ≤ 16)
  | 0, j, hk => by
    refine ⟨0, fun n hn => ?_, fun _ p hp => by rw [List.drop_of_length_le (by omega)] at hp; cases hp⟩
    obtain ⟨n, rfl⟩ : ∃ m, n = m + 1 := ⟨n - 1, by omega⟩
    rw [rules_pieces.l0_s, rules_pieces.s0, bif_f (ltI_f (by omega))]
  | k + 1, j, hk => by
    obtain ⟨u, hu, hu0⟩ := pieces_l0 N l hl k (j + 1) (by omega)
    have hj : j < l.length := by omega
    have hB : ∀ n, 26 * k + 1 ≤ n → rules_pieces.l0 N l n (w64 ((j : Int) + 1)) = some u := fun n hn => by
      rw [w64_id (by omega) (by omega)]
      exact hu n hn
    have hbl : ((l.take (j : Int).toNat).drop (0 : Int).toNat).length = j := by simp; omega
    obtain ⟨q, hq, hq0⟩ := pieces_l1 N l hl j (gD ((0 : Int), ((0 : Int), ((0 : Int), ([] : (List (Int × (Int × (Int × Int)))))))) l j).1 (gD ((0 : Int), ((0 : Int), ((0 : Int), ([] : (List (Int × (Int × (Int × Int)))))))) l j).2.1 (gD ((0 : Int), ((0 : Int), ((0 : Int), ([] : (List (Int × (Int × (Int × Int)))))))) l j).2.2.1 (gD ((0 : Int), ((0 : Int), ((0 : Int), ([] : (List (Int × (Int × (Int × Int)))))))) l j).2.2.2 ((l.take (j : Int).toNat).drop (0 : Int).toNat) (by omega) _ u hB j 0 (by omega)
    refine ⟨bif ltI (gD ((0 : Int), ((0 : Int), ((0 : Int), ([] : (List (Int × (Int × (Int × Int)))))))) l j).1 65 then 6 else bif ltI 90 (gD ((0 : Int), ((0 : Int), ((0 : Int), ([] : (List (Int × (Int × (Int × Int)))))))) l j).1 then 6 else q, fun n hn => ?_, fun h => ?_⟩
    rotate_left
    · revert h
      rw [gD_nat hj, List.drop_eq_getElem_cons hj]
      rw [gD_nat hj] at hq0
      cases ltI l[j].1 65 <;> cases ltI 90 l[j].1 <;> simp only [cond_true, cond_false]
      · intro h p hp
        obtain ⟨k1, k2⟩ := hq0 h
        rcases List.mem_cons.1 hp with rfl | hp
        · exact k2
        · exact hu0 k1 p hp
      all_goals exact fun h => by cases h
    obtain ⟨n, rfl⟩ : ∃ m, n = m + 1 := ⟨n - 1, by omega⟩
    have hq := hq n (by omega)
    rw [show ((0 : Nat) : Int) = 0 from rfl] at hq
    rw [rules_pieces.l0_s, rules_pieces.s0, bif_t (ltI_t (by omega)), chk_of (idx_ok hj), chk_of (b := true && (leI 0 (j : Int) && leI (j : Int) (l.length : Int))) (by rw [leI_t (by omega), leI_t (by omega)]; rfl), hq]
    cases ltI (gD ((0 : Int), ((0 : Int), ((0 : Int), ([] : (List (Int × (Int × (Int × Int)))))))) l j).1 65 <;> cases ltI 90 (gD ((0 : Int), ((0 : Int), ((0 : Int), ([] : (List (Int × (Int × (Int × Int)))))))) l j).1 <;> rfl
theorem pieces_total {N : Nat} (hN : 200 ≤ N) (l : List PieceT) : ∃ v, rules_pieces N l = some v ∧ (v = 0 → 1 ≤ l.length ∧ l.length ≤ 6 ∧ ∀ p ∈ l, p.2.2.2.length ≤ 16) := by
  unfold rules_pieces rules_pieces.e
  by_cases h0 : l.length = 0
  · rw [bif_t (eqI_t (by omega))]; exact ⟨_, rfl, fun h => by cases h⟩
  · rw [bif_f (eqI_f (by omega))]
    by_cases h6 : 6 < l.length
    · rw [bif_t (ltI_t (by omega))]; exact ⟨_, rfl, fun h => by cases h⟩
    · rw [bif_f (ltI_f (by omega))]
      obtain ⟨v, hv, hv0⟩ := pieces_l0 N l (by omega) l.length 0 (by omega)
      have hv := hv N (by omega)
      rw [show ((0 : Nat) : Int) = 0 from rfl] at hv
      exact ⟨v, hv, fun hz => ⟨by omega, by omega, by simpa using hv0 hz⟩⟩

section
variable (N : Nat) (nm : ByteArray) (w h : Int) (ps : List PieceT) (fa ke : Bool) (en : List EndT) (bl qu re : Int)
theorem check_l1 (hen : en.length ≤ 6) : ∀ (k j : Nat), j + k = en.length → ∃ v, ∀ st n, k + 1 ≤ n → rules_Check.l1 N (nm, (w, (h, (ps, (st, (fa, (ke, (en, (bl, (qu, re)))))))))) n (en.length : Int) (j : Int) = some v
  | 0, j, hk => by
    refine ⟨bif ltI bl 0 then 4 else bif ltI 2 bl then 4 else bif ltI qu 0 then 4 else bif ltI 200 qu then 4 else bif ltI re 0 then 4 else bif eqI re 1 then 4 else bif ltI 5 re then 4 else 0, fun st n hn => ?_⟩
    obtain ⟨n, rfl⟩ : ∃ m, n = m + 1 := ⟨n - 1, by omega⟩
    rw [rules_Check.l1_s, rules_Check.s1]
    dsimp only
    rw [ bif_f (ltI_f (by omega))]
    cases ltI bl 0 <;> cases ltI 2 bl <;> cases ltI qu 0 <;> cases ltI 200 qu <;> cases ltI re 0 <;> cases eqI re 1 <;> cases ltI 5 re <;> rfl
  | k + 1, j, hk => by
    obtain ⟨u, hu⟩ := check_l1 hen k (j + 1) (by omega)
    have hj : j < en.length := by omega
    obtain ⟨q, hq⟩ := end_total N (gD ((0 : Int), ((0 : Int), ((0 : Int), false))) en j) (ps.length : Int)
    refine ⟨bif !eqI q 0 then q else u, fun st n hn => ?_⟩
    obtain ⟨n, rfl⟩ : ∃ m, n = m + 1 := ⟨n - 1, by omega⟩
    rw [rules_Check.l1_s, rules_Check.s1]
    dsimp only
    rw [ bif_t (ltI_t (by omega)), chk_of (idx_ok hj), hq, Option.bind_some, w64_id (by omega) (by omega), show ((j : Int) + 1) = ((j + 1 : Nat) : Int) by omega, hu st n (by omega)]
    cases eqI q 0 <;> rfl
/-- what stands behind the cells -/
theorem check_rest : ∃ q : Int, (∀ st n, 8 ≤ n → (bif ltI 6 (en.length : Int) then some 2 else rules_Check.l1 N (nm, (w, (h, (ps, (st, (fa, (ke, (en, (bl, (qu, re)))))))))) n (en.length : Int) 0) = some q) ∧ (q = 0 → en.length ≤ 6) := by
  by_cases h6 : 6 < en.length
  · exact ⟨2, fun st n _ => by rw [bif_t (ltI_t (by omega))], fun h => by cases h⟩
  · obtain ⟨v, hv⟩ := check_l1 N nm w h ps fa ke en bl qu re (by omega) en.length 0 (by omega)
    refine ⟨v, fun st n hn => ?_, fun _ => by omega⟩
    rw [bif_f (ltI_f (by omega))]
    exact hv st n (by omega)
theorem check_l0 (hps : ps.length ≤ 6) (st : List Int) (hst : st.length ≤ 64) (q : Int) (hq : ∀ n, 8 ≤ n → (bif ltI 6 (en.length : Int) then some 2 else rules_Check.l1 N (nm, (w, (h, (ps, (st, (fa, (ke, (en, (bl, (qu, re)))))))))) n (en.length : Int) 0) = some q) :
    ∀ (k j : Nat), j + k = st.length → ∀ n, k + 9 ≤ n → rules_Check.l0 N (nm, (w, (h, (ps, (st, (fa, (ke, (en, (bl, (qu, re)))))))))) n (st.length : Int) (j : Int) = some (if ∀ c ∈ st.drop j, 0 ≤ c ∧ c ≤ 2 * (ps.length : Int) then q else 4)
  | 0, j, hk, n, hn => by
    obtain ⟨n, rfl⟩ : ∃ m, n = m + 1 := ⟨n - 1, by omega⟩
    rw [rules_Check.l0_s, rules_Check.s0]
    dsimp only
    rw [ bif_f (ltI_f (by omega)), hq n (by omega), List.drop_of_length_le (by omega)]
    simp
  | k + 1, j, hk, n, hn => by
    obtain ⟨n, rfl⟩ : ∃ m, n = m + 1 := ⟨n - 1, by omega⟩
    have hj : j < st.length := by omega
    have ih := check_l0 hps st hst q hq k (j + 1) (by omega) n (by omega)
    rw [rules_Check.l0_s, rules_Check.s0]
    dsimp only
    rw [ bif_t (ltI_t (by omega)), chk_of (idx_ok hj), gD_nat hj, w64_id (x := 2 * (ps.length : Int)) (by omega) (by omega), w64_id (by omega) (by omega), show ((j : Int) + 1) = ((j + 1 : Nat) : Int) by omega, ih, List.drop_eq_getElem_cons hj]
    by_cases h1 : st[j] < 0
    · rw [bif_t (ltI_t h1), if_neg (fun h => by have := (h st[j] (List.mem_cons_self ..)).1; omega)]
    · rw [bif_f (ltI_f (by omega))]
      by_cases h2 : 2 * (ps.length : Int) < st[j]
      · rw [bif_t (ltI_t h2), if_neg (fun h => by have := (h st[j] (List.mem_cons_self ..)).2; omega)]
      · rw [bif_f (ltI_f (by omega))]
        congr 1
        by_cases h3 : ∀ c ∈ st.drop (j + 1), 0 ≤ c ∧ c ≤ 2 * (ps.length : Int)
        · rw [if_pos h3, if_pos]
          intro c hc
          rcases List.mem_cons.1 hc with rfl | hc
          · omega
          · exact h3 c hc
        · rw [if_neg h3, if_neg (fun h => h3 fun c hc => h c (List.mem_cons_of_mem _ hc))]
end
/-- a check, as far as it hangs on the cells -/
theorem check_spec (nm : ByteArray) (w h : Int) (ps : List PieceT) (fa ke : Bool) (en : List EndT) (bl qu re : Int) : ∃ p q : Int,
    (∀ st : List Int, rules_Check 1000 (nm, (w, (h, (ps, (st, (fa, (ke, (en, (bl, (qu, re)))))))))) = some (if p ≠ 0 then p else if (st.length : Int) ≠ w * h then 3 else if ∀ c ∈ st, 0 ≤ c ∧ c ≤ 2 * (ps.length : Int) then q else 4)) ∧
    (p = 0 → 1 ≤ w ∧ w ≤ 8 ∧ 1 ≤ h ∧ h ≤ 8 ∧ ps.length ≤ 6 ∧ ∀ p ∈ ps, p.2.2.2.length ≤ 16) ∧ (q = 0 → en.length ≤ 6) := by
  obtain ⟨b, hb⟩ := name_total (N := 1000) nm (by omega)
  obtain ⟨v, hv, hv0⟩ := pieces_total (N := 1000) (by omega) ps
  obtain ⟨q, hq, hq0⟩ := check_rest 1000 nm w h ps fa ke en bl qu re
  refine ⟨bif !b then 6 else bif ltI w 1 then 4 else bif ltI 8 w then 4 else bif ltI h 1 then 4 else bif ltI 8 h then 4 else v, q, fun st => ?_, fun hp => ?_, hq0⟩
  · unfold rules_Check rules_Check.e
    rw [hb, Option.bind_some]
    cases b with
    | false => simp
    | true =>
      simp only [Bool.not_true, cond_false]
      by_cases h1 : w < 1
      · simp [ltI_t h1]
      by_cases h2 : 8 < w
      · simp [ltI_f (show 1 ≤ w by omega), ltI_t h2]
      by_cases h3 : h < 1
      · simp [ltI_f (show 1 ≤ w by omega), ltI_f (show w ≤ 8 by omega), ltI_t h3]
      by_cases h4 : 8 < h
      · simp [ltI_f (show 1 ≤ w by omega), ltI_f (show w ≤ 8 by omega), ltI_f (show 1 ≤ h by omega), ltI_t h4]
      rw [bif_f (ltI_f (by omega)), bif_f (ltI_f (by omega)), bif_f (ltI_f (by omega)), bif_f (ltI_f (by omega)), hv, Option.bind_some,
        bif_f (ltI_f (by omega)), bif_f (ltI_f (by omega)), bif_f (ltI_f (by omega)), bif_f (ltI_f (by omega))]
      by_cases hv1 : v = 0
      · subst hv1
        have hp6 := hv0 rfl
        have hwh : w * h ≤ 64 ∧ 1 ≤ w * h := by
          obtain ⟨a, rfl⟩ : ∃ a : Nat, w = a := ⟨w.toNat, by omega⟩
          obtain ⟨c, rfl⟩ : ∃ c : Nat, h = c := ⟨h.toNat, by omega⟩
          have e1 : a * c ≤ 8 * 8 := Nat.mul_le_mul (by omega) (by omega)
          have e2 : 1 * 1 ≤ a * c := Nat.mul_le_mul (by omega) (by omega)
          have e3 : (a : Int) * (c : Int) = ((a * c : Nat) : Int) := by simp
          omega
        simp only [eqI_self, Bool.not_true, cond_false, ne_eq, not_true_eq_false, if_false]
        rw [w64_id (by omega) (by omega)]
        by_cases hl : (st.length : Int) = w * h
        · rw [eqI_t hl, Bool.not_true, cond_false, if_neg (fun hne => hne hl)]
          have := check_l0 1000 nm w h ps fa ke en bl qu re hp6.2.1 st (by omega) q (fun n hn => hq st n hn) st.length 0 (by omega) 1000 (by omega)
          rw [List.drop_zero, show ((0 : Nat) : Int) = 0 from rfl] at this
          exact this
        · rw [eqI_f hl, Bool.not_false, cond_true, if_pos hl]
      · rw [eqI_f hv1]
        simp [hv1]
  · cases b with
    | false => simp at hp
    | true =>
      simp only [Bool.not_true, cond_false] at hp
      by_cases h1 : w < 1
      · simp [ltI_t h1] at hp
      by_cases h2 : 8 < w
      · simp [ltI_f (show 1 ≤ w by omega), ltI_t h2] at hp
      by_cases h3 : h < 1
      · simp [ltI_f (show 1 ≤ w by omega), ltI_f (show w ≤ 8 by omega), ltI_t h3] at hp
      by_cases h4 : 8 < h
      · simp [ltI_f (show 1 ≤ w by omega), ltI_f (show w ≤ 8 by omega), ltI_f (show 1 ≤ h by omega), ltI_t h4] at hp
      rw [bif_f (ltI_f (by omega)), bif_f (ltI_f (by omega)), bif_f (ltI_f (by omega)), bif_f (ltI_f (by omega))] at hp
      exact ⟨by omega, by omega, by omega, by omega, (hv0 hp).2⟩

/-- rules that pass their check -/
structure Okay (w h : Nat) (ps : List PieceT) (st : List Int) (en : List EndT) : Prop where
  b : 1 ≤ w ∧ w ≤ 8 ∧ 1 ≤ h ∧ h ≤ 8
  np : ps.length ≤ 6
  ways : ∀ p ∈ ps, p.2.2.2.length ≤ 16
  ne : en.length ≤ 6
  ns : st.length = w * h
  cells : ∀ c ∈ st, 0 ≤ c ∧ c ≤ 2 * (ps.length : Int)
/-- a check ends; where it says fine, the rules are okay, and those with mirrored cells pass too -/
theorem check_cases (nm : ByteArray) (w h : Int) (ps : List PieceT) (st : List Int) (fa ke : Bool) (en : List EndT) (bl qu re : Int) : ∃ v : Int,
    rules_Check 1000 (nm, (w, (h, (ps, (st, (fa, (ke, (en, (bl, (qu, re)))))))))) = some v ∧ (v = 0 → ∃ w' h' : Nat, w = w' ∧ h = h' ∧ Okay w' h' ps st en ∧
      ∀ st' : List Int, st'.length = w' * h' → (∀ c ∈ st', 0 ≤ c ∧ c ≤ 2 * (ps.length : Int)) → rules_Check 1000 (nm, (w, (h, (ps, (st', (fa, (ke, (en, (bl, (qu, re)))))))))) = some 0) := by
  obtain ⟨p, q, hck, hp, hq⟩ := check_spec nm w h ps fa ke en bl qu re
  refine ⟨_, hck st, fun h0 => ?_⟩
  have hp0 : p = 0 := by
    by_cases e : p = 0
    · exact e
    · rw [if_pos e] at h0; exact h0
  rw [if_neg (by simp [hp0])] at h0
  have hl : (st.length : Int) = w * h := by
    by_cases e : (st.length : Int) = w * h
    · exact e
    · rw [if_pos e] at h0; cases h0
  rw [if_neg (by simp [hl])] at h0
  have hc : ∀ c ∈ st, 0 ≤ c ∧ c ≤ 2 * (ps.length : Int) := by
    by_cases e : ∀ c ∈ st, 0 ≤ c ∧ c ≤ 2 * (ps.length : Int)
    · exact e
    · rw [if_neg e] at h0; cases h0
  rw [if_pos hc] at h0
  obtain ⟨g1, g2, g3, g4, g5, g6⟩ := hp hp0
  obtain ⟨w, rfl⟩ : ∃ a : Nat, w = a := ⟨w.toNat, by omega⟩
  obtain ⟨h, rfl⟩ : ∃ a : Nat, h = a := ⟨h.toNat, by omega⟩
  have hB : 1 ≤ w ∧ w ≤ 8 ∧ 1 ≤ h ∧ h ≤ 8 := ⟨by omega, by omega, by omega, by omega⟩
  have hwh : (w : Int) * (h : Int) = ((w * h : Nat) : Int) := by simp
  have hst : st.length = w * h := by rw [hwh] at hl; omega
  refine ⟨w, h, rfl, rfl, ⟨hB, g5, g6, hq h0, hst, hc⟩, fun st' hl' hc' => ?_⟩
  have hck2 := hck st'
  rw [if_neg (by simp [hp0]), if_neg (by rw [hwh, hl']; simp), if_pos hc', h0] at hck2
  exact hck2
end Go.Proofs.Ytjmcjiklfhmdlaa.Am
