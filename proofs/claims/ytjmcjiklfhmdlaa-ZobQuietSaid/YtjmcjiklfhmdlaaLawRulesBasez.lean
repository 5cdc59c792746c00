/- Plain: rules are checked, copied and mirrored. -/
import Derived.Test.YtjmcjiklfhmdlaaFnz
import Derived.Test.YtjmcjiklfhmdlaaAm16
set_option linter.unusedVariables false
set_option linter.unusedSimpArgs false
namespace Go.Proofs.Ytjmcjiklfhmdlaa.Am
open Go

abbrev WayT := Int × Int × Int × Int
abbrev PieceT := Int × Int × Int × List WayT
abbrev EndT := Int × Int × Int × Bool

theorem name_loop (N : Nat) (s : ByteArray) (hs : s.size ≤ 8) : ∀ (k j : Nat), j + k = s.size → ∃ b, ∀ n, k < n → rules_Name.l0 N s n (j : Int) = some b
  | 0, j, hk => by
    refine ⟨true, fun n hn => ?_⟩
    obtain ⟨n, rfl⟩ : ∃ m, n = m + 1 := ⟨n - 1, by omega⟩
    rw [rules_Name.l0_s, rules_Name.s0, bif_f (ltI_f (by omega))]
  | k + 1, j, hk => by
    obtain ⟨b, hb⟩ := name_loop N s hs k (j + 1) (by omega)
    have hb' : ∀ n, k < n → rules_Name.l0 N s n (w64 ((j : Int) + 1)) = some b := fun n hn => by
      rw [w64_id (by omega) (by omega)]
      exact hb n hn
    have h0 : (leI 0 (j : Int) && ltI (j : Int) (s.size : Int)) = true := by rw [leI_t (by omega), ltI_t (by omega)]; rfl
    refine ⟨bif ltI (bt s j) 65 then (bif ltI (bt s j) 48 then false else bif ltI 57 (bt s j) then false else b) else bif ltI 90 (bt s j) then (bif ltI (bt s j) 48 then false else bif ltI 57 (bt s j) then false else b) else b, fun n hn => ?_⟩
    obtain ⟨n, rfl⟩ : ∃ m, n = m + 1 := ⟨n - 1, by omega⟩
    rw [rules_Name.l0_s, rules_Name.s0, bif_t (ltI_t (by omega))]
    simp only [h0, chk_true, hb' n (by omega)]
    cases ltI (bt s j) 65 <;> cases ltI (bt s j) 48 <;> cases ltI 57 (bt s j) <;> cases ltI 90 (bt s j) <;> rfl
theorem name_total {N : Nat} (s : ByteArray) (hN : 9 < N) : ∃ b, rules_Name N s = some b := by
  unfold rules_Name rules_Name.e
  by_cases h0 : (s.toList == (⟨#[]⟩ : ByteArray).toList) = true
  · rw [bif_t h0]; exact ⟨_, rfl⟩
  · rw [bif_f (by simpa using h0)]
    by_cases h8 : 8 < s.size
    · rw [bif_t (ltI_t (by omega))]; exact ⟨_, rfl⟩
    · rw [bif_f (ltI_f (by omega))]
      have hpos : 0 < s.size := by
        cases hz : s.size with
        | succ k => omega
        | zero =>
          exfalso
          apply h0
          obtain ⟨d⟩ := s
          have hd : d.size = 0 := hz
          have : d = #[] := Array.eq_empty_of_size_eq_zero hd
          subst this
          simp
      have hc : (true && ltI 0 (s.size : Int)) = true := by rw [ltI_t (by omega)]; rfl
      obtain ⟨b, hb⟩ := name_loop N s (by omega) s.size 0 (by omega)
      have hb := hb N (by omega)
      rw [show ((0 : Nat) : Int) = 0 from rfl] at hb
      simp only [hc, chk_true, hb]
      cases leI 48 (bt s 0) <;> cases leI (bt s 0) 57 <;> exact ⟨_, rfl⟩

theorem way_total (N : Nat) (x : WayT) : ∃ v, rules_way N x = some v := by
  unfold rules_way rules_way.e
  simp only [Bool.cond_eq_ite]
  repeat' split
  all_goals exact ⟨_, rfl⟩
theorem end_total (N : Nat) (x : EndT) (t : Int) : ∃ v, rules_end N x t = some v := by
  unfold rules_end rules_end.e
  simp only [Bool.cond_eq_ite]
  repeat' split
  all_goals exact ⟨_, rfl⟩

theorem pieces_l2 (N : Nat) (l : List PieceT) (i : Int) (ways : List WayT) (hw : ways.length ≤ 16) (B : Nat) (v : Int) (hB : ∀ n, B ≤ n → rules_pieces.l0 N l n (w64 (i + 1)) = some v) :
    ∀ (k j : Nat), j + k = ways.length → ∃ u, (∀ n, B + k + 1 ≤ n → rules_pieces.l2 N l n i ways (ways.length : Int) (j : Int) = some u) ∧ (u = 0 → v = 0)
  | 0, j, hk => by
    refine ⟨v, fun n hn => ?_, fun h => h⟩
    obtain ⟨n, rfl⟩ : ∃ m, n = m + 1 := ⟨n - 1, by omega⟩
    rw [rules_pieces.l2_s, rules_pieces.s2, bif_f (ltI_f (by omega))]
    exact hB n (by omega)
  | k + 1, j, hk => by
    obtain ⟨u, hu, hu0⟩ := pieces_l2 N l i ways hw B v hB k (j + 1) (by omega)
    have hj : j < ways.length := by omega
    obtain ⟨q, hq⟩ := way_total N (gD ((0 : Int), ((0 : Int), ((0 : Int), (0 : Int)))) ways j)
    refine ⟨bif !eqI q 0 then q else u, fun n hn => ?_, fun h => ?_⟩
    rotate_left
    · by_cases hq0 : q = 0
      · rw [bif_f (by simp [eqI, hq0])] at h; exact hu0 h
      · rw [bif_t (by simp [eqI, hq0])] at h; exact absurd h hq0
    obtain ⟨n, rfl⟩ : ∃ m, n = m + 1 := ⟨n - 1, by omega⟩
    rw [rules_pieces.l2_s, rules_pieces.s2, bif_t (ltI_t (by omega)), chk_of (idx_ok hj), hq, Option.bind_some, w64_id (by omega) (by omega), show ((j : Int) + 1) = ((j + 1 : Nat) : Int) by omega, hu n (by omega)]
    cases eqI q 0 <;> rfl
theorem pieces_l1 (N : Nat) (l : List PieceT) (hl : l.length ≤ 6) (i : Int) (p p2 p3 : Int) (ways : List WayT) (before : List PieceT) (hb : before.length ≤ 6) (B : Nat) (v : Int) (hB : ∀ n, B ≤ n → rules_pieces.l0 N l n (w64 (i + 1)) = some v) :
    ∀ (k j : Nat), j + k = before.length → ∃ u, (∀ n, B + k + 19 ≤ n → rules_pieces.l1 N l n i before (before.length : Int) (j : Int) p p2 p3 ways = some u) ∧ (u = 0 → v = 0 ∧ ways.length ≤ 16)
  | 0, j, hk => by
    by_cases hw : ways.length ≤ 16
    · obtain ⟨u, hu, hu0⟩ := pieces_l2 N l i ways hw B v hB ways.length 0 (by omega)
      refine ⟨bif ltI p2 0 then 4 else bif ltI 64 p2 then 4 else bif ltI p3 0 then 4 else bif ltI (l.length : Int) p3 then 4 else u, fun n hn => ?_, fun h => ?_⟩
      rotate_left
      · revert h
        cases ltI p2 0 <;> cases ltI 64 p2 <;> cases ltI p3 0 <;> cases ltI (l.length : Int) p3 <;> simp
        exact fun h => ⟨hu0 h, hw⟩
      obtain ⟨n, rfl⟩ : ∃ m, n = m + 1 := ⟨n - 1, by omega⟩
      have hu := hu n (by omega)
      rw [show ((0 : Nat) : Int) = 0 from rfl] at hu
      rw [rules_pieces.l1_s, rules_pieces.s1, bif_f (ltI_f (by omega)), bif_f (c := ltI 16 (ways.length : Int)) (ltI_f (by omega)), hu]
      cases ltI p2 0 <;> cases ltI 64 p2 <;> cases ltI p3 0 <;> cases ltI (l.length : Int) p3 <;> rfl
    · refine ⟨bif ltI p2 0 then 4 else bif ltI 64 p2 then 4 else bif ltI p3 0 then 4 else bif ltI (l.length : Int) p3 then 4 else 2, fun n hn => ?_, fun h => ?_⟩
      rotate_left
      · revert h
        cases ltI p2 0 <;> cases ltI 64 p2 <;> cases ltI p3 0 <;> cases ltI (l.length : Int) p3 <;> simp
      obtain ⟨n, rfl⟩ : ∃ m, n = m + 1 := ⟨n - 1, by omega⟩
      rw [rules_pieces.l1_s, rules_pieces.s1, bif_f (ltI_f (by omega)), bif_t (c := ltI 16 (ways.length : Int)) (ltI_t (by omega))]
      cases ltI p2 0 <;> cases ltI 64 p2 <;> cases ltI p3 0 <;> cases ltI (l.length : Int) p3 <;> rfl
  | k + 1, j, hk => by
    obtain ⟨u, hu, hu0⟩ := pieces_l1 N l hl i p p2 p3 ways before hb B v hB k (j + 1) (by omega)
    have hj : j < before.length := by omega
    refine ⟨bif eqI (gD ((0 : Int), ((0 : Int), ((0 : Int), ([] : (List (Int × (Int × (Int × Int)))))))) before j).1 p then 7 else u, fun n hn => ?_, fun h => ?_⟩
    rotate_left
    · revert h
      cases eqI (gD ((0 : Int), ((0 : Int), ((0 : Int), ([] : (List (Int × (Int × (Int × Int)))))))) before j).1 p <;> simp
      exact hu0
    obtain ⟨n, rfl⟩ : ∃ m, n = m + 1 := ⟨n - 1, by omega⟩
    rw [rules_pieces.l1_s, rules_pieces.s1, bif_t (ltI_t (by omega)), chk_of (idx_ok hj), w64_id (by omega) (by omega), show ((j : Int) + 1) = ((j + 1 : Nat) : Int) by omega, hu n (by omega)]
    cases eqI (gD ((0 : Int), ((0 : Int), ((0 : Int), ([] : (List (Int × (Int × (Int × Int)))))))) before j).1 p <;> rfl
end Go.Proofs.Ytjmcjiklfhmdlaa.Am
