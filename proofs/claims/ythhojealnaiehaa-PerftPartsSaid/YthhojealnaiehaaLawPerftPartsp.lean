/- The plain law PerftParts: the plain function says true at every input. -/
import Derived.Test.YthhojealnaiehaaLawLeavesp
import Derived.Test.YthhojealnaiehaaLawFinep
set_option linter.unusedVariables false
set_option linter.unusedSimpArgs false
set_option linter.unusedSectionVars false
namespace Go.Proofs.Ythhojealnaiehaa.Am
open Go

theorem counted_trueP : gamehallkeep1_counted 300000000 = some true := by decide +kernel
/-- the sure example: what it is made of -/
theorem pparts_head : ((gamehallkeep1_three 300000000).bind fun y1 => (gamehallkeep1_near 300000000).bind fun y2 => (place_Check 300000000 y1 y2).bind fun v => (board_Board_Moves 300000000 (y1, (y2, (U (keyS y2), [])))).bind fun l => (gamehallkeep1_put 300000000 2).bind fun y5 =>
    some (eqI v 0 && (eqI (l.length : Int) 5 && (eqI (gD z0 l 0).1 y5.1 && ((eqI (gD z0 l 0).2.1 y5.2.1) && ((eqI (gD z0 l 0).2.2 y5.2.2) && true)))))) = some true := by decide +kernel
theorem sumL_one : ∀ l : List MvT, sumL (fun _ => (1 : Int)) l = (l.length : Int)
  | [] => rfl
  | a :: l => by
    have := sumL_one l
    show (1 : Int) + sumL (fun _ => (1 : Int)) l = ((l.length + 1 : Nat) : Int)
    omega
abbrev zPt : PartT := (((0 : Int), ((0 : Int), (0 : Int))), (0 : Int))
def sumI : List PartT → Int
  | [] => 0
  | a :: l => a.2 + sumI l
theorem sumI_map (r : RulesT) (d : Nat) (p : PosT) : ∀ l : List MvT, sumI (l.map (partL r d p)) = sumL (fun m => leaves r d (doI r p m)) l
  | [] => rfl
  | a :: l => by
    have := sumI_map r d p l
    show leaves r d (doI r p a) + sumI (l.map (partL r d p)) = leaves r d (doI r p a) + sumL (fun m => leaves r d (doI r p m)) l
    omega
theorem sumP_l0 (N : Nat) (r : RulesT) (p : PosT) (depth t n : Int) (l : List PartT) (hl : l.length ≤ 100000) (hp : ∀ x ∈ l, 0 ≤ x.2) (S : Int) (hS : S ≤ 50000) (E : Option Bool) (B : Nat) (hB : ∀ q, B ≤ q → gamehallkeep1_PerftParts.l1 N r p depth q t n S 0 0 = E) : ∀ (k j q : Nat) (s : Int), j + k = l.length → B + k < q → 0 ≤ s → 0 ≤ sumI (l.drop j) → s + sumI (l.drop j) = S → gamehallkeep1_PerftParts.l0 N r p depth q t n s (l.length : Int) (j : Int) l = E
  | 0, j, q, s, hk, hq, h0, h1, h2 => by
    obtain ⟨q, rfl⟩ := nxt (n := q) (by omega)
    rw [gamehallkeep1_PerftParts.l0_s, gamehallkeep1_PerftParts.s0, bif_f (ltI_f (by omega))]
    rw [List.drop_of_length_le (by omega)] at h2
    have h2 : s + 0 = S := h2
    rw [show s = S by omega]
    exact hB q (by omega)
  | k + 1, j, q, s, hk, hq, h0, h1, h2 => by
    obtain ⟨q, rfl⟩ := nxt (n := q) (by omega)
    have hj : j < l.length := by omega
    have hx := hp _ (List.getElem_mem hj)
    have nn : ∀ l : List PartT, (∀ x ∈ l, 0 ≤ x.2) → 0 ≤ sumI l := by
      intro l
      induction l with
      | nil => intro _; exact Int.le_refl _
      | cons a l ih =>
        intro h
        have h1 := h a (List.mem_cons_self ..)
        have h2 := ih fun x hx => h x (List.mem_cons_of_mem _ hx)
        show 0 ≤ a.2 + sumI l
        omega
    have n1 := nn (l.drop (j + 1)) fun x hx => hp x (List.mem_of_mem_drop hx)
    rw [List.drop_eq_getElem_cons hj] at h2
    have h2 : s + (l[j].2 + sumI (l.drop (j + 1))) = S := h2
    rw [gamehallkeep1_PerftParts.l0_s, gamehallkeep1_PerftParts.s0, bif_t (ltI_t (by omega)), chk_of (idx_ok hj), gD_nat hj, w64_id (x := (j : Int) + 1) (by omega) (by omega), w64_id (x := s + l[j].2) (by omega) (by omega), show ((j : Int) + 1) = ((j + 1 : Nat) : Int) by omega]
    exact sumP_l0 N r p depth t n l hl hp S hS E B hB k (j + 1) q _ (by omega) (by omega) (by omega) n1 (by omega)
def cum (r : RulesT) (p : PosT) : Nat → Int
  | 0 => 0
  | k + 1 => cum r p k + leaves r k p
theorem cum_eq (r : RulesT) (p : PosT) : ∀ d : Nat, cum r p (d + 1) = sizeP r d p
  | 0 => by show (0 : Int) + 1 = 1; rfl
  | d + 1 => by
    have := cum_eq r p d
    have := sizeP_step r d p
    show cum r p (d + 1) + leaves r (d + 1) p = _
    omega
theorem cum_le (r : RulesT) (p : PosT) (i : Nat) : 0 ≤ cum r p i ∧ ∀ k, cum r p i ≤ cum r p (i + k) := by
  have nn : ∀ i, 0 ≤ cum r p i := by
    intro i
    induction i with
    | zero => exact Int.le_refl _
    | succ i ih =>
      have := (leaves_le r i p).1
      show 0 ≤ cum r p i + leaves r i p
      omega
  refine ⟨nn i, fun k => ?_⟩
  induction k with
  | zero => exact Int.le_refl _
  | succ k ih =>
    have := (leaves_le r (i + k) p).1
    show _ ≤ cum r p (i + k) + leaves r (i + k) p
    omega
theorem allP_l1 {N : Nat} (hN : 200000100 ≤ N) {r : RulesT} {p : PosT} (hr : ROk r) (hp : POk r p) (d : Nat) (hd : d ≤ 12) (hs : sizeP r d p ≤ 50000) (S : Int) : ∀ (k i q : Nat), i + k = d + 1 → k < q → gamehallkeep1_PerftParts.l1 N r p (d : Int) q (sizeP r d p) S S (cum r p i) (i : Int) = some true
  | 0, i, q, hk, hq => by
    obtain ⟨q, rfl⟩ := nxt (n := q) (by omega)
    obtain rfl : i = d + 1 := by omega
    rw [gamehallkeep1_PerftParts.l1_s, gamehallkeep1_PerftParts.s1, w64_id (x := (d : Int) + 1) (by omega) (by omega), bif_f (ltI_f (by omega)), bif_t (eqI_self _), cum_eq, eqI_self]
  | k + 1, i, q, hk, hq => by
    obtain ⟨q, rfl⟩ := nxt (n := q) (by omega)
    have c1 := (cum_le r p i).1
    have c2 := (cum_le r p (i + 1)).2 k
    rw [show i + 1 + k = d + 1 by omega, cum_eq r p d] at c2
    have c3 : cum r p (i + 1) = cum r p i + leaves r i p := rfl
    have l1 := (leaves_le r i p).1
    have s1 : sizeP r i p ≤ 50000 := by
      have := sizeP_mono r p i k
      rw [show i + k = d by omega] at this
      omega
    have hc := count_good (N := N) hN r p i hr hp (by omega) (pch_good hN r p (i : Int) hr hp (by omega) (by omega))
    rw [if_pos s1] at hc
    rw [gamehallkeep1_PerftParts.l1_s, gamehallkeep1_PerftParts.s1, w64_id (x := (d : Int) + 1) (by omega) (by omega), bif_t (ltI_t (by omega)), hc, Option.bind_some, bif_f (by rfl)]
    dsimp only
    rw [w64_id (x := cum r p i + leaves r i p) (by omega) (by omega), w64_id (x := (i : Int) + 1) (by omega) (by omega), ← c3, show ((i : Int) + 1) = ((i + 1 : Nat) : Int) by omega]
    exact allP_l1 hN hr hp d hd hs S k (i + 1) q (by omega) (by omega)
theorem perftParts_at (r : RulesT) (p : PosT) (depth : Int) : gamehallkeep1_PerftParts 300000000 r p depth = some true := by
  have hct := counted_trueP
  have hhd := pparts_head
  obtain ⟨hv, hh, _⟩ := heavy_ret (N := 300000000) (by decide) r p depth
  unfold gamehallkeep1_PerftParts gamehallkeep1_PerftParts.e
  cases h1 : gamehallkeep1_three 300000000 with
  | none => rw [h1] at hhd; cases hhd
  | some y1 =>
  rw [h1, Option.bind_some] at hhd
  rw [Option.bind_some]
  cases h2 : gamehallkeep1_near 300000000 with
  | none => rw [h2] at hhd; cases hhd
  | some y2 =>
  rw [h2, Option.bind_some] at hhd
  rw [Option.bind_some]
  obtain ⟨v, hv1, hv2⟩ := pcheck (N := 300000000) (by decide) y1 y2
  rw [hv1, Option.bind_some] at hhd
  cases h3 : board_Board_Moves 300000000 (y1, (y2, (U (keyS y2), []))) with
  | none => rw [h3] at hhd; cases hhd
  | some l =>
  rw [h3, Option.bind_some] at hhd
  cases h4 : gamehallkeep1_put 300000000 2 with
  | none => rw [h4] at hhd; cases hhd
  | some y5 =>
  rw [h4, Option.bind_some, Option.some.injEq, Bool.and_eq_true, Bool.and_eq_true] at hhd
  obtain ⟨k1, k2, k3⟩ := hhd
  obtain ⟨hr1, hp1⟩ := hv2.1 (by simpa [eqI] using k1)
  have hm : l = mvP y1 y2 := by
    have := bmoves_mvP (N := 300000000) (by decide) (b := (y1, (y2, (U (keyS y2), [])))) ⟨hr1, hp1, rfl⟩
    rw [h3] at this
    exact Option.some.inj this
  have hlen : (l.length : Int) = 5 := by simpa [eqI] using k2
  have hdv : perft_Divide 300000000 y1 y2 1 = some (l.map (partL y1 0 y2), 0) := by
    have := divide_good (N := 300000000) (by decide) y1 y2 0 hr1 hp1 (by omega) (pch_good (by decide) y1 y2 _ hr1 hp1 (by omega) (by omega))
    rw [if_pos (by show 1 + sumL (fun _ => (1 : Int)) (mvP y1 y2) ≤ 50000; rw [sumL_one, ← hm]; omega), ← hm] at this
    exact this
  have h00 : (gD zPt (l.map (partL y1 0 y2)) 0).1 = gD z0 l 0 := by
    cases l with
    | nil => simp at hlen
    | cons a l => rfl
  have hle : (((l.map (partL y1 0 y2)).length : Nat) : Int) = 5 := by rw [List.length_map]; exact hlen
  rw [hdv, Option.bind_some, bif_f (by rfl)]
  dsimp only
  rw [hle, bif_f (by rfl), chk_of (by rfl), Option.bind_some, h00, k3, bif_f (by rfl), hct, Option.bind_some, bif_f (by rfl), hh, Option.bind_some]
  cases hv with
  | true => rfl
  | false =>
    rw [bif_f rfl]
    rcases pch (N := 300000000) (by decide) r p depth with ⟨e, e0, he⟩ | ⟨hr, hp, d1, d2, he⟩
    · rw [tree_bad (by decide) r p depth e0 he, Option.bind_some, divide_bad (by decide) r p depth e0 he, Option.bind_some, count_bad (by decide) r p depth e0 he, Option.bind_some, fine_eq (by simp) (by simp), Option.bind_some]
      rw [decide_eq_false (by simp [e0]), bif_t (by rfl), bif_t (by rw [eqI_f e0]; rfl)]
      rfl
    · obtain ⟨d, rfl⟩ : ∃ d : Nat, depth = d := ⟨depth.toNat, by omega⟩
      cases d with
      | zero =>
        have t1 := tree_good (N := 300000000) (by decide) r p 0 hr hp (by omega) he
        have c1 := count_good (N := 300000000) (by decide) r p 0 hr hp (by omega) he
        have s0 : sizeP r 0 p = 1 := rfl
        have l0 : leaves r 0 p = 1 := rfl
        rw [s0, if_pos (by decide)] at t1
        rw [s0, l0, if_pos (by decide)] at c1
        have v1 := divide_zero (N := 300000000) (by decide) r p hr hp he
        rw [show ((0 : Nat) : Int) = 0 from rfl] at t1 c1 ⊢
        rw [t1, Option.bind_some, v1, Option.bind_some, c1, Option.bind_some, fine_eq (by simp) (by simp), Option.bind_some]
        rfl
      | succ d =>
        have t1 := tree_good (N := 300000000) (by decide) r p (d + 1) hr hp (by omega) he
        have c1 := count_good (N := 300000000) (by decide) r p (d + 1) hr hp (by omega) he
        have v1 := divide_good (N := 300000000) (by decide) r p d hr hp (by omega) he
        by_cases q : sizeP r (d + 1) p ≤ 50000
        · rw [if_pos q] at t1 c1 v1
          rw [t1, Option.bind_some, v1, Option.bind_some, c1, Option.bind_some, fine_eq (by simp) (by simp), Option.bind_some]
          rw [decide_eq_true (by simp), bif_f (by rfl)]
          have hl := leaves_le r (d + 1) p
          have hsum : sumI ((mvP r p).map (partL r d p)) = leaves r (d + 1) p := sumI_map r d p (mvP r p)
          have hg := mvP_spec hr hp
          exact sumP_l0 300000000 r p ((d + 1 : Nat) : Int) (sizeP r (d + 1) p) (leaves r (d + 1) p) ((mvP r p).map (partL r d p)) (by rw [List.length_map]; omega) (fun x hx => by
            obtain ⟨m, _, rfl⟩ := List.mem_map.1 hx
            exact (leaves_le r d (doI r p m)).1) (leaves r (d + 1) p) (by omega) (some true) 100 (fun q' hq' => allP_l1 (by decide) hr hp (d + 1) (by omega) q (leaves r (d + 1) p) (d + 2) 0 q' (by omega) (by omega)) ((mvP r p).map (partL r d p)).length 0 300000000 0 (by omega) (by rw [List.length_map]; omega) (Int.le_refl _) (by rw [List.drop_zero, hsum]; exact hl.1) (by rw [List.drop_zero, hsum]; omega)
        · rw [if_neg q] at t1 c1 v1
          rw [t1, Option.bind_some, v1, Option.bind_some, c1, Option.bind_some, fine_eq (by simp) (by simp), Option.bind_some]
          rfl
end Go.Proofs.Ythhojealnaiehaa.Am
