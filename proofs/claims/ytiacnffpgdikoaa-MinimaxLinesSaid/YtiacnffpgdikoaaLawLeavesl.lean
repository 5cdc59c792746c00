/- Plain: the sequences of moves and the positions of a game's tree, and that counting counts them. -/
import Derived.Test.YtiacnffpgdikoaaLawTree0l
import Derived.Test.YtiacnffpgdikoaaLawMonol
set_option linter.unusedVariables false
set_option linter.unusedSimpArgs false
set_option linter.unusedSectionVars false
namespace Go.Proofs.Ytiacnffpgdikoaa.Am
open Go

theorem gen_same {r : RulesT} {p : PosT} (hr : ROk r) (hp : POk r p) {N : Nat} (hN : 200000000 ≤ N) : moves_Gen N r p = moves_Gen 200000000 r p := by
  obtain ⟨l, hl, _⟩ := gen_ret hr hp (N := 200000000) (Nat.le_refl _)
  rw [hl, moves_Gen_m hN r p l hl]
/-- the moves of a position: none if it is over -/
def mvP (r : RulesT) (p : PosT) : List MvT := if resV r p = 0 then (moves_Gen 200000000 r p).getD [] else []
theorem mvP_spec {r : RulesT} {p : PosT} (hr : ROk r) (hp : POk r p) : (mvP r p).length ≤ 8192 ∧ ∀ m ∈ mvP r p, MoveOk r p m ∧ m ∈ cand r p := by
  unfold mvP
  split
  · obtain ⟨l, hl, hg⟩ := gen_ret hr hp (N := 200000000) (Nat.le_refl _)
    rw [hl]
    exact ⟨hg.len, fun m hm => ⟨cand_ok hr hp ((hg.mem m).1 hm), (hg.mem m).1 hm⟩⟩
  · exact ⟨by simp, fun m hm => by cases hm⟩
theorem bmoves_mvP {N : Nat} (hN : 200000000 ≤ N) {b : BoardT} (hb : BOk b) : board_Board_Moves N b = some (mvP b.1 b.2.1) := by
  unfold board_Board_Moves board_Board_Moves.e mvP
  rw [bresult_eq hN hb, Option.bind_some]
  by_cases h : resV b.1 b.2.1 = 0
  · obtain ⟨l, hl, hg⟩ := gen_ret hb.r hb.p (N := 200000000) (Nat.le_refl _)
    rw [bif_f (by rw [eqI_t h]; rfl), if_pos h, gen_same hb.r hb.p hN, hl]
    rfl
  · rw [bif_t (by rw [eqI_f h]; rfl), if_neg h]
def sumL (f : MvT → Int) : List MvT → Int
  | [] => 0
  | a :: l => f a + sumL f l
theorem sumL_nn (f : MvT → Int) : ∀ (l : List MvT), (∀ m ∈ l, 0 ≤ f m) → 0 ≤ sumL f l
  | [], _ => Int.le_refl _
  | a :: l, h => by
    have h1 := h a (List.mem_cons_self ..)
    have h2 := sumL_nn f l fun m hm => h m (List.mem_cons_of_mem _ hm)
    show 0 ≤ f a + sumL f l
    omega
theorem sumL_le {f g : MvT → Int} : ∀ (l : List MvT), (∀ m ∈ l, f m ≤ g m) → sumL f l ≤ sumL g l
  | [], _ => Int.le_refl _
  | a :: l, h => by
    have h1 := h a (List.mem_cons_self ..)
    have h2 := sumL_le l fun m hm => h m (List.mem_cons_of_mem _ hm)
    show f a + sumL f l ≤ g a + sumL g l
    omega
theorem sumL_mem {f : MvT → Int} : ∀ (l : List MvT), (∀ m ∈ l, 0 ≤ f m) → ∀ m ∈ l, f m ≤ sumL f l
  | a :: l, h, m, hm => by
    have h1 := h a (List.mem_cons_self ..)
    have h2 := sumL_nn f l fun m hm => h m (List.mem_cons_of_mem _ hm)
    show f m ≤ f a + sumL f l
    rcases List.mem_cons.1 hm with rfl | hm
    · omega
    · have := sumL_mem l (fun m hm => h m (List.mem_cons_of_mem _ hm)) m hm
      omega
theorem sumL_add (f g : MvT → Int) : ∀ (l : List MvT), sumL (fun m => f m + g m) l = sumL f l + sumL g l
  | [] => rfl
  | a :: l => by
    have := sumL_add f g l
    show (f a + g a) + sumL (fun m => f m + g m) l = (f a + sumL f l) + (g a + sumL g l)
    omega
/-- the sequences of so many moves -/
def leaves (r : RulesT) : Nat → PosT → Int
  | 0, _ => 1
  | d + 1, p => sumL (fun m => leaves r d (doI r p m)) (mvP r p)
/-- the positions of the tree -/
def sizeP (r : RulesT) : Nat → PosT → Int
  | 0, _ => 1
  | d + 1, p => 1 + sumL (fun m => sizeP r d (doI r p m)) (mvP r p)
theorem sizeP_pos (r : RulesT) : ∀ (d : Nat) (p : PosT), 1 ≤ sizeP r d p
  | 0, _ => Int.le_refl _
  | d + 1, p => by
    have := sumL_nn (fun m => sizeP r d (doI r p m)) (mvP r p) fun m _ => by
      have := sizeP_pos r d (doI r p m)
      omega
    show 1 ≤ 1 + _
    omega
theorem leaves_le (r : RulesT) : ∀ (d : Nat) (p : PosT), 0 ≤ leaves r d p ∧ leaves r d p ≤ sizeP r d p
  | 0, _ => ⟨by show (0 : Int) ≤ 1; omega, Int.le_refl _⟩
  | d + 1, p => by
    have h1 := sumL_nn (fun m => leaves r d (doI r p m)) (mvP r p) fun m _ => (leaves_le r d (doI r p m)).1
    have h2 := sumL_le (f := fun m => leaves r d (doI r p m)) (g := fun m => sizeP r d (doI r p m)) (mvP r p) fun m _ => (leaves_le r d (doI r p m)).2
    exact ⟨h1, by show _ ≤ 1 + _; exact Int.le_trans h2 (by omega)⟩
/-- all sequences of at most so many moves are the positions -/
def leavesTo (r : RulesT) (p : PosT) : Nat → Int
  | 0 => leaves r 0 p
  | k + 1 => leavesTo r p k + leaves r (k + 1) p
theorem sizeP_step (r : RulesT) : ∀ (d : Nat) (p : PosT), sizeP r (d + 1) p = sizeP r d p + leaves r (d + 1) p
  | 0, p => by
    show 1 + sumL (fun m => (1 : Int)) (mvP r p) = 1 + sumL (fun m => (1 : Int)) (mvP r p)
    rfl
  | d + 1, p => by
    have h : sumL (fun m => sizeP r (d + 1) (doI r p m)) (mvP r p) = sumL (fun m => sizeP r d (doI r p m) + leaves r (d + 1) (doI r p m)) (mvP r p) := by
      congr 1
      funext m
      exact sizeP_step r d (doI r p m)
    rw [sumL_add] at h
    show 1 + sumL (fun m => sizeP r (d + 1) (doI r p m)) (mvP r p) = (1 + sumL (fun m => sizeP r d (doI r p m)) (mvP r p)) + sumL (fun m => leaves r (d + 1) (doI r p m)) (mvP r p)
    omega
theorem leavesTo_eq (r : RulesT) (p : PosT) : ∀ d : Nat, leavesTo r p d = sizeP r d p
  | 0 => rfl
  | d + 1 => by
    have := leavesTo_eq r p d
    have := sizeP_step r d p
    show leavesTo r p d + leaves r (d + 1) p = _
    omega
theorem sizeP_mono (r : RulesT) (p : PosT) (d : Nat) : ∀ k : Nat, sizeP r d p ≤ sizeP r (d + k) p
  | 0 => Int.le_refl _
  | k + 1 => by
    have := sizeP_mono r p d k
    have := sizeP_step r (d + k) p
    have := (leaves_le r (d + k + 1) p).1
    show _ ≤ sizeP r (d + k + 1) p
    omega
abbrev CX (d : Nat) (b : BoardT) (c : Int) (z : Int × Int × BoardT) : Prop := z.2.2 = b ∧ ((sizeP b.1 d b.2.1 ≤ c ∧ z.1 = leaves b.1 d b.2.1 ∧ z.2.1 = c - sizeP b.1 d b.2.1) ∨ (c < sizeP b.1 d b.2.1 ∧ z.2.1 < 0))
theorem cx_l0 {N : Nat} (self : Int → BoardT → Int → Option (Int × Int × BoardT)) (c0 : Int) (b0 : BoardT) (d : Nat) (hd : d ≤ 20) {b : BoardT} (hb : BOk b) (hl : b.2.2.2.length ≤ 100000) (ms : List MvT) (hms : ∀ m ∈ ms, MoveOk b.1 b.2.1 m) (hlen : ms.length ≤ 100000)
    (hself : ∀ m ∈ ms, ∀ c : Int, 0 ≤ c → c ≤ 50000 → Ret (self c (makeB b m) (d : Int)) (CX d (makeB b m) c)) : ∀ (k j n : Nat) (nn c : Int), j + k = ms.length → k < n → 0 ≤ c → 0 ≤ nn → nn + c ≤ 50000 →
    Ret (tl0 N self c0 b0 ((d + 1 : Nat) : Int) n nn (ms.length : Int) (j : Int) c b ms) fun z => z.2.2 = b ∧ ((sumL (fun m => sizeP b.1 d (doI b.1 b.2.1 m)) (ms.drop j) ≤ c ∧ z.1 = nn + sumL (fun m => leaves b.1 d (doI b.1 b.2.1 m)) (ms.drop j) ∧ z.2.1 = c - sumL (fun m => sizeP b.1 d (doI b.1 b.2.1 m)) (ms.drop j)) ∨ (c < sumL (fun m => sizeP b.1 d (doI b.1 b.2.1 m)) (ms.drop j) ∧ z.2.1 < 0))
  | 0, j, n, nn, c, hk, hn, h0, h1, h2 => by
    obtain ⟨n, rfl⟩ := nxt (n := n) (by omega)
    rw [tl0_s, bif_f (ltI_f (by omega)), List.drop_of_length_le (by omega)]
    exact Ret.ret ⟨rfl, Or.inl ⟨h0, by show nn = nn + 0; omega, by show c = c - 0; omega⟩⟩
  | k + 1, j, n, nn, c, hk, hn, h0, h1, h2 => by
    obtain ⟨n, rfl⟩ := nxt (n := n) (by omega)
    have hj : j < ms.length := by omega
    have hmem : ms[j] ∈ ms := List.getElem_mem _
    have hmo := hms _ hmem
    have nn1 := sumL_nn (fun m => sizeP b.1 d (doI b.1 b.2.1 m)) (ms.drop (j + 1)) fun m _ => by
      have := sizeP_pos b.1 d (doI b.1 b.2.1 m)
      omega
    have ll := leaves_le b.1 d (doI b.1 b.2.1 ms[j])
    rw [tl0_s, bif_t (ltI_t (by omega)), chk_of (idx_ok hj), gD_nat hj, make_eq hb hl hmo, Option.bind_some, w64_id (x := ((d + 1 : Nat) : Int) - 1) (by omega) (by omega), show ((d + 1 : Nat) : Int) - 1 = (d : Int) by omega]
    refine Ret.bnd (hself _ hmem c h0 (by omega)) fun z hz => ?_
    rw [hz.1, undo_make hb hl hmo, Option.bind_some, w64_id (x := (j : Int) + 1) (by omega) (by omega), show ((j : Int) + 1) = ((j + 1 : Nat) : Int) by omega, List.drop_eq_getElem_cons hj]
    have e1 : sumL (fun m => sizeP b.1 d (doI b.1 b.2.1 m)) (ms[j] :: ms.drop (j + 1)) = sizeP b.1 d (doI b.1 b.2.1 ms[j]) + sumL (fun m => sizeP b.1 d (doI b.1 b.2.1 m)) (ms.drop (j + 1)) := rfl
    have e2 : sumL (fun m => leaves b.1 d (doI b.1 b.2.1 m)) (ms[j] :: ms.drop (j + 1)) = leaves b.1 d (doI b.1 b.2.1 ms[j]) + sumL (fun m => leaves b.1 d (doI b.1 b.2.1 m)) (ms.drop (j + 1)) := rfl
    rw [e1, e2]
    have hz2 : (sizeP b.1 d (doI b.1 b.2.1 ms[j]) ≤ c ∧ z.1 = leaves b.1 d (doI b.1 b.2.1 ms[j]) ∧ z.2.1 = c - sizeP b.1 d (doI b.1 b.2.1 ms[j])) ∨ (c < sizeP b.1 d (doI b.1 b.2.1 ms[j]) ∧ z.2.1 < 0) := hz.2
    refine Ret.bif (fun c' => Ret.ret ⟨rfl, Or.inr ?_⟩) (fun c' => ?_)
    · rw [ltI_iff] at c'
      exact ⟨by omega, c'⟩
    · rw [ltI_iff'] at c'
      rcases hz2 with h | h
      · have ih := cx_l0 (N := N) self c0 b0 d hd hb hl ms hms hlen hself k (j + 1) n (nn + z.1) z.2.1 (by omega) (by omega) c' (by omega) (by omega)
        rw [w64_id (x := nn + z.1) (by omega) (by omega)]
        exact ih.mono fun y hy => ⟨hy.1, by
          rcases hy.2 with g | g
          · exact Or.inl ⟨by omega, by omega, by omega⟩
          · exact Or.inr ⟨by omega, g.2⟩⟩
      · omega
theorem count_x : ∀ (d N : Nat), 200000000 + d < N → d ≤ 20 → ∀ {b : BoardT}, BOk b → b.2.2.2.length + d ≤ 100000 → ∀ c : Int, 0 ≤ c → c ≤ 50000 → Ret (perft_counter_count'' N c b (d : Int)) (CX d b c)
  | d, N, hN, hd, b, hb, hl, c, h0, h1 => by
    obtain ⟨N, rfl⟩ := nxt (n := N) (by omega)
    have np := sizeP_pos b.1 d b.2.1
    rw [count_e, w64_id (x := c - 1) (by omega) (by omega)]
    refine Ret.bif (fun hc => Ret.ret ⟨rfl, Or.inr ?_⟩) (fun hc => ?_)
    · rw [ltI_iff] at hc
      exact ⟨by omega, hc⟩
    rw [ltI_iff'] at hc
    cases d with
    | zero => rw [bif_t (by rfl)]; exact Ret.ret ⟨rfl, Or.inl ⟨by show (1 : Int) ≤ c; omega, rfl, rfl⟩⟩
    | succ d =>
      rw [bif_f (eqI_f (by omega)), bmoves_mvP (by omega) hb, Option.bind_some]
      have hg := mvP_spec hb.r hb.p
      have := cx_l0 (N := N) (perft_counter_count'' N) c b d (by omega) hb (by omega) (mvP b.1 b.2.1) (fun m hm => (hg.2 m hm).1) (by omega) (fun m hm c' h0' h1' => by
        have hmo := (hg.2 m hm).1
        exact count_x d N (by omega) (by omega) (make_ok hb (by omega) hmo) (by
          show (b.2.2.2 ++ [undoI b m]).length + d ≤ 100000
          rw [List.length_append]
          simp only [List.length_singleton]
          omega) c' h0' h1') (mvP b.1 b.2.1).length 0 N 0 (c - 1) (by omega) (by omega) hc (by omega) (by omega)
      rw [List.drop_zero, show ((0 : Nat) : Int) = 0 from rfl] at this
      refine this.mono fun z hz => ⟨hz.1, ?_⟩
      have e1 : sizeP b.1 (d + 1) b.2.1 = 1 + sumL (fun m => sizeP b.1 d (doI b.1 b.2.1 m)) (mvP b.1 b.2.1) := rfl
      have e2 : leaves b.1 (d + 1) b.2.1 = sumL (fun m => leaves b.1 d (doI b.1 b.2.1 m)) (mvP b.1 b.2.1) := rfl
      rw [e1, e2]
      rcases hz.2 with g | g
      · exact Or.inl ⟨by omega, by omega, by omega⟩
      · exact Or.inr ⟨by omega, g.2⟩
section
variable {N : Nat} (hN : 200000100 ≤ N) (r : RulesT) (p : PosT) (depth : Int)
include hN
theorem pch : (∃ e, e ≠ 0 ∧ perft_check N r p depth = some (none, e)) ∨ (ROk r ∧ POk r p ∧ 0 ≤ depth ∧ depth ≤ 12 ∧ perft_check N r p depth = some (some (r, (p, (U (keyS p), []))), 0)) := by
  obtain ⟨v, hv, hv0⟩ := pcheck (N := N) (by omega) r p
  unfold perft_check perft_check.e
  by_cases h0 : v = 0
  · obtain ⟨hr, hp⟩ := hv0.1 h0
    rw [new_good (by omega) hr hp, Option.bind_some]
    show (∃ e, e ≠ 0 ∧ ((bif (!(eqI 0 0)) then some ((none : Option BoardT), (0 : Int)) else bif ltI depth 0 then some (none, 1) else bif ltI 12 depth then some (none, 1) else some (some (r, (p, (U (keyS p), []))), 0)) : Option (Option BoardT × Int)) = _) ∨ (_ ∧ _ ∧ _ ∧ _ ∧ ((bif (!(eqI 0 0)) then some ((none : Option BoardT), (0 : Int)) else bif ltI depth 0 then some (none, 1) else bif ltI 12 depth then some (none, 1) else some (some (r, (p, (U (keyS p), []))), 0)) : Option (Option BoardT × Int)) = _)
    rw [bif_f (by rfl)]
    by_cases c1 : depth < 0
    · rw [bif_t (ltI_t c1)]
      exact Or.inl ⟨1, by decide, rfl⟩
    · rw [bif_f (ltI_f (by omega))]
      by_cases c2 : 12 < depth
      · rw [bif_t (ltI_t c2)]
        exact Or.inl ⟨1, by decide, rfl⟩
      · rw [bif_f (ltI_f (by omega))]
        exact Or.inr ⟨hr, hp, by omega, by omega, rfl⟩
  · rw [new_bad hv h0, Option.bind_some]
    refine Or.inl ⟨v, h0, ?_⟩
    show ((bif (!(eqI v 0)) then some ((none : Option BoardT), v) else _) : Option (Option BoardT × Int)) = _
    rw [bif_t (by rw [eqI_f h0]; rfl)]
theorem pch_good (hr : ROk r) (hp : POk r p) (h1 : 0 ≤ depth) (h2 : depth ≤ 12) : perft_check N r p depth = some (some (r, (p, (U (keyS p), []))), 0) := by
  unfold perft_check perft_check.e
  rw [new_good (by omega) hr hp, Option.bind_some]
  show ((bif (!(eqI 0 0)) then some ((none : Option BoardT), (0 : Int)) else bif ltI depth 0 then some (none, 1) else bif ltI 12 depth then some (none, 1) else some (some (r, (p, (U (keyS p), []))), 0)) : Option (Option BoardT × Int)) = _
  rw [bif_f (by rfl), bif_f (ltI_f (by omega)), bif_f (ltI_f (by omega))]
theorem tree_bad {e : Int} (h0 : e ≠ 0) (h : perft_check N r p depth = some (none, e)) : perft_Tree N r p depth = some (0, e) := by
  unfold perft_Tree perft_Tree.e
  rw [h, Option.bind_some]
  show (bif (!(eqI e 0)) then (some (0, e)) else none) = _
  rw [bif_t (by rw [eqI_f h0]; rfl)]
end
section
variable {N : Nat} (hN : 200000100 ≤ N) (r : RulesT) (p : PosT) (d : Nat) (hr : ROk r) (hp : POk r p) (hd : d ≤ 12) (h : perft_check N r p (d : Int) = some (some (r, (p, (U (keyS p), []))), 0))
include hN hr hp hd h
theorem tree_good : perft_Tree N r p (d : Int) = if sizeP r d p ≤ 50000 then some (sizeP r d p, 0) else some (0, 17) := by
  unfold perft_Tree perft_Tree.e
  rw [h, Option.bind_some]
  show (bif (!(eqI 0 0)) then (some (0, 0)) else (perft_counter_count'' N 50000 (r, (p, (U (keyS p), []))) (d : Int)).bind _) = _
  rw [bif_f (by rfl)]
  obtain ⟨z, hz, hz1, hz2⟩ := count_x d N (by omega) (by omega) (b := (r, (p, (U (keyS p), [])))) ⟨hr, hp, rfl⟩ (by simp; omega) 50000 (by omega) (by omega)
  rw [hz, Option.bind_some]
  have np := sizeP_pos r d p
  have hz2 : (sizeP r d p ≤ 50000 ∧ z.1 = leaves r d p ∧ z.2.1 = 50000 - sizeP r d p) ∨ (50000 < sizeP r d p ∧ z.2.1 < 0) := hz2
  rcases hz2 with ⟨g1, g2, g3⟩ | ⟨g1, g2⟩
  · rw [bif_f (ltI_f (by omega)), if_pos g1, w64_id (by omega) (by omega), show 50000 - z.2.1 = sizeP r d p by omega]
  · rw [bif_t (ltI_t (by omega)), if_neg (by omega)]
end
end Go.Proofs.Ytiacnffpgdikoaa.Am
