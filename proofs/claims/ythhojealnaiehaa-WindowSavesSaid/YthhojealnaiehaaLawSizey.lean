/- Plain: how many positions a game's tree has, and that counting counts them. -/
import Derived.Test.YthhojealnaiehaaLawTree0y
set_option linter.unusedVariables false
set_option linter.unusedSimpArgs false
set_option linter.unusedSectionVars false
namespace Go.Proofs.Ythhojealnaiehaa.Am
open Go

def sumL (f : MvT → Int) : List MvT → Int
  | [] => 0
  | a :: l => f a + sumL f l
theorem sumL_nn (f : MvT → Int) : ∀ (l : List MvT), (∀ m ∈ l, 0 ≤ f m) → 0 ≤ sumL f l
  | [], _ => Int.le_refl _
  | a :: l, h => by
    have h1 := h a (List.mem_cons_self ..)
    have h2 := sumL_nn f l fun m hm => h m (List.mem_cons_of_mem _ hm)
    show 0 ≤ f a + sumL f l
    omega
def mvsB (N : Nat) (b : BoardT) : List MvT := (board_Board_Moves N b).getD []
/-- the positions of a tree, with the fuel that the search has -/
def sizeT : Nat → Nat → BoardT → Int
  | 0, _, _ => 1
  | d + 1, N, b => 1 + sumL (fun m => sizeT d (N - 1) (makeB b m)) (mvsB (N - 1) b)
theorem sizeT_pos : ∀ (d N : Nat) (b : BoardT), 1 ≤ sizeT d N b
  | 0, _, _ => Int.le_refl _
  | d + 1, N, b => by
    have := sumL_nn (fun m => sizeT d (N - 1) (makeB b m)) (mvsB (N - 1) b) fun m _ => by
      have := sizeT_pos d (N - 1) (makeB b m)
      omega
    show 1 ≤ 1 + _
    omega
theorem mvsB_some {N : Nat} {b : BoardT} {l : List MvT} (h : board_Board_Moves N b = some l) : mvsB N b = l := by
  unfold mvsB; rw [h]; rfl
theorem csize_l0 {N : Nat} (self : Int → BoardT → Int → Option (Int × Int × BoardT)) (c0 : Int) (b0 : BoardT) (d : Nat) (hd : d ≤ 20) {b : BoardT} (hb : BOk b) (hl : b.2.2.2.length ≤ 100000) (ms : List MvT) (hms : ∀ m ∈ ms, MoveOk b.1 b.2.1 m) (hlen : ms.length ≤ 100000)
    (hself : ∀ m ∈ ms, ∀ c : Int, 0 ≤ c → c ≤ 50000 → Ret (self c (makeB b m) (d : Int)) fun z => CQ (makeB b m) z ∧ (0 ≤ z.2.1 → z.2.1 = c - sizeT d N (makeB b m))) : ∀ (k j n : Nat) (nn c : Int), j + k = ms.length → k < n → 0 ≤ c → c ≤ 50000 →
    Ret (tl0 N self c0 b0 ((d + 1 : Nat) : Int) n nn (ms.length : Int) (j : Int) c b ms) fun z => CQ b z ∧ (0 ≤ z.2.1 → z.2.1 = c - sumL (fun m => sizeT d N (makeB b m)) (ms.drop j))
  | 0, j, n, nn, c, hk, hn, h0, h1 => by
    obtain ⟨n, rfl⟩ := nxt (n := n) (by omega)
    rw [tl0_s, bif_f (ltI_f (by omega)), List.drop_of_length_le (by omega)]
    exact Ret.ret ⟨⟨rfl, by dsimp only; omega, h1⟩, fun _ => by show c = c - 0; omega⟩
  | k + 1, j, n, nn, c, hk, hn, h0, h1 => by
    obtain ⟨n, rfl⟩ := nxt (n := n) (by omega)
    have hj : j < ms.length := by omega
    have hmem : ms[j] ∈ ms := List.getElem_mem _
    have hmo := hms _ hmem
    rw [tl0_s, bif_t (ltI_t (by omega)), chk_of (idx_ok hj), gD_nat hj, make_eq hb hl hmo, Option.bind_some, w64_id (x := ((d + 1 : Nat) : Int) - 1) (by omega) (by omega), show ((d + 1 : Nat) : Int) - 1 = (d : Int) by omega]
    refine Ret.bnd (hself _ hmem c h0 h1) fun z hz => ?_
    rw [hz.1.1, undo_make hb hl hmo, Option.bind_some, w64_id (x := (j : Int) + 1) (by omega) (by omega), show ((j : Int) + 1) = ((j + 1 : Nat) : Int) by omega, List.drop_eq_getElem_cons hj]
    refine Ret.bif (fun c' => Ret.ret ⟨⟨rfl, hz.1.2⟩, fun h => ?_⟩) (fun c' => ?_)
    · rw [ltI_iff] at c'
      have h : 0 ≤ z.2.1 := h
      omega
    · rw [ltI_iff'] at c'
      refine (csize_l0 self c0 b0 d hd hb hl ms hms hlen hself k (j + 1) n _ _ (by omega) (by omega) c' hz.1.2.2).mono fun y hy => ⟨hy.1, fun h => ?_⟩
      rw [hy.2 h, hz.2 c']
      show c - sizeT d N (makeB b ms[j]) - sumL _ _ = c - (sizeT d N (makeB b ms[j]) + sumL _ _)
      omega
theorem csize_ret : ∀ (d N : Nat), 200000000 + d < N → d ≤ 20 → ∀ {b : BoardT}, BOk b → b.2.2.2.length + d ≤ 100000 → ∀ c : Int, 0 ≤ c → c ≤ 50000 → Ret (perft_counter_count'' N c b (d : Int)) fun z => CQ b z ∧ (0 ≤ z.2.1 → z.2.1 = c - sizeT d N b)
  | d, N, hN, hd, b, hb, hl, c, h0, h1 => by
    obtain ⟨N, rfl⟩ := nxt (n := N) (by omega)
    rw [count_e, w64_id (x := c - 1) (by omega) (by omega)]
    refine Ret.bif (fun hc => Ret.ret ⟨⟨rfl, by dsimp only; omega, by dsimp only; omega⟩, fun h => ?_⟩) (fun hc => ?_)
    · rw [ltI_iff] at hc
      have h : 0 ≤ c - 1 := h
      omega
    rw [ltI_iff'] at hc
    cases d with
    | zero => rw [bif_t (by rfl)]; exact Ret.ret ⟨⟨rfl, by dsimp only; omega, by dsimp only; omega⟩, fun _ => rfl⟩
    | succ d =>
      rw [bif_f (eqI_f (by omega))]
      obtain ⟨l, hl1, hl2⟩ := bmoves_ret (N := N) (by omega) hb
      have hsz : sizeT (d + 1) (N + 1) b = 1 + sumL (fun m => sizeT d N (makeB b m)) l := by
        show 1 + sumL (fun m => sizeT d N (makeB b m)) (mvsB N b) = _
        rw [mvsB_some hl1]
      rw [hl1, Option.bind_some, hsz]
      by_cases h : resV b.1 b.2.1 = 0
      · have hg := hl2.2 h
        have hgl := hg.len
        have := csize_l0 (N := N) (perft_counter_count'' N) c b d (by omega) hb (by omega) l (fun m hm => cand_ok hb.r hb.p ((hg.mem m).1 hm)) (by omega) (fun m hm c' h0' h1' => by
          have hmo := cand_ok hb.r hb.p ((hg.mem m).1 hm)
          exact csize_ret d N (by omega) (by omega) (make_ok hb (by omega) hmo) (by
            show (b.2.2.2 ++ [undoI b m]).length + d ≤ 100000
            rw [List.length_append]
            simp only [List.length_singleton]
            omega) c' h0' h1') l.length 0 N 0 (c - 1) (by omega) (by omega) hc (by omega)
        refine this.mono fun z hz => ⟨hz.1, fun h => ?_⟩
        have e := hz.2 h
        rw [List.drop_zero] at e
        omega
      · rw [hl2.1 h]
        obtain ⟨N', rfl⟩ := nxt (n := N) (by omega)
        rw [tl0_s, bif_f (by rfl)]
        exact Ret.ret ⟨⟨rfl, by dsimp only; omega, by dsimp only; omega⟩, fun _ => by show c - 1 = c - (1 + 0); omega⟩
theorem tree_size {N : Nat} (hN : 200000100 ≤ N) (r : RulesT) (p : PosT) (depth : Int) : Ret (perft_Tree N r p depth) fun z => (z.2 ≠ 0 ∧ z.1 = 0) ∨ (z.2 = 0 ∧ ROk r ∧ POk r p ∧ 0 ≤ depth ∧ depth ≤ 12 ∧ z.1 = sizeT depth.toNat N (r, (p, (U (keyS p), []))) ∧ z.1 ≤ 50000) := by
  obtain ⟨v, hv, hv0⟩ := pcheck (N := N) (by omega) r p
  unfold perft_Tree perft_Tree.e perft_check perft_check.e
  by_cases h0 : v = 0
  · obtain ⟨hr, hp⟩ := hv0.1 h0
    rw [new_good (by omega) hr hp, Option.bind_some]
    show Ret (((bif (!(eqI 0 0)) then some ((none : Option BoardT), (0 : Int)) else bif ltI depth 0 then some (none, 1) else bif ltI 12 depth then some (none, 1) else some (some (r, (p, (U (keyS p), []))), 0)) : Option (Option BoardT × Int)).bind _) _
    rw [bif_f (by rfl)]
    by_cases c1 : depth < 0
    · rw [bif_t (ltI_t c1), Option.bind_some]
      exact Ret.ret (Or.inl ⟨by decide, rfl⟩)
    · rw [bif_f (ltI_f (by omega))]
      by_cases c2 : 12 < depth
      · rw [bif_t (ltI_t c2), Option.bind_some]
        exact Ret.ret (Or.inl ⟨by decide, rfl⟩)
      · rw [bif_f (ltI_f (by omega)), Option.bind_some]
        show Ret (bif (!(eqI 0 0)) then (some (0, 0)) else (perft_counter_count'' N 50000 (r, (p, (U (keyS p), []))) depth).bind _) _
        rw [bif_f (by rfl)]
        obtain ⟨d, rfl⟩ : ∃ d : Nat, depth = d := ⟨depth.toNat, by omega⟩
        refine Ret.bnd (csize_ret d N (by omega) (by omega) (b := (r, (p, (U (keyS p), [])))) ⟨hr, hp, rfl⟩ (by simp; omega) 50000 (by omega) (by omega)) fun z hz => ?_
        refine Ret.bif (fun _ => Ret.ret (Or.inl ⟨by dsimp only; omega, rfl⟩)) (fun c => ?_)
        rw [ltI_iff'] at c
        have e := hz.2 c
        have e2 := sizeT_pos d N (r, (p, (U (keyS p), [])))
        rw [w64_id (by omega) (by omega), Int.toNat_natCast]
        exact Ret.ret (Or.inr ⟨rfl, hr, hp, by omega, by omega, by show 50000 - z.2.1 = _; omega, by show 50000 - z.2.1 ≤ _; omega⟩)
  · rw [new_bad hv h0, Option.bind_some]
    show Ret (((bif (!(eqI v 0)) then some ((none : Option BoardT), v) else _) : Option (Option BoardT × Int)).bind _) _
    rw [bif_t (by rw [eqI_f h0]; rfl), Option.bind_some]
    show Ret (bif (!(eqI v 0)) then (some (0, v)) else none) _
    rw [bif_t (by rw [eqI_f h0]; rfl)]
    exact Ret.ret (Or.inl ⟨h0, rfl⟩)
end Go.Proofs.Ythhojealnaiehaa.Am
