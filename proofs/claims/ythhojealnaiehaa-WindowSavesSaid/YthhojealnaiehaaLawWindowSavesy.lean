/- The plain law WindowSaves: the plain function says true at every input. -/
import Derived.Test.YthhojealnaiehaaLawWindowy
import Derived.Test.YthhojealnaiehaaLawSizey
set_option linter.unusedVariables false
set_option linter.unusedSimpArgs false
set_option linter.unusedSectionVars false
namespace Go.Proofs.Ythhojealnaiehaa.Am
open Go

theorem near_ret (N : Nat) (n : Int) : Ret (minimax_Nearer N n) fun _ => True := by
  unfold minimax_Nearer minimax_Nearer.e
  refine Ret.bif (fun _ => Ret.ret trivial) (fun _ => Ret.bif (fun _ => Ret.ret trivial) (fun _ => Ret.ret trivial))
abbrev WQ (b : BoardT) (x lo hi : Int) (z : Int × Int × BoardT) : Prop := z.2.2 = b ∧ x + lo ≤ z.2.1 ∧ z.2.1 ≤ x + hi
theorem saves_l0 {N : Nat} (self : SelfT) (x0 : Int) (b0 : BoardT) (d : Nat) (hd : d ≤ 20) {b : BoardT} (hb : BOk b) (hl : b.2.2.2.length ≤ 100000) (ms : List MvT) (hms : ∀ m ∈ ms, MoveOk b.1 b.2.1 m) (hlen : ms.length ≤ 100000) (low high : Int)
    (hself : ∀ m ∈ ms, ∀ x lo hi : Int, 0 ≤ x → x + sizeT d N (makeB b m) ≤ 100000 → Ret (self x (makeB b m) (d : Int) lo hi) (WQ (makeB b m) x 1 (sizeT d N (makeB b m)))) : ∀ (k j n : Nat) (best x : Int), j + k = ms.length → k < n → 0 ≤ x → x + sumL (fun m => sizeT d N (makeB b m)) (ms.drop j) ≤ 100000 →
    Ret (wl0 N self x0 b0 ((d + 1 : Nat) : Int) low high n best ms (ms.length : Int) (j : Int) x b) (WQ b x 0 (sumL (fun m => sizeT d N (makeB b m)) (ms.drop j)))
  | 0, j, n, best, x, hk, hn, h1, h2 => by
    obtain ⟨n, rfl⟩ := nxt (n := n) (by omega)
    rw [wl0_s, bif_f (ltI_f (by omega)), List.drop_of_length_le (by omega)]
    exact Ret.ret ⟨rfl, by show x + 0 ≤ x; omega, by show x ≤ x + 0; omega⟩
  | k + 1, j, n, best, x, hk, hn, h1, h2 => by
    obtain ⟨n, rfl⟩ := nxt (n := n) (by omega)
    have hj : j < ms.length := by omega
    have hmem : ms[j] ∈ ms := List.getElem_mem _
    have hmo := hms _ hmem
    rw [List.drop_eq_getElem_cons hj] at h2 ⊢
    have e : sumL (fun m => sizeT d N (makeB b m)) (ms[j] :: ms.drop (j + 1)) = sizeT d N (makeB b ms[j]) + sumL (fun m => sizeT d N (makeB b m)) (ms.drop (j + 1)) := rfl
    rw [e] at h2 ⊢
    have nn := sumL_nn (fun m => sizeT d N (makeB b m)) (ms.drop (j + 1)) fun m _ => by
      have := sizeT_pos d N (makeB b m)
      omega
    have np := sizeT_pos d N (makeB b ms[j])
    rw [wl0_s, bif_t (ltI_t (by omega)), chk_of (idx_ok hj), gD_nat hj, make_eq hb hl hmo, Option.bind_some, w64_id (x := ((d + 1 : Nat) : Int) - 1) (by omega) (by omega), show ((d + 1 : Nat) : Int) - 1 = (d : Int) by omega]
    refine Ret.bnd (hself _ hmem x _ _ h1 (by omega)) fun z hz => ?_
    refine Ret.bnd (near_ret N _) fun y _ => ?_
    rw [hz.1, undo_make hb hl hmo, Option.bind_some, w64_id (x := (j : Int) + 1) (by omega) (by omega), show ((j : Int) + 1) = ((j + 1 : Nat) : Int) by omega]
    refine Ret.bif (fun c => Ret.ret ⟨rfl, by have := hz.2.1; dsimp only; omega, by have := hz.2.2; dsimp only; omega⟩) (fun c => ?_)
    refine (saves_l0 self x0 b0 d hd hb hl ms hms hlen low high hself k (j + 1) n _ _ (by omega) (by omega) (by have := hz.2.1; omega) (by have := hz.2.2; omega)).mono fun w hw => ⟨hw.1, ?_, ?_⟩
    · have := hw.2.1; have := hz.2.1; omega
    · have := hw.2.2; have := hz.2.2; omega
theorem saves_ok : ∀ (d N : Nat), 200000000 + d < N → d ≤ 20 → ∀ {b : BoardT}, BOk b → b.2.2.2.length + d ≤ 100000 → ∀ x low high : Int, 0 ≤ x → x + sizeT d N b ≤ 100000 → Ret (window_Search_Value'' N x b (d : Int) low high) (WQ b x 1 (sizeT d N b))
  | d, N, hN, hd, b, hb, hl, x, low, high, h1, h2 => by
    obtain ⟨N, rfl⟩ := nxt (n := N) (by omega)
    have ht := hb.p.last.1
    have np := sizeT_pos d (N + 1) b
    rw [window_e, bresult_eq (by omega) hb, Option.bind_some, w64_id (x := x + 1) (by omega) (by omega)]
    by_cases h : resV b.1 b.2.1 = 0
    · rw [bif_f (by rw [eqI_t h]; rfl)]
      cases d with
      | zero =>
        rw [bif_t (by rfl)]
        exact Ret.ret ⟨rfl, Int.le_refl _, Int.le_refl _⟩
      | succ d =>
        obtain ⟨l, hl1, _, hl2⟩ := bmoves_ret (N := N) (by omega) hb
        have hg := hl2 h
        have hgl := hg.len
        have hsz : sizeT (d + 1) (N + 1) b = 1 + sumL (fun m => sizeT d N (makeB b m)) l := by
          show 1 + sumL (fun m => sizeT d N (makeB b m)) (mvsB N b) = _
          rw [mvsB_some hl1]
        rw [hsz] at h2 ⊢
        rw [bif_f (eqI_f (by omega)), hl1, Option.bind_some]
        have := saves_l0 (N := N) (window_Search_Value'' N) x b d (by omega) hb (by omega) l (fun m hm => cand_ok hb.r hb.p ((hg.mem m).1 hm)) (by omega) low high (fun m hm x lo hi k1 k2 => by
          have hmo := cand_ok hb.r hb.p ((hg.mem m).1 hm)
          exact saves_ok d N (by omega) (by omega) (make_ok hb (by omega) hmo) (by
            show (b.2.2.2 ++ [undoI b m]).length + d ≤ 100000
            rw [List.length_append]
            simp only [List.length_singleton]
            omega) x lo hi k1 k2) l.length 0 N low (x + 1) (by omega) (by omega) (by omega) (by rw [List.drop_zero]; omega)
        rw [List.drop_zero, show ((0 : Nat) : Int) = 0 from rfl] at this
        exact this.mono fun z hz => ⟨hz.1, by have := hz.2.1; omega, by have := hz.2.2; omega⟩
    · rw [bif_t (by rw [eqI_f h]; rfl)]
      show Ret ((some b.2.1.2.2.1).bind _) _
      rw [Option.bind_some, escore_eq N _ ht, Option.bind_some]
      exact Ret.ret ⟨rfl, Int.le_refl _, by show x + 1 ≤ _; omega⟩
theorem wsaves_head : ((gamehallkeep1_three 300000000).bind fun y1 => (gamehallkeep1_near 300000000).bind fun y2 => (window_Score 300000000 y1 y2 2 0 1).bind fun y3 => some (eqI y3.2.2 0 && (eqI y3.1 1 && !(ltI y3.2.1 1)))) = some true := by decide +kernel
theorem counted_trueW : gamehallkeep1_counted 300000000 = some true := by decide +kernel
theorem windowSaves_at (r : RulesT) (p : PosT) (depth low : Int) : gamehallkeep1_WindowSaves 300000000 r p depth low = some true := by
  have hct := counted_trueW
  have hhd := wsaves_head
  obtain ⟨z, hz, hz2⟩ := tree_size (N := 300000000) (by decide) r p depth
  have he : minimax_Check 300000000 r p depth = some z.2 := by
    unfold minimax_Check minimax_Check.e
    rw [hz, Option.bind_some]
  obtain ⟨hv, hh, _⟩ := heavy_ret (N := 300000000) (by decide) r p depth
  have key : (gamehallkeep1_heavy 300000000 r p depth).bind (fun y5 =>
      bif y5 then some true
      else (window_Score 300000000 r p depth (Int.tmod (w64 (Int.tmod low 1000 + 1000)) 1000) (w64 (Int.tmod (w64 (Int.tmod low 1000 + 1000)) 1000 + 1))).bind fun y8 =>
      (perft_Tree 300000000 r p depth).bind fun y9 =>
      bif (eqI y8.2.2 y9.2) then (bif (!(eqI y8.2.2 0)) then some true
        else bif (leI 1 y8.2.1) then (some (leI y8.2.1 y9.1))
        else some false)
      else some false) = some true := by
    have b1 := Int.tmod_lt_of_pos low (show (0 : Int) < 1000 by decide)
    have b2 : -1000 < Int.tmod low 1000 := by
      have := Int.tmod_lt_of_pos (-low) (show (0 : Int) < 1000 by decide)
      rw [Int.neg_tmod] at this
      omega
    rw [w64_id (x := Int.tmod low 1000 + 1000) (by omega) (by omega)]
    have c1 := Int.tmod_lt_of_pos (Int.tmod low 1000 + 1000) (show (0 : Int) < 1000 by decide)
    have c2 := Int.tmod_nonneg 1000 (show 0 ≤ Int.tmod low 1000 + 1000 by omega)
    obtain ⟨v, hvv, hv1⟩ : ∃ v, Int.tmod (Int.tmod low 1000 + 1000) 1000 = v ∧ (0 ≤ v ∧ v ≤ 999) := ⟨_, rfl, by omega, by omega⟩
    rw [hvv, w64_id (x := v + 1) (by omega) (by omega), hh, Option.bind_some]
    cases hv with
    | true => rfl
    | false =>
      rw [bif_f rfl]
      rcases hz2 with ⟨h0, _⟩ | ⟨h0, hr, hp, d1, d2, h3, h4⟩
      · rw [wscore_bad (by decide) r p depth he h0, Option.bind_some, hz, Option.bind_some]
        dsimp only
        rw [eqI_self, bif_t rfl, bif_t (by rw [eqI_f h0]; rfl)]
      · rw [h0] at he
        have hs : Ret (window_Score 300000000 r p depth v (v + 1)) fun y => y.2.2 = 0 ∧ 1 ≤ y.2.1 ∧ y.2.1 ≤ sizeT depth.toNat 300000000 (r, (p, (U (keyS p), []))) := by
          unfold window_Score window_Score.e
          rw [he, Option.bind_some, bif_f (by rfl), bif_f (ltI_f (by omega)), bif_f (ltI_f (by omega)), bif_f (leI_f (by omega)), new_good (by decide) hr hp, Option.bind_some]
          show Ret ((window_Search_Value'' 300000000 0 (r, (p, (U (keyS p), []))) depth v (v + 1)).bind _) _
          obtain ⟨d, rfl⟩ : ∃ d : Nat, depth = d := ⟨depth.toNat, by omega⟩
          rw [Int.toNat_natCast] at h3 ⊢
          refine Ret.bnd (saves_ok d 300000000 (by omega) (by omega) (b := (r, (p, (U (keyS p), [])))) ⟨hr, hp, rfl⟩ (by simp; omega) 0 v (v + 1) (by omega) (by omega)) fun y hy => ?_
          exact Ret.ret ⟨rfl, by have := hy.2.1; dsimp only; omega, by have := hy.2.2; dsimp only; omega⟩
        obtain ⟨y, hy, hy1, hy2, hy3⟩ := hs
        rw [hy, Option.bind_some, hz, Option.bind_some, bif_t (eqI_t (by omega)), bif_f (by rw [eqI_t hy1]; rfl), bif_t (leI_t hy2), leI_t (by omega)]
  unfold gamehallkeep1_WindowSaves gamehallkeep1_WindowSaves.e
  cases h1 : gamehallkeep1_three 300000000 with
  | none => rw [h1] at hhd; cases hhd
  | some y1 =>
    rw [h1, Option.bind_some] at hhd
    rw [Option.bind_some]
    cases h2 : gamehallkeep1_near 300000000 with
    | none => rw [h2] at hhd; cases hhd
    | some y2 =>
      rw [h2, Option.bind_some] at hhd
      rw [Option.bind_some]
      cases h3 : window_Score 300000000 y1 y2 2 0 1 with
      | none => rw [h3] at hhd; cases hhd
      | some y3 =>
        rw [h3, Option.bind_some, Option.some.injEq, Bool.and_eq_true, Bool.and_eq_true] at hhd
        rw [Option.bind_some, hhd.1, hhd.2.1, not_t.1 hhd.2.2, hct]
        exact key
end Go.Proofs.Ythhojealnaiehaa.Am
