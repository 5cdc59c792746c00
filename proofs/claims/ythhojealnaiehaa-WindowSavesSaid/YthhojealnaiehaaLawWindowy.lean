/- Plain: alpha-beta in a window gives the value, cut to the window. -/
import Derived.Test.YthhojealnaiehaaLawTree0y
import Derived.Test.YthhojealnaiehaaLawScore0y
set_option linter.unusedVariables false
set_option linter.unusedSimpArgs false
set_option linter.unusedSectionVars false
namespace Go.Proofs.Ythhojealnaiehaa.Am
open Go

def clp (low high v : Int) : Int := bif ltI low (bif ltI high v then high else v) then (bif ltI high v then high else v) else low
theorem clp_cases {low high : Int} (h : low < high) (v : Int) : (v ≤ low ∧ clp low high v = low) ∨ (low < v ∧ v < high ∧ clp low high v = v) ∨ (high ≤ v ∧ clp low high v = high) := by
  have hu : (high < v ∧ (bif ltI high v then high else v) = high) ∨ (v ≤ high ∧ (bif ltI high v then high else v) = v) := by
    by_cases c : high < v
    · rw [bif_t (ltI_t c)]; exact Or.inl ⟨c, rfl⟩
    · rw [bif_f (ltI_f (by omega))]; exact Or.inr ⟨by omega, rfl⟩
  unfold clp
  generalize (bif ltI high v then high else v) = u at *
  by_cases c : low < u
  · rw [bif_t (ltI_t c)]; omega
  · rw [bif_f (ltI_f (by omega))]; omega
def mn (a b : Int) : Int := if b ≤ a then b else a
abbrev SelfT := Int → BoardT → Int → Int → Int → Option (Int × Int × BoardT)
def wl0 (N : Nat) (self : SelfT) (x0 : Int) (b0 : BoardT) (depth low high : Int) (n : Nat) (best : Int) (ms : List MvT) (len j x : Int) (b : BoardT) : Option (Int × Int × BoardT) :=
  window_Search_Value''.l0 N self x0 b0 depth low high n best ms len j x b.1.1 b.1.2.1 b.1.2.2.1 b.1.2.2.2.2.2.1 b.1.2.2.2.2.2.2.1 b.1.2.2.2.2.2.2.2.2.1 b.1.2.2.2.2.2.2.2.2.2.1 b.1.2.2.2.2.2.2.2.2.2.2 b.2.1.2.2.1 b.2.1.2.2.2 b.2.2.1 b.1.2.2.2.1 b.1.2.2.2.2.1 b.1.2.2.2.2.2.2.2.1 b.2.1.1 b.2.1.2.1.1 b.2.1.2.1.2 b.2.2.2
theorem wl0_s (N : Nat) (self : SelfT) (x0 : Int) (b0 : BoardT) (depth low high : Int) (n : Nat) (best : Int) (ms : List MvT) (len j x : Int) (b : BoardT) : wl0 N self x0 b0 depth low high (n + 1) best ms len j x b =
    bif ltI j len then (chk (leI 0 j && ltI j (ms.length : Int)) <|
      (board_Board_Make' N b (gD z0 ms j)).bind fun y10 =>
      (self x y10 (w64 (depth - 1)) (w64 (w64 (0 - high) - 1)) (w64 (w64 (0 - best) + 1))).bind fun y13 =>
      (minimax_Nearer N (w64 (0 - y13.1))).bind fun y14 =>
      (board_Board_Undo' N y13.2.2).bind fun y15 =>
      bif (leI high (bif (ltI best y14) then y14 else best)) then (some (high, (y13.2.1, y15.2)))
      else wl0 N self x0 b0 depth low high n (bif (ltI best y14) then y14 else best) ms len (w64 (j + 1)) y13.2.1 y15.2)
    else some (best, (x, b)) := rfl
theorem window_e (N : Nat) (x : Int) (b : BoardT) (depth low high : Int) : window_Search_Value'' (N + 1) x b depth low high =
    (board_Board_Result N b).bind fun y1 =>
    bif (!(eqI y1 0)) then ((board_Board_Turn N b).bind fun y2 =>
      (ends_Score N y1 y2).bind fun y3 =>
      some (clp low high y3, (w64 (x + 1), b)))
    else bif (eqI depth 0) then some (clp low high 0, (w64 (x + 1), b))
    else (board_Board_Moves N b).bind fun y8 =>
    wl0 N (window_Search_Value'' N) x b depth low high N low y8 (y8.length : Int) 0 (w64 (x + 1)) b := rfl
theorem window_l0 {N : Nat} (self : SelfT) (x0 : Int) (b0 : BoardT) (d : Nat) (hd : d ≤ 20) {b : BoardT} (hb : BOk b) (hl : b.2.2.2.length ≤ 100000) (ms : List MvT) (hms : ∀ m ∈ ms, MoveOk b.1 b.2.1 m) (hlen : ms.length ≤ 100000)
    (low high : Int) (hlo : -(1999 - (d : Int)) ≤ low) (hhi : high ≤ 1999 - (d : Int))
    (hself : ∀ m ∈ ms, ∀ x lo hi : Int, lo < hi → -(2000 - (d : Int)) ≤ lo → hi ≤ 2000 - (d : Int) → Ret (self x (makeB b m) (d : Int) lo hi) fun z => z.1 = clp lo hi (val b.1 d (doI b.1 b.2.1 m)) ∧ z.2.2 = makeB b m) : ∀ (k j n : Nat) (best x : Int), j + k = ms.length → k < n → low ≤ best → best < high →
    Ret (wl0 N self x0 b0 ((d + 1 : Nat) : Int) low high n best ms (ms.length : Int) (j : Int) x b) fun z => z.1 = mn (foldMax best ((ms.drop j).map fun m => near (-(val b.1 d (doI b.1 b.2.1 m))))) high ∧ z.2.2 = b
  | 0, j, n, best, x, hk, hn, h1, h2 => by
    obtain ⟨n, rfl⟩ := nxt (n := n) (by omega)
    rw [wl0_s, bif_f (ltI_f (by omega)), List.drop_of_length_le (by omega)]
    refine Ret.ret ⟨?_, rfl⟩
    show best = mn best high
    unfold mn
    rw [if_neg (by omega)]
  | k + 1, j, n, best, x, hk, hn, h1, h2 => by
    obtain ⟨n, rfl⟩ := nxt (n := n) (by omega)
    have hj : j < ms.length := by omega
    have hmem : ms[j] ∈ ms := List.getElem_mem _
    have hmo := hms _ hmem
    have hv := val_bound hb.r d (by omega) (do_ok hb.r hb.p hmo)
    rw [wl0_s, bif_t (ltI_t (by omega)), chk_of (idx_ok hj), gD_nat hj, make_eq hb hl hmo, Option.bind_some, w64_id (x := ((d + 1 : Nat) : Int) - 1) (by omega) (by omega), show ((d + 1 : Nat) : Int) - 1 = (d : Int) by omega, w64_id (x := 0 - high) (by omega) (by omega), w64_id (x := 0 - best) (by omega) (by omega), w64_id (x := 0 - high - 1) (by omega) (by omega), w64_id (x := 0 - best + 1) (by omega) (by omega)]
    refine Ret.bnd (hself _ hmem x (0 - high - 1) (0 - best + 1) (by omega) (by omega) (by omega)) fun z hz => ?_
    have hc := clp_cases (show 0 - high - 1 < 0 - best + 1 by omega) (val b.1 d (doI b.1 b.2.1 ms[j]))
    rw [← hz.1] at hc
    rw [w64_id (x := 0 - z.1) (by omega) (by omega), nearer_eq N (by omega), Option.bind_some, hz.2, undo_make hb hl hmo, Option.bind_some, w64_id (x := (j : Int) + 1) (by omega) (by omega), show ((j : Int) + 1) = ((j + 1 : Nat) : Int) by omega, List.drop_eq_getElem_cons hj]
    have e : foldMax best (((ms[j] :: ms.drop (j + 1)).map fun m => near (-(val b.1 d (doI b.1 b.2.1 m))))) = foldMax (mx best (near (-(val b.1 d (doI b.1 b.2.1 ms[j]))))) ((ms.drop (j + 1)).map fun m => near (-(val b.1 d (doI b.1 b.2.1 m)))) := rfl
    rw [e]
    have n1 := near_cases (0 - z.1)
    have n2 := near_cases (-(val b.1 d (doI b.1 b.2.1 ms[j])))
    have m1 := mx_eq best (near (0 - z.1))
    have m2 := mx_eq best (near (-(val b.1 d (doI b.1 b.2.1 ms[j]))))
    show Ret (bif (leI high (mx best (near (0 - z.1)))) then _ else wl0 N self x0 b0 ((d + 1 : Nat) : Int) low high n (mx best (near (0 - z.1))) ms (ms.length : Int) ((j + 1 : Nat) : Int) z.2.1 b) _
    refine Ret.bif (fun c => ?_) (fun c => ?_)
    · rw [leI_iff] at c
      have f := (foldMax_spec ((ms.drop (j + 1)).map fun m => near (-(val b.1 d (doI b.1 b.2.1 m)))) (mx best (near (-(val b.1 d (doI b.1 b.2.1 ms[j])))))).1
      refine Ret.ret ⟨?_, rfl⟩
      unfold mn
      rw [if_pos (by omega)]
    · rw [leI_iff'] at c
      have ee : mx best (near (0 - z.1)) = mx best (near (-(val b.1 d (doI b.1 b.2.1 ms[j])))) := by omega
      rw [← ee]
      exact window_l0 self x0 b0 d hd hb hl ms hms hlen low high hlo hhi hself k (j + 1) n _ _ (by omega) (by omega) (by omega) (by omega)
theorem window_ok : ∀ (d N : Nat), 200000000 + d < N → d ≤ 20 → ∀ {b : BoardT}, BOk b → b.2.2.2.length + d ≤ 100000 → ∀ x low high : Int, low < high → -(2000 - (d : Int)) ≤ low → high ≤ 2000 - (d : Int) → Ret (window_Search_Value'' N x b (d : Int) low high) fun z => z.1 = clp low high (val b.1 d b.2.1) ∧ z.2.2 = b
  | d, N, hN, hd, b, hb, hl, x, low, high, h1, h2, h3 => by
    obtain ⟨N, rfl⟩ := nxt (n := N) (by omega)
    have ht := hb.p.last.1
    rw [window_e, bresult_eq (by omega) hb, Option.bind_some]
    by_cases h : resV b.1 b.2.1 = 0
    · rw [bif_f (by rw [eqI_t h]; rfl)]
      cases d with
      | zero =>
        rw [bif_t (by rfl)]
        refine Ret.ret ⟨?_, rfl⟩
        unfold val
        rw [if_neg (by simp [h])]
      | succ d =>
        obtain ⟨l, hl1, _, hl2⟩ := bmoves_ret (N := N) (by omega) hb
        have hg := hl2 h
        have hgl := hg.len
        rw [bif_f (eqI_f (by omega)), hl1, Option.bind_some]
        have := window_l0 (N := N) (window_Search_Value'' N) x b d (by omega) hb (by omega) l (fun m hm => cand_ok hb.r hb.p ((hg.mem m).1 hm)) (by omega) low high (by omega) (by omega) (fun m hm x lo hi k1 k2 k3 => by
          have hmo := cand_ok hb.r hb.p ((hg.mem m).1 hm)
          exact window_ok d N (by omega) (by omega) (make_ok hb (by omega) hmo) (by
            show (b.2.2.2 ++ [undoI b m]).length + d ≤ 100000
            rw [List.length_append]
            simp only [List.length_singleton]
            omega) x lo hi k1 k2 k3) l.length 0 N low (w64 (x + 1)) (by omega) (by omega) (Int.le_refl _) h1
        rw [List.drop_zero, show ((0 : Nat) : Int) = 0 from rfl] at this
        refine this.mono fun z hz => ⟨?_, hz.2⟩
        rw [hz.1, val_open hb.r h]
        have fe : foldMax low (l.map fun m => near (-(val b.1 d (doI b.1 b.2.1 m)))) = foldMax low ((cand b.1 b.2.1).map fun m => near (-(val b.1 d (doI b.1 b.2.1 m)))) := by
          apply foldMax_ext
          intro x
          simp only [List.mem_map]
          constructor
          · rintro ⟨m, hm, rfl⟩; exact ⟨m, (hg.mem m).1 hm, rfl⟩
          · rintro ⟨m, hm, rfl⟩; exact ⟨m, (hg.mem m).2 hm, rfl⟩
        rw [fe]
        have f1 := foldMax_spec ((cand b.1 b.2.1).map fun m => near (-(val b.1 d (doI b.1 b.2.1 m)))) low
        have f2 := foldMax_spec ((cand b.1 b.2.1).map fun m => near (-(val b.1 d (doI b.1 b.2.1 m)))) (-1000)
        obtain ⟨m0, hm0⟩ : ∃ m, m ∈ cand b.1 b.2.1 := by
          cases hc : cand b.1 b.2.1 with
          | nil => exact absurd hc (cand_ne hb.r hb.p h)
          | cons m l => exact ⟨m, List.mem_cons_self ..⟩
        have bnd := val_bound hb.r d (by omega) (do_ok hb.r hb.p (cand_ok hb.r hb.p hm0))
        have nb := near_cases (-(val b.1 d (doI b.1 b.2.1 m0)))
        have u1 := f1.2.1 _ (List.mem_map.2 ⟨m0, hm0, rfl⟩)
        have u2 := f2.2.1 _ (List.mem_map.2 ⟨m0, hm0, rfl⟩)
        generalize foldMax low ((cand b.1 b.2.1).map fun m => near (-(val b.1 d (doI b.1 b.2.1 m)))) = F at *
        generalize foldMax (-1000) ((cand b.1 b.2.1).map fun m => near (-(val b.1 d (doI b.1 b.2.1 m)))) = V at *
        have k2 : V ≤ F := by
          rcases f2.2.2 with e | e
          · omega
          · exact f1.2.1 _ e
        have k1 : F = low ∨ F ≤ V := by
          rcases f1.2.2 with e | e
          · exact Or.inl e
          · exact Or.inr (f2.2.1 _ e)
        have hc := clp_cases h1 V
        unfold mn
        split
        · omega
        · omega
    · rw [bif_t (by rw [eqI_f h]; rfl), val_over hb.r h]
      show Ret ((some b.2.1.2.2.1).bind _) _
      rw [Option.bind_some, escore_eq N _ ht, Option.bind_some]
      exact Ret.ret ⟨rfl, rfl⟩
section
variable {N : Nat} (hN : 200000100 ≤ N) (r : RulesT) (p : PosT) (depth : Int)
include hN
theorem wscore_bad {e : Int} (he : minimax_Check N r p depth = some e) (h0 : e ≠ 0) (low high : Int) : window_Score N r p depth low high = some (0, (0, e)) := by
  unfold window_Score window_Score.e
  rw [he, Option.bind_some, bif_t (by rw [eqI_f h0]; rfl)]
theorem wscore_good (he : minimax_Check N r p depth = some 0) (hr : ROk r) (hp : POk r p) (h1 : 0 ≤ depth) (h2 : depth ≤ 12) {low high : Int} (h3 : -1000 ≤ low) (h4 : low < high) (h5 : high ≤ 1000) :
    Ret (window_Score N r p depth low high) fun z => z.1 = clp low high (val r depth.toNat p) ∧ z.2.2 = 0 := by
  unfold window_Score window_Score.e
  rw [he, Option.bind_some, bif_f (by rfl), bif_f (ltI_f (by omega)), bif_f (ltI_f (by omega)), bif_f (leI_f (by omega)), new_good (by omega) hr hp, Option.bind_some]
  show Ret ((window_Search_Value'' N 0 (r, (p, (U (keyS p), []))) depth low high).bind _) _
  obtain ⟨d, rfl⟩ : ∃ d : Nat, depth = d := ⟨depth.toNat, by omega⟩
  refine Ret.bnd (window_ok d N (by omega) (by omega) (b := (r, (p, (U (keyS p), [])))) ⟨hr, hp, rfl⟩ (by simp; omega) 0 low high h4 (by omega) (by omega)) fun z hz => ?_
  exact Ret.ret ⟨by rw [Int.toNat_natCast]; exact hz.1, rfl⟩
end
end Go.Proofs.Ythhojealnaiehaa.Am
