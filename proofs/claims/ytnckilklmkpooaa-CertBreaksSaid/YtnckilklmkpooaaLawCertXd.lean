/- Plain: the best move; certificates, their maker and their checker. -/
import Derived.Test.YtnckilklmkpooaaLawCheckd
import Derived.Test.YtnckilklmkpooaaLawLeavesd
import Derived.Test.YtnckilklmkpooaaLawDoEqd
set_option linter.unusedVariables false
set_option linter.unusedSimpArgs false
set_option linter.unusedSectionVars false
namespace Go.Proofs.Ytnckilklmkpooaa.Am
open Go

def bs0 (N : Nat) (b0 : BoardT) (depth : Int) (n : Nat) (most len j : Int) (b : BoardT) (out : MvT) (ms : List MvT) : Option (MvT × Int × BoardT) :=
  minimax_best'.l0 N b0 depth n most len j b.1.1 b.1.2.1 b.1.2.2.1 b.1.2.2.2.2.2.1 b.1.2.2.2.2.2.2.1 b.1.2.2.2.2.2.2.2.2.1 b.1.2.2.2.2.2.2.2.2.2.1 b.1.2.2.2.2.2.2.2.2.2.2 b.2.1.2.2.1 b.2.1.2.2.2 b.2.2.1 out.1 out.2.1 out.2.2 ms b.1.2.2.2.1 b.1.2.2.2.2.1 b.1.2.2.2.2.2.2.2.1 b.2.1.1 b.2.1.2.1.1 b.2.1.2.1.2 b.2.2.2
theorem bs0_s (N : Nat) (b0 : BoardT) (depth : Int) (n : Nat) (most len j : Int) (b : BoardT) (out : MvT) (ms : List MvT) : bs0 N b0 depth (n + 1) most len j b out ms =
    bif ltI j len then (chk (leI 0 j && ltI j (ms.length : Int)) <|
      (board_Board_Make' N b (gD z0 ms j)).bind fun y2 =>
      (minimax_Value' N y2 (w64 (depth - 1))).bind fun y3 =>
      (minimax_Nearer N (w64 (0 - y3.1))).bind fun y4 =>
      (board_Board_Undo' N y3.2).bind fun y5 =>
      bif (ltI most y4) then (bs0 N b0 depth n y4 len (w64 (j + 1)) y5.2 (gD z0 ms j) ms)
      else bs0 N b0 depth n most len (w64 (j + 1)) y5.2 out ms)
    else some (out, (most, b)) := rfl
theorem bestx_l0 {N : Nat} (hN : 200000100 ≤ N) (b0 : BoardT) (d : Nat) (hd : d ≤ 19) {b : BoardT} (hb : BOk b) (hl : b.2.2.2.length ≤ 1000) (ms : List MvT) (hms : ∀ m ∈ ms, MoveOk b.1 b.2.1 m) (hlen : ms.length ≤ 100000) :
    ∀ (k j n : Nat) (most : Int) (out : MvT), j + k = ms.length → k < n → ((0 < k ∧ most = -1001) ∨ (out ∈ ms ∧ most = near (-(val b.1 d (doI b.1 b.2.1 out))))) →
    Ret (bs0 N b0 ((d + 1 : Nat) : Int) n most (ms.length : Int) (j : Int) b out ms) fun z => z.1 ∈ ms ∧ z.2.1 = near (-(val b.1 d (doI b.1 b.2.1 z.1))) ∧ z.2.1 = foldMax most ((ms.drop j).map fun m => near (-(val b.1 d (doI b.1 b.2.1 m))))
  | 0, j, n, most, out, hk, hn, hm => by
    obtain ⟨n, rfl⟩ := nxt (n := n) (by omega)
    rw [bs0_s, bif_f (ltI_f (by omega)), List.drop_of_length_le (by omega)]
    rcases hm with ⟨h, _⟩ | h
    · omega
    · exact Ret.ret ⟨h.1, h.2, rfl⟩
  | k + 1, j, n, most, out, hk, hn, hm => by
    obtain ⟨n, rfl⟩ := nxt (n := n) (by omega)
    have hj : j < ms.length := by omega
    have hmem : ms[j] ∈ ms := List.getElem_mem _
    have hmo := hms _ hmem
    have hv := val_bound hb.r d (by omega) (do_ok hb.r hb.p hmo)
    have hself := value_ok d N (by omega) (by omega) (make_ok hb (by omega) hmo) (by
      show (b.2.2.2 ++ [undoI b ms[j]]).length + d ≤ 100000
      rw [List.length_append]
      simp only [List.length_singleton]
      omega)
    rw [show val (makeB b ms[j]).1 d (makeB b ms[j]).2.1 = val b.1 d (doI b.1 b.2.1 ms[j]) from rfl] at hself
    rw [bs0_s, bif_t (ltI_t (by omega)), chk_of (idx_ok hj), gD_nat hj, make_eq hb (by omega) hmo, Option.bind_some, w64_id (x := ((d + 1 : Nat) : Int) - 1) (by omega) (by omega), show ((d + 1 : Nat) : Int) - 1 = (d : Int) by omega, hself, Option.bind_some]
    dsimp only
    rw [w64_id (x := 0 - val b.1 d (doI b.1 b.2.1 ms[j])) (by omega) (by omega), nearer_eq N (by omega), Option.bind_some, undo_make hb (by omega) hmo, Option.bind_some, w64_id (by omega) (by omega), show ((j : Int) + 1) = ((j + 1 : Nat) : Int) by omega, show 0 - val b.1 d (doI b.1 b.2.1 ms[j]) = -(val b.1 d (doI b.1 b.2.1 ms[j])) by omega, List.drop_eq_getElem_cons hj]
    have hnc := near_cases (-(val b.1 d (doI b.1 b.2.1 ms[j])))
    have e : foldMax most ((ms[j] :: ms.drop (j + 1)).map fun m => near (-(val b.1 d (doI b.1 b.2.1 m)))) = foldMax (mx most (near (-(val b.1 d (doI b.1 b.2.1 ms[j]))))) ((ms.drop (j + 1)).map fun m => near (-(val b.1 d (doI b.1 b.2.1 m)))) := rfl
    rw [e]
    have hmx := mx_eq most (near (-(val b.1 d (doI b.1 b.2.1 ms[j]))))
    refine Ret.bif (fun c => ?_) (fun c => ?_)
    · rw [ltI_iff] at c
      rw [show mx most (near (-(val b.1 d (doI b.1 b.2.1 ms[j])))) = near (-(val b.1 d (doI b.1 b.2.1 ms[j]))) by omega]
      exact bestx_l0 hN b0 d hd hb hl ms hms hlen k (j + 1) n _ _ (by omega) (by omega) (Or.inr ⟨hmem, rfl⟩)
    · rw [ltI_iff'] at c
      rw [show mx most (near (-(val b.1 d (doI b.1 b.2.1 ms[j])))) = most by omega]
      refine bestx_l0 hN b0 d hd hb hl ms hms hlen k (j + 1) n _ _ (by omega) (by omega) (Or.inr ?_)
      rcases hm with ⟨_, h⟩ | h
      · omega
      · exact h
theorem bestx_ok {N : Nat} (hN : 200000100 ≤ N) (d : Nat) (hd : d ≤ 19) {b : BoardT} (hb : BOk b) (hl : b.2.2.2.length ≤ 1000) (h : resV b.1 b.2.1 = 0) :
    Ret (minimax_best' N b ((d + 1 : Nat) : Int)) fun z => z.1 ∈ cand b.1 b.2.1 ∧ z.2.1 = near (-(val b.1 d (doI b.1 b.2.1 z.1))) ∧ z.2.1 = val b.1 (d + 1) b.2.1 := by
  obtain ⟨l, hl1, _, hl2⟩ := bmoves_ret (N := N) (by omega) hb
  have hg := hl2 h
  have hgl := hg.len
  obtain ⟨m0, hm0⟩ : ∃ m, m ∈ cand b.1 b.2.1 := by
    cases hc : cand b.1 b.2.1 with
    | nil => exact absurd hc (cand_ne hb.r hb.p h)
    | cons m c => exact ⟨m, List.mem_cons_self ..⟩
  have hm1 := (hg.mem m0).2 hm0
  have hne : 0 < l.length := List.length_pos_of_mem hm1
  unfold minimax_best' minimax_best'.e
  rw [hl1, Option.bind_some]
  have := bestx_l0 hN b d hd hb hl l (fun m hm => cand_ok hb.r hb.p ((hg.mem m).1 hm)) (by omega) l.length 0 N (-1001) ((0 : Int), ((0 : Int), (0 : Int))) (by omega) (by omega) (Or.inl ⟨hne, rfl⟩)
  refine Ret.mono this fun z hz => ⟨(hg.mem _).1 hz.1, hz.2.1, ?_⟩
  have hz3 : z.2.1 = foldMax (-1001) ((l.drop 0).map fun m => near (-(val b.1 d (doI b.1 b.2.1 m)))) := hz.2.2
  rw [List.drop_zero] at hz3
  have fe : foldMax (-1001) (l.map fun m => near (-(val b.1 d (doI b.1 b.2.1 m)))) = foldMax (-1001) ((cand b.1 b.2.1).map fun m => near (-(val b.1 d (doI b.1 b.2.1 m)))) := by
    apply foldMax_ext
    intro x
    simp only [List.mem_map]
    constructor
    · rintro ⟨m, hm, rfl⟩; exact ⟨m, (hg.mem m).1 hm, rfl⟩
    · rintro ⟨m, hm, rfl⟩; exact ⟨m, (hg.mem m).2 hm, rfl⟩
  rw [hz3, fe, val_open hb.r h]
  have f1 := foldMax_spec ((cand b.1 b.2.1).map fun m => near (-(val b.1 d (doI b.1 b.2.1 m)))) (-1001)
  have f2 := foldMax_spec ((cand b.1 b.2.1).map fun m => near (-(val b.1 d (doI b.1 b.2.1 m)))) (-1000)
  have bnd := val_bound hb.r d (by omega) (do_ok hb.r hb.p (cand_ok hb.r hb.p hm0))
  have nb := near_cases (-(val b.1 d (doI b.1 b.2.1 m0)))
  have u1 := f1.2.1 _ (List.mem_map.2 ⟨m0, hm0, rfl⟩)
  have u2 := f2.2.1 _ (List.mem_map.2 ⟨m0, hm0, rfl⟩)
  apply Int.le_antisymm
  · rcases f1.2.2 with e | e
    · omega
    · exact f2.2.1 _ e
  · rcases f2.2.2 with e | e
    · omega
    · exact f1.2.1 _ e
theorem mcheck_size {N : Nat} (hN : 200000100 ≤ N) {r : RulesT} {p : PosT} (hr : ROk r) (hp : POk r p) {d : Nat} (hd : d ≤ 12) : minimax_Check N r p (d : Int) = some (if sizeP r d p ≤ 50000 then 0 else 17) := by
  unfold minimax_Check minimax_Check.e
  rw [tree_good hN r p d hr hp hd (pch_good hN r p (d : Int) hr hp (by omega) (by omega))]
  by_cases h : sizeP r d p ≤ 50000
  · rw [if_pos h, if_pos h, Option.bind_some]
  · rw [if_neg h, if_neg h, Option.bind_some]
theorem size_child {r : RulesT} {p : PosT} (hr : ROk r) (hp : POk r p) (h : resV r p = 0) {m : MvT} (hm : m ∈ cand r p) (d : Nat) : sizeP r d (doI r p m) < sizeP r (d + 1) p := by
  obtain ⟨l, hl, hg⟩ := gen_ret hr hp (N := 200000000) (Nat.le_refl _)
  have e : mvP r p = l := by unfold mvP; rw [if_pos h, hl]; rfl
  have := sumL_mem (f := fun m => sizeP r d (doI r p m)) (mvP r p) (fun m _ => by have := sizeP_pos r d (doI r p m); omega) m (by rw [e]; exact (hg.mem m).2 hm)
  have e2 : sizeP r (d + 1) p = 1 + sumL (fun m => sizeP r d (doI r p m)) (mvP r p) := rfl
  omega
theorem bestf_ok {N : Nat} (hN : 200000100 ≤ N) {r : RulesT} {p : PosT} (hr : ROk r) (hp : POk r p) {d : Nat} (hd : d ≤ 11) (hs : sizeP r (d + 1) p ≤ 50000) (h : resV r p = 0) :
    Ret (minimax_Best N r p ((d + 1 : Nat) : Int)) fun z => z.1 ∈ cand r p ∧ near (-(val r d (doI r p z.1))) = val r (d + 1) p := by
  have hbk : BOk (r, (p, (U (keyS p), []))) := ⟨hr, hp, rfl⟩
  unfold minimax_Best minimax_Best.e
  rw [mcheck_size hN hr hp (d := d + 1) (by omega), if_pos hs, Option.bind_some, bif_f (by rfl), new_good (by omega) hr hp, Option.bind_some]
  show Ret (bif (eqI ((d + 1 : Nat) : Int) 0) then some (((0, (0, 0)), (0, 1)) : (Int × Int × Int) × Int × Int) else (board_Board_Result N (r, (p, (U (keyS p), [])))).bind fun y4 => _) _
  rw [bif_f (eqI_f (by omega)), bresult_eq (by omega) hbk, Option.bind_some]
  show Ret (bif (!(eqI (resV r p) 0)) then _ else _) _
  rw [bif_f (by rw [eqI_t h]; rfl)]
  refine Ret.bnd (bestx_ok (N := N) hN d (by omega) hbk (by simp) h) fun z hz => ?_
  exact Ret.ret ⟨hz.1, by rw [← hz.2.1]; exact hz.2.2⟩
abbrev NodeT := MvT × List Int
abbrev zN : NodeT := (((0 : Int), ((0 : Int), (0 : Int))), ([] : List Int))
abbrev ChT := RulesT × (List NodeT × Int)
theorem gen_mvP {N : Nat} (hN : 200000000 ≤ N) {r : RulesT} {p : PosT} (hr : ROk r) (hp : POk r p) (h : resV r p = 0) : moves_Gen N r p = some (mvP r p) ∧ (∀ m, m ∈ mvP r p ↔ m ∈ cand r p) ∧ (mvP r p).length ≤ 8192 := by
  obtain ⟨l, hl, hg⟩ := gen_ret hr hp (N := 200000000) (Nat.le_refl _)
  have e : mvP r p = l := by unfold mvP; rw [if_pos h, hl]; rfl
  rw [gen_same hr hp hN, hl, e]
  exact ⟨rfl, hg.mem, hg.len⟩
theorem res_mvP {N : Nat} (hN : 200000000 ≤ N) {r : RulesT} {p : PosT} (hr : ROk r) (hp : POk r p) : ends_Result N r p = some (resV r p) := by
  obtain ⟨g, hg, hgg⟩ := gen_ret hr hp hN
  rw [result_eq hr hp (by omega) hg, any_eq hgg]
  rfl
/-- after a winning best move: over and won, or each reply leaves a win -/
theorem win_step {r : RulesT} {p : PosT} (hr : ROk r) (hp : POk r p) {D : Nat} (hd : D ≤ 800) {m : MvT} (hm : m ∈ cand r p) (he : near (-(val r D (doI r p m))) = val r (D + 1) p) (hw : 0 < val r (D + 1) p) :
    (resV r (doI r p m) = 1 + p.2.2.1 ∧ val r (D + 1) p = 999) ∨ (resV r (doI r p m) = 0 ∧ ∃ D', D = D' + 1 ∧ ∀ m' ∈ cand r (doI r p m), 0 < val r D' (doI r (doI r p m) m') ∧ (resV r (doI r (doI r p m) m') = 0 ∨ (resV r (doI r (doI r p m) m') = 1 + p.2.2.1 ∧ val r D' (doI r (doI r p m) m') = 1000))) := by
  have hmo := cand_ok hr hp hm
  have hdo := do_ok hr hp hmo
  have tq : (doI r p m).2.2.1 = 1 - p.2.2.1 := rfl
  have nc := near_cases (-(val r D (doI r p m)))
  by_cases h : resV r (doI r p m) = 0
  · refine Or.inr ⟨h, ?_⟩
    cases D with
    | zero =>
      have : val r 0 (doI r p m) = 0 := by unfold val; rw [if_neg (by simp [h])]
      omega
    | succ D' =>
      refine ⟨D', rfl, fun m' hm' => ?_⟩
      have hv := val_open hr h D'
      have f := (foldMax_spec ((cand r (doI r p m)).map fun m' => near (-(val r D' (doI r (doI r p m) m')))) (-1000)).2.1 _ (List.mem_map.2 ⟨m', hm', rfl⟩)
      rw [← hv] at f
      have nc2 := near_cases (-(val r D' (doI r (doI r p m) m')))
      refine ⟨by omega, ?_⟩
      by_cases h2 : resV r (doI r (doI r p m) m') = 0
      · exact Or.inl h2
      · refine Or.inr ?_
        have ho := val_over hr h2 D'
        have ts : (doI r (doI r p m) m').2.2.1 = 1 - (1 - p.2.2.1) := rfl
        rw [ts] at ho
        have sc := score_cases hr (resV r (doI r (doI r p m) m')) (1 - (1 - p.2.2.1))
        unfold scoreV at ho sc
        split at ho
        · exact ⟨by omega, by omega⟩
        · split at ho
          · omega
          · omega
  · refine Or.inl ?_
    have ho := val_over hr h D
    rw [tq] at ho
    unfold scoreV at ho
    split at ho
    · omega
    · split at ho
      · exact ⟨by omega, by omega⟩
      · omega
/-- a certificate: from this node on, the winner wins so fast as the value says -/
def CertP (r : RulesT) (w : Int) (l : List NodeT) : Nat → Nat → PosT → Prop
  | 0, _, _ => False
  | 1, k, p => ∃ m, l[k]? = some (m, []) ∧ m ∈ cand r p ∧ near (-(val r 0 (doI r p m))) = val r 1 p
  | D + 2, k, p => ∃ m reps, l[k]? = some (m, reps) ∧ m ∈ cand r p ∧ near (-(val r (D + 1) (doI r p m))) = val r (D + 2) p ∧ ((reps = [] ∧ resV r (doI r p m) ≠ 0) ∨ (resV r (doI r p m) = 0 ∧ reps.length = (mvP r (doI r p m)).length ∧
      ∀ i : Nat, i < (mvP r (doI r p m)).length → (resV r (doI r (doI r p m) (gD z0 (mvP r (doI r p m)) (i : Int))) ≠ 0 ∧ gD 0 reps (i : Int) = -1) ∨ (resV r (doI r (doI r p m) (gD z0 (mvP r (doI r p m)) (i : Int))) = 0 ∧ ∃ c : Nat, gD 0 reps (i : Int) = (c : Int) ∧ CertP r w l D c (doI r (doI r p m) (gD z0 (mvP r (doI r p m)) (i : Int))))))
abbrev NdT := ChT → Int → PosT → Option Int
def nd0 (N : Nat) (self : NdT) (x : ChT) (k : Int) (p : PosT) (n : Nat) (legal : Bool) (len j : Int) (ms : List MvT) : Option Int := cert_checker_node.l0 N self x k p n legal len j ms
def nd1 (N : Nat) (self : NdT) (x : ChT) (k : Int) (p : PosT) (n : Nat) (most len j : Int) (q : PosT) (ms : List MvT) : Option Int := cert_checker_node.l1 N self x k p n most len j q.1 q.2.1.1 q.2.1.2 q.2.2.1 q.2.2.2 ms
/-- behind the look at the move -/
def ndR (N : Nat) (self : NdT) (x : ChT) (k : Int) (p : PosT) (n : Nat) : Option Int :=
  (moves_Do N x.1 p (gD zN x.2.1 k).1).bind fun y3 =>
  (ends_Result N x.1 y3).bind fun y4 =>
  bif (!(eqI y4 0)) then (bif (ltI 0 ((gD zN x.2.1 k).2.length : Int)) then some 0
    else bif (!(eqI y4 x.2.2)) then some 0
    else some 1)
  else (moves_Gen N x.1 y3).bind fun y6 =>
  bif (!(eqI ((gD zN x.2.1 k).2.length : Int) (y6.length : Int))) then some 0
  else nd1 N self x k p n 0 (y6.length : Int) 0 y3 y6
theorem node_e (N : Nat) (x : ChT) (k : Int) (p : PosT) : cert_checker_node (N + 1) x k p =
    (chk ((leI 0 k) && (ltI k (x.2.1.length : Int))) <|
    (moves_Gen N x.1 p).bind fun y1 => nd0 N (cert_checker_node N) x k p N false (y1.length : Int) 0 y1) := rfl
theorem nd0_s (N : Nat) (self : NdT) (x : ChT) (k : Int) (p : PosT) (n : Nat) (legal : Bool) (len j : Int) (ms : List MvT) : nd0 N self x k p (n + 1) legal len j ms =
    bif ltI j len then (chk ((leI 0 j) && (ltI j (ms.length : Int))) <|
      bif legal then nd0 N self x k p n true len (w64 (j + 1)) ms
      else nd0 N self x k p n ((eqI (gD z0 ms j).1 (gD zN x.2.1 k).1.1) && ((eqI (gD z0 ms j).2.1 (gD zN x.2.1 k).1.2.1) && ((eqI (gD z0 ms j).2.2 (gD zN x.2.1 k).1.2.2) && true))) len (w64 (j + 1)) ms)
    else bif (!legal) then some 0
    else ndR N self x k p n := rfl
theorem nd1_s (N : Nat) (self : NdT) (x : ChT) (k : Int) (p : PosT) (n : Nat) (most len j : Int) (q : PosT) (ms : List MvT) : nd1 N self x k p (n + 1) most len j q ms =
    bif ltI j len then (chk ((leI 0 j) && (ltI j (ms.length : Int))) <|
      (moves_Do N x.1 q (gD z0 ms j)).bind fun y9 =>
      (ends_Result N x.1 y9).bind fun y10 =>
      chk ((leI 0 j) && (ltI j ((gD zN x.2.1 k).2.length : Int))) <|
      bif (!((!(eqI y10 0)) == (eqI (gD (0 : Int) (gD zN x.2.1 k).2 j) (-1)))) then some 0
      else bif (!(eqI y10 0)) then (bif (!(eqI y10 x.2.2)) then some 0
        else bif (eqI y10 0) then (chk ((leI 0 j) && (ltI j ((gD zN x.2.1 k).2.length : Int))) <|
          (self x (gD (0 : Int) (gD zN x.2.1 k).2 j) y9).bind fun y13 =>
          bif (eqI y13 0) then some 0
          else nd1 N self x k p n (mx most (w64 (y13 + 2))) len (w64 (j + 1)) q ms)
        else nd1 N self x k p n (mx most 2) len (w64 (j + 1)) q ms)
      else bif (eqI y10 0) then (chk ((leI 0 j) && (ltI j ((gD zN x.2.1 k).2.length : Int))) <|
        (self x (gD (0 : Int) (gD zN x.2.1 k).2 j) y9).bind fun y16 =>
        bif (eqI y16 0) then some 0
        else nd1 N self x k p n (mx most (w64 (y16 + 2))) len (w64 (j + 1)) q ms)
      else nd1 N self x k p n (mx most 2) len (w64 (j + 1)) q ms)
    else some most := rfl
theorem gD_getq {l : List NodeT} {k : Nat} {x : NodeT} (h : l[k]? = some x) : gD zN l (k : Int) = x ∧ k < l.length := by
  obtain ⟨h1, h2⟩ := List.getElem?_eq_some_iff.1 h
  exact ⟨by rw [gD_nat h1, h2], h1⟩
section
variable {r : RulesT} (hr : ROk r) (w : Int) (l : List NodeT)
include hr
end
abbrev MkT := RulesT × (List NodeT × Bool)
/-- how often a number is named -/
def cntN : List NodeT → Int → Nat
  | [], _ => 0
  | x :: l, j => x.2.count j + cntN l j
theorem cntN_append (j : Int) : ∀ (a b : List NodeT), cntN (a ++ b) j = cntN a j + cntN b j
  | [], b => by simp [cntN]
  | x :: a, b => by
    have := cntN_append j a b
    show x.2.count j + cntN (a ++ b) j = (x.2.count j + cntN a j) + cntN b j
    omega
/-- what the maker has added: a certificate from the first new node on, whose nodes name each other once -/
structure AddOk (r : RulesT) (w : Int) (L : List NodeT) (D : Nat) (p : PosT) (S : List NodeT) : Prop where
  ne : 0 < S.length
  le : L.length + S.length ≤ 5000
  cl : ∀ l : List NodeT, (∀ i, i < S.length → l[L.length + i]? = S[i]?) → CertP r w l D L.length p
  ord : ∀ i x, S[i]? = some x → ∀ a ∈ x.2, a = -1 ∨ (((L.length + i : Nat) : Int) < a ∧ a < ((L.length + S.length : Nat) : Int))
  cnt : ∀ j : Nat, cntN S (j : Int) = if L.length < j ∧ j < L.length + S.length then 1 else 0
  few : ∀ x ∈ S, x.2.length ≤ 8192
/-- under way: the replies so far -/
structure Inv (r : RulesT) (w : Int) (L : List NodeT) (D : Nat) (q : PosT) (ms : List MvT) (j : Nat) (S : List NodeT) (reps : List Int) : Prop where
  le : L.length + 1 + S.length ≤ 5000
  len : reps.length = j
  cl : ∀ l : List NodeT, (∀ i, i < S.length → l[L.length + 1 + i]? = S[i]?) → ∀ t : Nat, t < j → (resV r (doI r q (gD z0 ms (t : Int))) ≠ 0 ∧ gD 0 reps (t : Int) = -1) ∨ (resV r (doI r q (gD z0 ms (t : Int))) = 0 ∧ ∃ c : Nat, gD 0 reps (t : Int) = (c : Int) ∧ CertP r w l D c (doI r q (gD z0 ms (t : Int))))
  ordR : ∀ a ∈ reps, a = -1 ∨ ((L.length : Int) < a ∧ a < ((L.length + 1 + S.length : Nat) : Int))
  ordN : ∀ i x, S[i]? = some x → ∀ a ∈ x.2, a = -1 ∨ (((L.length + 1 + i : Nat) : Int) < a ∧ a < ((L.length + 1 + S.length : Nat) : Int))
  cnt : ∀ j : Nat, reps.count (j : Int) + cntN S (j : Int) = if L.length < j ∧ j < L.length + 1 + S.length then 1 else 0
  few : ∀ x ∈ S, x.2.length ≤ 8192
theorem gD_snoc_lt {reps : List Int} {a : Int} {t : Nat} (h : t < reps.length) : gD 0 (reps ++ [a]) (t : Int) = gD 0 reps (t : Int) := by
  rw [gD_nat h, gD_nat (by rw [List.length_append]; omega), List.getElem_append_left h]
theorem gD_snoc_eq {reps : List Int} {a : Int} : gD 0 (reps ++ [a]) ((reps.length : Nat) : Int) = a := by
  rw [gD_nat (by rw [List.length_append]; simp), List.getElem_append_right (Nat.le_refl _)]
  simp
section
variable {r : RulesT} {w : Int} {L : List NodeT} {D : Nat} {q : PosT} {ms : List MvT} {j : Nat} {S : List NodeT} {reps : List Int}
theorem Inv.over (h : Inv r w L D q ms j S reps) (h0 : resV r (doI r q (gD z0 ms (j : Int))) ≠ 0) : Inv r w L D q ms (j + 1) S (reps ++ [-1]) := by
  have hl := h.len
  refine ⟨h.le, by rw [List.length_append]; simp [hl], fun l hag t ht => ?_, fun a ha => ?_, h.ordN, fun i => ?_, h.few⟩
  · by_cases e : t < j
    · rw [gD_snoc_lt (by omega)]
      exact h.cl l hag t e
    · obtain rfl : t = j := by omega
      refine Or.inl ⟨h0, ?_⟩
      subst hl
      exact gD_snoc_eq
  · rcases List.mem_append.1 ha with ha | ha
    · exact h.ordR a ha
    · exact Or.inl (by simpa using ha)
  · have := h.cnt i
    rw [List.count_append]
    have e : List.count (i : Int) [-1] = 0 := by
      rw [List.count_singleton]
      rw [if_neg (by simp)]
    omega
theorem Inv.add {S' : List NodeT} {m : MvT} (h : Inv r w L D q ms j S reps) (h0 : resV r (doI r q (gD z0 ms (j : Int))) = 0) (hA : AddOk r w (L ++ (m, []) :: S) D (doI r q (gD z0 ms (j : Int))) S') : Inv r w L D q ms (j + 1) (S ++ S') (reps ++ [((L.length + 1 + S.length : Nat) : Int)]) := by
  have hl := h.len
  have hle := hA.le
  have hne := hA.ne
  have hML : (L ++ ((m, []) : NodeT) :: S).length = L.length + 1 + S.length := by rw [List.length_append, List.length_cons]; omega
  rw [hML] at hle
  refine ⟨by rw [List.length_append]; omega, by rw [List.length_append]; simp [hl], fun l hag t ht => ?_, fun a ha => ?_, fun i x hx a ha => ?_, fun i => ?_, fun x hx => (List.mem_append.1 hx).elim (h.few x) (hA.few x)⟩
  · by_cases e : t < j
    · rw [gD_snoc_lt (by omega)]
      refine h.cl l (fun i hi => ?_) t e
      rw [hag i (by rw [List.length_append]; omega), List.getElem?_append_left hi]
    · obtain rfl : t = j := by omega
      refine Or.inr ⟨h0, L.length + 1 + S.length, ?_, ?_⟩
      · subst hl
        exact gD_snoc_eq
      · have := hA.cl l (fun i hi => by
          rw [hML, show L.length + 1 + S.length + i = L.length + 1 + (S.length + i) by omega, hag (S.length + i) (by rw [List.length_append]; omega), List.getElem?_append_right (by omega)]
          congr 1; omega)
        rw [hML] at this
        exact this
  · rcases List.mem_append.1 ha with ha | ha
    · rcases h.ordR a ha with g | g
      · exact Or.inl g
      · exact Or.inr ⟨g.1, by rw [List.length_append]; omega⟩
    · have ha : a = ((L.length + 1 + S.length : Nat) : Int) := by simpa using ha
      exact Or.inr ⟨by omega, by rw [List.length_append]; omega⟩
  · by_cases e : i < S.length
    · rw [List.getElem?_append_left e] at hx
      rcases h.ordN i x hx a ha with g | g
      · exact Or.inl g
      · exact Or.inr ⟨g.1, by rw [List.length_append]; omega⟩
    · rw [List.getElem?_append_right (by omega)] at hx
      rcases hA.ord (i - S.length) x hx a ha with g | g
      · exact Or.inl g
      · rw [hML] at g
        exact Or.inr ⟨by omega, by rw [List.length_append]; omega⟩
  · have c1 := h.cnt i
    have c2 := hA.cnt i
    rw [hML] at c2
    rw [List.count_append, cntN_append, List.count_singleton, List.length_append]
    by_cases e : i = L.length + 1 + S.length
    · subst e
      rw [if_pos (by simp)]
      rw [if_neg (by omega)] at c1 c2
      rw [if_pos (by omega)]
      omega
    · rw [if_neg (by simp; omega)]
      split at c1
      · rw [if_neg (by omega)] at c2
        rw [if_pos (by omega)]
        omega
      · split at c2
        · rw [if_pos (by omega)]
          omega
        · rw [if_neg (by omega)]
          omega
theorem Inv.nil (hL : L.length < 5000) : Inv r w L D q ms 0 [] [] := by
  refine ⟨by simp; omega, rfl, fun l _ t ht => absurd ht (by omega), fun a ha => (by cases ha), fun i x hx => (by simp at hx), fun j => ?_, fun x hx => (by cases hx)⟩
  rw [if_neg (by simp; omega)]
  rfl
theorem Inv.fin {p : PosT} {m : MvT} (h : Inv r w L D q ms j S reps) (hfew : ms.length ≤ 8192) (hq : q = doI r p m) (hms : ms = mvP r q) (hj : j = ms.length) (hq0 : resV r q = 0) (hm : m ∈ cand r p) (he : near (-(val r (D + 1) (doI r p m))) = val r (D + 2) p) : AddOk r w L (D + 2) p ((m, reps) :: S) := by
  have hle := h.le
  refine ⟨by simp, by rw [List.length_cons]; omega, fun l hag => ?_, fun i x hx a ha => ?_, fun i => ?_, fun x hx => (List.mem_cons.1 hx).elim (fun e => by subst e; show reps.length ≤ 8192; have := h.len; omega) (h.few x)⟩
  · have h0 := hag 0 (by simp)
    have hc := h.cl l (fun i hi => by
      have := hag (i + 1) (by rw [List.length_cons]; omega)
      rw [List.getElem?_cons_succ] at this
      rw [← this]
      congr 1; omega)
    subst hq
    subst hms
    exact ⟨m, reps, h0, hm, he, Or.inr ⟨hq0, by rw [h.len, hj], fun i hi => hc i (by omega)⟩⟩
  · cases i with
    | zero =>
      have hx : (m, reps) = x := by simpa using hx
      subst hx
      rcases h.ordR a ha with g | g
      · exact Or.inl g
      · exact Or.inr ⟨by omega, by rw [List.length_cons]; omega⟩
    | succ i =>
      rw [List.getElem?_cons_succ] at hx
      rcases h.ordN i x hx a ha with g | g
      · exact Or.inl g
      · exact Or.inr ⟨by omega, by rw [List.length_cons]; omega⟩
  · have := h.cnt i
    show reps.count (i : Int) + cntN S (i : Int) = _
    rw [this, List.length_cons]
    by_cases e : L.length < i ∧ i < L.length + 1 + S.length
    · rw [if_pos e, if_pos (by omega)]
    · rw [if_neg e, if_neg (by omega)]
/-- a node whose move ends the game -/
theorem AddOk.over {p : PosT} {m : MvT} (hL : L.length < 5000) (hm : m ∈ cand r p) (h0 : resV r (doI r p m) ≠ 0) {E : Nat} (he : near (-(val r E (doI r p m))) = val r (E + 1) p) : AddOk r w L (E + 1) p [(m, [])] := by
  refine ⟨by simp, by simp; omega, fun l hag => ?_, fun i x hx a ha => ?_, fun i => ?_, fun x hx => (by rw [List.mem_singleton.1 hx]; simp)⟩
  · have h1 := hag 0 (by simp)
    cases E with
    | zero => exact ⟨m, h1, hm, he⟩
    | succ E => exact ⟨m, [], h1, hm, he, Or.inl ⟨rfl, h0⟩⟩
  · cases i with
    | zero =>
      have hx : ((m, []) : NodeT) = x := by simpa using hx
      subst hx
      cases ha
    | succ i => simp at hx
  · rw [if_neg (by simp; omega)]
    rfl
end
abbrev AdT := MkT → PosT → Int → Option (Int × MkT)
def ad0 (N : Nat) (self : AdT) (x0 : MkT) (p : PosT) (depth : Int) (n : Nat) (len j : Int) (x : MkT) (q : PosT) (ms : List MvT) (reps : List Int) : Option (Int × MkT) :=
  cert_maker_add'.l0 N self x0 p depth n len j x.1.1 x.1.2.1 x.1.2.2.1 x.1.2.2.2.1 x.1.2.2.2.2.1 x.1.2.2.2.2.2.1 x.1.2.2.2.2.2.2.1 x.1.2.2.2.2.2.2.2.1 x.1.2.2.2.2.2.2.2.2.1 x.1.2.2.2.2.2.2.2.2.2.1 x.1.2.2.2.2.2.2.2.2.2.2 x.2.2 x.2.1 q.1 q.2.1.1 q.2.1.2 q.2.2.1 q.2.2.2 ms reps
theorem ad0_s (N : Nat) (self : AdT) (x0 : MkT) (p : PosT) (depth : Int) (n : Nat) (len j : Int) (x : MkT) (q : PosT) (ms : List MvT) (reps : List Int) : ad0 N self x0 p depth (n + 1) len j x q ms reps =
    bif ltI j len then (chk ((leI 0 j) && (ltI j (ms.length : Int))) <|
      (moves_Do N x.1 q (gD z0 ms j)).bind fun y6 =>
      (ends_Result N x.1 y6).bind fun y7 =>
      bif (!(eqI y7 0)) then (chk (capOk 8 (reps.length + ([(-1)] : List Int).length)) <|
        ad0 N self x0 p depth n len (w64 (j + 1)) x q ms (reps ++ [(-1)]))
      else (self x y6 (w64 (depth - 2))).bind fun y8 =>
      chk (capOk 8 (reps.length + ([y8.1] : List Int).length)) <|
      ad0 N self x0 p depth n len (w64 (j + 1)) y8.2 q ms (reps ++ [y8.1]))
    else chk ((leI 0 (x0.2.1.length : Int)) && (ltI (x0.2.1.length : Int) (x.2.1.length : Int))) <|
    some ((x0.2.1.length : Int), (x.1, ((x.2.1.set (x0.2.1.length : Int).toNat ((gD zN x.2.1 (x0.2.1.length : Int)).1, reps)), x.2.2))) := rfl
theorem add_e (N : Nat) (x : MkT) (p : PosT) (depth : Int) : cert_maker_add' (N + 1) x p depth =
    bif (eqI (x.2.1.length : Int) 5000) then (some (0, (x.1, (x.2.1, true))))
    else bif x.2.2 then (some (0, x))
    else (minimax_Best N x.1 p depth).bind fun y2 =>
    chk (capOk 48 (x.2.1.length + ([(y2.1, [])] : List NodeT).length)) <|
    (moves_Do N x.1 p y2.1).bind fun y3 =>
    (ends_Result N x.1 y3).bind fun y4 =>
    bif (!(eqI y4 0)) then (some ((x.2.1.length : Int), (x.1, ((x.2.1 ++ [(y2.1, [])]), x.2.2))))
    else (moves_Gen N x.1 y3).bind fun y5 =>
    ad0 N (cert_maker_add' N) x p depth N (y5.length : Int) 0 (x.1, ((x.2.1 ++ [(y2.1, [])]), x.2.2)) y3 y5 [] := rfl
theorem add_full (N : Nat) (hN : 1 ≤ N) (x : MkT) (p : PosT) (depth : Int) (hx : x.2.2 = true) : Ret (cert_maker_add' N x p depth) fun z => z.2 = x := by
  obtain ⟨N, rfl⟩ := nxt (n := N) (by omega)
  obtain ⟨r, l, f⟩ := x
  have hx : f = true := hx
  subst hx
  rw [add_e]
  refine Ret.bif (fun _ => Ret.ret rfl) (fun _ => ?_)
  rw [bif_t rfl]
  exact Ret.ret rfl
section
variable {r : RulesT} (hr : ROk r)
include hr
/-- the list is full: nothing more is added -/
theorem ad_full {N : Nat} (hN : 200000000 ≤ N) (self : AdT) (hself : ∀ x y e, x.2.2 = true → Ret (self x y e) fun z => z.2 = x) (x0 : MkT) (p : PosT) (depth : Int) {q : PosT} (hq : POk r q) (hq0 : resV r q = 0) : ∀ (i j n : Nat) (x : MkT) (reps : List Int), j + i = (mvP r q).length → i < n → x.1 = r → x.2.2 = true → x0.2.1.length < x.2.1.length → reps.length ≤ j →
    Ret (ad0 N self x0 p depth n ((mvP r q).length : Int) (j : Int) x q (mvP r q) reps) fun z => z.2.1 = r ∧ z.2.2.2 = true ∧ x.2.1.length ≤ z.2.2.1.length
  | 0, j, n, x, reps, hj, hn, h1, h2, h3, h4 => by
    obtain ⟨n, rfl⟩ := nxt (n := n) (by omega)
    rw [ad0_s, bif_f (ltI_f (by omega)), chk_of (idx_ok h3)]
    exact Ret.ret ⟨h1, h2, by simp⟩
  | i + 1, j, n, x, reps, hj, hn, h1, h2, h3, h4 => by
    obtain ⟨n, rfl⟩ := nxt (n := n) (by omega)
    have hjl : j < (mvP r q).length := by omega
    obtain ⟨_, hmem, hml⟩ := gen_mvP hN hr hq hq0
    have hmo := cand_ok hr hq ((hmem _).1 (List.getElem_mem hjl))
    have hdo := do_ok hr hq hmo
    rw [ad0_s, bif_t (ltI_t (by omega)), chk_of (idx_ok hjl), gD_nat hjl, h1, do_eq hr hq N hmo, Option.bind_some, res_mvP hN hr hdo, Option.bind_some, w64_id (x := (j : Int) + 1) (by omega) (by omega), show ((j : Int) + 1) = ((j + 1 : Nat) : Int) by omega]
    refine Ret.bif (fun _ => ?_) (fun _ => ?_)
    · rw [chk_cap (by simp only [List.length_singleton]; omega)]
      exact ad_full hN self hself x0 p depth hq hq0 i (j + 1) n x _ (by omega) (by omega) h1 h2 h3 (by simp only [List.length_append, List.length_singleton]; omega)
    · refine Ret.bnd (hself x _ _ h2) fun z hz => ?_
      rw [chk_cap (by simp only [List.length_singleton]; omega), hz]
      exact ad_full hN self hself x0 p depth hq hq0 i (j + 1) n x _ (by omega) (by omega) h1 h2 h3 (by simp only [List.length_append, List.length_singleton]; omega)
abbrev AddQ (r : RulesT) (w : Int) (L : List NodeT) (D : Nat) (p : PosT) (z : Int × MkT) : Prop :=
  z.2.1 = r ∧ L.length ≤ z.2.2.1.length ∧ (z.2.2.2 = true ∨ (z.2.2.2 = false ∧ z.1 = (L.length : Int) ∧ ∃ S, z.2.2.1 = L ++ S ∧ AddOk r w L D p S))
theorem ad_l0 {N : Nat} (hN : 200000000 ≤ N) (self : AdT) (hfull : ∀ x y e, x.2.2 = true → Ret (self x y e) fun z => z.2 = x) (w : Int) (L : List NodeT) (p : PosT) (m : MvT) (D : Nat) (hD : D ≤ 100) {q : PosT} (hq : POk r q) (hq0 : resV r q = 0)
    (hself : ∀ (M : List NodeT) (t : Nat), M.length ≤ 5000 → t < (mvP r q).length → resV r (doI r q (gD z0 (mvP r q) (t : Int))) = 0 → Ret (self (r, (M, false)) (doI r q (gD z0 (mvP r q) (t : Int))) (D : Int)) (AddQ r w M D (doI r q (gD z0 (mvP r q) (t : Int))))) :
    ∀ (i j n : Nat) (S : List NodeT) (reps : List Int), j + i = (mvP r q).length → i < n → Inv r w L D q (mvP r q) j S reps →
    Ret (ad0 N self (r, (L, false)) p ((D + 2 : Nat) : Int) n ((mvP r q).length : Int) (j : Int) (r, (L ++ (m, []) :: S, false)) q (mvP r q) reps) fun z => z.2.1 = r ∧ L.length ≤ z.2.2.1.length ∧ (z.2.2.2 = true ∨ (z.2.2.2 = false ∧ z.1 = (L.length : Int) ∧ ∃ S' reps', z.2.2.1 = L ++ (m, reps') :: S' ∧ Inv r w L D q (mvP r q) (mvP r q).length S' reps'))
  | 0, j, n, S, reps, hj, hn, hi => by
    obtain ⟨n, rfl⟩ := nxt (n := n) (by omega)
    obtain rfl : j = (mvP r q).length := by omega
    have hlt : L.length < (L ++ ((m, []) : NodeT) :: S).length := by rw [List.length_append, List.length_cons]; omega
    rw [ad0_s, bif_f (ltI_f (by omega))]
    dsimp only
    rw [chk_of (idx_ok hlt), gD_nat hlt]
    have e1 : (L ++ ((m, []) : NodeT) :: S)[L.length] = (m, []) := by rw [List.getElem_append_right (Nat.le_refl _)]; simp
    have e2 : (L ++ ((m, []) : NodeT) :: S).set (L.length : Int).toNat (m, reps) = L ++ (m, reps) :: S := by
      rw [Int.toNat_natCast, List.set_append_right _ _ (Nat.le_refl _), Nat.sub_self]
      rfl
    rw [e1, e2]
    exact Ret.ret ⟨rfl, by show L.length ≤ (L ++ (m, reps) :: S).length; rw [List.length_append]; omega, Or.inr ⟨rfl, rfl, S, reps, rfl, hi⟩⟩
  | i + 1, j, n, S, reps, hj, hn, hi => by
    obtain ⟨n, rfl⟩ := nxt (n := n) (by omega)
    have hjl : j < (mvP r q).length := by omega
    obtain ⟨_, hmem, hml⟩ := gen_mvP hN hr hq hq0
    have hmo := cand_ok hr hq ((hmem _).1 (List.getElem_mem hjl))
    have hdo := do_ok hr hq hmo
    have hrl := hi.len
    have hle := hi.le
    have hML : (L ++ ((m, []) : NodeT) :: S).length = L.length + 1 + S.length := by rw [List.length_append, List.length_cons]; omega
    have eg : gD z0 (mvP r q) (j : Int) = (mvP r q)[j] := gD_nat hjl
    rw [ad0_s, bif_t (ltI_t (by omega)), chk_of (idx_ok hjl), eg]
    dsimp only
    rw [do_eq hr hq N hmo, Option.bind_some, res_mvP hN hr hdo, Option.bind_some, w64_id (x := (j : Int) + 1) (by omega) (by omega), show ((j : Int) + 1) = ((j + 1 : Nat) : Int) by omega, w64_id (x := ((D + 2 : Nat) : Int) - 2) (by omega) (by omega), show ((D + 2 : Nat) : Int) - 2 = (D : Int) by omega]
    by_cases h0 : resV r (doI r q (mvP r q)[j]) = 0
    · rw [bif_f (by rw [eqI_t h0]; rfl)]
      have hs := hself (L ++ (m, []) :: S) j (by omega) hjl (by rw [eg]; exact h0)
      rw [eg] at hs
      refine Ret.bnd hs fun z hz => ?_
      rw [chk_cap (by simp only [List.length_singleton]; omega)]
      rcases hz.2.2 with hf | ⟨hf, hz1, S', hz2, hz3⟩
      · refine (ad_full hr hN self hfull (r, (L, false)) p ((D + 2 : Nat) : Int) hq hq0 i (j + 1) n z.2 _ (by omega) (by omega) hz.1 hf (by have := hz.2.1; show L.length < _; omega) (by simp only [List.length_append, List.length_singleton]; omega)).mono fun y hy => ⟨hy.1, ?_, Or.inl hy.2.1⟩
        have := hz.2.1
        have := hy.2.2
        omega
      · have hn2 := hi.add (m := m) (by rw [eg]; exact h0) (by rw [eg]; exact hz3)
        have ez : z.2 = (r, (L ++ (m, []) :: (S ++ S'), false)) := by
          obtain ⟨z1, z2, z3, z4⟩ := z
          dsimp only at *
          have hz0 : z2 = r := hz.1
          rw [hz0, hf, hz2, List.append_assoc]
          rfl
        rw [ez, hz1, hML]
        exact ad_l0 hN self hfull w L p m D hD hq hq0 hself i (j + 1) n (S ++ S') _ (by omega) (by omega) hn2
    · rw [bif_t (by rw [eqI_f h0]; rfl), chk_cap (by simp only [List.length_singleton]; omega)]
      exact ad_l0 hN self hfull w L p m D hD hq hq0 hself i (j + 1) n S _ (by omega) (by omega) (hi.over (by rw [eg]; exact h0))
theorem add_ok (w : Int) : ∀ (D N : Nat) (p : PosT) (L : List NodeT), 1 ≤ D → D ≤ 12 → 200000100 + D < N → POk r p → resV r p = 0 → 0 < val r D p → sizeP r D p ≤ 50000 → L.length ≤ 5000 → Ret (cert_maker_add' N (r, (L, false)) p (D : Int)) (AddQ r w L D p)
  | 0, _, _, _, h, _, _, _, _, _, _, _ => absurd h (by omega)
  | 1, N, p, L, _, hD, hN, hp, h0, hv, hs, hL => by
    obtain ⟨N, rfl⟩ := nxt (n := N) (by omega)
    rw [add_e]
    dsimp only
    by_cases c : L.length = 5000
    · rw [bif_t (eqI_t (by omega))]
      exact Ret.ret ⟨rfl, Nat.le_refl _, Or.inl rfl⟩
    · rw [bif_f (eqI_f (by omega)), bif_f rfl]
      refine Ret.bnd (bestf_ok (N := N) (by omega) hr hp (d := 0) (by omega) hs h0) fun z hz => ?_
      have hmo := cand_ok hr hp hz.1
      have hdo := do_ok hr hp hmo
      rw [chk_cap (by simp only [List.length_singleton]; omega), do_eq hr hp N hmo, Option.bind_some, res_mvP (by omega) hr hdo, Option.bind_some]
      rcases win_step hr hp (D := 0) (by omega) hz.1 hz.2 hv with ⟨w1, w2⟩ | ⟨_, _, h, _⟩
      · have ht := hp.last.1
        have hne : resV r (doI r p z.1) ≠ 0 := by omega
        rw [bif_t (by rw [eqI_f hne]; rfl)]
        exact Ret.ret ⟨rfl, by show L.length ≤ (L ++ [(z.1, [])]).length; rw [List.length_append]; omega, Or.inr ⟨rfl, rfl, _, rfl, AddOk.over (by omega) hz.1 hne hz.2⟩⟩
      · omega
  | D + 2, N, p, L, _, hD, hN, hp, h0, hv, hs, hL => by
    obtain ⟨N, rfl⟩ := nxt (n := N) (by omega)
    rw [add_e]
    dsimp only
    by_cases c : L.length = 5000
    · rw [bif_t (eqI_t (by omega))]
      exact Ret.ret ⟨rfl, Nat.le_refl _, Or.inl rfl⟩
    · rw [bif_f (eqI_f (by omega)), bif_f rfl]
      refine Ret.bnd (bestf_ok (N := N) (by omega) hr hp (d := D + 1) (by omega) hs h0) fun z hz => ?_
      have hmo := cand_ok hr hp hz.1
      have hdo := do_ok hr hp hmo
      rw [chk_cap (by simp only [List.length_singleton]; omega), do_eq hr hp N hmo, Option.bind_some, res_mvP (by omega) hr hdo, Option.bind_some]
      rcases win_step hr hp (D := D + 1) (by omega) hz.1 hz.2 hv with ⟨w1, w2⟩ | ⟨w1, D', hD', w2⟩
      · have ht := hp.last.1
        have hne : resV r (doI r p z.1) ≠ 0 := by omega
        rw [bif_t (by rw [eqI_f hne]; rfl)]
        exact Ret.ret ⟨rfl, by show L.length ≤ (L ++ [(z.1, [])]).length; rw [List.length_append]; omega, Or.inr ⟨rfl, rfl, _, rfl, AddOk.over (by omega) hz.1 hne hz.2⟩⟩
      · obtain rfl : D' = D := by omega
        obtain ⟨q1, q2, q3⟩ := gen_mvP (N := N) (by omega) hr hdo w1
        rw [bif_f (by rw [eqI_t w1]; rfl), q1, Option.bind_some]
        have sz1 : sizeP r (D' + 1) (doI r p z.1) < sizeP r (D' + 2) p := size_child hr hp h0 hz.1 (D' + 1)
        have := ad_l0 hr (N := N) (by omega) (cert_maker_add' N) (fun x y e hx => add_full N (by omega) x y e hx) w L p z.1 D' (by omega) hdo w1 (fun M t hM ht hs0 => by
          have hc : gD z0 (mvP r (doI r p z.1)) (t : Int) ∈ cand r (doI r p z.1) := by rw [gD_nat ht]; exact (q2 _).1 (List.getElem_mem ht)
          have hso := do_ok hr hdo (cand_ok hr hdo hc)
          have sz2 := size_child hr hdo w1 hc D'
          have wv := (w2 _ hc).1
          have hD0 : 1 ≤ D' := by
            cases D' with
            | zero => unfold val at wv; rw [if_neg (by simp [hs0])] at wv; omega
            | succ _ => omega
          exact add_ok w D' N _ M hD0 (by omega) (by omega) hso hs0 wv (by omega) hM) (mvP r (doI r p z.1)).length 0 N [] [] (by omega) (by omega) (Inv.nil (by omega))
        refine Ret.mono this fun y hy => ⟨hy.1, hy.2.1, ?_⟩
        rcases hy.2.2 with hf | ⟨hf, hy1, S', reps', hy2, hy3⟩
        · exact Or.inl hf
        · exact Or.inr ⟨hf, hy1, (z.1, reps') :: S', hy2, hy3.fin q3 rfl rfl rfl w1 hz.1 hz.2⟩
end
def sumN : List NodeT → Nat
  | [] => 0
  | x :: l => x.2.length + 2 + sumN l
theorem sumN_le : ∀ l : List NodeT, (∀ x ∈ l, x.2.length ≤ 8192) → sumN l ≤ 8194 * l.length
  | [], _ => Nat.le_refl _
  | x :: l, h => by
    have h1 := h x (List.mem_cons_self ..)
    have h2 := sumN_le l fun y hy => h y (List.mem_cons_of_mem _ hy)
    show x.2.length + 2 + sumN l ≤ 8194 * (l.length + 1)
    omega
section
variable (N : Nat) (l : List NodeT) (hl : l.length ≤ 5000)
include hl
end
end Go.Proofs.Ytnckilklmkpooaa.Am
