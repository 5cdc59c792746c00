/- Plain: what the checker of certificates accepts is a win, for any list of nodes. -/
import Derived.Test.YtnckilklmkpooaaLawCertXd
set_option linter.unusedVariables false
set_option linter.unusedSimpArgs false
set_option linter.unusedSectionVars false
namespace Go.Proofs.Ytnckilklmkpooaa.Am
open Go

theorem nd0_ret (N : Nat) (self : NdT) (x : ChT) (k : Int) (p : PosT) (ms : List MvT) (hms : ms.length ≤ 100000) (Q : Int → Prop) (h0 : Q 0) (B : Nat) (hE : (gD zN x.2.1 k).1 ∈ ms → ∀ n, B ≤ n → Ret (ndR N self x k p n) Q) : ∀ (i j n : Nat) (legal : Bool), j + i = ms.length → B + i < n → (legal = true → (gD zN x.2.1 k).1 ∈ ms) →
    Ret (nd0 N self x k p n legal (ms.length : Int) (j : Int) ms) Q
  | 0, j, n, legal, hj, hn, hm => by
    obtain ⟨n, rfl⟩ := nxt (n := n) (by omega)
    rw [nd0_s, bif_f (ltI_f (by omega))]
    cases legal with
    | true => exact hE (hm rfl) n (by omega)
    | false => exact Ret.ret h0
  | i + 1, j, n, legal, hj, hn, hm => by
    obtain ⟨n, rfl⟩ := nxt (n := n) (by omega)
    have hjl : j < ms.length := by omega
    rw [nd0_s, bif_t (ltI_t (by omega)), chk_of (idx_ok hjl), w64_id (x := (j : Int) + 1) (by omega) (by omega), show ((j : Int) + 1) = ((j + 1 : Nat) : Int) by omega]
    cases legal with
    | true =>
      rw [bif_t rfl]
      exact nd0_ret N self x k p ms hms Q h0 B hE i (j + 1) n true (by omega) (by omega) hm
    | false =>
      rw [bif_f rfl, gD_nat hjl, mv_eq]
      exact nd0_ret N self x k p ms hms Q h0 B hE i (j + 1) n _ (by omega) (by omega) fun h => by
        rw [← of_decide_eq_true h]
        exact List.getElem_mem hjl
section
variable {r : RulesT} (hr : ROk r) (w : Int) (l : List NodeT)
include hr
/-- what a node's number says -/
def Wins (r : RulesT) (p : PosT) (n : Int) : Prop := ∀ D : Nat, n ≤ (D : Int) → D ≤ 100 → 1000 - n ≤ val r D p
theorem nd1_sound {N : Nat} (hN : 200000000 ≤ N) (self : NdT) (k : Int) (p q : PosT) (hq : POk r q) (hq0 : resV r q = 0) (hw : w = 2 - q.2.2.1) (reps : List Int) (m : MvT) (hk : gD zN l k = (m, reps)) (hlen : reps.length = (mvP r q).length) (B : Int) (hB : 0 ≤ B ∧ B ≤ 10000)
    (hself : ∀ a ∈ reps, a ≠ -1 → ∀ s, POk r s → resV r s = 0 → w = 1 + s.2.2.1 → Ret (self (r, (l, w)) a s) fun n => n = 0 ∨ (1 ≤ n ∧ n ≤ B ∧ Wins r s n)) :
    ∀ (i j n : Nat) (most : Int), j + i = (mvP r q).length → i < n → 0 ≤ most → most ≤ B + 2 → Ret (nd1 N self (r, (l, w)) k p n most ((mvP r q).length : Int) (j : Int) q (mvP r q)) fun z => z = 0 ∨ (most ≤ z ∧ z ≤ B + 2 ∧ ∀ m' ∈ (mvP r q).drop j, 2 ≤ z ∧ ∀ D : Nat, z ≤ (D : Int) + 2 → D ≤ 100 → 1002 - z ≤ val r D (doI r q m'))
  | 0, j, n, most, hj, hn, h0, hm => by
    obtain ⟨n, rfl⟩ := nxt (n := n) (by omega)
    rw [nd1_s, bif_f (ltI_f (by omega)), List.drop_of_length_le (by omega)]
    exact Ret.ret (Or.inr ⟨Int.le_refl _, hm, fun _ h => by cases h⟩)
  | i + 1, j, n, most, hj, hn, h0, hm => by
    obtain ⟨n, rfl⟩ := nxt (n := n) (by omega)
    have hjl : j < (mvP r q).length := by omega
    obtain ⟨_, hmem, hml⟩ := gen_mvP hN hr hq hq0
    have hmc := (hmem _).1 (List.getElem_mem hjl)
    have hmo := cand_ok hr hq hmc
    have hdo := do_ok hr hq hmo
    have ih := nd1_sound hN self k p q hq hq0 hw reps m hk hlen B hB hself i (j + 1) n
    have tq : (doI r q (mvP r q)[j]).2.2.1 = 1 - q.2.2.1 := rfl
    have hre := List.getElem_mem (l := reps) (n := j) (by omega)
    rw [nd1_s, bif_t (ltI_t (by omega)), chk_of (idx_ok hjl), gD_nat hjl]
    dsimp only
    rw [do_eq hr hq N hmo, Option.bind_some, res_mvP hN hr hdo, Option.bind_some, hk]
    dsimp only
    rw [chk_of (idx_ok (by omega)), w64_id (x := (j : Int) + 1) (by omega) (by omega), show ((j : Int) + 1) = ((j + 1 : Nat) : Int) by omega, List.drop_eq_getElem_cons hjl, gD_nat (show j < reps.length by omega)]
    by_cases h2 : resV r (doI r q (mvP r q)[j]) = 0
    · rw [eqI_t h2]
      by_cases h3 : reps[j] = -1
      · rw [eqI_t h3, bif_t (by rfl)]
        exact Ret.ret (Or.inl rfl)
      · rw [eqI_f h3, bif_f (by rfl), bif_f (by rfl), bif_t rfl, chk_of (idx_ok (by omega))]
        refine Ret.bnd (hself _ hre h3 _ hdo h2 (by rw [tq]; omega)) fun y hy => ?_
        rcases hy with hy | ⟨y1, y2, y3⟩
        · rw [hy, bif_t (eqI_self _)]
          exact Ret.ret (Or.inl rfl)
        · have hmx := mx_eq most (y + 2)
          rw [bif_f (eqI_f (by omega)), w64_id (x := y + 2) (by omega) (by omega)]
          refine Ret.mono (ih (mx most (y + 2)) (by omega) (by omega) (by omega) (by omega)) fun z hz => ?_
          rcases hz with hz | ⟨z1, z2, z3⟩
          · exact Or.inl hz
          · refine Or.inr ⟨by omega, z2, fun m' hm' => ?_⟩
            rcases List.mem_cons.1 hm' with e | e
            · rw [e]
              refine ⟨by omega, fun D d1 d2 => ?_⟩
              have := y3 D (by omega) d2
              omega
            · exact z3 m' e
    · rw [eqI_f h2]
      by_cases h3 : reps[j] = -1
      · by_cases h4 : resV r (doI r q (mvP r q)[j]) = w
        · have hmx := mx_eq most 2
          rw [eqI_t h3, bif_f (by rfl), bif_t (by rfl), eqI_t h4, bif_f (by rfl), bif_f rfl]
          refine Ret.mono (ih (mx most 2) (by omega) (by omega) (by omega) (by omega)) fun z hz => ?_
          rcases hz with hz | ⟨z1, z2, z3⟩
          · exact Or.inl hz
          · refine Or.inr ⟨by omega, z2, fun m' hm' => ?_⟩
            rcases List.mem_cons.1 hm' with e | e
            · rw [e]
              refine ⟨by omega, fun D d1 d2 => ?_⟩
              rw [val_over hr h2 D, tq, h4]
              unfold scoreV
              rw [if_pos (by omega)]
              omega
            · exact z3 m' e
        · rw [eqI_t h3, bif_f (by rfl), bif_t (by rfl), eqI_f h4, bif_t (by rfl)]
          exact Ret.ret (Or.inl rfl)
      · rw [eqI_f h3, bif_t (by rfl)]
        exact Ret.ret (Or.inl rfl)
theorem node_sound (hl : l.length ≤ 5000) (hord : ∀ (i : Nat) x, l[i]? = some x → ∀ a ∈ x.2, a = -1 ∨ ((i : Int) < a ∧ a < (l.length : Int))) : ∀ (c N k : Nat) (p : PosT), c ≤ 5000 → l.length ≤ k + c → k < l.length → 200010000 + c < N → POk r p → resV r p = 0 → w = 1 + p.2.2.1 →
    Ret (cert_checker_node N (r, (l, w)) (k : Int) p) fun n => n = 0 ∨ (1 ≤ n ∧ n ≤ 2 * (c : Int) ∧ Wins r p n)
  | 0, N, k, p, _, h1, h2, _, _, _, _ => absurd h1 (by omega)
  | c + 1, N, k, p, hc5, h1, h2, hN, hp, h0, hw => by
    obtain ⟨N, rfl⟩ := nxt (n := N) (by omega)
    obtain ⟨hg1, hg2, hg3⟩ := gen_mvP (N := N) (by omega) hr hp h0
    obtain ⟨m, reps, hm⟩ : ∃ m reps, l[k]? = some (m, reps) := ⟨l[k].1, l[k].2, List.getElem?_eq_getElem h2⟩
    obtain ⟨hk, _⟩ := gD_getq hm
    have ho := hord k _ hm
    rw [node_e]
    dsimp only
    rw [chk_of (idx_ok h2), hg1, Option.bind_some]
    refine nd0_ret N (cert_checker_node N) (r, (l, w)) (k : Int) p (mvP r p) (by omega) _ (Or.inl rfl) 10000 (fun hmm n hn => ?_) (mvP r p).length 0 N false (by omega) (by omega) (fun h => by cases h)
    dsimp only at hmm
    rw [hk] at hmm
    have hmm : m ∈ mvP r p := hmm
    have hmc := (hg2 _).1 hmm
    have hmo := cand_ok hr hp hmc
    have hdo := do_ok hr hp hmo
    have ht := hp.last.1
    have tq : (doI r p m).2.2.1 = 1 - p.2.2.1 := rfl
    have hstep : ∀ D : Nat, D ≤ 100 → near (-(val r D (doI r p m))) ≤ val r (D + 1) p := fun D _ => by
      rw [val_open hr h0 D]
      exact (foldMax_spec _ (-1000)).2.1 _ (List.mem_map.2 ⟨m, hmc, rfl⟩)
    unfold ndR
    dsimp only
    rw [hk]
    dsimp only
    rw [do_eq hr hp N hmo, Option.bind_some, res_mvP (by omega) hr hdo, Option.bind_some]
    by_cases hq : resV r (doI r p m) = 0
    · obtain ⟨q1, q2, q3⟩ := gen_mvP (N := N) (by omega) hr hdo hq
      rw [bif_f (by rw [eqI_t hq]; rfl), q1, Option.bind_some]
      refine Ret.bif (fun _ => Ret.ret (Or.inl rfl)) (fun hc => ?_)
      have hlen : reps.length = (mvP r (doI r p m)).length := by
        rw [not_f, eqI_iff] at hc
        omega
      have := nd1_sound hr w l (N := N) (by omega) (cert_checker_node N) (k : Int) p (doI r p m) hdo hq (by omega) reps m hk hlen (2 * (c : Int)) (by omega) (fun a ha hne s hs hs0 hws => by
        rcases ho a ha with g | ⟨g1, g2⟩
        · exact absurd g hne
        · obtain ⟨b, rfl⟩ : ∃ b : Nat, a = b := ⟨a.toNat, by omega⟩
          exact node_sound hl hord c N b s (by omega) (by omega) (by omega) (by omega) hs hs0 hws) (mvP r (doI r p m)).length 0 n 0 (by omega) (by omega) (by omega) (by omega)
      rw [List.drop_zero] at this
      refine Ret.mono this fun z hz => ?_
      rcases hz with hz | ⟨z1, z2, z3⟩
      · exact Or.inl hz
      · obtain ⟨m0, hm0⟩ : ∃ m0, m0 ∈ mvP r (doI r p m) := by
          cases hc : cand r (doI r p m) with
          | nil => exact absurd hc (cand_ne hr hdo hq)
          | cons a b => exact ⟨a, (q2 a).2 (by rw [hc]; exact List.mem_cons_self ..)⟩
        have hz2 := (z3 m0 hm0).1
        refine Or.inr ⟨by omega, by omega, fun D d1 d2 => ?_⟩
        obtain ⟨D, rfl⟩ : ∃ E, D = E + 2 := ⟨D - 2, by omega⟩
        have s1 : near (-(val r (D + 1) (doI r p m))) ≤ val r (D + 2) p := hstep (D + 1) (by omega)
        have f1 := (foldMax_spec ((cand r (doI r p m)).map fun m' => near (-(val r D (doI r (doI r p m) m')))) (-1000)).2.2
        rw [← val_open hr hq D] at f1
        have hle : val r (D + 1) (doI r p m) ≤ z - 1001 := by
          rcases f1 with e | e
          · omega
          · obtain ⟨m1, hm1, hme⟩ := List.mem_map.1 e
            have h5 := (z3 m1 ((q2 m1).2 hm1)).2 D (by omega) (by omega)
            have nc := near_cases (-(val r D (doI r (doI r p m) m1)))
            omega
        have nc := near_cases (-(val r (D + 1) (doI r p m)))
        omega
    · rw [bif_t (by rw [eqI_f hq]; rfl)]
      refine Ret.bif (fun _ => Ret.ret (Or.inl rfl)) (fun _ => ?_)
      refine Ret.bif (fun _ => Ret.ret (Or.inl rfl)) (fun hc => ?_)
      rw [not_f, eqI_iff] at hc
      refine Ret.ret (Or.inr ⟨Int.le_refl _, by omega, fun D d1 d2 => ?_⟩)
      obtain ⟨D, rfl⟩ : ∃ E, D = E + 1 := ⟨D - 1, by omega⟩
      have s1 := hstep D (by omega)
      have hv := val_over hr hq D
      rw [tq, hc] at hv
      unfold scoreV at hv
      rw [if_neg (by omega), if_pos (by omega)] at hv
      rw [hv] at s1
      have nc := near_cases (-(-1000))
      omega
end
section
variable (N : Nat) (l : List NodeT) (hl : l.length ≤ 5000)
include hl
theorem treer_l2 (nm : List Int) (hn : nm.length = l.length) : ∀ (k t n : Nat), t + k = l.length → k < n → Ret (cert_tree.l2 N l n (l.length : Int) (t : Int) nm) fun _ => True
  | 0, t, n, hk, hq => by
    obtain ⟨n, rfl⟩ := nxt (n := n) (by omega)
    rw [cert_tree.l2_s, cert_tree.s2, bif_f (ltI_f (by omega))]
    exact Ret.ret trivial
  | k + 1, t, n, hk, hq => by
    obtain ⟨n, rfl⟩ := nxt (n := n) (by omega)
    have ih := treer_l2 nm hn k (t + 1) n (by omega) (by omega)
    rw [cert_tree.l2_s, cert_tree.s2, bif_t (ltI_t (by omega)), chk_of (idx_ok (by omega)), w64_id (x := (t : Int) + 1) (by omega) (by omega), show ((t : Int) + 1) = ((t + 1 : Nat) : Int) by omega]
    refine Ret.bif (fun _ => ?_) (fun _ => ih)
    exact Ret.bif (fun _ => Ret.ret trivial) (fun _ => ih)
theorem treer_l1 (i : Nat) (hi : i < l.length) (reps : List Int) (hr8 : reps.length ≤ 8192) (P : Prop) (B : Nat)
    (hB : ∀ (n : Nat) (nm : List Int), B ≤ n → nm.length = l.length → Ret (cert_tree.l0 N l n ((i + 1 : Nat) : Int) nm) fun b => b = true → P) :
    ∀ (k t n : Nat) (nm : List Int), t + k = reps.length → B + k < n → nm.length = l.length →
    Ret (cert_tree.l1 N l n (i : Int) (i : Int) reps (reps.length : Int) (t : Int) nm) fun b => b = true → (∀ a ∈ reps.drop t, a = -1 ∨ ((i : Int) < a ∧ a < (l.length : Int))) ∧ P
  | 0, t, n, nm, hk, hq, hn => by
    obtain ⟨n, rfl⟩ := nxt (n := n) (by omega)
    rw [cert_tree.l1_s, cert_tree.s1, bif_f (ltI_f (by omega)), w64_id (x := (i : Int) + 1) (by omega) (by omega), show ((i : Int) + 1) = ((i + 1 : Nat) : Int) by omega, List.drop_of_length_le (by omega)]
    exact Ret.mono (hB n nm (by omega) hn) fun b hb h => ⟨fun a ha => (by cases ha), hb h⟩
  | k + 1, t, n, nm, hk, hq, hn => by
    obtain ⟨n, rfl⟩ := nxt (n := n) (by omega)
    have ht : t < reps.length := by omega
    rw [cert_tree.l1_s, cert_tree.s1, bif_t (ltI_t (by omega)), chk_of (idx_ok ht), gD_nat ht, w64_id (x := (t : Int) + 1) (by omega) (by omega), show ((t : Int) + 1) = ((t + 1 : Nat) : Int) by omega, List.drop_eq_getElem_cons ht]
    refine Ret.bif (fun c => ?_) (fun c => ?_)
    · rw [eqI_iff] at c
      refine Ret.mono (treer_l1 i hi reps hr8 P B hB k (t + 1) n nm (by omega) (by omega) hn) fun b hb h => ⟨fun a ha => ?_, (hb h).2⟩
      rcases List.mem_cons.1 ha with e | e
      · rw [e]; exact Or.inl c
      · exact (hb h).1 a e
    · refine Ret.bif (fun _ => Ret.ret (fun h => by cases h)) (fun c1 => ?_)
      refine Ret.bif (fun _ => Ret.ret (fun h => by cases h)) (fun c2 => ?_)
      rw [leI_iff'] at c1 c2
      obtain ⟨a, ha⟩ : ∃ a : Nat, reps[t] = (a : Int) := ⟨reps[t].toNat, by omega⟩
      rw [ha] at c1 c2 ⊢
      rw [chk_of (idx_ok (by omega)), chk_of (idx_ok (by omega))]
      refine Ret.mono (treer_l1 i hi reps hr8 P B hB k (t + 1) n _ (by omega) (by omega) (by rw [List.length_set]; exact hn)) fun b hb h => ⟨fun x hx => ?_, (hb h).2⟩
      rcases List.mem_cons.1 hx with e | e
      · rw [e]; exact Or.inr ⟨c1, c2⟩
      · exact (hb h).1 x e
theorem treer_l0 (hfew : ∀ x ∈ l, x.2.length ≤ 8192) : ∀ (k i n : Nat) (nm : List Int), i + k = l.length → sumN (l.drop i) + l.length + 2 < n → nm.length = l.length →
    Ret (cert_tree.l0 N l n (i : Int) nm) fun b => b = true → ∀ (j : Nat) x, i ≤ j → l[j]? = some x → ∀ a ∈ x.2, a = -1 ∨ ((j : Int) < a ∧ a < (l.length : Int))
  | 0, i, n, nm, hk, hq, hn => by
    obtain ⟨n, rfl⟩ := nxt (n := n) (by omega)
    rw [cert_tree.l0_s, cert_tree.s0, bif_f (ltI_f (by omega)), hn]
    refine Ret.mono (treer_l2 N l hl nm hn l.length 0 n (by omega) (by omega)) fun b _ _ j x hj hx => ?_
    have := (List.getElem?_eq_some_iff.1 hx).1
    omega
  | k + 1, i, n, nm, hk, hq, hn => by
    obtain ⟨n, rfl⟩ := nxt (n := n) (by omega)
    have hi : i < l.length := by omega
    have ed : l.drop i = l[i] :: l.drop (i + 1) := List.drop_eq_getElem_cons hi
    have hf := hfew _ (List.getElem_mem hi)
    rw [ed] at hq
    have hq : l[i].2.length + 2 + sumN (l.drop (i + 1)) + l.length + 2 < n + 1 := hq
    rw [cert_tree.l0_s, cert_tree.s0, bif_t (ltI_t (by omega)), chk_of (idx_ok hi), gD_nat hi]
    refine Ret.mono (treer_l1 N l hl i hi l[i].2 hf (∀ (j : Nat) x, i + 1 ≤ j → l[j]? = some x → ∀ a ∈ x.2, a = -1 ∨ ((j : Int) < a ∧ a < (l.length : Int))) (sumN (l.drop (i + 1)) + l.length + 3) (fun n' nm' h1 h2 => treer_l0 hfew k (i + 1) n' nm' (by omega) (by omega) h2) l[i].2.length 0 n nm (by omega) (by omega) hn) fun b hb h j x hj hx a ha => ?_
    by_cases e : j = i
    · subst e
      rw [List.getElem?_eq_getElem hi] at hx
      have hx : l[j] = x := Option.some.inj hx
      subst hx
      have := (hb h).1 a (by rw [List.drop_zero]; exact ha)
      exact this
    · exact (hb h).2 j x (by omega) hx a ha
/-- the look at the form ends, and says true only where each reply is none or a later node -/
theorem tree_any (hN : 50000000 ≤ N) (hfew : ∀ x ∈ l, x.2.length ≤ 8192) : Ret (cert_tree N l) fun b => b = true → ∀ (j : Nat) x, l[j]? = some x → ∀ a ∈ x.2, a = -1 ∨ ((j : Int) < a ∧ a < (l.length : Int)) := by
  unfold cert_tree cert_tree.e
  have hsum := sumN_le l hfew
  rw [leI_t (by omega), decide_eq_true (by omega)]
  have hc : capOk 8 (l.length : Int).toNat = true := by unfold capOk; exact decide_eq_true (by omega)
  rw [hc, chk_of (by rfl), Int.toNat_natCast]
  exact Ret.mono (treer_l0 N l hl hfew l.length 0 N _ (by omega) (by rw [List.drop_zero]; omega) (by simp)) fun b hb h j x hx => hb h j x (by omega) hx
end
/-- the checker ends on any list that is not too long, and what it accepts is a win -/
theorem check_sound {N : Nat} (hN : 200020000 ≤ N) {r : RulesT} {p : PosT} (hr : ROk r) (hp : POk r p) (l : List NodeT) (hl : l.length ≤ 5000) (hne : 0 < l.length) (hfew : ∀ x ∈ l, x.2.length ≤ 8192) (h : resV r p = 0) :
    Ret (cert_Check N r p l) fun z => (z.2 ≠ 0 ∧ z.1 = 0) ∨ (z.2 = 0 ∧ 1 ≤ z.1 ∧ Wins r p z.1) := by
  have ht := hp.last.1
  obtain ⟨b, hb, hb2⟩ := tree_any N l hl (by omega) hfew
  unfold cert_Check cert_Check.e
  rw [pcheck_ok (by omega) hr hp, Option.bind_some, bif_f (by rfl), bif_f (ltI_f (by omega)), bif_f (eqI_f (by omega)), res_mvP (by omega) hr hp, Option.bind_some, bif_f (by rw [eqI_t h]; rfl), hb, Option.bind_some]
  cases b with
  | false =>
    rw [bif_t (by rfl)]
    exact Ret.ret (Or.inl ⟨by decide, rfl⟩)
  | true =>
    rw [bif_f (by rfl), w64_id (x := 1 + p.2.2.1) (by omega) (by omega)]
    have := node_sound hr (1 + p.2.2.1) l hl (hb2 rfl) l.length N 0 p hl (by omega) hne (by omega) hp h rfl
    rw [show ((0 : Nat) : Int) = 0 from rfl] at this
    refine Ret.bnd this fun z hz => ?_
    rcases hz with hz | ⟨z1, z2, z3⟩
    · rw [hz, bif_t (eqI_self _)]
      exact Ret.ret (Or.inl ⟨by decide, rfl⟩)
    · rw [bif_f (eqI_f (by omega))]
      exact Ret.ret (Or.inr ⟨rfl, z1, z3⟩)
end Go.Proofs.Ytnckilklmkpooaa.Am
