/- Plain: the best moves of a table, and a line of them. -/
import Derived.Test.YtfihdjjilofklaaGreatLawSolvedp
import Derived.Test.YtfihdjjilofklaaGreatLawTablep
set_option linter.unusedVariables false
set_option linter.unusedSimpArgs false
set_option linter.unusedSectionVars false
namespace Go.Proofs.YtfihdjjilofklaaGreat.Am
open Go
theorem lowB_q0 (r : RulesT) (p : PosT) : ∀ (k : Nat) (low : Int), lowB r (q0 p) k low = lowB r p k low
 | 0, _ => rfl
 | k + 1, low => by simp only [lowB]; rw [lowB_q0 r p k]; rfl
theorem openB_q0 (r : RulesT) (p : PosT) (s : Int) : openB r (q0 p) s = openB r p s := by
 unfold openB; rw [lowB_q0]; rfl
theorem putsS_q0 (r : RulesT) (p : PosT) (t : Int) : ∀ k j : Nat, putsS r (q0 p) t k j = putsS r p t k j
 | 0, _ => rfl
 | k + 1, j => by simp only [putsS]; rw [putsS_q0 r p t k, openB_q0]
theorem putsH_q0 (r : RulesT) (p : PosT) (hand : List Int) : ∀ k j : Nat, putsH r (q0 p) hand k j = putsH r p hand k j
 | 0, _ => rfl
 | k + 1, j => by simp only [putsH]; rw [putsH_q0 r p hand k, putsS_q0]; rfl
theorem along_q0 (r : RulesT) (p : PosT) (f kind dx dy t : Int) : ∀ (k : Nat) (x y : Int), alongL r (q0 p) f kind dx dy t k x y = alongL r p f kind dx dy t k x y
 | 0, _, _ => rfl
 | k + 1, x, y => by simp only [alongL]; rw [along_q0 r p f kind dx dy t k]; rfl
theorem wayL_q0 (r : RulesT) (p : PosT) (s : Int) : wayL r (q0 p) s = wayL r p s := by
 funext w; unfold wayL; rw [along_q0]; rfl
theorem walks_q0 (r : RulesT) (p : PosT) : ∀ k j : Nat, walks r (q0 p) k j = walks r p k j
 | 0, _ => rfl
 | k + 1, j => by simp only [walks]; rw [walks_q0 r p k, wayL_q0]; rfl
theorem cand_q0 (r : RulesT) (p : PosT) : cand r (q0 p) = cand r p := by
 unfold cand; rw [putsH_q0, walks_q0]; rfl
theorem lineB_q0 (r : RulesT) (p : PosT) (player dx dy : Int) : ∀ (k : Nat) (x y : Int), lineB r (q0 p) player dx dy k x y = lineB r p player dx dy k x y
 | 0, _, _ => rfl
 | k + 1, x, y => by simp only [lineB]; rw [lineB_q0 r p player dx dy k]; rfl
theorem rowS_q0 (r : RulesT) (p : PosT) (player : Int) (c : Nat) : rowS r (q0 p) player c = rowS r p player c := by
 funext s; unfold rowS; rw [lineB_q0, lineB_q0, lineB_q0, lineB_q0]
theorem holdsB_q0 (r : RulesT) (p : PosT) (x : EndT) : holdsB r (q0 p) x = holdsB r p x := by
 unfold holdsB; rw [rowS_q0]; rfl
theorem do_q0 (r : RulesT) (p : PosT) (m : MvT) : q0 (doI r (q0 p) m) = q0 (doI r p m) := rfl
theorem over_q0 {r : RulesT} (hq : r.2.2.2.2.2.2.2.2.2.1 = 0) (p : PosT) (any : Bool) : overI r (q0 p) any = overI r p any := by
 unfold overI
 simp [hq, q0]
theorem res_q0 {r : RulesT} (hq : r.2.2.2.2.2.2.2.2.2.1 = 0) (p : PosT) : resV r (q0 p) = resV r p := by
 have : ∀ (any : Bool) (l : List EndT), resI r (q0 p) any l = resI r p any l := by
  intro any l
  induction l with
  | nil => exact over_q0 hq p any
  | cons x l ih =>
   simp only [resI]
   rw [ih, holdsB_q0]
   rfl
 unfold resV
 rw [this, cand_q0]
theorem max_eq (v : Int) : (bif (ltI 0 v) then v else 0) = max 0 v := by
 by_cases h : 0 < v
 ·rw [bif_t (ltI_t h)]; omega
 ·rw [bif_f (ltI_f (by omega))]; omega
def bs0 (N : Nat) (T0 : TabT) (p : PosT) (n : Nat) (i : Int) (x : List Int) (k c : Int) (T : TabT) (e w : EnT) (out : List MvT) : Option (List MvT × (Int × TabT)) :=
 Q23.l0 N T0 p n i x k c T.1.1 T.1.2.1 T.1.2.2.1 T.1.2.2.2.2.2.1 T.1.2.2.2.2.2.2.1 T.1.2.2.2.2.2.2.2.2.1 T.1.2.2.2.2.2.2.2.2.2.1 T.1.2.2.2.2.2.2.2.2.2.2 T.1.2.2.2.1 T.1.2.2.2.2.1 T.1.2.2.2.2.2.2.2.1 T.2.1 T.2.2.1 T.2.2.2.1 T.2.2.2.2.1 T.2.2.2.2.2 e.1 e.2 w.1 w.2 out
theorem bs0_s (N : Nat) (T0 : TabT) (p : PosT) (n : Nat) (i : Int) (x : List Int) (k c : Int) (T : TabT) (e w : EnT) (out : List MvT) : bs0 N T0 p (n + 1) i x k c T e w out =
 bif (ltI c k) then (chk ((leI 0 c) && (ltI c (x.length : Int))) <|
  chk ((leI 0 (gD (0 : Int) x c)) && (ltI (gD (0 : Int) x c) (T.2.2.2.2.1.length : Int))) <|
  bif ((eqI (gD zEn T.2.2.2.2.1 (gD (0 : Int) x c)).1 w.1) && ((eqI (gD zEn T.2.2.2.2.1 (gD (0 : Int) x c)).2 w.2) && true)) then (chk ((leI 0 i) && (ltI i (T.2.2.2.1.length : Int))) <|
   chk ((leI 0 c) && (ltI c ((gD ([] : List MvT) T.2.2.2.1 i).length : Int))) <|
   chk (capOk 24 (out.length + ([gD z0 (gD ([] : List MvT) T.2.2.2.1 i) c] : List MvT).length)) <|
   bs0 N T0 p n i x k (w64 (c + 1)) T e w (out ++ [gD z0 (gD ([] : List MvT) T.2.2.2.1 i) c]))
  else bif (eqI e.1 3) then (chk ((leI 0 (gD (0 : Int) x c)) && (ltI (gD (0 : Int) x c) (T.2.2.2.2.1.length : Int))) <|
   bif (eqI (gD zEn T.2.2.2.2.1 (gD (0 : Int) x c)).1 3) then (chk ((leI 0 i) && (ltI i (T.2.2.2.1.length : Int))) <|
    chk ((leI 0 c) && (ltI c ((gD ([] : List MvT) T.2.2.2.1 i).length : Int))) <|
    chk (capOk 24 (out.length + ([gD z0 (gD ([] : List MvT) T.2.2.2.1 i) c] : List MvT).length)) <|
    bs0 N T0 p n i x k (w64 (c + 1)) T e w (out ++ [gD z0 (gD ([] : List MvT) T.2.2.2.1 i) c]))
   else bs0 N T0 p n i x k (w64 (c + 1)) T e w out)
  else bs0 N T0 p n i x k (w64 (c + 1)) T e w out)
 else some (out, (0, T)) := rfl
def en_ (T : TabT) (i : Nat) : EnT := ((en T i).1, max 0 ((en T i).2 - 1))
def BestE (e e' : EnT) : Prop := e' = (e.1, max 0 (e.2 - 1)) ∨ (e.1 = 3 ∧ e'.1 = 3)
section
variable {N : Nat} (hN : 200000000 ≤ N) {r : RulesT} (hr : ROk r) (hq : r.2.2.2.2.2.2.2.2.2.1 = 0) {p0 : PosT} {T : TabT} (hs : Solved r p0 T)
include hN hr hq hs
theorem number_eq {p : PosT} (hp : POk r p) {i : Nat} (hi : i < T.2.1.length) (he : q0 p = lp T i) : Q43 N T p = some ((i : Int), (0, T)) := by
 have hg : mget eqDS T.2.2.2.2.2 (keyB p) = some (i : Int) := (hs.tab.ok.fnd _ _).2 ⟨i, lp T i, rfl, (hs.tab.at_ hi).1, by rw [← he]; rfl⟩
 unfold Q43 Q43.e
 rw [hs.tab.rr, pcheck_ok (by omega) hr hp, ob, bif_f (by rfl), key_eq (by omega) (hp.k hr), ob, chk_of (keyB_size hr hp), hg]
 rfl
theorem of_eq {p : PosT} (hp : POk r p) {i : Nat} (hi : i < T.2.1.length) (he : q0 p = lp T i) : Q22 N T p = some (en T i, (0, T)) := by
 have hen := hs.tab.en
 unfold Q22 Q22.e
 rw [number_eq hN hr hq hs hp hi he, ob, bif_f (by rfl)]
 dsimp only
 rw [chk_of (idx_ok (by omega))]
 rfl
theorem at_eq : Q6 N T 0 = some (lp T 0, (en T 0, (0, T))) := by
 have hf := (List.getElem?_eq_some_iff.1 hs.tab.fst).1
 have hen := hs.tab.en
 have hp := hs.tab.pos hf
 unfold Q6 Q6.e
 rw [bif_f (by rfl), bif_f (leI_f (by omega)), chk_idx (by omega) (by omega), chk_idx (by omega) (by omega)]
 show (Q18 N (lp T 0)).bind _ = _
 rw [show lp T 0 = lp T ((0 : Nat) : Int) by rfl, copy_eq hr hp.1, ob]
 rfl
theorem best_over {p : PosT} (hp : POk r p) {i : Nat} (hi : i < T.2.1.length) (he : q0 p = lp T i) (h0 : resV r (lp T i) ≠ 0) : Q23 N T p = some ([], (14, T)) := by
 have hnx := hs.tab.nx
 obtain ⟨_, _, g, _, h4⟩ := hs.tab.at_ hi
 have hx : xs T i = [] := h4.elim (fun q => q.2) (fun q => absurd q.1 h0)
 unfold Q23 Q23.e
 rw [number_eq hN hr hq hs hp hi he, ob, bif_f (by rfl)]
 dsimp only
 rw [chk_of (idx_ok (by omega))]
 show (bif (eqI ((xs T i).length : Int) 0) then _ else _) = _
 rw [hx]
 rfl
theorem best_loop {i : Nat} (hi : i < T.2.1.length) (p : PosT) (e w : EnT) (hw : w = (e.1, max 0 (e.2 - 1))) {g : List MvT} (hg : T.2.2.2.1[i]? = some g) (hgl : g.length ≤ 8192) (hxl : (xs T i).length = g.length)
  (hgood : ∃ k ∈ xs T i, BestE e (en T k)) : ∀ (k c n : Nat) (out : List MvT), c + k = (xs T i).length → k < n → out.length ≤ c →
   ((out = [] ∧ ∀ (d : Nat) (k : Int), d < c → (xs T i)[d]? = some k → ¬ BestE e (en T k)) ∨ ∃ (d : Nat) (k : Int) (m : MvT), (xs T i)[d]? = some k ∧ g[d]? = some m ∧ BestE e (en T k) ∧ out[0]? = some m) →
   Ret (bs0 N T p n (i : Int) (xs T i) ((xs T i).length : Int) (c : Int) T e w out) fun y => y.2 = (0, T) ∧ y.1.length ≤ 8192 ∧ ∃ (d : Nat) (k : Int) (m : MvT), (xs T i)[d]? = some k ∧ g[d]? = some m ∧ BestE e (en T k) ∧ y.1[0]? = some m
 | 0, c, n, out, hk, hn, ho, hinv => by
  obtain ⟨n, rfl⟩ := nxt (n := n) (by omega)
  rw [bs0_s, bif_f (ltI_f (by omega))]
  refine Ret.ret ⟨rfl, by dsimp only; omega, ?_⟩
  rcases hinv with ⟨_, hno⟩ | h
  ·obtain ⟨k, hk2, hb⟩ := hgood
   obtain ⟨d, hd, rfl⟩ := List.mem_iff_getElem.1 hk2
   exact absurd hb (hno d _ (by omega) (List.getElem?_eq_getElem hd))
  ·exact h
 | k + 1, c, n, out, hk, hn, ho, hinv => by
  obtain ⟨n, rfl⟩ := nxt (n := n) (by omega)
  have hc : c < (xs T i).length := by omega
  have hcg : c < g.length := by omega
  have hmv := hs.tab.mv
  have hen := hs.tab.en
  have hgi : gD ([] : List MvT) T.2.2.2.1 (i : Int) = g := gD_some hg
  obtain ⟨j, ej, hj⟩ := hs.tab.kid hi _ (List.getElem_mem hc)
  have ih := fun out h1 h2 => best_loop hi p e w hw hg hgl hxl hgood k (c + 1) n out (by omega) (by omega) h1 h2
  rw [bs0_s, bif_t (ltI_t (by omega)), chk_of (idx_ok hc), gD_nat hc, hgi, ej, chk_of (idx_ok (by omega)), chk_of (idx_ok (show i < T.2.2.2.1.length by omega)), chk_of (idx_ok hcg), gD_nat hcg, w64_id (by omega) (by omega), show ((c : Int) + 1) = ((c + 1 : Nat) : Int) by omega, chk_cap (by simp only [List.length_singleton]; omega), chk_of (idx_ok (by omega))]
  show Ret (bif (eqI (en T j).1 w.1 && (eqI (en T j).2 w.2 && true)) then bs0 N T p n (i : Int) (xs T i) ((xs T i).length : Int) ((c + 1 : Nat) : Int) T e w (out ++ [g[c]]) else bif eqI e.1 3 then bif eqI (en T j).1 3 then bs0 N T p n (i : Int) (xs T i) ((xs T i).length : Int) ((c + 1 : Nat) : Int) T e w (out ++ [g[c]]) else bs0 N T p n (i : Int) (xs T i) ((xs T i).length : Int) ((c + 1 : Nat) : Int) T e w out else bs0 N T p n (i : Int) (xs T i) ((xs T i).length : Int) ((c + 1 : Nat) : Int) T e w out) _
  have hxc : (xs T i)[c]? = some (j : Int) := by rw [List.getElem?_eq_getElem hc, ej]
  have hgc : g[c]? = some g[c] := List.getElem?_eq_getElem hcg
  have good : BestE e (en T j) → (out ++ [g[c]]).length ≤ c + 1 ∧ (((out ++ [g[c]]) = [] ∧ ∀ (d : Nat) (k : Int), d < c + 1 → (xs T i)[d]? = some k → ¬ BestE e (en T k)) ∨ ∃ (d : Nat) (k : Int) (m : MvT), (xs T i)[d]? = some k ∧ g[d]? = some m ∧ BestE e (en T k) ∧ (out ++ [g[c]])[0]? = some m) := by
   intro hb
   refine ⟨by simp only [List.length_append, List.length_singleton]; omega, Or.inr ?_⟩
   rcases hinv with ⟨h1, _⟩ | ⟨d, k', m, h1, h2, h3, h4⟩
   ·subst h1
    exact ⟨c, _, g[c], hxc, hgc, hb, rfl⟩
   ·refine ⟨d, k', m, h1, h2, h3, ?_⟩
    rw [List.getElem?_append_left (List.getElem?_eq_some_iff.1 h4).1]
    exact h4
  have bad : ¬ BestE e (en T j) → out.length ≤ c + 1 ∧ ((out = [] ∧ ∀ (d : Nat) (k : Int), d < c + 1 → (xs T i)[d]? = some k → ¬ BestE e (en T k)) ∨ ∃ (d : Nat) (k : Int) (m : MvT), (xs T i)[d]? = some k ∧ g[d]? = some m ∧ BestE e (en T k) ∧ out[0]? = some m) := by
   intro hb
   refine ⟨by omega, hinv.imp (fun h => ⟨h.1, fun d k' hd hk' => ?_⟩) id⟩
   by_cases c2 : d < c
   ·exact h.2 d k' c2 hk'
   ·obtain rfl : d = c := by omega
    rw [hxc] at hk'
    cases hk'
    exact hb
  by_cases h1 : en T j = w
  ·rw [bif_t (by rw [h1, eqI_self, eqI_self]; rfl)]
   have := good (Or.inl (h1.trans hw))
   exact ih _ this.1 this.2
  ·rw [bif_f (by
    cases e1 : (eqI (en T j).1 w.1 && (eqI (en T j).2 w.2 && true))
    ·rfl
    ·exfalso
     simp only [Bool.and_true, Bool.and_eq_true, eqI_iff] at e1
     exact h1 (Prod.ext e1.1 e1.2))]
   by_cases h2 : e.1 = 3
   ·rw [bif_t (eqI_t h2)]
    by_cases h3 : (en T j).1 = 3
    ·rw [bif_t (eqI_t h3)]
     have := good (Or.inr ⟨h2, h3⟩)
     exact ih _ this.1 this.2
    ·rw [bif_f (eqI_f h3)]
     have := bad fun q => q.elim (fun q => h1 (q.trans hw.symm)) (fun q => h3 q.2)
     exact ih _ this.1 this.2
   ·rw [bif_f (eqI_f h2)]
    have := bad fun q => q.elim (fun q => h1 (q.trans hw.symm)) (fun q => h2 q.1)
    exact ih _ this.1 this.2
theorem best_ret {p : PosT} (hp : POk r p) {i : Nat} (hi : i < T.2.1.length) (he : q0 p = lp T i) (h0 : resV r (lp T i) = 0) : Ret (Q23 N T p) fun y => y.2 = (0, T) ∧ y.1.length ≤ 8192 ∧ ∃ (j : Nat) (m : MvT), j < T.2.1.length ∧ m ∈ cand r p ∧ y.1[0]? = some m ∧ q0 (doI r p m) = lp T j ∧ BestE (en T i) (en T j) := by
 have hnx := hs.tab.nx
 have hmv := hs.tab.mv
 have hen := hs.tab.en
 obtain ⟨_, hxi, g, hgi, h4⟩ := hs.tab.at_ hi
 obtain ⟨_, hg, hkl, hkid⟩ : resV r (lp T i) = 0 ∧ IsGen r (lp T i) g ∧ Kids r T.2.1 (lp T i) g (xs T i) := h4.resolve_left fun q => q.1 h0
 have hgl := hg.len
 have hgood : ∃ k ∈ xs T i, BestE (en T i) (en T k) := by
  rcases hs.st i hi with ⟨q, _⟩ | ⟨_, e, k, hk, ek⟩ | ⟨_, e1, e2, k, hk, ek⟩
  ·exact absurd h0 q
  ·exact ⟨k, hk, Or.inr ⟨by rw [e], ek⟩⟩
  ·refine ⟨k, hk, Or.inl ?_⟩
   rw [ek]
   exact Prod.ext rfl (by dsimp only; omega)
 have hb2 := hs.bd i hi
 have hb1 : 0 ≤ (en T i).2 := by
  rcases hs.st i hi with ⟨_, e⟩ | ⟨_, e, _⟩ | ⟨_, e, _⟩
  ·rw [e]; exact Int.le_refl _
  ·rw [e]; exact Int.le_refl _
  ·omega
 unfold Q23 Q23.e
 rw [number_eq hN hr hq hs hp hi he, ob, bif_f (by rfl)]
 dsimp only
 rw [chk_of (idx_ok (by omega))]
 have hne : 0 < (xs T i).length := by
  obtain ⟨k0, hk0, _⟩ := hgood
  exact List.length_pos_of_mem hk0
 have ex : gD ([] : List Int) T.2.2.1 (i : Int) = xs T i := rfl
 have ee : gD zEn T.2.2.2.2.1 (i : Int) = en T i := rfl
 rw [ex, bif_f (eqI_f (by omega)), chk_of (idx_ok (by omega)), chk_of (idx_ok (by omega)), ee, w64_id (by omega) (by omega), max_eq]
 have hl := best_loop hN hr hq hs hi p (en T i) (en_ T i) rfl hgi hgl hkl hgood (xs T i).length 0 N [] (by omega) (by omega) (by simp) (Or.inl ⟨rfl, fun d k hd => absurd hd (Nat.not_lt_zero _)⟩)
 refine Ret.mono (x := bs0 N T p N (i : Int) (xs T i) ((xs T i).length : Int) 0 T (en T i) (en_ T i) []) hl fun y hy => ?_
 obtain ⟨h1, h2, d, k, m, d1, d2, d3, d4⟩ := hy
 obtain ⟨j, j1, j2⟩ := hkid d m d2
 have hjl := (List.getElem?_eq_some_iff.1 j2).1
 rw [d1] at j1
 cases j1
 refine ⟨h1, h2, j, m, hjl, ?_, d4, ?_, d3⟩
 ·rw [← cand_q0, he]
  exact (hg.mem m).1 (List.mem_of_getElem? d2)
 ·rw [← do_q0, he]
  exact (gD_some j2).symm
end
end Go.Proofs.YtfihdjjilofklaaGreat.Am
set_option linter.unusedVariables false
set_option linter.unusedSimpArgs false
set_option linter.unusedSectionVars false
namespace Go.Proofs.YtfihdjjilofklaaGreat.Am
open Go
abbrev RdT := RulesT × (TabT × (Unit × (Unit × Int)))
noncomputable def ln0 (N : Nat) (x : RdT) (p0 : PosT) (most : Int) (n : Nat) (t : Int) (T : TabT) (p : PosT) (out : List MvT) : Option (List MvT × (Int × RdT)) :=
 Q9.l0 N x p0 most n t T.1.1 T.1.2.1 T.1.2.2.1 T.1.2.2.2.2.2.1 T.1.2.2.2.2.2.2.1 T.1.2.2.2.2.2.2.2.2.1 T.1.2.2.2.2.2.2.2.2.2.1 T.1.2.2.2.2.2.2.2.2.2.2 p.1 p.2.1.1 p.2.1.2 p.2.2.1 p.2.2.2 T.1.2.2.2.1 T.1.2.2.2.2.1 T.1.2.2.2.2.2.2.2.1 T.2.1 T.2.2.1 T.2.2.2.1 T.2.2.2.2.1 T.2.2.2.2.2 out
theorem ln0_s (N : Nat) (x : RdT) (p0 : PosT) (most : Int) (n : Nat) (t : Int) (T : TabT) (p : PosT) (out : List MvT) : ln0 N x p0 most (n + 1) t T p out =
 bif (ltI t most) then ((Q23 N T p).bind fun y3 =>
  bif (!(eqI y3.2.1 0)) then (some (out, (0, (x.1, (y3.2.2, ((), ((), x.2.2.2.2)))))))
  else chk (true && (ltI 0 (y3.1.length : Int))) <|
  chk (capOk 24 (out.length + ([gD z0 y3.1 0] : List MvT).length)) <|
  chk (true && (ltI 0 (y3.1.length : Int))) <|
  (Q24 N x.1 p (gD z0 y3.1 0)).bind fun y5 =>
  ln0 N x p0 most n (w64 (t + 1)) y3.2.2 y5 (out ++ [gD z0 y3.1 0]))
 else some (out, (0, (x.1, (T, ((), ((), x.2.2.2.2)))))) := rfl
structure At (r : RulesT) (T : TabT) (ms : List MvT) (i : Nat) : Prop where
 lt : i < T.2.1.length
 good : GoodP r ms
 at_ : q0 (lstP (plc r ms)) = lp T i
 ent : ((en T 0).1 = 3 ∧ (en T i).1 = 3) ∨ ((en T 0).1 ≠ 3 ∧ en T i = ((en T 0).1, (en T 0).2 - ms.length))
def LineQ (r : RulesT) (T : TabT) (most : Int) (ms : List MvT) : Prop := (ms.length : Int) ≤ most ∧ ∃ i, At r T ms i ∧ ((ms.length : Int) = most ∨ resV r (lp T i) ≠ 0)
section
variable {N : Nat} (hN : 200000000 ≤ N) {r : RulesT} (hr : ROk r) (hq : r.2.2.2.2.2.2.2.2.2.1 = 0) (hz : r.2.2.2.2.2.2.2.2.2.2 = 0) {T : TabT} (hs : Solved r (freshP r) T)
include hN hr hq hz hs
theorem lst_ok {ms : List MvT} (hg : GoodP r ms) : POk r (lstP (plc r ms)) := plc_ok hr hg _ (lstP_mem (by rw [plc_len]; omega))
theorem gres_z (l : List PosT) : gres r l = resV r (lstP l) := by
 unfold gres
 rw [if_neg (fun q => by rw [hz] at q; omega)]
theorem line_l0 (p0 : PosT) (v : Int) {most : Int} (hmo : 0 ≤ most ∧ most ≤ 256) : ∀ (k n : Nat) (ms : List MvT) (i : Nat), (ms.length : Int) + k = most → k < n → At r T ms i →
  Ret (ln0 N (r, (T, ((), ((), v)))) p0 most n (ms.length : Int) T (lstP (plc r ms)) ms) fun y => y.2.1 = 0 ∧ LineQ r T most y.1
 | 0, n, ms, i, hk, hn, ha => by
  obtain ⟨n, rfl⟩ := nxt (n := n) (by omega)
  rw [ln0_s, bif_f (ltI_f (by omega))]
  exact Ret.ret ⟨rfl, by dsimp only; omega, i, ha, Or.inl (by dsimp only; omega)⟩
 | k + 1, n, ms, i, hk, hn, ha => by
  obtain ⟨n, rfl⟩ := nxt (n := n) (by omega)
  have hp := lst_ok hN hr hq hz hs ha.good
  rw [ln0_s, bif_t (ltI_t (by omega))]
  by_cases h0 : resV r (lp T i) = 0
  ·refine Ret.bnd (best_ret hN hr hq hs hp ha.lt ha.at_ h0) fun y hy => ?_
   obtain ⟨e1, e2, j, m, hj, hm, hm0, hdo, hb⟩ := hy
   have hpos := (List.getElem?_eq_some_iff.1 hm0).1
   have hg0 : gD z0 y.1 0 = m := gD_some (j := 0) hm0
   have hmo' := cand_ok hr hp hm
   rw [e1, bif_f (by rfl), chk_of (by rw [ltI_t (by omega)]; rfl), chk_cap (by simp only [List.length_singleton]; omega), chk_of (by rw [ltI_t (by omega)]; rfl), hg0]
   show Ret ((Q24 N r (lstP (plc r ms)) m).bind _) _
   rw [do_eq hr hp N hmo', ob, w64_id (by omega) (by omega)]
   have hgood : GoodP r (ms ++ [m]) := GoodP_snoc ha.good (by rw [gres_z hN hr hq hz hs, ← res_q0 hq, ha.at_]; exact h0) hm
   have hlast : lstP (plc r (ms ++ [m])) = doI r (lstP (plc r ms)) m := by rw [plc_snoc, lstP_snoc]
   have hlen : ((ms ++ [m]).length : Int) = (ms.length : Int) + 1 := by simp
   have hat : At r T (ms ++ [m]) j := by
    refine ⟨hj, hgood, by rw [hlast]; exact hdo, ?_⟩
    rcases ha.ent with ⟨a, b⟩ | ⟨a, b⟩
    ·left
     refine ⟨a, ?_⟩
     rcases hb with q | ⟨_, q⟩
     ·rw [q]; exact b
     ·exact q
    ·right
     refine ⟨a, ?_⟩
     have hne : (en T i).1 ≠ 3 := by rw [b]; exact a
     rcases hb with q | ⟨q, _⟩
     ·rcases hs.st i ha.lt with ⟨c, _⟩ | ⟨_, c, _⟩ | ⟨_, c, _⟩
      ·exact absurd h0 c
      ·rw [c] at hne; exact absurd rfl hne
      ·rw [q, hlen]
       rw [b] at c ⊢
       dsimp only at c ⊢
       exact Prod.ext rfl (by dsimp only; omega)
     ·exact absurd q hne
   have ih := line_l0 p0 v hmo k n (ms ++ [m]) j (by omega) (by omega) hat
   rw [hlen, hlast] at ih
   exact ih
  ·rw [best_over hN hr hq hs hp ha.lt ha.at_ h0, ob, bif_t (by rfl)]
   exact Ret.ret ⟨rfl, by dsimp only; omega, i, ha, Or.inr h0⟩
theorem line_ret (v : Int) {most : Int} (hmo : 0 ≤ most ∧ most ≤ 256) : Ret (Q9 N (r, (T, ((), ((), v)))) (freshP r) most) fun y => y.2.1 = 0 ∧ LineQ r T most y.1 := by
 have hf := (List.getElem?_eq_some_iff.1 hs.tab.fst).1
 have hl0 : lp T ((0 : Nat) : Int) = freshP r := gD_some hs.tab.fst
 have ha : At r T [] 0 := by
  refine ⟨hf, GoodP_nil, ?_, ?_⟩
  ·show q0 (lstP [freshP r]) = _
   rw [hl0]
   rfl
  ·by_cases c : (en T 0).1 = 3
   ·exact Or.inl ⟨c, c⟩
   ·exact Or.inr ⟨c, by show en T 0 = _; exact Prod.ext rfl (by simp)⟩
 have hlp : lstP (plc r []) = freshP r := rfl
 obtain ⟨k, hk⟩ : ∃ k : Nat, most = (k : Int) := ⟨most.toNat, by omega⟩
 have hl := line_l0 hN hr hq hz hs (freshP r) v hmo k N [] 0 (by simp; omega) (by omega) ha
 unfold Q9 Q9.e
 rw [bothK_same]
 dsimp only
 rw [of_eq hN hr hq hs (fresh_ok hr) hf (by rw [hl0]; rfl), ob, bif_f (by rfl), bif_f (ltI_f (by omega)), bif_f (ltI_f (by omega))]
 exact hl
theorem line_end {most : Int} {ms : List MvT} (hms : ms.length ≤ 100) (h : LineQ r T most ms) : ((en T 0).1 = 3 → gres r (plc r ms) = 0 ∨ gres r (plc r ms) = 3) ∧ ((en T 0).1 ≠ 3 → (en T 0).2 ≤ most → (ms.length : Int) = (en T 0).2 ∧ gres r (plc r ms) = (en T 0).1) := by
 obtain ⟨h1, i, ha, h2⟩ := h
 rw [gres_z hN hr hq hz hs, ← res_q0 hq, ha.at_]
 have hst := hs.st i ha.lt
 refine ⟨fun c => ?_, fun c hm => ?_⟩
 ·have he : (en T i).1 = 3 := ha.ent.elim (fun q => q.2) (fun q => absurd c q.1)
  rcases hst with ⟨_, q⟩ | ⟨q, _⟩ | ⟨q, _⟩
  ·right; rw [q] at he; exact he
  ·exact Or.inl q
  ·exact Or.inl q
 ·have he := (ha.ent.resolve_left fun q => c q.1).2
  rcases hst with ⟨q1, q2⟩ | ⟨_, q2, _⟩ | ⟨q1, q2, _⟩
  ·rw [he] at q2
   have a := congrArg Prod.fst q2
   have b := congrArg Prod.snd q2
   dsimp only at a b
   exact ⟨by omega, a.symm⟩
  ·rw [he] at q2
   exact absurd (congrArg Prod.fst q2) c
  ·rw [he] at q2
   dsimp only at q2
   rcases h2 with h2 | h2
   ·omega
   ·exact absurd q1 h2
end
end Go.Proofs.YtfihdjjilofklaaGreat.Am
set_option linter.unusedVariables false
set_option linter.unusedSimpArgs false
set_option linter.unusedSectionVars false
namespace Go.Proofs.YtfihdjjilofklaaGreat.Am
open Go
noncomputable def nL (N : Nat) (r : RulesT) : Nat → (Int → TabT → Option NewT) × (Int → Int → Int → TabT → PosT → Int → List MvT → List Int → Option NewT)
 | 0 => (fun _ _ => none, fun _ _ _ _ _ _ _ _ => none)
 | n + 1 => (fun i T =>
   bif (ltI i (T.2.1.length : Int)) then (chk ((leI 0 i) && (ltI i (T.2.1.length : Int))) <|
    (Q32 N r (gD zPos T.2.1 i)).bind fun y7 =>
    bif (eqI y7 0) then ((Q33 N r (gD zPos T.2.1 i)).bind fun y8 => (nL N r n).2 i (y8.length : Int) 0 T (gD zPos T.2.1 i) y7 y8 [])
    else chk (capOk 24 (T.2.2.1.length + ([[]] : List (List Int)).length)) <|
     chk (capOk 24 (T.2.2.2.1.length + ([[]] : List (List MvT)).length)) <|
     chk (capOk 16 (T.2.2.2.2.1.length + ([(y7, (0 : Int))] : List (Int × Int)).length)) <|
     bif (ltI 3000 (T.2.1.length : Int)) then (some (none, 2))
     else (nL N r n).1 (w64 (i + 1)) (T.1, (T.2.1, (T.2.2.1 ++ [[]], (T.2.2.2.1 ++ [[]], (T.2.2.2.2.1 ++ [(y7, 0)], T.2.2.2.2.2))))))
   else nw2 N r n 1 T,
  fun i k c T p v g x =>
   bif (ltI c k) then (chk ((leI 0 c) && (ltI c (g.length : Int))) <|
    (Q24 N r p (gD z0 g c)).bind fun y28 =>
    (Q30 N T y28).bind fun y29 =>
    chk (capOk 8 (x.length + ([y29.1] : List Int).length)) <|
    (nL N r n).2 i k (w64 (c + 1)) y29.2 p v g (x ++ [y29.1]))
   else chk (capOk 24 (T.2.2.1.length + ([x] : List (List Int)).length)) <|
    chk (capOk 24 (T.2.2.2.1.length + ([g] : List (List MvT)).length)) <|
    chk (capOk 16 (T.2.2.2.2.1.length + ([(v, (0 : Int))] : List (Int × Int)).length)) <|
    bif (ltI 3000 (T.2.1.length : Int)) then (some (none, 2))
    else (nL N r n).1 (w64 (i + 1)) (T.1, (T.2.1, (T.2.2.1 ++ [x], (T.2.2.2.1 ++ [g], (T.2.2.2.2.1 ++ [(v, 0)], T.2.2.2.2.2))))))
theorem nL_eq (N : Nat) (r : RulesT) : ∀ n : Nat, (∀ i T, nw0 N r n i T = (nL N r n).1 i T) ∧ ∀ i k c T p v g x, nw1 N r n i k c T p v g x = (nL N r n).2 i k c T p v g x
 | 0 => ⟨fun _ _ => rfl, fun _ _ _ _ _ _ _ _ => rfl⟩
 | n + 1 => by
  obtain ⟨h0, h1⟩ := nL_eq N r n
  refine ⟨fun i T => ?_, fun i k c T p v g x => ?_⟩
  ·rw [nw0_s]
   simp only [nwE, h0, h1]
   rfl
  ·rw [nw1_s]
   simp only [nwE, h0, h1]
   rfl
noncomputable def newC (N : Nat) (r : RulesT) : Option NewT := (Q29 N r).bind fun y1 =>
 bif (!(eqI y1 0)) then (some (none, y1))
 else bif (!(eqI r.2.2.2.2.2.2.2.2.2.1 0)) then (some (none, 1))
 else (Q19 N r).bind fun y3 =>
 (Q31 N r).bind fun y4 =>
 (Q30 N (y3, ([], ([], ([], ([], []))))) y4).bind fun y5 => (nL N r N).1 0 y5.2
theorem newC_eq (N : Nat) (r : RulesT) : Q12 N r = newC N r := by
 rw [new_eq]
 simp only [(nL_eq N r N).1]
 rfl
abbrev twoR : RulesT := ((⟨#[84, 87, 79]⟩ : ByteArray), (2, (1, ([(65, (2, (0, [])))], ([0, 0], (false, (false, ([(0, (0, (2, false)))], (0, (0, 0))))))))))
abbrev N3 : Nat := 300000000
theorem two_eq : Q11 N3 = some twoR := rfl
def twoB (y : Option NewT) : Bool := match y with
 | some (some T, e) => eqI e 0 && (eqI (en T 0).1 2 && eqI (en T 0).2 2)
 | _ => false
theorem two_new : twoB (newC N3 twoR) = true := by decide +kernel
theorem two_score : Q13 N3 twoR (freshP twoR) 2 = some (-998, 0) := by decide +kernel
theorem two_least : Q14 N3 twoR (freshP twoR) = some (0, 8) := by decide +kernel
theorem two_of : Q15 N3 twoR (freshP twoR) = some (0, 0) := by decide +kernel
theorem two_all : (Q16 N3 twoR (freshP twoR)).map (fun y => (y.1.length, y.2)) = some (2, 0) := by decide +kernel
theorem fine2 : Q8 N3 [0, 0] = some true := by decide +kernel
theorem fine6 : Q8 N3 [0, 0, 0, 0, 0, 0] = some true := by decide +kernel
theorem probe_eq {N : Nat} (hN : 1000 ≤ N) {r : RulesT} (hr : ROk r) {T : TabT} (h : Q12 N r = some (some T, 0)) : Q7 N r = some (some (r, (T, ((), ((), 0)))), 0) := by
 unfold Q7 Q7.e
 rw [h, ob]
 simp only [oCase]
 rw [bif_f (by rfl), rcopy_eq hN hr, ob]
section
variable {r : RulesT} (hr : ROk r) (hq : r.2.2.2.2.2.2.2.2.2.1 = 0) (hz : r.2.2.2.2.2.2.2.2.2.2 = 0) {T : TabT} (hs : Solved r (freshP r) T)
include hr hq hz hs
theorem line_run {most : Int} (hmo : 0 ≤ most ∧ most ≤ 100) : ∃ (ms : List MvT) (y : Int × RdT), Q9 N3 (r, (T, ((), ((), 0)))) (freshP r) most = some (ms, y) ∧ y.1 = 0 ∧ Q10 N3 r ms = some (lstP (plc r ms), (gres r (plc r ms), 0)) ∧
  ((en T 0).1 = 3 → gres r (plc r ms) = 0 ∨ gres r (plc r ms) = 3) ∧ ((en T 0).1 ≠ 3 → (en T 0).2 ≤ most → (ms.length : Int) = (en T 0).2 ∧ gres r (plc r ms) = (en T 0).1) := by
 obtain ⟨⟨ms, y⟩, h1, h2, h3⟩ := line_ret (N := N3) (by decide) hr hq hz hs 0 (most := most) ⟨hmo.1, by omega⟩
 have hl := h3.1
 dsimp only at h2 h3 hl
 obtain ⟨_, i, ha, _⟩ := id h3
 have he := line_end (N := N3) (by decide) hr hq hz hs (by omega) h3
 exact ⟨ms, y, h1, h2, run_eq hr ha.good (by omega), he.1, he.2⟩
theorem lp_zero : lp T 0 = freshP r := gD_some (j := 0) hs.tab.fst
end
theorem solved_true : Q4 N3 = some true := by
 obtain ⟨y, hy, hn⟩ := new_ret (N := N3) (by decide) twoR
 have hc := two_new
 rw [← newC_eq, hy] at hc
 rcases hn with ⟨e, _, rfl⟩ | ⟨T, rfl, hr, hq, hs⟩
 ·cases hc
 have hc : (eqI 0 0 && (eqI (en T 0).1 2 && eqI (en T 0).2 2)) = true := hc
 simp only [Bool.and_eq_true, eqI_iff] at hc
 obtain ⟨_, c1, c2⟩ := hc
 obtain ⟨ms, yl, h1, h2, h3, _, h4⟩ := line_run hr hq rfl hs (most := 9) (by decide)
 obtain ⟨h5, h6⟩ := h4 (by omega) (by omega)
 have hat := at_eq (N := N3) (by decide) hr hq hs
 rw [lp_zero hr hq rfl hs] at hat
 obtain ⟨l, hl⟩ : ∃ l, Q16 N3 twoR (freshP twoR) = some l := by
  cases hl : Q16 N3 twoR (freshP twoR) with
  | none => have := two_all; rw [hl] at this; cases this
  | some l => exact ⟨l, rfl⟩
 have hl2 := two_all
 rw [hl, Option.map_some] at hl2
 simp only [Option.some.injEq, Prod.mk.injEq] at hl2
 unfold Q4 Q4.e
 simp only [two_eq, ob]
 rw [probe_eq (by decide) hr hy, ob]
 simp only [oCase]
 rw [hy, ob]
 simp only [oCase]
 rw [fine2, ob, bif_f (by rfl), hat, ob]
 dsimp only
 rw [two_score, ob, h1, ob]
 dsimp only
 rw [h3, ob, two_least, ob, two_of, ob, hl, ob]
 dsimp only
 rw [h2, hl2.2, fine6, ob, bif_t (by rfl), bif_t (by rfl), bif_t (by rfl), bif_t (eqI_t c2), bif_t (by rfl), bif_t (eqI_t (by omega)), bif_t (eqI_t (by omega)), bif_t (by rfl), eqI_t (by rw [hl2.1]; rfl)]
theorem topProbe_at (r : RulesT) : Q3 N3 r = some true := by
 unfold Q3 Q3.e
 rw [solved_true, ob, bif_f (by rfl)]
 generalize hR : ((r.1, (r.2.1, (r.2.2.1, (r.2.2.2.1, (r.2.2.2.2.1, (r.2.2.2.2.2.1, (r.2.2.2.2.2.2.1, (r.2.2.2.2.2.2.2.1, (r.2.2.2.2.2.2.2.2.1, (r.2.2.2.2.2.2.2.2.2.1, (0 : Int))))))))))) : RulesT) = R
 have hz : R.2.2.2.2.2.2.2.2.2.2 = 0 := by rw [← hR]
 have htab : (Q5 N3 R = some (none, false)) ∨ ∃ T, Q5 N3 R = some (some T, true) ∧ Q12 N3 R = some (some T, 0) ∧ ROk R ∧ R.2.2.2.2.2.2.2.2.2.1 = 0 ∧ Solved R (freshP R) T := by
  obtain ⟨y, hy, hn⟩ := new_ret (N := N3) (by decide) R
  unfold Q5 Q5.e
  cases ltI 9 (w64 (R.2.1 * R.2.2.1)) with
  | true => exact Or.inl rfl
  | false =>
   rw [cond_false]
   cases ltI 3 (R.2.2.2.1.length : Int) with
   | true => exact Or.inl rfl
   | false =>
    rw [cond_false, hy, ob]
    rcases hn with ⟨e, h0, rfl⟩ | ⟨T, rfl, hr, hq, hs⟩
    ·left
     simp only [oCase]
     cases (!(eqI e 0)) <;> rfl
    ·simp only [oCase]
     rw [bif_f (by rfl)]
     simp only [Q17, Q17.e, ob]
     cases eqI (T.2.1.length : Int) 0 with
     | true => exact Or.inl rfl
     | false =>
      rw [cond_false]
      cases ltI 500 (T.2.1.length : Int) with
      | true => exact Or.inl rfl
      | false => exact Or.inr ⟨T, rfl, rfl, hr, hq, hs⟩
 rcases htab with h | ⟨T, h, hy, hr, hq, hs⟩
 ·rw [h, ob]
  rfl
 ·rw [h, ob]
  simp only [oCase]
  have hat := at_eq (N := N3) (by decide) hr hq hs
  rw [lp_zero hr hq hz hs] at hat
  obtain ⟨ms, yl, h1, h2, h3, h4, h5⟩ := line_run hr hq hz hs (most := 60) (by decide)
  rw [bif_f (by rfl), hat, ob, probe_eq (by decide) hr hy, ob]
  simp only [oCase]
  rw [fine2, ob, bif_f (by rfl)]
  rw [h1, ob]
  dsimp only
  rw [h3, ob, h2, fine2, ob, bif_f (by rfl)]
  by_cases c : (en T 0).1 = 3
  ·rw [bif_t (eqI_t c)]
   rcases h4 c with q | q
   ·rw [bif_t (eqI_t q)]
   ·rw [q]; rfl
  ·rw [bif_f (eqI_f c)]
   by_cases c2 : 60 < (en T 0).2
   ·rw [bif_t (ltI_t c2)]
   ·obtain ⟨q1, q2⟩ := h5 c (by omega)
    rw [bif_f (ltI_f (by omega)), bif_t (eqI_t q1), eqI_t q2]
end Go.Proofs.YtfihdjjilofklaaGreat.Am
