/- Plain: alpha-beta in a window with any order of moves gives the value; the best move of a level. -/
import Derived.Test.YtlfhchkhbecmbaaLawCheckd
import Derived.Test.YtlfhchkhbecmbaaLawMoves0d
set_option linter.unusedVariables false
set_option linter.unusedSimpArgs false
set_option linter.unusedSectionVars false
namespace Go.Proofs.Ytlfhchkhbecmbaa.Am
open Go
noncomputable section
def clp (low high v : Int) : Int := bif ltI low (bif ltI high v then high else v) then (bif ltI high v then high else v) else low
theorem clp_cases {low high : Int} (h : low < high) (v : Int) : (v ≤ low ∧ clp low high v = low) ∨ (low < v ∧ v < high ∧ clp low high v = v) ∨ (high ≤ v ∧ clp low high v = high) := by
 have hu : (high < v ∧ (bif ltI high v then high else v) = high) ∨ (v ≤ high ∧ (bif ltI high v then high else v) = v) := by
  by_cases c : high < v
  ·rw [bif_t (ltI_t c)]; exact Or.inl ⟨c, rfl⟩
  ·rw [bif_f (ltI_f (by omega))]; exact Or.inr ⟨by omega, rfl⟩
 unfold clp
 generalize (bif ltI high v then high else v) = u at *
 by_cases c : low < u
 ·rw [bif_t (ltI_t c)]; omega
 ·rw [bif_f (ltI_f (by omega))]; omega
def mn (a b : Int) : Int := if b ≤ a then b else a
abbrev GdT := List (Int × MvT)
abbrev WR := Int × Int × BoardT × GdT
abbrev SelfT := Int → BoardT → Int → Int → Int → GdT → Option WR
def wl0 (N : Nat) (self : SelfT) (x0 : Int) (b0 : BoardT) (depth low high : Int) (g0 : GdT) (n : Nat) (best : Int) (ms : List MvT) (len j x : Int) (b : BoardT) (g : GdT) : Option WR :=
 Q39.l0 N self x0 b0 depth low high g0 n best len j x b.1.1 b.1.2.1 b.1.2.2.1 b.1.2.2.2.2.2.1 b.1.2.2.2.2.2.2.1 b.1.2.2.2.2.2.2.2.2.1 b.1.2.2.2.2.2.2.2.2.2.1 b.1.2.2.2.2.2.2.2.2.2.2 b.2.1.2.2.1 b.2.1.2.2.2 b.2.2.1 ms b.1.2.2.2.1 b.1.2.2.2.2.1 b.1.2.2.2.2.2.2.2.1 b.2.1.1 b.2.1.2.1.1 b.2.1.2.1.2 b.2.2.2 g
theorem wl0_s (N : Nat) (self : SelfT) (x0 : Int) (b0 : BoardT) (depth low high : Int) (g0 : GdT) (n : Nat) (best : Int) (ms : List MvT) (len j x : Int) (b : BoardT) (g : GdT) : wl0 N self x0 b0 depth low high g0 (n + 1) best ms len j x b g =
  bif ltI j len then (chk (leI 0 j && ltI j (ms.length : Int)) <|
   (Q37 N b (gD z0 ms j)).bind fun y10 =>
   (self x y10 (w64 (depth - 1)) (w64 (w64 (0 - high) - 1)) (w64 (w64 (0 - best) + 1)) g).bind fun y13 =>
   (Q38 N (w64 (0 - y13.1))).bind fun y14 =>
   (Q40 N y13.2.2.1).bind fun y15 =>
   bif (leI high (bif (ltI best y14) then y14 else best)) then (some (high, (y13.2.1, (y15.2, y13.2.2.2))))
   else wl0 N self x0 b0 depth low high g0 n (bif (ltI best y14) then y14 else best) ms len (w64 (j + 1)) y13.2.1 y15.2 y13.2.2.2)
  else some (best, (x, (b, g))) := rfl
def aft (N : Nat) (self : SelfT) (x0 : Int) (b0 : BoardT) (depth low high : Int) (g0 : GdT) (x : Int) (b : BoardT) (l : List MvT) : Option WR :=
 bif ltI 0 (l.length : Int) then (chk (true && (ltI 0 (l.length : Int))) <|
  chk (Lit.int .i64 depth).wf <|
  wl0 N self x0 b0 depth low high g0 N low l (l.length : Int) 0 x b (mput eqDI g0 depth (gD z0 l 0)))
 else wl0 N self x0 b0 depth low high g0 N low l (l.length : Int) 0 x b g0
theorem window_e (N : Nat) (x : Int) (b : BoardT) (depth low high : Int) (g : GdT) : Q39 (N + 1) x b depth low high g =
  (Q15 N b).bind fun y1 =>
  bif (!(eqI y1 0)) then ((Q57 N b).bind fun y2 =>
   (Q56 N y1 y2).bind fun y3 =>
   some (clp low high y3, (w64 (x + 1), (b, g))))
  else bif (eqI depth 0) then some (clp low high 0, (w64 (x + 1), (b, g)))
  else (Q36 N b).bind fun y8 =>
  chk (Lit.int .i64 depth).wf <|
  (Q33 N y8 ((mget eqDI g depth).getD z0)).bind fun y9 =>
  bif (ltI 0 y9) then (chk ((leI 0 y9) && (ltI y9 (y8.length : Int))) <|
   bothK ((slices_Delete N y8 y9 (w64 (y9 + 1))).bind fun y10 => (slices_Insert N y10 0 [gD z0 y8 y9]).bind fun y12 => aft N (Q39 N) x b depth low high g (w64 (x + 1)) b y12)
    (bothK ((slices_Delete N y8 y9 (w64 (y9 + 1))).bind fun y10 => (slices_Insert N y10 0 [gD z0 y8 y9]).bind fun y12 => aft N (Q39 N) x b depth low high g (w64 (x + 1)) b y12)
     ((slices_Delete N y8 y9 (w64 (y9 + 1))).bind fun y10 => (slices_Insert N y10 0 [gD z0 y8 y9]).bind fun y12 => aft N (Q39 N) x b depth low high g (w64 (x + 1)) b y12)))
  else aft N (Q39 N) x b depth low high g (w64 (x + 1)) b y8 := rfl
theorem wf64 {x : Int} (h1 : -9223372036854775808 ≤ x) (h2 : x ≤ 9223372036854775807) : (Lit.int .i64 x).wf = true := by
 simp [Lit.wf]
 exact ⟨by show (-9223372036854775808 : Int) ≤ x; exact h1, h2⟩
theorem dindex_l0 (N : Nat) (l : List MvT) (v : MvT) (hl : l.length ≤ 100000) : ∀ (k j n : Nat), j + k = l.length → k < n → Ret (Q33.l0 N l v n (j : Int)) fun i => i = -1 ∨ (0 ≤ i ∧ i < (l.length : Int))
 | 0, j, n, hk, hn => by
  obtain ⟨n, rfl⟩ := nxt (n := n) (by omega)
  rw [Q33.l0_s, Q33.s0, bif_f (ltI_f (by omega))]
  exact Ret.ret (Or.inl rfl)
 | k + 1, j, n, hk, hn => by
  obtain ⟨n, rfl⟩ := nxt (n := n) (by omega)
  have hj : j < l.length := by omega
  rw [Q33.l0_s, Q33.s0, bif_t (ltI_t (by omega)), chk_of (idx_ok hj), w64_id (by omega) (by omega), show ((j : Int) + 1) = ((j + 1 : Nat) : Int) by omega]
  exact Ret.bif (fun _ => Ret.ret (Or.inr ⟨by omega, by omega⟩)) (fun _ => dindex_l0 N l v hl k (j + 1) n (by omega) (by omega))
theorem dindex (N : Nat) (l : List MvT) (v : MvT) (hl : l.length ≤ 100000) (hN : 200000 ≤ N) : Ret (Q33 N l v) fun i => i = -1 ∨ (0 ≤ i ∧ i < (l.length : Int)) := by
 unfold Q33 Q33.e
 exact dindex_l0 N l v hl l.length 0 N (by omega) (by omega)
theorem front_ok {N : Nat} (l : List MvT) (k : Nat) (hk : k < l.length) (hl : l.length ≤ 100000) {R : Type} (f : List MvT → Option R) :
  ∃ l' : List MvT, ((slices_Delete N l (k : Int) (w64 ((k : Int) + 1))).bind fun y10 => (slices_Insert N y10 0 [gD z0 l (k : Int)]).bind f) = f l' ∧ l'.length = l.length ∧ ∀ m, m ∈ l' ↔ m ∈ l := by
 refine ⟨l[k] :: (l.take k ++ l.drop (k + 1)), ?_, ?_, fun m => ?_⟩
 ·have hd : slices_Delete N l (k : Int) (w64 ((k : Int) + 1)) = some (l.take k ++ l.drop (k + 1)) := by
   unfold slices_Delete
   rw [w64_id (by omega) (by omega), bif_t (by simp [leI]; omega)]
   rw [show ((k : Int) + 1) = ((k + 1 : Nat) : Int) by omega, Int.toNat_natCast, Int.toNat_natCast]
  have hi : slices_Insert N (l.take k ++ l.drop (k + 1)) 0 [gD z0 l (k : Int)] = some (l[k] :: (l.take k ++ l.drop (k + 1))) := by
   unfold slices_Insert
   have hlen : (l.take k ++ l.drop (k + 1)).length ≤ 1000000 := by simp; omega
   rw [bif_t (by simp only [leI, eqI]; simp; simp at hlen; omega), gD_nat hk]
   rfl
  rw [hd, ob, hi, ob]
 ·simp; omega
 ·have h1 : l = l.take k ++ l[k] :: l.drop (k + 1) := by rw [← List.drop_eq_getElem_cons hk, List.take_append_drop]
  constructor
  ·intro h
   rw [h1]
   simp only [List.mem_cons, List.mem_append] at h ⊢
   rcases h with h | h | h
   ·exact Or.inr (Or.inl h)
   ·exact Or.inl h
   ·exact Or.inr (Or.inr h)
  ·intro h
   rw [h1] at h
   simp only [List.mem_cons, List.mem_append] at h ⊢
   rcases h with h | h | h
   ·exact Or.inr (Or.inl h)
   ·exact Or.inl h
   ·exact Or.inr (Or.inr h)
theorem window_l0 {N : Nat} (self : SelfT) (x0 : Int) (b0 : BoardT) (g0 : GdT) (d : Nat) (hd : d ≤ 20) {b : BoardT} (hb : BOk b) (hl : b.2.2.2.length ≤ 100000) (ms : List MvT) (hms : ∀ m ∈ ms, MoveOk b.1 b.2.1 m) (hlen : ms.length ≤ 100000)
  (low high : Int) (hlo : -(1999 - (d : Int)) ≤ low) (hhi : high ≤ 1999 - (d : Int))
  (hself : ∀ m ∈ ms, ∀ (x lo hi : Int) (g : GdT), lo < hi → -(2000 - (d : Int)) ≤ lo → hi ≤ 2000 - (d : Int) → Ret (self x (makeB b m) (d : Int) lo hi g) fun z => z.1 = clp lo hi (val b.1 d (doI b.1 b.2.1 m)) ∧ z.2.2.1 = makeB b m) : ∀ (k j n : Nat) (best x : Int) (g : GdT), j + k = ms.length → k < n → low ≤ best → best < high →
  Ret (wl0 N self x0 b0 ((d + 1 : Nat) : Int) low high g0 n best ms (ms.length : Int) (j : Int) x b g) fun z => z.1 = mn (foldMax best ((ms.drop j).map fun m => near (-(val b.1 d (doI b.1 b.2.1 m))))) high ∧ z.2.2.1 = b
 | 0, j, n, best, x, g, hk, hn, h1, h2 => by
  obtain ⟨n, rfl⟩ := nxt (n := n) (by omega)
  rw [wl0_s, bif_f (ltI_f (by omega)), List.drop_of_length_le (by omega)]
  refine Ret.ret ⟨?_, rfl⟩
  show best = mn best high
  unfold mn
  rw [if_neg (by omega)]
 | k + 1, j, n, best, x, g, hk, hn, h1, h2 => by
  obtain ⟨n, rfl⟩ := nxt (n := n) (by omega)
  have hj : j < ms.length := by omega
  have hmem : ms[j] ∈ ms := List.getElem_mem _
  have hmo := hms _ hmem
  have hv := val_bound hb.r d (by omega) (do_ok hb.r hb.p hmo)
  rw [wl0_s, bif_t (ltI_t (by omega)), chk_of (idx_ok hj), gD_nat hj, make_eq hb hl hmo, ob, w64_id (x := ((d + 1 : Nat) : Int) - 1) (by omega) (by omega), show ((d + 1 : Nat) : Int) - 1 = (d : Int) by omega, w64_id (x := 0 - high) (by omega) (by omega), w64_id (x := 0 - best) (by omega) (by omega), w64_id (x := 0 - high - 1) (by omega) (by omega), w64_id (x := 0 - best + 1) (by omega) (by omega)]
  refine Ret.bnd (hself _ hmem x (0 - high - 1) (0 - best + 1) g (by omega) (by omega) (by omega)) fun z hz => ?_
  have hc := clp_cases (show 0 - high - 1 < 0 - best + 1 by omega) (val b.1 d (doI b.1 b.2.1 ms[j]))
  rw [← hz.1] at hc
  rw [w64_id (x := 0 - z.1) (by omega) (by omega), nearer_eq N (by omega), ob, hz.2, undo_make hb hl hmo, ob, w64_id (x := (j : Int) + 1) (by omega) (by omega), show ((j : Int) + 1) = ((j + 1 : Nat) : Int) by omega, List.drop_eq_getElem_cons hj]
  have e : foldMax best (((ms[j] :: ms.drop (j + 1)).map fun m => near (-(val b.1 d (doI b.1 b.2.1 m))))) = foldMax (mx best (near (-(val b.1 d (doI b.1 b.2.1 ms[j]))))) ((ms.drop (j + 1)).map fun m => near (-(val b.1 d (doI b.1 b.2.1 m)))) := rfl
  rw [e]
  have n1 := near_cases (0 - z.1)
  have n2 := near_cases (-(val b.1 d (doI b.1 b.2.1 ms[j])))
  have m1 := mx_eq best (near (0 - z.1))
  have m2 := mx_eq best (near (-(val b.1 d (doI b.1 b.2.1 ms[j]))))
  show Ret (bif (leI high (mx best (near (0 - z.1)))) then _ else wl0 N self x0 b0 ((d + 1 : Nat) : Int) low high g0 n (mx best (near (0 - z.1))) ms (ms.length : Int) ((j + 1 : Nat) : Int) z.2.1 b z.2.2.2) _
  refine Ret.bif (fun c => ?_) (fun c => ?_)
  ·rw [leI_iff] at c
   have f := (foldMax_spec ((ms.drop (j + 1)).map fun m => near (-(val b.1 d (doI b.1 b.2.1 m)))) (mx best (near (-(val b.1 d (doI b.1 b.2.1 ms[j])))))).1
   refine Ret.ret ⟨?_, rfl⟩
   unfold mn
   rw [if_pos (by omega)]
  ·rw [leI_iff'] at c
   have ee : mx best (near (0 - z.1)) = mx best (near (-(val b.1 d (doI b.1 b.2.1 ms[j])))) := by omega
   rw [← ee]
   exact window_l0 self x0 b0 g0 d hd hb hl ms hms hlen low high hlo hhi hself k (j + 1) n _ _ _ (by omega) (by omega) (by omega) (by omega)
theorem window_ok : ∀ (d N : Nat), 200000000 + d < N → d ≤ 20 → ∀ {b : BoardT}, BOk b → b.2.2.2.length + d ≤ 100000 → ∀ (x low high : Int) (g : GdT), low < high → -(2000 - (d : Int)) ≤ low → high ≤ 2000 - (d : Int) → Ret (Q39 N x b (d : Int) low high g) fun z => z.1 = clp low high (val b.1 d b.2.1) ∧ z.2.2.1 = b
 | d, N, hN, hd, b, hb, hl, x, low, high, g, h1, h2, h3 => by
  obtain ⟨N, rfl⟩ := nxt (n := N) (by omega)
  have ht := hb.p.last.1
  rw [window_e, bresult_eq (by omega) hb, ob]
  by_cases h : resV b.1 b.2.1 = 0
  ·rw [bif_f (by rw [eqI_t h]; rfl)]
   cases d with
   | zero =>
    rw [bif_t (by rfl)]
    refine Ret.ret ⟨?_, rfl⟩
    unfold val
    rw [if_neg (by simp [h])]
   | succ d =>
    obtain ⟨l, hl1, _, hl2⟩ := bmoves_ret (N := N) (by omega) hb
    have hg := hl2 h
    have hgl := hg.len
    rw [bif_f (eqI_f (by omega)), hl1, ob, chk_of (wf64 (by omega) (by omega))]
    have core : ∀ l' : List MvT, l'.length = l.length → (∀ m, m ∈ l' ↔ m ∈ l) → ∀ g' : GdT, Ret (wl0 N (Q39 N) x b ((d + 1 : Nat) : Int) low high g N low l' (l'.length : Int) 0 (w64 (x + 1)) b g') fun z => z.1 = clp low high (val b.1 (d + 1) b.2.1) ∧ z.2.2.1 = b := by
     intro l' hll hmm g'
     have := window_l0 (N := N) (Q39 N) x b g d (by omega) hb (by omega) l' (fun m hm => cand_ok hb.r hb.p ((hg.mem m).1 ((hmm m).1 hm))) (by omega) low high (by omega) (by omega) (fun m hm x lo hi g k1 k2 k3 => by
      have hmo := cand_ok hb.r hb.p ((hg.mem m).1 ((hmm m).1 hm))
      exact window_ok d N (by omega) (by omega) (make_ok hb (by omega) hmo) (by
       show (b.2.2.2 ++ [undoI b m]).length + d ≤ 100000
       rw [List.length_append]
       simp only [List.length_singleton]
       omega) x lo hi g k1 k2 k3) l'.length 0 N low (w64 (x + 1)) g' (by omega) (by omega) (Int.le_refl _) h1
     rw [List.drop_zero, show ((0 : Nat) : Int) = 0 from rfl] at this
     refine this.mono fun z hz => ⟨?_, hz.2⟩
     rw [hz.1, val_open hb.r h]
     have fe : foldMax low (l'.map fun m => near (-(val b.1 d (doI b.1 b.2.1 m)))) = foldMax low ((cand b.1 b.2.1).map fun m => near (-(val b.1 d (doI b.1 b.2.1 m)))) := by
      apply foldMax_ext
      intro x
      simp only [List.mem_map]
      constructor
      ·rintro ⟨m, hm, rfl⟩; exact ⟨m, (hg.mem m).1 ((hmm m).1 hm), rfl⟩
      ·rintro ⟨m, hm, rfl⟩; exact ⟨m, (hmm m).2 ((hg.mem m).2 hm), rfl⟩
     rw [fe]
     have f1 := foldMax_spec ((cand b.1 b.2.1).map fun m => near (-(val b.1 d (doI b.1 b.2.1 m)))) low
     have f2 := foldMax_spec ((cand b.1 b.2.1).map fun m => near (-(val b.1 d (doI b.1 b.2.1 m)))) (-1000)
     obtain ⟨m0, hm0⟩ : ∃ m, m ∈ cand b.1 b.2.1 := by
      cases hc : cand b.1 b.2.1 with
      | nil => exact absurd hc (cand_ne hb.r hb.p h)
      | cons m l => exact ⟨m, List.mem_cons_self ..⟩
     have bnd := val_bound hb.r d (by omega) (do_ok hb.r hb.p (cand_ok hb.r hb.p hm0))
     have nb := near_cases (-(val b.1 d (doI b.1 b.2.1 m0)))
     have u1 := f1.2.1 _ (List.mem_map.2 ⟨m0, hm0, rfl⟩)
     have u2 := f2.2.1 _ (List.mem_map.2 ⟨m0, hm0, rfl⟩)
     generalize foldMax low ((cand b.1 b.2.1).map fun m => near (-(val b.1 d (doI b.1 b.2.1 m)))) = F at *
     generalize foldMax (-1000) ((cand b.1 b.2.1).map fun m => near (-(val b.1 d (doI b.1 b.2.1 m)))) = V at *
     have k2 : V ≤ F := by
      rcases f2.2.2 with e | e
      ·omega
      ·exact f1.2.1 _ e
     have k1 : F = low ∨ F ≤ V := by
      rcases f1.2.2 with e | e
      ·exact Or.inl e
      ·exact Or.inr (f2.2.1 _ e)
     have hc := clp_cases h1 V
     unfold mn
     split
     ·omega
     ·omega
    have core2 : ∀ l' : List MvT, l'.length = l.length → (∀ m, m ∈ l' ↔ m ∈ l) → Ret (aft N (Q39 N) x b ((d + 1 : Nat) : Int) low high g (w64 (x + 1)) b l') fun z => z.1 = clp low high (val b.1 (d + 1) b.2.1) ∧ z.2.2.1 = b := by
     intro l' hll hmm
     unfold aft
     refine Ret.bif (fun c => ?_) (fun c => core l' hll hmm g)
     rw [chk_of (by rw [c]; rfl), chk_of (wf64 (by omega) (by omega))]
     exact core l' hll hmm _
    refine Ret.bnd (dindex N l _ (by omega) (by omega)) fun i hi => ?_
    refine Ret.bif (fun c => ?_) (fun c => core2 l rfl (fun m => Iff.rfl))
    rw [ltI_iff] at c
    obtain ⟨k, rfl⟩ : ∃ k : Nat, i = k := ⟨i.toNat, by omega⟩
    obtain ⟨l', e1, e2, e3⟩ := front_ok (N := N) l k (by omega) (by omega) (fun y12 => aft N (Q39 N) x b ((d + 1 : Nat) : Int) low high g (w64 (x + 1)) b y12)
    rw [chk_of (idx_ok (by omega)), bothK_same, bothK_same, e1]
    exact core2 l' e2 e3
  ·rw [bif_t (by rw [eqI_f h]; rfl), val_over hb.r h]
   show Ret ((some b.2.1.2.2.1).bind _) _
   rw [ob, escore_eq N _ ht, ob]
   exact Ret.ret ⟨rfl, rfl⟩
def firstBest (f : MvT → Int) : List MvT → MvT × Int → MvT × Int
 | [], a => a
 | m :: l, a => firstBest f l (if a.2 < f m then (m, f m) else a)
abbrev sc (b : BoardT) (d : Nat) (m : MvT) : Int := near (-(val b.1 d (doI b.1 b.2.1 m)))
def bs0 (N : Nat) (b0 : BoardT) (depth : Int) (n : Nat) (most len j : Int) (b : BoardT) (out : MvT) (ms : List MvT) : Option (MvT × Int × BoardT) :=
 Q22.l0 N b0 depth n most len j b.1.1 b.1.2.1 b.1.2.2.1 b.1.2.2.2.2.2.1 b.1.2.2.2.2.2.2.1 b.1.2.2.2.2.2.2.2.2.1 b.1.2.2.2.2.2.2.2.2.2.1 b.1.2.2.2.2.2.2.2.2.2.2 b.2.1.2.2.1 b.2.1.2.2.2 b.2.2.1 out.1 out.2.1 out.2.2 ms b.1.2.2.2.1 b.1.2.2.2.2.1 b.1.2.2.2.2.2.2.2.1 b.2.1.1 b.2.1.2.1.1 b.2.1.2.1.2 b.2.2.2
theorem bs0_s (N : Nat) (b0 : BoardT) (depth : Int) (n : Nat) (most len j : Int) (b : BoardT) (out : MvT) (ms : List MvT) : bs0 N b0 depth (n + 1) most len j b out ms =
  bif ltI j len then (chk (leI 0 j && ltI j (ms.length : Int)) <|
   (Q37 N b (gD z0 ms j)).bind fun y2 =>
   (Q41 N y2 (w64 (depth - 1))).bind fun y3 =>
   (Q38 N (w64 (0 - y3.1))).bind fun y4 =>
   (Q40 N y3.2).bind fun y5 =>
   bif (ltI most y4) then (bs0 N b0 depth n y4 len (w64 (j + 1)) y5.2 (gD z0 ms j) ms)
   else bs0 N b0 depth n most len (w64 (j + 1)) y5.2 out ms)
  else some (out, (most, b)) := rfl
theorem bestf_l0 {N : Nat} (hN : 200000100 ≤ N) (b0 : BoardT) (d : Nat) (hd : d ≤ 19) {b : BoardT} (hb : BOk b) (hl : b.2.2.2.length ≤ 1000) (ms : List MvT) (hms : ∀ m ∈ ms, MoveOk b.1 b.2.1 m) (hlen : ms.length ≤ 100000) :
  ∀ (k j n : Nat) (most : Int) (out : MvT), j + k = ms.length → k < n →
  bs0 N b0 ((d + 1 : Nat) : Int) n most (ms.length : Int) (j : Int) b out ms = some ((firstBest (sc b d) (ms.drop j) (out, most)).1, ((firstBest (sc b d) (ms.drop j) (out, most)).2, b))
 | 0, j, n, most, out, hk, hn => by
  obtain ⟨n, rfl⟩ := nxt (n := n) (by omega)
  rw [bs0_s, bif_f (ltI_f (by omega)), List.drop_of_length_le (by omega)]
  rfl
 | k + 1, j, n, most, out, hk, hn => by
  obtain ⟨n, rfl⟩ := nxt (n := n) (by omega)
  have hj : j < ms.length := by omega
  have hmem : ms[j] ∈ ms := List.getElem_mem _
  have hmo := hms _ hmem
  have hv := val_bound hb.r d (by omega) (do_ok hb.r hb.p hmo)
  have hself := value_ok d N (by omega) (by omega) (make_ok hb (by omega) hmo) (by
   show (b.2.2.2 ++ [undoI b ms[j]]).length + d ≤ 100000
   rw [List.length_append]
   simp only [List.length_singleton]
   omega)
  rw [show val (makeB b ms[j]).1 d (makeB b ms[j]).2.1 = val b.1 d (doI b.1 b.2.1 ms[j]) from rfl] at hself
  rw [bs0_s, bif_t (ltI_t (by omega)), chk_of (idx_ok hj), gD_nat hj, make_eq hb (by omega) hmo, ob, w64_id (x := ((d + 1 : Nat) : Int) - 1) (by omega) (by omega), show ((d + 1 : Nat) : Int) - 1 = (d : Int) by omega, hself, ob]
  dsimp only
  rw [w64_id (x := 0 - val b.1 d (doI b.1 b.2.1 ms[j])) (by omega) (by omega), nearer_eq N (by omega), ob, undo_make hb (by omega) hmo, ob, w64_id (by omega) (by omega), show ((j : Int) + 1) = ((j + 1 : Nat) : Int) by omega, show 0 - val b.1 d (doI b.1 b.2.1 ms[j]) = -(val b.1 d (doI b.1 b.2.1 ms[j])) by omega, List.drop_eq_getElem_cons hj]
  have e : firstBest (sc b d) (ms[j] :: ms.drop (j + 1)) (out, most) = firstBest (sc b d) (ms.drop (j + 1)) (if most < sc b d ms[j] then (ms[j], sc b d ms[j]) else (out, most)) := rfl
  rw [e]
  by_cases c : most < near (-(val b.1 d (doI b.1 b.2.1 ms[j])))
  ·rw [bif_t (ltI_t c), if_pos c]
   exact bestf_l0 hN b0 d hd hb hl ms hms hlen k (j + 1) n _ _ (by omega) (by omega)
  ·rw [bif_f (ltI_f (by omega)), if_neg c]
   exact bestf_l0 hN b0 d hd hb hl ms hms hlen k (j + 1) n _ _ (by omega) (by omega)
def ll0 (N : Nat) (r : RulesT) (p : PosT) (depth : Int) (g0 : GdT) (n : Nat) (most len j : Int) (b : BoardT) (x : Int) (out : MvT) (ms : List MvT) (g : GdT) : Option (MvT × Int × GdT) :=
 Q18.l0 N r p depth g0 n most len j b.1.1 b.1.2.1 b.1.2.2.1 b.1.2.2.2.2.2.1 b.1.2.2.2.2.2.2.1 b.1.2.2.2.2.2.2.2.2.1 b.1.2.2.2.2.2.2.2.2.2.1 b.1.2.2.2.2.2.2.2.2.2.2 b.2.1.2.2.1 b.2.1.2.2.2 b.2.2.1 b.1.2.2.2.1 b.1.2.2.2.2.1 b.1.2.2.2.2.2.2.2.1 b.2.1.1 b.2.1.2.1.1 b.2.1.2.1.2 b.2.2.2 x out.1 out.2.1 out.2.2 ms g
theorem ll0_s (N : Nat) (r : RulesT) (p : PosT) (depth : Int) (g0 : GdT) (n : Nat) (most len j : Int) (b : BoardT) (x : Int) (out : MvT) (ms : List MvT) (g : GdT) : ll0 N r p depth g0 (n + 1) most len j b x out ms g =
  bif ltI j len then (chk (leI 0 j && ltI j (ms.length : Int)) <|
   (Q37 N b (gD z0 ms j)).bind fun y4 =>
   (Q39 N x y4 (w64 (depth - 1)) (-1001) (w64 ((w64 (0 - most)) + 1)) g).bind fun y6 =>
   (Q38 N (w64 (0 - y6.1))).bind fun y7 =>
   (Q40 N y6.2.2.1).bind fun y8 =>
   bif (eqI j 0) then (ll0 N r p depth g0 n y7 len (w64 (j + 1)) y8.2 y6.2.1 (gD z0 ms j) ms y6.2.2.2)
   else bif (ltI most y7) then (ll0 N r p depth g0 n y7 len (w64 (j + 1)) y8.2 y6.2.1 (gD z0 ms j) ms y6.2.2.2)
   else ll0 N r p depth g0 n most len (w64 (j + 1)) y8.2 y6.2.1 out ms y6.2.2.2)
  else some (out, (most, g)) := rfl
theorem level_l0 {N : Nat} (hN : 200000100 ≤ N) (r : RulesT) (p : PosT) (g0 : GdT) (d : Nat) (hd : d ≤ 19) {b : BoardT} (hb : BOk b) (hl : b.2.2.2.length ≤ 1000) (ms : List MvT) (hms : ∀ m ∈ ms, MoveOk b.1 b.2.1 m) (hlen : ms.length ≤ 100000) :
  ∀ (k j n : Nat) (most x : Int) (out : MvT) (g : GdT), j + k = ms.length → k < n → (j = 0 → most = -1000) → -1000 ≤ most → most ≤ 1000 →
  Ret (ll0 N r p ((d + 1 : Nat) : Int) g0 n most (ms.length : Int) (j : Int) b x out ms g) fun z => 0 < ms.length → (z.1, z.2.1) = firstBest (sc b d) (ms.drop j) (out, if j = 0 then -1001 else most)
 | 0, j, n, most, x, out, g, hk, hn, h0, h1, h2 => by
  obtain ⟨n, rfl⟩ := nxt (n := n) (by omega)
  rw [ll0_s, bif_f (ltI_f (by omega)), List.drop_of_length_le (by omega)]
  refine Ret.ret fun hp => ?_
  rw [if_neg (by omega)]
  rfl
 | k + 1, j, n, most, x, out, g, hk, hn, h0, h1, h2 => by
  obtain ⟨n, rfl⟩ := nxt (n := n) (by omega)
  have hj : j < ms.length := by omega
  have hmem : ms[j] ∈ ms := List.getElem_mem _
  have hmo := hms _ hmem
  have hv := val_bound hb.r d (by omega) (do_ok hb.r hb.p hmo)
  have hself := fun g => window_ok d N (by omega) (by omega) (make_ok hb (by omega) hmo) (by
   show (b.2.2.2 ++ [undoI b ms[j]]).length + d ≤ 100000
   rw [List.length_append]
   simp only [List.length_singleton]
   omega) x (-1001) (0 - most + 1) g (by omega) (by omega) (by omega)
  rw [ll0_s, bif_t (ltI_t (by omega)), chk_of (idx_ok hj), gD_nat hj, make_eq hb (by omega) hmo, ob, w64_id (x := ((d + 1 : Nat) : Int) - 1) (by omega) (by omega), show ((d + 1 : Nat) : Int) - 1 = (d : Int) by omega, w64_id (x := 0 - most) (by omega) (by omega), w64_id (x := 0 - most + 1) (by omega) (by omega)]
  refine Ret.bnd (hself g) fun z hz => ?_
  have hc := clp_cases (show (-1001 : Int) < 0 - most + 1 by omega) (val b.1 d (doI b.1 b.2.1 ms[j]))
  have hz1 : z.1 = clp (-1001) (0 - most + 1) (val b.1 d (doI b.1 b.2.1 ms[j])) := hz.1
  rw [← hz1] at hc
  rw [w64_id (x := 0 - z.1) (by omega) (by omega), nearer_eq N (by omega), ob, hz.2, undo_make hb (by omega) hmo, ob, w64_id (x := (j : Int) + 1) (by omega) (by omega), show ((j : Int) + 1) = ((j + 1 : Nat) : Int) by omega, List.drop_eq_getElem_cons hj]
  have n1 := near_cases (0 - z.1)
  have n2 := near_cases (-(val b.1 d (doI b.1 b.2.1 ms[j])))
  have e : ∀ q : Int, firstBest (sc b d) (ms[j] :: ms.drop (j + 1)) (out, q) = firstBest (sc b d) (ms.drop (j + 1)) (if q < near (-(val b.1 d (doI b.1 b.2.1 ms[j]))) then (ms[j], near (-(val b.1 d (doI b.1 b.2.1 ms[j])))) else (out, q)) := fun q => rfl
  rw [e]
  by_cases hj0 : j = 0
  ·have hm := h0 hj0
   rw [bif_t (eqI_t (by omega)), if_pos hj0, if_pos (by omega)]
   refine Ret.mono (level_l0 hN r p g0 d hd hb hl ms hms hlen k (j + 1) n _ _ _ _ (by omega) (by omega) (by omega) (by omega) (by omega)) fun w hw hp => ?_
   have := hw hp
   rw [if_neg (by omega)] at this
   rw [this, show near (0 - z.1) = near (-(val b.1 d (doI b.1 b.2.1 ms[j]))) by omega]
  ·rw [bif_f (eqI_f (by omega)), if_neg hj0]
   refine Ret.bif (fun c => ?_) (fun c => ?_)
   ·rw [ltI_iff] at c
    rw [if_pos (by omega)]
    refine Ret.mono (level_l0 hN r p g0 d hd hb hl ms hms hlen k (j + 1) n _ _ _ _ (by omega) (by omega) (by omega) (by omega) (by omega)) fun w hw hp => ?_
    have := hw hp
    rw [if_neg (by omega)] at this
    rw [this, show near (0 - z.1) = near (-(val b.1 d (doI b.1 b.2.1 ms[j]))) by omega]
   ·rw [ltI_iff'] at c
    rw [if_neg (by omega)]
    refine Ret.mono (level_l0 hN r p g0 d hd hb hl ms hms hlen k (j + 1) n _ _ _ _ (by omega) (by omega) (by omega) (by omega) (by omega)) fun w hw hp => ?_
    have := hw hp
    rw [if_neg (by omega)] at this
    exact this
end
end Go.Proofs.Ytlfhchkhbecmbaa.Am
set_option linter.unusedVariables false
set_option linter.unusedSimpArgs false
set_option linter.unusedSectionVars false
namespace Go.Proofs.Ytlfhchkhbecmbaa.Am
open Go
noncomputable section
abbrev b00 (r : RulesT) (p : PosT) : BoardT := (r, (p, (U (keyS p), [])))
abbrev FB (r : RulesT) (p : PosT) (l : List MvT) (d : Nat) : MvT × Int := firstBest (sc (b00 r p) d) l (z0, -1001)
section
variable {N : Nat} (hN : 200000100 ≤ N) (r : RulesT) (p : PosT)
include hN
theorem reach_l0 (budget : Int) (D : Nat) (hD : D ≤ 12) : ∀ (k j n : Nat) (many : Int), j + k = D → k < n → (j = 0 ∨ (Q12 N r p (j : Int) = some (many, 0) ∧ many ≤ budget)) →
  Ret (Q16.l0 N r p (D : Int) budget n (j : Int) many ((j + 1 : Nat) : Int)) fun z => ∃ B : Nat, z.1 = (B : Int) ∧ B ≤ D ∧ (B = 0 ∨ (Q12 N r p (B : Int) = some (z.2, 0) ∧ z.2 ≤ budget)) ∧ (B = D ∨ ∃ w, Q12 N r p ((B : Int) + 1) = some w ∧ (w.2 ≠ 0 ∨ budget < w.1))
 | 0, j, n, many, hk, hn, hm => by
  obtain ⟨n, rfl⟩ := nxt (n := n) (by omega)
  rw [Q16.l0_s, Q16.s0, bif_f (leI_f (by omega))]
  exact Ret.ret ⟨j, rfl, by omega, hm, Or.inl (by omega)⟩
 | k + 1, j, n, many, hk, hn, hm => by
  obtain ⟨n, rfl⟩ := nxt (n := n) (by omega)
  rw [Q16.l0_s, Q16.s0, bif_t (leI_t (by omega))]
  obtain ⟨z, hz, hz2⟩ := tree_ret hN r p ((j + 1 : Nat) : Int)
  rw [hz, ob]
  have hz' : Q12 N r p ((j : Int) + 1) = some z := by rw [← hz]; congr 1
  by_cases c1 : z.2 = 0
  ·rw [bif_f (by rw [eqI_t c1]; rfl)]
   refine Ret.bif (fun c => ?_) (fun c => ?_)
   ·rw [ltI_iff] at c
    exact Ret.ret ⟨j, rfl, by omega, hm, Or.inr ⟨z, hz', Or.inr c⟩⟩
   ·rw [ltI_iff'] at c
    rw [w64_id (by omega) (by omega), show (((j + 1 : Nat) : Int) + 1) = ((j + 1 + 1 : Nat) : Int) by omega]
    exact reach_l0 budget D hD k (j + 1) n z.1 (by omega) (by omega) (Or.inr ⟨by rw [hz]; rw [← c1], c⟩)
  ·rw [bif_t (by rw [eqI_f c1]; rfl)]
   exact Ret.ret ⟨j, rfl, by omega, hm, Or.inr ⟨z, hz', Or.inl c1⟩⟩
theorem level_ret (hr : ROk r) (hp : POk r p) (h : resV r p = 0) {l : List MvT} (hl1 : Q36 N (b00 r p) = some l) (d : Nat) (hd : d ≤ 19) (g : GdT) :
  Ret (Q18 N r p ((d + 1 : Nat) : Int) g) fun z => (z.1, z.2.1) = FB r p l d := by
 have hb : BOk (b00 r p) := ⟨hr, hp, rfl⟩
 obtain ⟨l', hl1', _, hl2⟩ := bmoves_ret (N := N) (by omega) hb
 rw [hl1] at hl1'
 cases hl1'
 have hg := hl2 h
 have hgl := hg.len
 obtain ⟨m0, hm0⟩ : ∃ m, m ∈ cand r p := by
  cases hc : cand r p with
  | nil => exact absurd hc (cand_ne hr hp h)
  | cons m c => exact ⟨m, List.mem_cons_self ..⟩
 have hm1 := (hg.mem m0).2 hm0
 have hne : 0 < l.length := List.length_pos_of_mem hm1
 unfold Q18 Q18.e
 rw [new_good (by omega) hr hp, ob]
 show Ret ((Q36 N (b00 r p)).bind fun y3 => ll0 N r p ((d + 1 : Nat) : Int) g N (-1000) (y3.length : Int) 0 (b00 r p) 0 z0 y3 g) _
 rw [hl1, ob]
 have := level_l0 hN r p g d hd hb (by simp) l (fun m hm => cand_ok hr hp ((hg.mem m).1 hm)) (by omega) l.length 0 N (-1000) 0 z0 g (by omega) (by omega) (fun _ => rfl) (by omega) (by omega)
 refine Ret.mono this fun z hz => ?_
 have hz := hz hne
 rw [List.drop_zero, if_pos rfl] at hz
 exact hz
theorem mbest_eq (hr : ROk r) (hp : POk r p) (h : resV r p = 0) {l : List MvT} (hl1 : Q36 N (b00 r p) = some l) (d : Nat) (hd : d ≤ 19) {M : Int} (ht : Q12 N r p ((d + 1 : Nat) : Int) = some (M, 0)) :
  Q11 N r p ((d + 1 : Nat) : Int) = some ((FB r p l d).1, ((FB r p l d).2, 0)) := by
 have hb : BOk (b00 r p) := ⟨hr, hp, rfl⟩
 obtain ⟨l', hl1', _, hl2⟩ := bmoves_ret (N := N) (by omega) hb
 rw [hl1] at hl1'
 cases hl1'
 have hg := hl2 h
 have hgl := hg.len
 unfold Q11 Q11.e Q21 Q21.e
 rw [ht, ob, ob, bif_f (by rfl), new_good (by omega) hr hp, ob]
 show (bif (eqI ((d + 1 : Nat) : Int) 0) then (some (dM, ((0 : Int), (1 : Int)))) else (Q15 N (b00 r p)).bind fun y4 => bif (!(eqI y4 0)) then (some (dM, ((0 : Int), (14 : Int)))) else (Q22 N (b00 r p) ((d + 1 : Nat) : Int)).bind fun y5 => some (y5.1, (y5.2.1, 0))) = _
 rw [bif_f (eqI_f (by omega)), bresult_eq (by omega) hb, ob, bif_f (by rw [eqI_t h]; rfl)]
 unfold Q22 Q22.e
 rw [hl1, ob]
 show (Option.bind (bs0 N (b00 r p) ((d + 1 : Nat) : Int) N (-1001) (l.length : Int) 0 (b00 r p) z0 l) _) = _
 have := bestf_l0 hN (b00 r p) d hd hb (by simp) l (fun m hm => cand_ok hr hp ((hg.mem m).1 hm)) (by omega) l.length 0 N (-1001) z0 (by omega) (by omega)
 rw [List.drop_zero, show ((0 : Nat) : Int) = 0 from rfl] at this
 rw [this, ob]
def bl0 (N : Nat) (r : RulesT) (p : PosT) (depth budget : Int) (n : Nat) (d k : Int) (out : MvT) (s o5 o6 : Int) (g : GdT) : Option ((MvT × MvT) × Int) :=
 Q4.l0 N r p depth budget n d k out.1 out.2.1 out.2.2 s o5 o6 g
omit hN in
theorem bl0_s (N : Nat) (r : RulesT) (p : PosT) (depth budget : Int) (n : Nat) (d k : Int) (out : MvT) (s o5 o6 : Int) (g : GdT) : bl0 N r p depth budget (n + 1) d k out s o5 o6 g =
  bif leI k d then ((Q18 N r p k g).bind fun y6 => bl0 N r p depth budget n d (w64 (k + 1)) y6.1 y6.2.1 o5 o6 y6.2.2)
  else some ((out, (s, (o5, o6))), 0) := rfl
theorem dbest_l0 (hr : ROk r) (hp : POk r p) (h : resV r p = 0) {l : List MvT} (hl1 : Q36 N (b00 r p) = some l) (depth budget : Int) (D : Nat) (hD : D ≤ 12) (hD1 : 1 ≤ D) (o5 o6 : Int) : ∀ (k j n : Nat) (out : MvT) (s : Int) (g : GdT), j + k = D → k < n → (0 < j → (out, s) = FB r p l (j - 1)) →
  Ret (bl0 N r p depth budget n (D : Int) ((j + 1 : Nat) : Int) out s o5 o6 g) fun z => z.2 = 0 ∧ z.1.2.2.1 = o5 ∧ z.1.2.2.2 = o6 ∧ (z.1.1, z.1.2.1) = FB r p l (D - 1)
 | 0, j, n, out, s, g, hk, hn, hm => by
  obtain ⟨n, rfl⟩ := nxt (n := n) (by omega)
  rw [bl0_s, bif_f (leI_f (by omega))]
  refine Ret.ret ⟨rfl, rfl, rfl, ?_⟩
  have := hm (by omega)
  rw [show j = D by omega] at this
  exact this
 | k + 1, j, n, out, s, g, hk, hn, hm => by
  obtain ⟨n, rfl⟩ := nxt (n := n) (by omega)
  rw [bl0_s, bif_t (leI_t (by omega))]
  refine Ret.bnd (level_ret hN r p hr hp h hl1 j (by omega) g) fun z hz => ?_
  rw [w64_id (by omega) (by omega), show (((j + 1 : Nat) : Int) + 1) = ((j + 1 + 1 : Nat) : Int) by omega]
  exact dbest_l0 hr hp h hl1 depth budget D hD hD1 o5 o6 k (j + 1) n _ _ _ (by omega) (by omega) (fun _ => by rw [show j + 1 - 1 = j by omega]; exact hz)
theorem dbest_ret (depth budget : Int) : Ret (Q4 N r p depth budget) fun z => (z.2 ≠ 0 ∧ z.1 = (dM, dM)) ∨ (z.2 = 0 ∧ ∃ (d : Nat) (l : List MvT), ROk r ∧ POk r p ∧ resV r p = 0 ∧ d ≤ 11 ∧ ((d + 1 : Nat) : Int) ≤ depth ∧ z.1.2.2.1 = ((d + 1 : Nat) : Int) ∧ Q12 N r p ((d + 1 : Nat) : Int) = some (z.1.2.2.2, 0) ∧ z.1.2.2.2 ≤ budget ∧
  (((d + 1 : Nat) : Int) = depth ∨ ∃ w, Q12 N r p (((d + 1 : Nat) : Int) + 1) = some w ∧ (w.2 ≠ 0 ∨ budget < w.1)) ∧ Q36 N (b00 r p) = some l ∧ (z.1.1, z.1.2.1) = FB r p l d) := by
 obtain ⟨v, hv, hv0⟩ := pcheck (N := N) (by omega) r p
 unfold Q4 Q4.e
 by_cases h0 : v = 0
 ·obtain ⟨hr, hp⟩ := hv0.1 h0
  have hb : BOk (b00 r p) := ⟨hr, hp, rfl⟩
  rw [new_good (by omega) hr hp, ob]
  refine Ret.bif (fun _ => Ret.ret (Or.inl ⟨by decide, rfl⟩)) (fun c1 => ?_)
  refine Ret.bif (fun _ => Ret.ret (Or.inl ⟨by decide, rfl⟩)) (fun c2 => ?_)
  refine Ret.bif (fun _ => Ret.ret (Or.inl ⟨by decide, rfl⟩)) (fun c3 => ?_)
  refine Ret.bif (fun _ => Ret.ret (Or.inl ⟨by decide, rfl⟩)) (fun c4 => ?_)
  rw [ltI_iff'] at c1 c2 c3 c4
  rw [bresult_eq (by omega) hb, ob]
  by_cases h : resV r p = 0
  ·rw [bif_f (by rw [eqI_t h]; rfl)]
   obtain ⟨D, rfl⟩ : ∃ D : Nat, depth = D := ⟨depth.toNat, by omega⟩
   unfold Q16 Q16.e
   refine Ret.bnd (reach_l0 hN r p budget D (by omega) D 0 N 1 (by omega) (by omega) (Or.inl rfl)) fun z hz => ?_
   obtain ⟨B, e1, e2, e3, e4⟩ := hz
   by_cases hB : B = 0
   ·rw [bif_t (eqI_t (by omega))]
    exact Ret.ret (Or.inl ⟨by decide, rfl⟩)
   ·rw [bif_f (eqI_f (by omega))]
    obtain ⟨d, rfl⟩ : ∃ d, B = d + 1 := ⟨B - 1, by omega⟩
    obtain ⟨l, hl1, _, hl2⟩ := bmoves_ret (N := N) (by omega) hb
    have e3 := e3.resolve_left hB
    have := dbest_l0 hN r p hr hp h hl1 (D : Int) budget (d + 1) (by omega) (by omega) z.1 z.2 (d + 1) 0 N z0 0 [] (by omega) (by omega) (fun h => absurd h (by omega))
    have h5 : Ret (bl0 N r p (D : Int) budget N z.1 1 z0 0 z.1 z.2 []) fun w => w.2 = 0 ∧ w.1.2.2.1 = z.1 ∧ w.1.2.2.2 = z.2 ∧ (w.1.1, w.1.2.1) = FB r p l (d + 1 - 1) := by
     have e5 : ((0 + 1 : Nat) : Int) = 1 := rfl
     rw [e5] at this
     rw [e1] at this ⊢
     exact this
    refine Ret.mono (show Ret ((Q17 N []).bind fun y5 => Q4.l0 N r p (D : Int) budget N z.1 1 0 0 0 0 z.1 z.2 y5) _ from h5) fun w hw => ?_
    obtain ⟨w1, w2, w3, w4⟩ := hw
    refine Or.inr ⟨w1, d, l, hr, hp, h, by omega, by omega, by rw [w2, e1], by rw [w3]; exact e3.1, by rw [w3]; exact e3.2, ?_, hl1, w4⟩
    rcases e4 with e4 | e4
    ·exact Or.inl (by omega)
    ·exact Or.inr e4
  ·rw [bif_t (by rw [eqI_f h]; rfl)]
   exact Ret.ret (Or.inl ⟨by decide, rfl⟩)
 ·rw [new_bad hv h0, ob]
  show Ret (bif (!(eqI v 0)) then some ((dM, dM), v) else _) _
  rw [bif_t (by rw [eqI_f h0]; rfl)]
  exact Ret.ret (Or.inl ⟨h0, rfl⟩)
end
theorem scored_trueD : Q8 300000000 = some true := by decide +kernel
theorem counted_trueD : Q9 300000000 = some true := by decide +kernel
theorem deepen_head : ((Q5 300000000).bind fun y1 => (Q6 300000000).bind fun y2 => (Q4 300000000 y1 y2 1 50).bind fun y3 => (Q7 300000000 2).bind fun y4 => some (eqI y3.2 0 && (((eqI y3.1.1.1 y4.1) && ((eqI y3.1.1.2.1 y4.2.1) && ((eqI y3.1.1.2.2 y4.2.2) && true))) && eqI y3.1.2.2.2 6))) = some true := by decide +kernel
theorem deepenAgrees_at (r : RulesT) (p : PosT) (depth budget : Int) : Q3 300000000 r p depth budget = some true := by
 have hsc := scored_trueD
 have hct := counted_trueD
 have hhd := deepen_head
 obtain ⟨hv, hh, _⟩ := heavy_ret (N := 300000000) (by decide) r p depth
 obtain ⟨z, hz, hz2⟩ := dbest_ret (N := 300000000) (by decide) r p depth budget
 have key : (Q10 300000000 r p depth).bind (fun y8 =>
   bif y8 then some true
   else (Q4 300000000 r p depth budget).bind fun y9 =>
   bif (!(eqI y9.2 0)) then (some (((eqI y9.1.1.1 0) && ((eqI y9.1.1.2.1 0) && ((eqI y9.1.1.2.2 0) && true))) && ((eqI y9.1.2.1 0) && ((eqI y9.1.2.2.1 0) && ((eqI y9.1.2.2.2 0) && true)))))
   else (Q11 300000000 r p y9.1.2.2.1).bind fun y11 =>
   (Q12 300000000 r p y9.1.2.2.1).bind fun y12 =>
   (Q12 300000000 r p (w64 (y9.1.2.2.1 + 1))).bind fun y13 =>
   (Q13 300000000 [y11.2.2, y12.2]).bind fun y14 =>
   bif y14 then (bif ((eqI y11.1.1 y9.1.1.1) && ((eqI y11.1.2.1 y9.1.1.2.1) && ((eqI y11.1.2.2 y9.1.1.2.2) && true))) then (bif (eqI y11.2.1 y9.1.2.1) then (bif (eqI y12.1 y9.1.2.2.2) then (bif (leI y12.1 budget) then (bif (leI y9.1.2.2.1 depth) then (bif (eqI y9.1.2.2.1 depth) then some true
       else bif (!(eqI y13.2 0)) then some true
       else some (ltI budget y13.1))
      else some false)
     else some false)
    else some false)
   else some false)
  else some false)
 else some false) = some true := by
  rw [hh, ob]
  cases hv with
  | true => rfl
  | false =>
   rw [bif_f rfl, hz, ob]
   rcases hz2 with ⟨h1, h2⟩ | ⟨h1, d, l, hr, hp, h, q1, q2, q3, q4, q5, q6, q7, q8⟩
   ·rw [bif_t (by rw [eqI_f h1]; rfl), h2]
    rfl
   ·obtain ⟨z13, e13, _⟩ := tree_ret (N := 300000000) (by decide) r p (((d + 1 : Nat) : Int) + 1)
    rw [bif_f (by rw [eqI_t h1]; rfl), q3, mbest_eq (by decide) r p hr hp h q7 d (by omega) q4, ob, q4, ob, w64_id (by omega) (by omega), e13, ob]
    have a1 : (FB r p l d).1 = z.1.1 := (congrArg Prod.fst q8).symm
    have a2 : (FB r p l d).2 = z.1.2.1 := (congrArg Prod.snd q8).symm
    dsimp only
    rw [a1, a2, fine_eq (by simp) (by simp), ob, bif_t (by simp), bif_t (by simp [eqI]), bif_t (eqI_t rfl), bif_t (eqI_t rfl), bif_t (leI_t q5), bif_t (leI_t q2)]
    rcases q6 with q6 | ⟨w, e, q6⟩
    ·rw [bif_t (eqI_t q6)]
    ·rw [e13] at e
     cases e
     by_cases c : ((d + 1 : Nat) : Int) = depth
     ·rw [bif_t (eqI_t c)]
     ·rw [bif_f (eqI_f c)]
      by_cases c2 : z13.2 = 0
      ·rw [bif_f (by rw [eqI_t c2]; rfl), ltI_t (by rcases q6 with q6 | q6; exact absurd c2 q6; exact q6)]
      ·rw [bif_t (by rw [eqI_f c2]; rfl)]
 unfold Q3 Q3.e
 cases h1 : Q5 300000000 with
 | none => rw [h1] at hhd; cases hhd
 | some y1 =>
  rw [h1, ob] at hhd
  rw [ob]
  cases h2 : Q6 300000000 with
  | none => rw [h2] at hhd; cases hhd
  | some y2 =>
   rw [h2, ob] at hhd
   rw [ob]
   cases h3 : Q4 300000000 y1 y2 1 50 with
   | none => rw [h3] at hhd; cases hhd
   | some y3 =>
    rw [h3, ob] at hhd
    rw [ob]
    cases h4 : Q7 300000000 2 with
    | none => rw [h4] at hhd; cases hhd
    | some y4 =>
     rw [h4, ob, Option.some.injEq, Bool.and_eq_true, Bool.and_eq_true] at hhd
     rw [hhd.1, ob, hhd.2.1, hhd.2.2, hsc, hct]
     exact key
end
end Go.Proofs.Ytlfhchkhbecmbaa.Am
