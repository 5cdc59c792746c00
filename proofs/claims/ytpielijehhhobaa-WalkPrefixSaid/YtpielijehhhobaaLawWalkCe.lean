/- Plain: a step of walk's search adds one visit to a node and to at most one of its kids. -/
import Derived.Test.YtpielijehhhobaaLawWalkBe
set_option linter.unusedVariables false
set_option linter.unusedSimpArgs false
set_option linter.unusedSectionVars false
namespace Go.Proofs.Ytpielijehhhobaa.Am
open Go
noncomputable section
theorem nd_set {ns : LNode} {n i : Int} {v : TNode} (h0 : 0 ≤ n) (h1 : n < ns.length) (hi : 0 ≤ i) : nd (ns.set n.toNat v) i = if i = n then v else nd ns i := by
 unfold nd gD
 rw [List.getD_eq_getElem?_getD, List.getElem?_set]
 by_cases e : i = n
 ·subst e
  rw [if_pos rfl, if_pos (by omega), if_pos rfl]
  rfl
 ·rw [if_neg (by omega), if_neg e, List.getD_eq_getElem?_getD]
theorem nd_rep (ns : LNode) (t : Nat) (i : Int) : nd (ns ++ List.replicate t zN) i = nd ns i := by
 unfold nd gD
 rw [List.getD_eq_getElem?_getD, List.getD_eq_getElem?_getD, List.getElem?_append]
 split
 ·rfl
 ·rename_i h
  rw [List.getElem?_replicate, List.getElem?_eq_none (l := ns) (by omega)]
  split <;> rfl
theorem nd_out {ns : LNode} {i : Int} (h : ns.length ≤ i) : nd ns i = zN := by
 unfold nd gD
 rw [List.getD_eq_getElem?_getD, List.getElem?_eq_none (by omega)]
 rfl
def up (ns : LNode) (n g : Int) : LNode := ns.set n.toNat ((nd ns n).1, ((nd ns n).2.1, ((nd ns n).2.2.1 + 1, (nd ns n).2.2.2 + g)))
def updC (N : Nat) (n out : Int) (b : TBoard) (s : Int) (ns : LNode) : Option (Int × (TBoard × Int) × (LNode × Int)) :=
 chk (leI 0 n) <| chk (leI 0 n) <|
 let v : LNode := ns.set n.toNat ((nd ns n).1, ((nd ns n).2.1, (w64 ((nd ns n).2.2.1 + 1), (nd ns n).2.2.2)))
 chk (leI 0 n) <|
 (Q28 N b).bind fun y42 =>
 (Q57 N out (w64 (1 - y42))).bind fun y43 =>
 chk (leI 0 n) <|
 some (out, ((b, s), (v.set n.toNat ((nd v n).1, ((nd v n).2.1, ((nd v n).2.2.1, w64 ((nd v n).2.2.2 + y43)))), n)))
theorem updC_ok (N : Nat) {n : Int} {ns : LNode} (h0 : 0 ≤ n) (h1 : n < ns.length) (hv : 0 ≤ (nd ns n).2.2.1 ∧ (nd ns n).2.2.1 ≤ 1000000) (hq : 0 ≤ (nd ns n).2.2.2 ∧ (nd ns n).2.2.2 ≤ 10000000) (out : Int) (b : TBoard) (s : Int) :
  ∃ g, updC N n out b s ns = some (out, ((b, s), (up ns n g, n))) ∧ 0 ≤ g ∧ g ≤ 2 := by
 unfold updC
 rw [leI_t h0, chk_true, chk_true]
 unfold Q28 Q28.e
 obtain ⟨g, e, g0, g1⟩ := gain_ok N out (w64 (1 - b.2.1.2.2.1))
 dsimp only
 rw [chk_true, Option.bind_some, e, Option.bind_some, chk_true, nd_set h0 h1 h0, if_pos rfl]
 refine ⟨g, ?_, g0, g1⟩
 rw [List.set_set, w64_id (x := (nd ns n).2.2.1 + 1) (by omega) (by omega), w64_id (by dsimp only; omega) (by dsimp only; omega)]
 rfl
def plC (N : Nat) (x : TBoard × Int) (n_ : LNode × Int) : Option (Int × (TBoard × Int) × (LNode × Int)) := (Q55 N x).bind fun y2 => updC N n_.2 y2.1 y2.2.1 y2.2.2 n_.1
def stepC (N : Nat) (self : TBoard × Int → LNode × Int → Option (Int × (TBoard × Int) × (LNode × Int))) (x : TBoard × Int) (n : Int) (nodes : LNode) : Option (Int × (TBoard × Int) × (LNode × Int)) :=
 (Q56 N (nodes, n)).bind fun y35 =>
 chk (leI 0 n) <|
 chk ((leI 0 y35.1) && (ltI y35.1 ((nd y35.2.1 n).1.length : Int))) <|
 (Q50 N x.1 (gD z0 (nd y35.2.1 n).1 y35.1)).bind fun y36 =>
 chk (leI 0 n) <|
 chk ((leI 0 y35.1) && (ltI y35.1 ((nd y35.2.1 n).2.1.length : Int))) <|
 chk (eqI ((nd y35.2.1 n).2.1.length : Int) ((nd y35.2.1 n).2.1.length : Int)) <|
 (self (y36, x.2) (y35.2.1, gD (-1 : Int) (nd y35.2.1 n).2.1 y35.1)).bind fun y38 =>
 (Q51 N y38.2.1.1).bind fun y39 =>
 updC N n y38.1 y39.2 y38.2.1.2 y38.2.2.1
def exL (N : Nat) (self : TBoard × Int → LNode × Int → Option (Int × (TBoard × Int) × (LNode × Int))) (x : TBoard × Int) (n_ : LNode × Int) (k : Nat) (m t : Int) (nodes : LNode) : Option (Int × (TBoard × Int) × (LNode × Int)) :=
 Q33.l0 N self x n_ k m t nodes
theorem exL_s (N : Nat) (self : TBoard × Int → LNode × Int → Option (Int × (TBoard × Int) × (LNode × Int))) (x : TBoard × Int) (n_ : LNode × Int) (k : Nat) (m t : Int) (nodes : LNode) :
  exL N self x n_ (k + 1) m t nodes = bif ltI t m then (chk (leI 0 n_.2) <|
   chk ((eqI ((nd nodes n_.2).2.1.length : Int) ((nd (nodes ++ [zN]) n_.2).2.1.length : Int)) && (true && capOk 8 ((nd (nodes ++ [zN]) n_.2).2.1.length + 1))) <|
   chk (leI 0 n_.2) <|
   chk ((eqI n_.2 n_.2) && ((eqI n_.2 n_.2) && (eqI (((nd nodes n_.2).2.1.length : Int) + 1) (((nd (nodes ++ [zN]) n_.2).2.1.length : Int) + 1)))) <|
   exL N self x n_ k m (w64 (t + 1)) ((nodes ++ [zN]).set n_.2.toNat ((nd (nodes ++ [zN]) n_.2).1, (((nd (nodes ++ [zN]) n_.2).2.1 ++ [(nodes.length : Int)]), (nd (nodes ++ [zN]) n_.2).2.2))))
  else stepC N self x n_.2 nodes := rfl
def sm (ns : LNode) (n : Int) (m : LMv) : LNode := ns.set n.toNat (m, (nd ns n).2)
theorem step_e (N : Nat) (x : TBoard × Int) (n_ : LNode × Int) : Q33 (N + 1) x n_ =
  chk (leI 0 n_.2) (bif (eqI (nd n_.1 n_.2).2.2.1 0) then plC N x n_ else (Q32 N x.1).bind fun y9 =>
  bif (!(eqI y9 0)) then plC N x n_ else chk (leI 0 n_.2) <|
  bif (eqI ((nd n_.1 n_.2).2.1.length : Int) 0) then ((Q34 N x.1).bind fun y18 =>
   chk (leI 0 n_.2) <| chk (leI 0 n_.2) <| exL N (Q33 N) x n_ N ((nd (sm n_.1 n_.2 y18) n_.2).1.length : Int) 0 (sm n_.1 n_.2 y18))
  else stepC N (Q33 N) x n_.2 n_.1) := rfl
def exN (ns : LNode) (n : Int) (t : Nat) : LNode := (ns ++ List.replicate t zN).set n.toNat ((nd ns n).1, ((List.range t).map (fun i : Nat => (ns.length : Int) + (i : Int)), (nd ns n).2.2))
theorem exN_len (ns : LNode) (n : Int) (t : Nat) : (exN ns n t).length = ns.length + t := by
 unfold exN; simp
theorem exN_nd {ns : LNode} {n i : Int} (h0 : 0 ≤ n) (h1 : n < ns.length) (hi : 0 ≤ i) (t : Nat) : nd (exN ns n t) i = if i = n then ((nd ns n).1, ((List.range t).map (fun i : Nat => (ns.length : Int) + (i : Int)), (nd ns n).2.2)) else nd ns i := by
 unfold exN
 rw [nd_set h0 (by simp; omega) hi, nd_rep]
theorem exN_nx {ns : LNode} {n : Int} (h0 : 0 ≤ n) (h1 : n < ns.length) (t : Nat) :
  (exN ns n t ++ [zN]).set n.toNat ((nd (exN ns n t ++ [zN]) n).1, (((nd (exN ns n t ++ [zN]) n).2.1 ++ [((exN ns n t).length : Int)]), (nd (exN ns n t ++ [zN]) n).2.2)) = exN ns n (t + 1) := by
 have e1 : nd (exN ns n t ++ [zN]) n = nd (exN ns n t) n := nd_rep (exN ns n t) 1 n
 rw [e1, exN_nd h0 h1 h0, if_pos rfl, exN_len]
 unfold exN
 rw [← List.set_append_left _ _ (by simp; omega), List.set_set, List.append_assoc, ← List.replicate_succ', List.range_succ, List.map_append]
 rfl
theorem exL_ok (N : Nat) (self : TBoard × Int → LNode × Int → Option (Int × (TBoard × Int) × (LNode × Int))) (x : TBoard × Int) (n0 : LNode) {ns : LNode} {n : Int} (h0 : 0 ≤ n) (h1 : n < ns.length) : ∀ (j k t : Nat), t + j ≤ 8192 → j < k →
  exL N self x (n0, n) k ((t + j : Nat) : Int) (t : Int) (exN ns n t) = stepC N self x n (exN ns n (t + j))
 | 0, k, t, hm, hk => by
  obtain ⟨k, rfl⟩ := nxt (n := k) (by omega)
  rw [exL_s, bif_f (ltI_f (by omega))]
  rfl
 | j + 1, k, t, hm, hk => by
  obtain ⟨k, rfl⟩ := nxt (n := k) (by omega)
  rw [exL_s, bif_t (ltI_t (by omega))]
  dsimp only
  have e1 : nd (exN ns n t ++ [zN]) n = nd (exN ns n t) n := nd_rep (exN ns n t) 1 n
  rw [exN_nx h0 h1, e1, leI_t h0, chk_true, eqI_self, eqI_self, eqI_self, Bool.true_and, Bool.true_and, Bool.true_and, chk_true, chk_cap, Bool.true_and, chk_true, w64_id (by omega) (by omega), show ((t : Int) + 1) = ((t + 1 : Nat) : Int) by omega, show t + (j + 1) = (t + 1) + j by omega]
  ·exact exL_ok N self x n0 h0 h1 j k (t + 1) (by omega) (by omega)
  ·rw [exN_nd h0 h1 h0, if_pos rfl]
   simp
   omega
def kid (ns : LNode) (i j : Int) : Int := gD (-1 : Int) (ks ns i) j
def mvB (b : BoardT) : List MvT := mvP b.1 b.2.1
structure Inv (ns : LNode) (g : Int → BoardT) (D V : Int) : Prop where
 bo : ∀ i : Int, 0 ≤ i → i < ns.length → BOk (g i) ∧ ((g i).2.2.2.length : Int) ≤ D
 vq : ∀ i : Int, 0 ≤ i → i < ns.length → 0 ≤ (nd ns i).2.2.1 ∧ (nd ns i).2.2.1 ≤ V ∧ 0 ≤ (nd ns i).2.2.2 ∧ (nd ns i).2.2.2 ≤ 2 * (nd ns i).2.2.1
 ms : ∀ i : Int, 0 ≤ i → i < ns.length → 0 < (ks ns i).length → (nd ns i).1 = mvB (g i) ∧ (ks ns i).length = (mvB (g i)).length
 kd : ∀ i j : Int, 0 ≤ i → i < ns.length → 0 ≤ j → j < (ks ns i).length → i < kid ns i j ∧ kid ns i j < ns.length ∧ g (kid ns i j) = makeB (g i) (gD z0 (mvB (g i)) j)
 un : ∀ i j i' j' : Int, 0 ≤ i → i < ns.length → 0 ≤ j → j < (ks ns i).length → 0 ≤ i' → i' < ns.length → 0 ≤ j' → j' < (ks ns i').length → kid ns i j = kid ns i' j' → i = i' ∧ j = j'
def kidv (ns : LNode) (n j : Int) : Int × Int := if (ks ns n).length = 0 then (0, 0) else (nd ns (kid ns n j)).2.2
structure Kv (ns ns' : LNode) (n : Int) (M : Nat) : Prop where
 ne : 0 < (ks ns' n).length
 ex : ∃ j d : Int, 0 ≤ j ∧ j < (M : Int) ∧ 0 ≤ d ∧ d ≤ 2 ∧ kidv ns' n j = ((kidv ns n j).1 + 1, (kidv ns n j).2 + d) ∧ (∀ a : Int, 0 ≤ a → a < (M : Int) → a ≠ j → kidv ns' n a = kidv ns n a) ∧
  (((kidv ns n j).1 = 0 ∧ ∀ a : Int, 0 ≤ a → a < j → (kidv ns n a).1 ≠ 0) ∨ ∀ a : Int, 0 ≤ a → a < M → (kidv ns n a).1 ≠ 0)
structure Po (ns ns' : LNode) (g g' : Int → BoardT) (n s s' D V : Int) : Prop where
 inv : Inv ns' g' D V
 len : ns.length ≤ ns'.length
 gg : ∀ i : Int, 0 ≤ i → i < ns.length → g' i = g i
 s0 : s ≤ s'
 s1 : s' ≤ s + 200
 lo : ∀ i : Int, 0 ≤ i → i < n → nd ns' i = nd ns i
 sib : ∀ p j : Int, 0 ≤ p → p < n → 0 ≤ j → j < (ks ns p).length → kid ns p j ≠ n → nd ns' (kid ns p j) = nd ns (kid ns p j)
 me : (nd ns' n).2.2.1 = (nd ns n).2.2.1 + 1 ∧ (nd ns n).2.2.2 ≤ (nd ns' n).2.2.2 ∧ (nd ns' n).2.2.2 ≤ (nd ns n).2.2.2 + 2
 kv : (nd ns n).2.2.1 ≠ 0 → resV (g n).1 (g n).2.1 = 0 → Kv ns ns' n (mvB (g n)).length
theorem up_len (ns : LNode) (n d : Int) : (up ns n d).length = ns.length := by unfold up; simp
theorem up_nd {ns : LNode} {n i : Int} (h0 : 0 ≤ n) (h1 : n < ns.length) (hi : 0 ≤ i) (d : Int) : nd (up ns n d) i = if i = n then ((nd ns n).1, ((nd ns n).2.1, ((nd ns n).2.2.1 + 1, (nd ns n).2.2.2 + d))) else nd ns i := by
 unfold up
 rw [nd_set h0 h1 hi]
theorem up_ks {ns : LNode} {n i : Int} (h0 : 0 ≤ n) (h1 : n < ns.length) (hi : 0 ≤ i) (d : Int) : ks (up ns n d) i = ks ns i := by
 unfold ks
 rw [up_nd h0 h1 hi]
 split
 ·rename_i h; rw [h]
 ·rfl
theorem up_kid {ns : LNode} {n i : Int} (h0 : 0 ≤ n) (h1 : n < ns.length) (hi : 0 ≤ i) (d j : Int) : kid (up ns n d) i j = kid ns i j := by
 unfold kid
 rw [up_ks h0 h1 hi]
theorem up_inv {ns : LNode} {g : Int → BoardT} {D V n d : Int} (hI : Inv ns g D V) (h0 : 0 ≤ n) (h1 : n < ns.length) (hv : (nd ns n).2.2.1 + 1 ≤ V) (d0 : 0 ≤ d) (d1 : d ≤ 2) : Inv (up ns n d) g D V := by
 have hl := up_len ns n d
 refine ⟨fun i a b => hI.bo i a (by omega), fun i a b => ?_, fun i a b c => ?_, fun i j a b c e => ?_, fun i j i' j' a b c e a' b' c' e' => ?_⟩
 ·rw [up_nd h0 h1 a]
  have := hI.vq i a (by omega)
  split
  ·rename_i h
   subst h
   dsimp only
   omega
  ·exact this
 ·rw [up_ks h0 h1 a] at c ⊢
  have := hI.ms i a (by omega) c
  refine ⟨?_, this.2⟩
  rw [up_nd h0 h1 a]
  split
  ·rename_i h; subst h; exact this.1
  ·exact this.1
 ·rw [up_ks h0 h1 a] at e
  rw [up_kid h0 h1 a, hl]
  exact hI.kd i j a (by omega) c e
 ·rw [up_ks h0 h1 a] at e
  rw [up_ks h0 h1 a'] at e'
  rw [up_kid h0 h1 a, up_kid h0 h1 a']
  exact hI.un i j i' j' a (by omega) c e a' (by omega) c' e'
theorem Inv.mono {ns : LNode} {g : Int → BoardT} {D V D' V' : Int} (hI : Inv ns g D V) (hD : D ≤ D') (hV : V ≤ V') : Inv ns g D' V' :=
 ⟨fun i a b => ⟨(hI.bo i a b).1, by have := (hI.bo i a b).2; omega⟩, fun i a b => by have := hI.vq i a b; omega, hI.ms, hI.kd, hI.un⟩
theorem leaf_ok {N : Nat} (hN : 200000000 ≤ N) {ns : LNode} {g : Int → BoardT} {D V n s : Int} (hI : Inv ns g D V) (hD : D ≤ 90000) (hV : V ≤ 1000000) (h0 : 0 ≤ n) (h1 : n < ns.length) (s0 : 0 ≤ s) (s1 : s ≤ 900000000000)
  (hlf : (nd ns n).2.2.1 = 0 ∨ resV (g n).1 (g n).2.1 ≠ 0) : ∃ out s' ns', plC N (g n, s) (ns, n) = some (out, ((g n, s'), (ns', n))) ∧ Po ns ns' g g n s s' D (V + 1) := by
 obtain ⟨hb, hl⟩ := hI.bo n h0 h1
 obtain ⟨v0, v1, q0, q1⟩ := hI.vq n h0 h1
 obtain ⟨out, s', e, s2, s3⟩ := play_ok hN (s := s) hb (by omega) s0 s1
 unfold plC
 rw [e, Option.bind_some]
 obtain ⟨d, e2, d0, d1⟩ := updC_ok N h0 h1 (by omega) (by omega) out (g n) s'
 refine ⟨out, s', _, e2, up_inv (hI.mono (by omega) (by omega)) h0 h1 (by omega) d0 d1, Nat.le_of_eq (up_len ..).symm, fun _ _ _ => rfl, s2, s3, fun i a b => ?_, fun p j a b c e ne => ?_, ?_, fun a b => ?_⟩
 ·rw [up_nd h0 h1 a, if_neg (by omega)]
 ·have := (hI.kd p j a (by omega) c e).1
  rw [up_nd h0 h1 (by omega), if_neg ne]
 ·rw [up_nd h0 h1 h0, if_pos rfl]
  dsimp only
  omega
 ·rcases hlf with h | h
  ·exact absurd h a
  ·exact absurd b h
theorem mvB_ok {b : BoardT} (hb : BOk b) {j : Int} (j0 : 0 ≤ j) (j1 : j < (mvB b).length) : MoveOk b.1 b.2.1 (gD z0 (mvB b) j) := by
 obtain ⟨j, rfl⟩ : ∃ a : Nat, j = a := ⟨j.toNat, by omega⟩
 rw [gD_nat (by omega)]
 exact ((mvP_spec hb.r hb.p).2 _ (List.getElem_mem _)).1
theorem stepC_ok {N : Nat} (hN : 200000000 ≤ N) {self : TBoard × Int → LNode × Int → Option (Int × (TBoard × Int) × (LNode × Int))} {ns : LNode} {g : Int → BoardT} {D V D' V' n s : Int} (hI : Inv ns g D V) (hD : D ≤ 90000) (hV : V ≤ 1000000) (hVV : V + 1 ≤ V') (h0 : 0 ≤ n) (h1 : n < ns.length)
  (hk : 0 < (ks ns n).length)
  (hs : ∀ j : Int, 0 ≤ j → j < (ks ns n).length → ∃ out s' ns' g', self (g (kid ns n j), s) (ns, kid ns n j) = some (out, ((g (kid ns n j), s'), (ns', kid ns n j))) ∧ Po ns ns' g g' (kid ns n j) s s' D' V') :
  ∃ out s' ns' g', stepC N self (g n, s) n ns = some (out, ((g n, s'), (ns', n))) ∧ Po ns ns' g g' n s s' D' V' := by
 obtain ⟨hb, hl⟩ := hI.bo n h0 h1
 obtain ⟨v0, v1, q0, q1⟩ := hI.vq n h0 h1
 obtain ⟨hms, hlen⟩ := hI.ms n h0 h1 hk
 have hm8 : (mvB (g n)).length ≤ 8192 := (mvP_spec hb.r hb.p).1
 obtain ⟨j, e, j0, j1, hj⟩ := pick_ok hN ns n h0 (fun i a b => by have := (hI.kd n i h0 h1 a b).1; unfold kid at this; omega) (by omega) hk
 obtain ⟨k0, k1, kg⟩ := hI.kd n j h0 h1 j0 j1
 obtain ⟨out, s', ns', g', e2, hP⟩ := hs j j0 j1
 have hmo := mvB_ok hb j0 (show j < ((mvB (g n)).length : Int) by omega)
 unfold stepC
 rw [e, Option.bind_some]
 dsimp only
 rw [leI_t h0, chk_true, hms, chk_idx j0 (by omega), make_eq hb (by omega) hmo, Option.bind_some, chk_true, chk_idx j0 (show j < ((nd ns n).2.1.length : Int) from j1), eqI_self, chk_true, ← kg]
 rw [show gD (-1 : Int) (nd ns n).2.1 j = kid ns n j from rfl, e2, Option.bind_some, kg, undo_make hb (by omega) hmo, Option.bind_some]
 dsimp only
 have h1' : n < ns'.length := by have := hP.len; omega
 have en : nd ns' n = nd ns n := hP.lo n h0 k0
 obtain ⟨d, e3, d0, d1⟩ := updC_ok N (n := n) (ns := ns') h0 h1' (by rw [en]; omega) (by rw [en]; omega) out (g n) s'
 have ek : ks ns' n = ks ns n := by unfold ks; rw [en]
 have ekd : ∀ a, kid ns' n a = kid ns n a := fun a => by unfold kid; rw [ek]
 have oth : ∀ p a : Int, 0 ≤ p → p ≤ n → 0 ≤ a → a < (ks ns p).length → kid ns p a ≠ n → (p = n → a ≠ j) → nd (up ns' n d) (kid ns p a) = nd ns (kid ns p a) := fun p a p0 p1 a0 a1 ne ne2 => by
  have hk2 := (hI.kd p a p0 (by omega) a0 a1).1
  rw [up_nd h0 h1' (by omega), if_neg ne]
  refine hP.sib p a p0 (by omega) a0 a1 fun e => ?_
  obtain ⟨x, y⟩ := hI.un p a n j p0 (by omega) a0 a1 h0 h1 j0 j1 e
  exact ne2 x y
 refine ⟨out, s', _, g', e3, up_inv hP.inv h0 h1' (by rw [en]; omega) d0 d1, ?_, hP.gg, hP.s0, hP.s1, fun i a b => ?_, fun p a p0 p1 a0 a1 ne => ?_, ?_, fun _ _ => ?_⟩
 ·rw [up_len]; exact hP.len
 ·rw [up_nd h0 h1' a, if_neg (by omega)]
  exact hP.lo i a (by omega)
 ·exact oth p a p0 (by omega) a0 a1 ne fun e => absurd e (by omega)
 ·rw [up_nd h0 h1' h0, if_pos rfl, en]
  dsimp only
  omega
 ·have hks : (ks ns n).length ≠ 0 := by omega
  have hkv : ∀ a, kidv ns n a = (nd ns (kid ns n a)).2.2 := fun a => by unfold kidv; rw [if_neg hks]
  have hkv' : ∀ a, kidv (up ns' n d) n a = (nd (up ns' n d) (kid ns n a)).2.2 := fun a => by
   unfold kidv
   rw [up_ks h0 h1' h0, ek, if_neg hks, up_kid h0 h1' h0, ekd]
  refine ⟨by rw [up_ks h0 h1' h0, ek]; exact hk, j, (nd ns' (kid ns n j)).2.2.2 - (nd ns (kid ns n j)).2.2.2, j0, by omega, ?_, ?_, ?_, fun a a0 a1 ne => ?_, ?_⟩
  ·have := hP.me; omega
  ·have := hP.me; omega
  ·rw [hkv, hkv', up_nd h0 h1' (by omega), if_neg (by omega)]
   have := hP.me.1
   exact Prod.ext this (by dsimp only; omega)
  ·rw [hkv, hkv', oth n a h0 (Int.le_refl _) a0 (by omega) (by have := (hI.kd n a h0 h1 a0 (by omega)).1; omega) fun _ => ne]
  ·rcases hj with ⟨z, hz⟩ | hz
   ·exact .inl ⟨by rw [hkv]; exact z, fun a a0 a1 => by rw [hkv]; exact hz a a0 a1⟩
   ·exact .inr fun a a0 a1 => by rw [hkv]; exact hz a a0 (by omega)
theorem gD_range {d : Int} {M : Nat} {f : Nat → Int} {j : Int} (j0 : 0 ≤ j) (j1 : j < M) : gD d ((List.range M).map f) j = f j.toNat := by
 obtain ⟨j, rfl⟩ : ∃ a : Nat, j = a := ⟨j.toNat, by omega⟩
 rw [gD_nat (by simp; omega)]
 simp
def gx (ns : LNode) (g : Int → BoardT) (n : Int) : Int → BoardT := fun i => if i < ns.length then g i else makeB (g n) (gD z0 (mvB (g n)) (i - ns.length))
theorem ex_inv {ns : LNode} {g : Int → BoardT} {D V n : Int} (hI : Inv ns g D V) (hD : D ≤ 90000) (h0 : 0 ≤ n) (h1 : n < ns.length) (hk : (ks ns n).length = 0) :
  Inv (exN (sm ns n (mvB (g n))) n (mvB (g n)).length) (gx ns g n) (D + 1) V ∧ (∀ i : Int, 0 ≤ i → i ≠ n → nd (exN (sm ns n (mvB (g n))) n (mvB (g n)).length) i = nd ns i) ∧
  (nd (exN (sm ns n (mvB (g n))) n (mvB (g n)).length) n).2.2 = (nd ns n).2.2 ∧ (ks (exN (sm ns n (mvB (g n))) n (mvB (g n)).length) n).length = (mvB (g n)).length ∧
  (∀ j : Int, 0 ≤ j → j < (mvB (g n)).length → kid (exN (sm ns n (mvB (g n))) n (mvB (g n)).length) n j = ns.length + j) ∧ (exN (sm ns n (mvB (g n))) n (mvB (g n)).length).length = ns.length + (mvB (g n)).length := by
 obtain ⟨hb, hl⟩ := hI.bo n h0 h1
 have hmo : ∀ j : Int, 0 ≤ j → j < (mvB (g n)).length → MoveOk (g n).1 (g n).2.1 (gD z0 (mvB (g n)) j) := fun j j0 j1 => mvB_ok hb j0 j1
 unfold gx
 generalize hmm : mvB (g n) = m at *
 have hsl : (sm ns n m).length = ns.length := by unfold sm; simp
 have hnd : ∀ i : Int, 0 ≤ i → nd (exN (sm ns n m) n m.length) i = if i = n then (m, ((List.range m.length).map (fun i : Nat => (ns.length : Int) + (i : Int)), (nd ns n).2.2)) else nd ns i := fun i hi => by
  rw [exN_nd h0 (by omega) hi, hsl]
  unfold sm
  rw [nd_set h0 h1 h0, if_pos rfl, nd_set h0 h1 hi]
  split <;> rfl
 have hlen : (exN (sm ns n m) n m.length).length = ns.length + m.length := by rw [exN_len, hsl]
 generalize hX : exN (sm ns n m) n m.length = X at *
 have kn : ks X n = (List.range m.length).map (fun i : Nat => (ns.length : Int) + (i : Int)) := by unfold ks; rw [hnd n h0, if_pos rfl]
 have knl : (ks X n).length = m.length := by rw [kn]; simp
 have ko : ∀ i : Int, 0 ≤ i → i ≠ n → ks X i = ks ns i := fun i hi ne => by unfold ks; rw [hnd i hi, if_neg ne]
 have kk : ∀ j : Int, 0 ≤ j → j < m.length → kid X n j = ns.length + j := fun j j0 j1 => by
  unfold kid
  rw [kn, gD_range j0 j1]
  omega
 have kq : ∀ i j : Int, 0 ≤ i → i ≠ n → kid X i j = kid ns i j := fun i j hi ne => by unfold kid; rw [ko i hi ne]
 have hout : ∀ i : Int, (ns.length : Int) ≤ i → (ks ns i).length = 0 := fun i hi => by unfold ks; rw [nd_out hi]; rfl
 refine ⟨⟨fun i a b => ?_, fun i a b => ?_, fun i a b c => ?_, fun i j a b c e => ?_, fun i j i' j' a b c e a' b' c' e' => ?_⟩, fun i a ne => by rw [hnd i a, if_neg ne], by rw [hnd n h0, if_pos rfl], knl, kk, hlen⟩
 ·by_cases hi : i < ns.length
  ·rw [if_pos hi]
   have := hI.bo i a hi
   exact ⟨this.1, by omega⟩
  ·rw [if_neg hi]
   have hm := hmo (i - ns.length) (by omega) (by omega)
   exact ⟨make_ok hb (by omega) hm, by rw [makeB_len]; omega⟩
 ·rw [hnd i a]
  split
  ·rename_i h; subst h; exact hI.vq i h0 h1
  ·by_cases hi : i < ns.length
   ·exact hI.vq i a hi
   ·rw [nd_out (by omega)]
    have := hI.vq n h0 h1
    exact ⟨Int.le_refl _, by show (0 : Int) ≤ V; omega, Int.le_refl _, Int.le_refl _⟩
 ·by_cases hi : i = n
  ·subst hi
   rw [if_pos h1, hnd i h0, if_pos rfl, knl, hmm]
   exact ⟨rfl, rfl⟩
  ·rw [ko i a hi] at c ⊢
   by_cases hil : i < ns.length
   ·rw [if_pos hil, hnd i a, if_neg hi]
    exact hI.ms i a hil c
   ·rw [hout i (by omega)] at c
    omega
 ·by_cases hi : i = n
  ·subst hi
   rw [knl] at e
   rw [kk j c e, if_neg (by omega), if_pos h1, hlen]
   refine ⟨by omega, by omega, ?_⟩
   rw [hmm, show ((ns.length : Int) + j - ns.length) = j by omega]
  ·rw [ko i a hi] at e
   rw [kq i j a hi]
   by_cases hil : i < ns.length
   ·obtain ⟨x, y, z⟩ := hI.kd i j a hil c e
    rw [if_pos y, if_pos hil]
    exact ⟨x, by omega, z⟩
   ·rw [hout i (by omega)] at e
    omega
 ·have big : ∀ i j : Int, 0 ≤ i → i ≠ n → 0 ≤ j → j < (ks X i).length → i < ns.length ∧ j < (ks ns i).length ∧ kid X i j < ns.length := fun i j a ne c e => by
   rw [ko i a ne] at e
   by_cases hil : i < ns.length
   ·refine ⟨hil, e, ?_⟩
    rw [kq i j a ne]
    exact (hI.kd i j a hil c e).2.1
   ·rw [hout i (by omega)] at e
    omega
  by_cases hi : i = n
  ·subst hi
   by_cases hi' : i' = i
   ·subst hi'
    rw [knl] at e e'
    rw [kk j c e, kk j' c' e']
    intro h
    exact ⟨rfl, by omega⟩
   ·have := big i' j' a' hi' c' e'
    rw [knl] at e
    rw [kk j c e]
    intro h
    omega
  ·have hb1 := big i j a hi c e
   by_cases hi' : i' = n
   ·subst hi'
    rw [knl] at e'
    rw [kk j' c' e']
    intro h
    omega
   ·have hb2 := big i' j' a' hi' c' e'
    rw [kq i j a hi, kq i' j' a' hi']
    exact hI.un i j i' j' a hb1.1 c hb1.2.1 a' hb2.1 c' hb2.2.1
theorem Po.mono {ns ns' : LNode} {g g' : Int → BoardT} {n s s' D V D' V' : Int} (h : Po ns ns' g g' n s s' D V) (hD : D ≤ D') (hV : V ≤ V') : Po ns ns' g g' n s s' D' V' :=
 ⟨h.inv.mono hD hV, h.len, h.gg, h.s0, h.s1, h.lo, h.sib, h.me, h.kv⟩
theorem step_leaf {N : Nat} (hN : 200000000 ≤ N) {ns : LNode} {g : Int → BoardT} {D V n s : Int} (hI : Inv ns g D V) (hD : D ≤ 90000) (hV : V ≤ 1000000) (h0 : 0 ≤ n) (h1 : n < ns.length) (s0 : 0 ≤ s) (s1 : s ≤ 900000000000)
  (hlf : (nd ns n).2.2.1 = 0 ∨ resV (g n).1 (g n).2.1 ≠ 0) : ∃ out s' ns', Q33 (N + 1) (g n, s) (ns, n) = some (out, ((g n, s'), (ns', n))) ∧ Po ns ns' g g n s s' D (V + 1) := by
 obtain ⟨out, s', ns', e, hP⟩ := leaf_ok hN hI hD hV h0 h1 s0 s1 hlf
 refine ⟨out, s', ns', ?_, hP⟩
 rw [step_e]
 dsimp only
 rw [leI_t h0, chk_true]
 by_cases hv : (nd ns n).2.2.1 = 0
 ·rw [bif_t (eqI_t hv)]
  exact e
 ·have hr := hlf.resolve_left hv
  rw [bif_f (eqI_f hv), bresult_eq hN (hI.bo n h0 h1).1, Option.bind_some, bif_t (by rw [eqI_f hr]; rfl)]
  exact e
theorem exN_zero {ns : LNode} {n : Int} (h0 : 0 ≤ n) (h1 : n < ns.length) (hk : (ks ns n).length = 0) (m : LMv) : exN (sm ns n m) n 0 = sm ns n m := by
 have hk' : (nd ns n).2.1 = [] := List.length_eq_zero_iff.1 hk
 unfold exN
 rw [List.replicate_zero, List.append_nil]
 have e : nd (sm ns n m) n = (m, (nd ns n).2) := by unfold sm; rw [nd_set h0 h1 h0, if_pos rfl]
 rw [e]
 unfold sm
 rw [List.set_set, List.range_zero, List.map_nil]
 dsimp only
 rw [← hk']
theorem step_of {N : Nat} (hN : 200000001 ≤ N) {ns : LNode} {g : Int → BoardT} {D V n s : Int} (hI : Inv ns g D V) (hD : D ≤ 80000) (hV : V ≤ 999999) (h0 : 0 ≤ n) (h1 : n < ns.length) (s0 : 0 ≤ s) (s1 : s ≤ 900000000000)
  (hs : ∀ j : Int, 0 ≤ j → j < (ks ns n).length → ∃ out s' ns' g', Q33 N (g (kid ns n j), s) (ns, kid ns n j) = some (out, ((g (kid ns n j), s'), (ns', kid ns n j))) ∧ Po ns ns' g g' (kid ns n j) s s' (D + 1) (V + 1)) :
  ∃ out s' ns' g', Q33 (N + 1) (g n, s) (ns, n) = some (out, ((g n, s'), (ns', n))) ∧ Po ns ns' g g' n s s' (D + 1) (V + 1) := by
 obtain ⟨hb, hl⟩ := hI.bo n h0 h1
 by_cases hlf : (nd ns n).2.2.1 = 0 ∨ resV (g n).1 (g n).2.1 ≠ 0
 ·obtain ⟨out, s', ns', e, hP⟩ := step_leaf (N := N) (by omega) hI (by omega) (by omega) h0 h1 s0 s1 hlf
  exact ⟨out, s', ns', g, e, hP.mono (by omega) (by omega)⟩
 ·have hv : (nd ns n).2.2.1 ≠ 0 := fun e => hlf (.inl e)
  have hr : resV (g n).1 (g n).2.1 = 0 := Classical.byContradiction fun e => hlf (.inr e)
  rw [step_e]
  dsimp only
  rw [leI_t h0, chk_true, bif_f (eqI_f hv), bresult_eq (by omega) hb, Option.bind_some, bif_f (by rw [eqI_t hr]; rfl), chk_true]
  by_cases hk : (ks ns n).length = 0
  ·rw [bif_t (eqI_t (show (((nd ns n).2.1.length : Nat) : Int) = 0 by unfold ks at hk; omega)), bmoves_mvP (by omega) hb, Option.bind_some, chk_true, chk_true]
   have hms : (nd (sm ns n (mvP (g n).1 (g n).2.1)) n).1 = mvB (g n) := by unfold sm; rw [nd_set h0 h1 h0, if_pos rfl]; rfl
   rw [hms]
   have hm8 : (mvB (g n)).length ≤ 8192 := (mvP_spec hb.r hb.p).1
   have hmn : (mvB (g n)).length ≠ 0 := fun e => mvP_ne hb.r hb.p hr (List.length_eq_zero_iff.1 e)
   have hsl : (sm ns n (mvB (g n))).length = ns.length := by unfold sm; simp
   have hex := exL_ok N (Q33 N) (g n, s) ns (ns := sm ns n (mvB (g n))) h0 (by omega) (mvB (g n)).length N 0 (by omega) (by omega)
   rw [exN_zero h0 h1 hk, Nat.zero_add] at hex
   rw [show mvP (g n).1 (g n).2.1 = mvB (g n) from rfl]
   obtain ⟨hI', ho, hq, hkl, hkk, hlen⟩ := ex_inv hI (by omega) h0 h1 hk
   rw [show ((0 : Int)) = ((0 : Nat) : Int) from rfl, hex]
   generalize exN (sm ns n (mvB (g n))) n (mvB (g n)).length = X at *
   have hgn : gx ns g n n = g n := by unfold gx; rw [if_pos h1]
   obtain ⟨N, rfl⟩ : ∃ a, N = a + 1 := ⟨N - 1, by omega⟩
   obtain ⟨out, s', ns', g', e, hP⟩ := stepC_ok (N := N + 1) (by omega) (self := Q33 (N + 1)) (D' := D + 1) (V' := V + 1) (s := s) hI' (by omega) (by omega) (by omega) h0 (by omega) (by omega) fun j j0 j1 => by
    have hkj := hkk j j0 (by omega)
    obtain ⟨out, s', ns', e, hP⟩ := step_leaf (N := N) (n := kid X n j) (s := s) (by omega) hI' (by omega) (by omega) (by omega) (by omega) s0 s1 (.inl (by rw [hkj, ho _ (by omega) (by omega), nd_out (by omega)]))
    exact ⟨out, s', ns', _, e, hP⟩
   rw [hgn] at e
   have hk0 : ∀ a : Int, kidv ns n a = (0, 0) := fun a => by unfold kidv; rw [if_pos hk]
   have hk1 : ∀ a : Int, 0 ≤ a → a < (mvB (g n)).length → kidv X n a = (0, 0) := fun a a0 a1 => by
    unfold kidv
    rw [if_neg (by omega), hkk a a0 a1, ho _ (by omega) (by omega), nd_out (by omega)]
   refine ⟨out, s', ns', g', e, hP.inv, by have := hP.len; omega, fun i a b => ?_, hP.s0, hP.s1, fun i a b => ?_, fun p j a b c e ne => ?_, ?_, fun _ _ => ?_⟩
   ·rw [hP.gg i a (by omega)]
    unfold gx
    rw [if_pos b]
   ·rw [hP.lo i a b, ho i a (by omega)]
   ·have hne : p ≠ n := by omega
    have ek : ks X p = ks ns p := by unfold ks; rw [ho p a hne]
    have ekd : kid X p j = kid ns p j := by unfold kid; rw [ek]
    have hpk := (hI.kd p j a (by omega) c e).1
    have := hP.sib p j a b c (by rw [ek]; exact e) (by rw [ekd]; exact ne)
    rw [ekd, ho _ (by omega) ne] at this
    exact this
   ·have := hP.me
    rw [hq] at this
    exact this
   ·obtain ⟨ne, j, d, j0, j1, d0, d1, q1, q2, q3⟩ := hP.kv (by rw [hq]; exact hv) (by rw [hgn]; exact hr)
    rw [hgn] at j1 q2 q3
    refine ⟨ne, j, d, j0, j1, d0, d1, ?_, fun a a0 a1 an => ?_, ?_⟩
    ·rw [q1, hk0, hk1 j j0 j1]
    ·rw [q2 a a0 a1 an, hk0, hk1 a a0 a1]
    ·rcases q3 with ⟨z1, z2⟩ | z
     ·refine .inl ⟨by rw [hk0], fun a a0 a1 => ?_⟩
      have := z2 a a0 a1
      rw [hk1 a a0 (by omega)] at this
      exact absurd rfl this
     ·have := z 0 (by omega) (by omega)
      rw [hk1 0 (by omega) (by omega)] at this
      exact absurd rfl this
  ·rw [bif_f (eqI_f (show (((nd ns n).2.1.length : Nat) : Int) ≠ 0 by unfold ks at hk; omega))]
   exact stepC_ok (by omega) hI (by omega) (by omega) (by omega) h0 h1 (by omega) hs
theorem step_ok : ∀ (h : Nat) {N : Nat} {ns : LNode} {g : Int → BoardT} {D V n s : Int}, 200000002 + h ≤ N → Inv ns g D V → D ≤ 80000 → V ≤ 999999 → 0 ≤ n → n < ns.length → 0 ≤ s → s ≤ 900000000000 → D ≤ (g n).2.2.2.length + h →
  ∃ out s' ns' g', Q33 N (g n, s) (ns, n) = some (out, ((g n, s'), (ns', n))) ∧ Po ns ns' g g' n s s' (D + 1) (V + 1) := by
 intro h
 induction h with
 | zero =>
  intro N ns g D V n s hN hI hD hV h0 h1 s0 s1 hd
  obtain ⟨N, rfl⟩ : ∃ a, N = a + 1 := ⟨N - 1, by omega⟩
  refine step_of (by omega) hI hD hV h0 h1 s0 s1 fun j j0 j1 => ?_
  obtain ⟨k0, k1, kg⟩ := hI.kd n j h0 h1 j0 j1
  have := (hI.bo (kid ns n j) (by omega) k1).2
  rw [kg, makeB_len] at this
  omega
 | succ h ih =>
  intro N ns g D V n s hN hI hD hV h0 h1 s0 s1 hd
  obtain ⟨N, rfl⟩ : ∃ a, N = a + 1 := ⟨N - 1, by omega⟩
  refine step_of (by omega) hI hD hV h0 h1 s0 s1 fun j j0 j1 => ?_
  obtain ⟨k0, k1, kg⟩ := hI.kd n j h0 h1 j0 j1
  refine ih (by omega) hI hD hV (by omega) k1 s0 s1 ?_
  rw [kg, makeB_len]
  omega
end
end Go.Proofs.Ytpielijehhhobaa.Am
