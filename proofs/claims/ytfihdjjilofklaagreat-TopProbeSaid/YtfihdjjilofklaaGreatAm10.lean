/- From code to calls: a function that the abstract machine evaluates is called with this result. -/
import Derived.Test.YtfihdjjilofklaaGreatAm19
set_option linter.unusedVariables false
set_option linter.unusedSimpArgs false
namespace Go.Proofs.YtfihdjjilofklaaGreat.Am
open Go
section norm
variable {R : Type} {P : Program} {tt : Tab} (hP : TabOk P tt) {g : Beg} {ρ : Nat → Value} {F : FS} {s : St} {a : Act} {w : World} {κ : St → Option R} {r : R}
theorem grown_refl (w : World) (row : Option Nat) : w.grownBy w row := ⟨rfl, rfl, rfl, Nat.le_refl _, fun _ _ _ => rfl⟩
theorem convT_ok {e j : Nat} {s' : St} (h : convT tt e j s = some s') (hs : SX g ρ F s a w) : ∃ ρ' F', SX g ρ' F' s' a w := by
 unfold convT at h
 split at h
 ·rename_i hj
  split at h <;> try cases h
  rename_i i hT
  split at h <;> try cases h
  rename_i t hty
  split at h <;> cases h
  have hs' := hs.newObj (w' := w) (grown_refl w _) (o := .row e t []) (v := .slice none 0 0) (fun b hb => by simp [blk, blk1] at hb) ⟨[], World.ownsRow_nil w 0 e t.size, .nil⟩
  refine ⟨_, _, hs'.tell j (.one (.own s.mem.length)) fun v hv => ?_⟩
  obtain ⟨u, hu, hur⟩ := hs.slot hj
  rw [hv] at hu
  cases hu
  have : v = .slice none 0 0 := VR.CR hur (by simp)
  subst this
  exact ⟨by simp, by rw [upd_same], rfl⟩
 ·cases h; exact ⟨ρ, F, hs⟩
 ·rename_i k hj
  split at h <;> cases h
  rename_i m i hp
  obtain ⟨ρ', F', k1, k2, k3, k4, k5, bk, k6, k7⟩ := hs.push hp
  refine ⟨ρ', F', k4.tell j (.one (.nr i)) fun v hv => ?_⟩
  obtain ⟨u, hu, hur⟩ := hs.slot hj
  rw [hv] at hu
  cases hu
  obtain ⟨g1, b, g2, g3⟩ := VR.CR hur (by simp)
  rw [k6] at g2
  cases g2
  exact .inr ⟨k5, bk, k7, g3⟩
 ·rename_i i hj
  cases h
  refine ⟨ρ, F, hs.tell j (.one (.nr i)) fun v hv => ?_⟩
  obtain ⟨u, hu, hur⟩ := hs.slot hj
  rw [hv] at hu
  cases hu
  obtain ⟨g1, b, g2, g3⟩ := VR.CR hur (by simp)
  exact .inr ⟨g1, b, g2, g3⟩
 ·cases h; exact ⟨ρ, F, hs⟩
 ·cases h
theorem convC_ok {e n off : Nat} {s' : St} (h : convC tt e n off s = some s') (hs : SX g ρ F s a w) : ∃ ρ' F', SX g ρ' F' s' a w := by
 unfold convC at h
 split at h
 ·rename_i T l hm
  split at h
  ·rename_i hl
   split at h <;> try cases h
   rename_i i hT
   split at h <;> try cases h
   rename_i t hty
   split at h <;> cases h
   have hs' := hs.newObj (w' := w) (grown_refl w _) (o := .row e t []) (v := .slice none 0 0) (fun b hb => by simp [blk, blk1] at hb) ⟨[], World.ownsRow_nil w 0 e t.size, .nil⟩
   have hlt : n < s.mem.length := (List.getElem?_eq_some_iff.1 hm).1
   have hm' : (s.mem ++ [AO.row e t []])[n]? = some (.var T l) := by rw [List.getElem?_append_left hlt]; exact hm
   have hn : live (s.mem ++ [AO.row e t []]) n := ⟨_, hm', by simp⟩
   obtain ⟨b, vs, h1, h2, h3⟩ := hs'.mr.obj n _ hm'
   have hv : ∃ v, vs.toList[off]? = some v ∧ v = .slice none 0 0 := by
    obtain ⟨v, hv, hvr⟩ := F2.get h3 off _ hl
    exact ⟨v, hv, hvr⟩
   obtain ⟨v, hv, rfl⟩ := hv
   have hs2 := hs'.setObj (w' := w) hn (ob := none) (fun _ e => by cases e) (grown_refl w _) (o := .var T (l.set off (.own s.mem.length)))
    ⟨b, vs, h1, h2, by
     refine F2.setL h3 _ off fun u hu => ?_
     rw [hv] at hu
     cases hu
     exact ⟨by simp, by rw [upd_same], rfl⟩⟩
   simp only at hs2
   rw [List.set_append_left _ _ hlt] at hs2
   exact ⟨_, _, hs2⟩
  ·rename_i k hl
   cases he : Nat.beq e 5000000
   ·rw [he, cond_false] at h; cases h; exact ⟨ρ, F, hs⟩
   rw [he, cond_true] at h
   split at h <;> try cases h
   rename_i e1 t xs hx
   have hk : live s.mem k := ⟨_, hx, by simp⟩
   have hnk : k ≠ n := fun e => by subst e; rw [hm] at hx; cases hx
   have hs1 := hs.freeze hk
   have hm1 : (s.mem.set k .gone)[n]? = some (.var T l) := by rw [List.getElem?_set_ne hnk]; exact hm
   have hn : live (s.mem.set k .gone) n := ⟨_, hm1, by simp⟩
   obtain ⟨b, vs, h1, h2, h3⟩ := hs.mr.obj n _ hm
   have hmv : Mv w w F (F.plus fun b => b ∈ blk (ρ k)) := ⟨.plus F _, fun _ _ => rfl⟩
   have hs2 := hs1.setObj (w' := w) hn (ob := none) (fun _ e => by cases e) (grown_refl w _) (o := .var T (l.set off (.fro e1 t xs)))
    ⟨b, vs, h1, h2, by
     refine F2.setL (CRs.mono hmv (fun _ _ _ _ _ => rfl) (by simp) h3) _ off fun u hu => ?_
     obtain ⟨v, hv, hvr⟩ := F2.get h3 off _ hl
     rw [hu] at hv
     cases hv
     rw [hvr.2.1]
     exact row_RT (s := s) (hs.mr.obj k _ hx)⟩
   exact ⟨_, _, hs2⟩
  ·cases he : Nat.beq e 5000000
   ·rw [he, cond_false] at h; cases h
   ·rw [he, cond_true] at h; cases h; exact ⟨ρ, F, hs⟩
  ·cases h; exact ⟨ρ, F, hs⟩
  ·cases h
 ·cases h
theorem convs_ok : ∀ (l : List (Nat × Nat)) {s s' : St} {ρ : Nat → Value} {F : FS}, convs tt l s = some s' → SX g ρ F s a w → ∃ ρ' F', SX g ρ' F' s' a w
 | [], s, s', ρ, F, h, hs => by simp [convs] at h; subst h; exact ⟨ρ, F, hs⟩
 | (j, e) :: l, s, s', ρ, F, h, hs => by
  unfold convs at h
  split at h <;> try cases h
  rename_i s1 h1
  obtain ⟨ρ1, F1, hs1⟩ := convT_ok h1 hs
  exact convs_ok l h hs1
theorem convCs_ok : ∀ (l : List (Nat × Nat × Nat)) {s s' : St} {ρ : Nat → Value} {F : FS}, convCs tt l s = some s' → SX g ρ F s a w → ∃ ρ' F', SX g ρ' F' s' a w
 | [], s, s', ρ, F, h, hs => by simp [convCs] at h; subst h; exact ⟨ρ, F, hs⟩
 | (n, off, e) :: l, s, s', ρ, F, h, hs => by
  unfold convCs at h
  split at h <;> try cases h
  rename_i s1 h1
  obtain ⟨ρ1, F1, hs1⟩ := convC_ok h1 hs
  exact convCs_ok l h hs1
theorem maskT_ok {N : Nat} (keep : List Nat) : ∀ (l : List AV) (j : Nat) {r : List Value}, F2 (VR w ρ F N) l r → F2 (VR w ρ F N) (maskT keep j l) r
 | [], j, r, h => by cases h; exact .nil
 | x :: l, j, r, h => by
  cases h with
  | cons h hr =>
   refine .cons ?_ (maskT_ok keep l (j + 1) hr)
   split
   ·exact h
   ·trivial
theorem below_CR {N m : Nat} {c : AC} {v : Value} (h : CR w ρ F N c v) (hb : c.below m = true) : CR w ρ F (min m N) c v := by
 unfold AC.below at hb
 cases c with
 | own n => simp [AC.nm] at hb; exact ⟨by have := h.1; omega, h.2⟩
 | vw n lo sz => simp [AC.nm] at hb; exact ⟨by have := h.1; omega, h.2⟩
 | vwh n lo hi sz => simp [AC.nm] at hb; exact ⟨by have := h.1; omega, h.2⟩
 | ptr n off => simp [AC.nm] at hb; exact ⟨by have := h.1; omega, h.2⟩
 | clo f n => simp [AC.nm] at hb; exact ⟨by have := h.1; omega, h.2⟩
 | ep n i z off => simp [AC.nm] at hb; exact ⟨by have := h.1; omega, h.2⟩
 | _ => exact h
theorem below_CRs {N m : Nat} {l : List AC} {vs : List Value} (h : CRs w ρ F N l vs) (hb : l.all (AC.below m) = true) : CRs w ρ F (min m N) l vs :=
 F2.imp h fun c v hc hv => below_CR hv (List.all_eq_true.1 hb c hc)
theorem below_VRb {N m : Nat} {b : Bool} {l : List AC} {v : Value} (h : VRb w ρ F N b l v) (hb : l.all (AC.below m) = true) : VRb w ρ F (min m N) b l v := by
 cases b with
 | true => obtain ⟨vs, rfl, h⟩ := h; exact ⟨vs, rfl, below_CRs h hb⟩
 | false =>
  match l, h with
  | [], _ => trivial
  | [c], h =>
   by_cases hc : c = .any
   ·subst hc; trivial
   ·have h' : CR w ρ F N c v := by cases c <;> first | exact absurd rfl hc | exact h
    exact VR.of_CR (below_CR h' (by simpa using hb))
  | c :: d :: r, _ => cases c <;> trivial
theorem below_VR {N m : Nat} {x : AV} {v : Value} (h : VR w ρ F N x v) (hb : x.below m = true) : VR w ρ F (min m N) x v := by
 cases x with
 | one c => exact below_VRb (b := false) (l := [c]) h (by simp only [List.all_cons, List.all_nil, Bool.and_true]; exact hb)
 | agg l => exact below_VRb (b := true) (l := l) h hb
 | tup l => obtain ⟨vs, rfl, h⟩ := h; exact ⟨vs, rfl, F2.imp h fun p v hp hv => below_VRb hv (List.all_eq_true.1 hb p hp)⟩
theorem swN_swN (n t k : Nat) : swN n t (swN n t k) = k := by
 unfold swN
 cases h1 : Nat.beq k n with
 | true =>
  have := Nat.eq_of_beq_eq_true h1
  subst this
  simp only [cond_true]
  cases h2 : Nat.beq t k with
  | true => simp only [cond_true]; exact Nat.eq_of_beq_eq_true h2
  | false => simp only [cond_false, Nat.beq_refl, cond_true]
 | false =>
  simp only [cond_false]
  cases h2 : Nat.beq k t with
  | true => simp only [cond_true, Nat.beq_refl]; exact (Nat.eq_of_beq_eq_true h2).symm
  | false => simp only [cond_false, h1, h2]
theorem swN_inj {n t j k : Nat} (h : swN n t j = swN n t k) : j = k := by rw [← swN_swN n t j, h, swN_swN]
theorem swN_lt {n t k N : Nat} (hn : n < N) (ht : t < N) (hk : k < N) : swN n t k < N := by
 unfold swN
 cases Nat.beq k n <;> cases Nat.beq k t <;> simp only [cond_true, cond_false] <;> assumption
theorem swN_low {n t k : Nat} (hn : k < n) (ht : k < t) : swN n t k = k := by
 unfold swN
 cases h1 : Nat.beq k n with
 | true => have := Nat.eq_of_beq_eq_true h1; omega
 | false =>
  cases h2 : Nat.beq k t with
  | true => have := Nat.eq_of_beq_eq_true h2; omega
  | false => rfl
theorem CR_swp {N n t : Nat} (hn : n < N) (ht : t < N) {c : AC} {v : Value} (h : CR w ρ F N c v) : CR w (fun k => ρ (swN n t k)) F N (c.swp n t) v := by
 cases c with
 | own k => obtain ⟨h1, h2, h3⟩ := h; exact ⟨swN_lt hn ht h1, by simp only [swN_swN]; exact h2, h3⟩
 | vw k lo sz => obtain ⟨h1, h0, b, l, cc, h2, h3⟩ := h; exact ⟨swN_lt hn ht h1, h0, b, l, cc, by simp only [swN_swN]; exact h2, h3⟩
 | vwh k lo hi sz => obtain ⟨h1, h0, h9, b, l, cc, h2, h3⟩ := h; exact ⟨swN_lt hn ht h1, h0, h9, b, l, cc, by simp only [swN_swN]; exact h2, h3⟩
 | ptr k off => obtain ⟨h1, b, h2, h3⟩ := h; exact ⟨swN_lt hn ht h1, b, by simp only [swN_swN]; exact h2, h3⟩
 | clo f k => obtain ⟨h1, b, h2, h3⟩ := h; exact ⟨swN_lt hn ht h1, b, by simp only [swN_swN]; exact h2, h3⟩
 | ep k i z off => obtain ⟨h1, b, l, cp, h2, h3⟩ := h; exact ⟨swN_lt hn ht h1, b, l, cp, by simp only [swN_swN]; exact h2, h3⟩
 | _ => exact h
theorem CRs_swp {N n t : Nat} (hn : n < N) (ht : t < N) {l : List AC} {vs : List Value} (h : CRs w ρ F N l vs) : CRs w (fun k => ρ (swN n t k)) F N (l.map (AC.swp n t)) vs := by
 induction h with
 | nil => exact .nil
 | cons h _ ih => exact .cons (CR_swp hn ht h) ih
theorem VRb_swp {N n t : Nat} (hn : n < N) (ht : t < N) {b : Bool} {l : List AC} {v : Value} (h : VRb w ρ F N b l v) : VRb w (fun k => ρ (swN n t k)) F N b (l.map (AC.swp n t)) v := by
 cases b with
 | true => obtain ⟨vs, rfl, h⟩ := h; exact ⟨vs, rfl, CRs_swp hn ht h⟩
 | false =>
  match l, h with
  | [], _ => trivial
  | [c], h =>
   by_cases hc : c = .any
   ·subst hc; trivial
   ·have h' : CR w ρ F N c v := by cases c <;> first | exact absurd rfl hc | exact h
    exact VR.of_CR (CR_swp hn ht h')
  | c :: d :: r, _ => cases c <;> trivial
theorem VR_swp {N n t : Nat} (hn : n < N) (ht : t < N) {x : AV} {v : Value} (h : VR w ρ F N x v) : VR w (fun k => ρ (swN n t k)) F N (x.swp n t) v := by
 cases x with
 | one c => exact VRb_swp (b := false) (l := [c]) hn ht h
 | agg l => exact VRb_swp (b := true) (l := l) hn ht h
 | tup l =>
  obtain ⟨vs, rfl, h⟩ := h
  refine ⟨vs, rfl, ?_⟩
  have : ∀ {l : List (Bool × List AC)} {vs : List Value}, F2 (fun p v => VRb w ρ F N p.1 p.2 v) l vs → F2 (fun p v => VRb w (fun k => ρ (swN n t k)) F N p.1 p.2 v) (l.map fun p => (p.1, p.2.map (AC.swp n t))) vs := by
   intro l vs h
   induction h with
   | nil => exact .nil
   | cons h _ ih => exact .cons (VRb_swp hn ht h) ih
  exact this h
theorem swp_get {m : List AO} {n t : Nat} {a b : AO} (ha : m[n]? = some a) (hb : m[t]? = some b) (k : Nat) : ((m.set n b).set t a)[k]? = m[swN n t k]? := by
 have hn : n < m.length := (List.getElem?_eq_some_iff.1 ha).1
 have ht : t < m.length := (List.getElem?_eq_some_iff.1 hb).1
 simp only [List.getElem?_set, List.length_set]
 unfold swN
 cases h1 : Nat.beq k n with
 | true =>
  have := Nat.eq_of_beq_eq_true h1
  subst this
  simp only [cond_true, hb]
  by_cases h2 : t = k
  ·subst h2; rw [ha] at hb; cases hb; simp [ht]
  ·simp [h2, hn]
 | false =>
  have h1 : k ≠ n := fun e => by subst e; simp [Nat.beq_refl] at h1
  simp only [cond_false]
  cases h2 : Nat.beq k t with
  | true =>
   have := Nat.eq_of_beq_eq_true h2
   subst this
   simp [ha, ht]
  | false =>
   have h2 : k ≠ t := fun e => by subst e; simp [Nat.beq_refl] at h2
   simp only [cond_false]
   rw [if_neg (fun e => h2 e.symm), if_neg (fun e => h1 e.symm)]
theorem swp_ok {n t : Nat} {s' : St} (h : s.swp n t = some s') (hn0 : g.m.length ≤ n) (ht0 : g.m.length ≤ t) (hs : SX g ρ F s a w) : ∃ ρ', SX g ρ' F s' a w := by
 unfold St.swp at h
 split at h <;> cases h
 rename_i x y ha hb
 have hn : n < s.mem.length := (List.getElem?_eq_some_iff.1 ha).1
 have ht : t < s.mem.length := (List.getElem?_eq_some_iff.1 hb).1
 have hl : (((s.mem.set n y).set t x).map (AO.swp n t)).length = s.mem.length := by simp
 have hg : ∀ k, (((s.mem.set n y).set t x).map (AO.swp n t))[k]? = (s.mem[swN n t k]?).map (AO.swp n t) := fun k => by rw [List.getElem?_map, swp_get ha hb]
 have hlive : ∀ k, live (((s.mem.set n y).set t x).map (AO.swp n t)) k → live s.mem (swN n t k) := by
  intro k ⟨o, h1, h2⟩
  rw [hg] at h1
  obtain ⟨o', h3, rfl⟩ := Option.map_eq_some_iff.1 h1
  exact ⟨o', h3, fun e => h2 (by subst e; rfl)⟩
 refine ⟨fun k => ρ (swN n t k), ?_, ⟨?_, ?_, ?_, hs.mr.lt⟩, ⟨hs.gl.os, hs.gl.tape, hs.gl.output, hs.gl.size, hs.gl.keep, ?_, hs.gl.fro, hs.gl.froB, ?_, ?_⟩, hs.defers, hs.gb⟩
 ·show F2 _ _ _
  simp only [hl]
  have : ∀ {l : List AV} {r : List Value}, F2 (VR w ρ F s.mem.length) l r → F2 (VR w (fun k => ρ (swN n t k)) F s.mem.length) (l.map (AV.swp n t)) r := by
   intro l r h
   induction h with
   | nil => exact .nil
   | cons h _ ih => exact .cons (VR_swp hn ht h) ih
  exact this hs.tr
 ·intro k o ho
  simp only [hl]
  rw [hg] at ho
  obtain ⟨o', h3, rfl⟩ := Option.map_eq_some_iff.1 ho
  have := hs.mr.obj _ _ h3
  cases o' with
  | var T l => obtain ⟨b, vs, k1, k2, k3⟩ := this; exact ⟨b, vs, k1, k2, CRs_swp hn ht k3⟩
  | row e t xs => exact this
  | mapo ka va kt vt xs => exact this
  | arena T e a b recs pend => exact this
  | gone => exact this
 ·intro j k b hj hk h1 h2
  exact swN_inj (hs.mr.inj _ _ b (hlive j hj) (hlive k hk) h1 h2)
 ·intro j b hj
  exact hs.mr.sep _ b (hlive j hj)
 ·rintro b ⟨k, hk, h1⟩
  exact hs.gl.own b ⟨_, hlive k hk, h1⟩
 ·simp only [hl]
  exact hs.gl.len
 ·intro k hk
  have e : swN n t k = k := swN_low (by omega) (by omega)
  simp only [e]
  exact hs.gl.rho k hk
theorem mvRow_ok {p : Bool × Nat × Nat × Nat} {n : Nat} {s' : St} (hp : swPlace p s = some (.own n)) (h : mvRow p n s = some s') (hs : SX g ρ F s a w) : ∃ ρ', SX g ρ' F s' a w := by
 unfold mvRow at h
 split at h <;> try cases h
 rename_i ob hnv hng hm
 have hnl : live s.mem n := ⟨_, hm, fun e => hng (by rw [e])⟩
 have hs1 := hs.renew (w' := w) hnl (ob := none) (fun _ e => by cases e) (grown_refl w _) (o := ob) (v := ρ n) (fun b hb => .inl hb) ((hs.mr.obj _ _ hm).stay fun T l e => hnv T l (by rw [e]))
 split at h
 ·rename_i hb
  cases h
  refine ⟨_, hs1.tell p.2.1 (.one (.own s.mem.length)) fun v hv => ?_⟩
  unfold swPlace at hp
  rw [hb] at hp
  simp only at hp
  split at hp
  ·cases hp
   rename_i hj
   obtain ⟨u, hu, hur⟩ := hs.slot hj
   rw [hv] at hu
   cases hu
   obtain ⟨g1, g2, g3⟩ := VR.CR hur (by simp)
   refine ⟨by simp, ?_, g3⟩
   rw [upd_same]
   exact g2
  ·cases hp
  ·rename_i hj
   exfalso
   have h1 : s.tmps.length = a.tmps.size := by have := F2.length hs.tr; simpa using this
   rw [List.getElem?_eq_none_iff] at hj
   have h2 := (Array.getElem?_eq_some_iff.1 hv).1
   omega
 ·rename_i hb
  split at h <;> cases h
  rename_i T l hv
  unfold swPlace at hp
  rw [hb] at hp
  simp only [hv] at hp
  have hne : n ≠ p.2.1 := fun e => by rw [e, hv] at hm; cases hm; exact hnv _ _ rfl
  have hlt : p.2.1 < s.mem.length := (List.getElem?_eq_some_iff.1 hv).1
  have hv' : (s.mem.set n .gone ++ [ob])[p.2.1]? = some (.var T l) := by
   rw [List.getElem?_append_left (by simpa using hlt), List.getElem?_set_ne hne]
   exact hv
  obtain ⟨b, vs', g1, g2, g3⟩ := hs1.mr.obj _ _ hv'
  have hown : ∃ v, vs'.toList[p.2.2.1]? = some v ∧ v = ρ n ∧ v.oneCell' = true := by
   obtain ⟨v, q1, q2⟩ := F2.get g3 _ _ hp
   obtain ⟨r1, r2, r3⟩ := q2
   exact ⟨v, q1, by rw [r2, upd_ne _ _ (by have := live_lt hnl; omega)], r3⟩
  obtain ⟨v, q1, q2, q3⟩ := hown
  have hs2 := hs1.setObj (w' := w) (n := p.2.1) ⟨_, hv', by simp⟩ (ob := none) (fun _ e => by cases e) (grown_refl w _) (o := .var T (l.set p.2.2.1 (.own s.mem.length)))
   ⟨b, vs', g1, g2, F2.setL g3 _ _ fun u hu => by
    rw [q1] at hu
    cases hu
    exact ⟨by simp, by rw [upd_same]; exact q2, q3⟩⟩
  simp only at hs2
  rw [List.set_append_left _ _ (by simpa using hlt)] at hs2
  exact ⟨_, hs2⟩
theorem sw1_ok {p : Bool × Nat × Nat × Nat} {s' : St} (h : sw1 g.m.length p s = some s') (hs : SX g ρ F s a w) : ∃ ρ', SX g ρ' F s' a w := by
 unfold sw1 at h
 split at h
 ·rename_i n hp
  cases h1 : Nat.beq n p.2.2.2 with
  | true => rw [h1] at h; cases h; exact ⟨ρ, hs⟩
  | false =>
   rw [h1] at h
   simp only [cond_false] at h
   cases h2 : Nat.ble g.m.length n with
   | true =>
    rw [h2] at h
    simp only [cond_true] at h
    cases h3 : Nat.ble g.m.length p.2.2.2 with
    | false => rw [h3] at h; cases h
    | true =>
     rw [h3] at h
     exact swp_ok h (Nat.le_of_ble_eq_true h2) (Nat.le_of_ble_eq_true h3) hs
   | false =>
    rw [h2] at h
    simp only [cond_false] at h
    split at h
    case h_2 => cases h
    rename_i s1 hmv
    obtain ⟨ρ1, hs1⟩ := mvRow_ok hp hmv hs
    cases h3 : Nat.beq s.mem.length p.2.2.2 with
    | true => rw [h3] at h; cases h; exact ⟨ρ1, hs1⟩
    | false =>
     rw [h3] at h
     simp only [cond_false] at h
     cases h4 : Nat.ble g.m.length s.mem.length && Nat.ble g.m.length p.2.2.2 with
     | false => rw [h4] at h; cases h
     | true =>
      rw [h4] at h
      simp only [Bool.and_eq_true] at h4
      exact swp_ok h (Nat.le_of_ble_eq_true h4.1) (Nat.le_of_ble_eq_true h4.2) hs1
 ·cases h
theorem sws_ok : ∀ (l : List (Bool × Nat × Nat × Nat)) {s s' : St} {ρ : Nat → Value}, sws g.m.length l s = some s' → SX g ρ F s a w → ∃ ρ', SX g ρ' F s' a w
 | [], s, s', ρ, h, hs => by simp [sws] at h; subst h; exact ⟨ρ, hs⟩
 | p :: l, s, s', ρ, h, hs => by
  unfold sws at h
  split at h <;> try cases h
  rename_i s1 h1
  obtain ⟨ρ1, hs1⟩ := sw1_ok h1 hs
  exact sws_ok l h hs1
theorem kill_ok {n : Nat} (hn : g.m.length ≤ n) (hs : SX g ρ F s a w) : SX g ρ F ⟨s.tmps, s.mem.set n .gone⟩ a w := by
 have hl : (s.mem.set n .gone).length = s.mem.length := by simp
 have hget : ∀ (k : Nat) (o : AO), (s.mem.set n .gone)[k]? = some o → o = AO.gone ∨ s.mem[k]? = some o := by
  intro k o h
  rw [List.getElem?_set] at h
  split at h
  ·split at h
   ·cases h; exact .inl rfl
   ·cases h
  ·exact .inr h
 have hlive : ∀ k, live (s.mem.set n .gone) k → live s.mem k := by
  intro k ⟨o, h1, h2⟩
  exact ⟨o, (hget k o h1).resolve_left h2, h2⟩
 refine ⟨?_, ⟨?_, ?_, ?_, hs.mr.lt⟩, ⟨hs.gl.os, hs.gl.tape, hs.gl.output, hs.gl.size, hs.gl.keep, ?_, hs.gl.fro, hs.gl.froB, ?_, hs.gl.rho⟩, hs.defers, hs.gb⟩
 ·show F2 _ _ _
  simp only [hl]
  exact hs.tr
 ·intro k o ho
  simp only [hl]
  rcases hget k o ho with rfl | h
  ·trivial
  ·exact hs.mr.obj k o h
 ·intro j k b hj hk
  exact hs.mr.inj j k b (hlive j hj) (hlive k hk)
 ·intro j b hj
  exact hs.mr.sep j b (hlive j hj)
 ·rintro b ⟨k, hk, h1⟩
  exact hs.gl.own b ⟨k, hlive k hk, h1⟩
 ·simp only [hl]
  exact hs.gl.len
theorem kills_ok : ∀ (l : List Nat) {s : St}, l.all (fun n => Nat.ble g.m.length n) = true → SX g ρ F s a w → SX g ρ F ⟨s.tmps, kills l s.mem⟩ a w
 | [], s, _, hs => hs
 | n :: l, s, h, hs => by
  simp only [List.all_cons, Bool.and_eq_true] at h
  exact kills_ok l (s := ⟨s.tmps, s.mem.set n .gone⟩) h.2 (kill_ok (Nat.le_of_ble_eq_true h.1) hs)
theorem padTo_ok (n : Nat) (hs : SX g ρ F s a w) : ∃ ρ', SX g ρ' F (padTo n s) a w := by
 unfold padTo
 generalize n - s.mem.length = k
 induction k with
 | zero => exact ⟨ρ, by simpa using hs⟩
 | succ k ih =>
  obtain ⟨ρ1, h1⟩ := ih
  have h2 := h1.newObj (w' := w) (grown_refl w _) (o := .gone) (v := .nilFunc) (fun b hb => by simp [blk, blk1] at hb) trivial
  have e : s.mem ++ List.replicate (k + 1) AO.gone = s.mem ++ List.replicate k AO.gone ++ [AO.gone] := by rw [List.replicate_succ', List.append_assoc]
  rw [e]
  exact ⟨_, h2⟩
theorem normK_ok {A : LoopAnn} {N0 : Nat} (h : normK tt N0 A s κ = some r) (hN : N0 = g.m.length) (hs : SR g s a w) : ∃ s', κ s' = some r ∧ SR g s' a w := by
 obtain ⟨ρ, F, hs⟩ := hs
 unfold normK at h
 split at h <;> try cases h
 rename_i s1 h1
 obtain ⟨ρ1, F1, hs1⟩ := convs_ok _ h1 hs
 split at h <;> try cases h
 rename_i s2 h2
 obtain ⟨ρ2, Fc, hs2⟩ := convCs_ok _ h2 hs1
 split at h <;> try cases h
 rename_i s3 h3
 subst hN
 obtain ⟨ρp, hsp⟩ := padTo_ok A.m0 hs2
 obtain ⟨ρ3, hs3⟩ := sws_ok _ h3 hsp
 simp only at h
 split at h <;> try cases h
 rename_i hb
 simp only [Bool.and_eq_true] at hb
 obtain ⟨⟨hb1, hb2⟩, hb3, hb4⟩ := hb
 have hb3 : g.m.length ≤ A.m0 := Nat.le_of_ble_eq_true hb3
 have hsK := kills_ok _ hb4 hs3
 generalize hK : kills A.kill s3.mem = mK at *
 refine ⟨_, h, ρ3, Fc, ?_⟩
 have hlive : ∀ n, live (mK.take A.m0) n → live mK n := by
  intro n ⟨q, h1, h2⟩
  rw [List.getElem?_take] at h1
  split at h1
  ·exact ⟨q, h1, h2⟩
  ·cases h1
 have hl : (mK.take A.m0).length = min A.m0 mK.length := List.length_take ..
 refine ⟨?_, ⟨?_, ?_, ?_, hsK.mr.lt⟩, ⟨hsK.gl.os, hsK.gl.tape, hsK.gl.output, hsK.gl.size, hsK.gl.keep, ?_, hsK.gl.fro, hsK.gl.froB, ?_, hsK.gl.rho⟩, hsK.defers, hsK.gb⟩
 ·show F2 _ _ _
  simp only [hl]
  exact F2.imp (maskT_ok A.keep _ 0 hsK.tr) fun x v hx hv => below_VR hv (List.all_eq_true.1 hb1 x hx)
 ·intro n o ho
  simp only [hl]
  rw [List.getElem?_take] at ho
  split at ho
  ·rename_i hn
   have := hsK.mr.obj n o ho
   have hbo : o.below A.m0 = true := List.all_eq_true.1 hb2 o (List.mem_of_getElem? (i := n) (by rw [List.getElem?_take, if_pos hn]; exact ho))
   cases o with
   | var T l =>
    obtain ⟨b, vs, k1, k2, k3⟩ := this
    exact ⟨b, vs, k1, k2, below_CRs k3 hbo⟩
   | row e t xs => exact this
   | mapo ka va kt vt xs => exact this
   | arena T e a b recs pend => exact this
   | gone => exact this
  ·cases ho
 ·intro j k b hj hk
  exact hsK.mr.inj j k b (hlive j hj) (hlive k hk)
 ·intro j b hj
  exact hsK.mr.sep j b (hlive j hj)
 ·rintro b ⟨k, hk, h1⟩
  exact hsK.gl.own b ⟨k, hlive k hk, h1⟩
 ·simp only [hl]
  have : g.m.length ≤ mK.length := hsK.gl.len
  omega
end norm
structure GamOk (P : Program) (Γ : Gam) : Prop where
 c : GamFOk P False Γ.c
 d : GamFOk P True Γ.d
 it : ∀ f i, Γ.it f = some i → ItOk P f i
section code
variable {R : Type} {P : Program} {tt : Tab} (hP : TabOk P tt) {Γ : Gam} (hG : GamOk P Γ) (hmix : P.follows .mixedOrders = true) {g : Beg} {A : Nat → Option LoopAnn}
def MarkOk (g : Beg) (ρ : Nat → Value) (F : FS) (m : List AO) (w : World) (d : Deferred) : Prop :=
 ∃ D, d = { target := .collected D, args := #[] } ∧ g.w.heap.size ≤ D ∧ D < w.heap.size ∧ w.heap[D]? = some (.deferred (some [])) ∧ Free ρ F m D
def Fin (P : Program) (g : Beg) (fin : St → Option R) (r : R) (todo : List Item) (a : Act) (w : World) : Prop :=
 ∀ (b : Frame) (cs : List Frame), ∃ a' w' todo', Steps P (lone (b.at a todo) cs w) (lone { b.at a' todo' with mode := .returning } cs w') ∧
  ∃ s' ms ρ F, fin s' = some r ∧ a'.defers = ms ++ g.ds ∧ SX g ρ F s' { a' with defers := g.ds } w' ∧ (∀ d ∈ ms, MarkOk g ρ F s'.mem w' d) ∧ ms.Pairwise fun d e => d.target ≠ e.target
theorem Fin.of {fin : St → Option R} {r : R} {todo : List Item} {a : Act} {w : World}
  (h : ∀ (b : Frame) (cs : List Frame), ∃ a' w' todo', Steps P (lone (b.at a todo) cs w) (lone { b.at a' todo' with mode := .returning } cs w') ∧ ∃ s', fin s' = some r ∧ SR g s' a' w') : Fin P g fin r todo a w := fun b cs => by
 obtain ⟨a', w', t, h1, s', h2, ρ, F, h3⟩ := h b cs
 exact ⟨a', w', t, h1, s', [], ρ, F, h2, h3.defers, ⟨h3.tr, h3.mr, h3.gl, rfl, h3.gb⟩, fun d hd => by simp at hd, .nil⟩
theorem Fin.step {fin : St → Option R} {r : R} {todo todo' : List Item} {a a' : Act} {w w' : World} (h : ∀ (b : Frame) (cs : List Frame), Steps P (lone (b.at a todo) cs w) (lone (b.at a' todo') cs w')) (k : Fin P g fin r todo' a' w') : Fin P g fin r todo a w :=
 fun b cs => let ⟨a'', w'', t, h1, h2⟩ := k b cs; ⟨a'', w'', t, (h b cs).trans h1, h2⟩
omit hG hmix hP in
theorem splitR_ok {an : Option LoopAnn} {s : St} {κ : St → Option R} {r : R} {a : Act} {w : World} (h : splitR an s κ = some r) (hs : SR g s a w) : ∃ s', κ s' = some r ∧ SR g s' a w := by
 unfold splitR at h
 split at h
 ·exact ⟨s, h, hs⟩
 split at h <;> try cases h
 rename_i d _
 split at h <;> try cases h
 rename_i k i hd
 obtain ⟨j, _, _, hi, h⟩ := selK_ok _ _ h
 obtain ⟨ρ, F, hs⟩ := hs
 obtain ⟨v, hv, hvr⟩ := hs.slot hd
 have hvi : v = .int k i := VR.CR hvr (by simp)
 refine ⟨_, h, ρ, F, hs.tell d _ fun u hu => ?_⟩
 rw [hv] at hu
 cases hu
 rw [hvi, hi]
 exact VR.of_CR (c := .int k (j : Int)) rfl
include hP hG hmix
theorem seg_ok {N0 : Nat} (hN : N0 = g.m.length) {rec : List Item → St → Option R} {fin : St → Option R} {r : R} (hrec : ∀ todo s a w, plainH todo = true → rec todo s = some r → SR g s a w → Fin P g fin r todo a w)
  (hrng : ∀ q ps asg body k s a w, rngIn tt Γ A N0 rec q ps asg body k s = some r → SR g s a w → Fin P g fin r (.code (.rangeFunc q ps asg body) :: k) a w) :
  ∀ (m : Nat) (todo : List Item) (s : St) (a : Act) (w : World), seg tt Γ A N0 rec fin m todo s = some r → SR g s a w → Fin P g fin r todo a w
 | 0, todo, s, a, w, h, _ => by simp [seg] at h
 | m + 1, todo, s, a, w, h, hs => by
  have ih := seg_ok hN hrec hrng m
  unfold seg at h
  split at h
  ·exact Fin.of fun b cs => ⟨a, w, [], .one step_end, s, h, hs⟩
  ·exact Fin.step (fun b cs => .one step_inBlock) (ih _ _ _ _ h hs)
  ·rename_i c k
   split at h <;> try cases h
   rename_i an _
   cases hu : an.un with
   | true =>
    rw [hu] at h
    exact Fin.step (fun b cs => .one step_inLoop) (ih _ _ _ _ h hs)
   | false =>
   rw [hu] at h
   simp only [cond_false] at h
   obtain ⟨s', h1, hs'⟩ := normK_ok h hN hs
   exact hrec _ _ _ _ rfl h1 hs'
  ·rename_i c k
   split at h
   ·exact Fin.step (fun b cs => .one step_skip) (ih _ _ _ _ h hs)
   ·exact Fin.step (fun b cs => .one step_label) (ih _ _ _ _ h hs)
   ·exact Fin.of fun b cs => ⟨a, w, _, .one step_ret, s, h, hs⟩
   ·exact Fin.step (fun b cs => .one step_seq) (ih _ _ _ _ h hs)
   ·rename_i c x y
    split at h <;> try cases h
    rename_i t ht
    have hc : a.eval c = .bool t := by
     obtain ⟨ρ, F, hs⟩ := hs
     have := hs.ev c
     rw [ht] at this
     exact VR.CR this (by simp)
    cases t with
    | true => exact Fin.step (fun b cs => .one (step_cond hc)) (ih _ _ _ _ (by simpa using h) hs)
    | false => exact Fin.step (fun b cs => .one (step_cond hc)) (ih _ _ _ _ (by simpa using h) hs)
   ·exact Fin.step (fun b cs => .one step_block) (ih _ _ _ _ h hs)
   ·rename_i c
    split at h <;> try cases h
    rename_i an _
    cases hu : an.un with
    | true =>
     rw [hu] at h
     exact Fin.step (fun b cs => .one step_loop) (ih _ _ _ _ h hs)
    | false =>
    rw [hu] at h
    simp only [cond_false] at h
    obtain ⟨s', h1, hs'⟩ := normK_ok h hN hs
    have key := hrec _ _ _ _ rfl h1 hs'
    intro b cs
    obtain ⟨a', w', todo', k1, k2⟩ := key b cs
    refine ⟨a', w', todo', ?_, k2⟩
    refine Steps.trans (.one step_loop) ?_
    obtain ⟨n, hn⟩ := k1
    cases n with
    | zero =>
     simp only [runN, Stepped.next.injEq] at hn
     exfalso
     have := congrArg (fun m : Machine => (m.gs[0]?).map (·.frame.mode)) hn
     simp [lone, Frame.at] at this
    | succ n =>
     refine ⟨n, ?_⟩
     simp only [runN, step_inLoop] at hn
     exact hn
   ·rename_i id
    split at h <;> try cases h
    rename_i k' hk
    exact Fin.step (fun b cs => .one (step_exit hk)) (ih _ _ _ _ h hs)
   ·rename_i id ops draw
    rw [stK_eq] at h
    obtain ⟨s, h, hs⟩ := splitR_ok h hs
    have hr := region_ok (P := P) (κ := fun s' => seg tt Γ A N0 rec fin m k s') hP hG.c hG.d hmix (id := id) (ops := ops) (draw := draw) (Q := fun e a' w' => e = .normal ∧ Fin P g fin r k a' w') hs (by cases draw <;> exact h) (fun s' a' w' h' hs' => ⟨rfl, ih _ _ _ _ h' hs'⟩) (fun c a w h => by cases h.1)
    intro b cs
    obtain ⟨e, a', w', ⟨rfl, hf⟩, harr⟩ := hr b k cs
    obtain ⟨a'', w'', t, k1, k2⟩ := hf b cs
    exact ⟨a'', w'', t, Steps.trans harr k1, k2⟩
   ·exact hrng _ _ _ _ _ _ _ _ h hs
   ·cases h
  ·cases h
omit hP hG hmix in
theorem steps_strip {b : Frame} {a : Act} {cs : List Frame} {w : World} : ∀ k : List Item, Steps P (lone (b.at a k) cs w) (lone (b.at a (stripB k)) cs w)
 | [] => ⟨0, rfl⟩
 | x :: k => by
  cases x with
  | inBlock id => exact Steps.trans (.one step_inBlock) (steps_strip k)
  | _ => exact ⟨0, rfl⟩
omit hP hG hmix in
theorem aft_fin {N0 n : Nat} (hN : N0 = g.m.length) {fin : St → Option R} {r : R}
  (hrun : ∀ m, m ≤ n → ∀ g' : Beg, N0 = g'.m.length → ∀ (todo : List Item) (s : St) (a : Act) (w : World), plainH todo = true → run tt Γ A N0 fin m todo s = some r → SR g' s a w → Fin P g' fin r todo a w)
  {m key : Nat} (hm : m ≤ n) {k : List Item} {s : St} (h : aftK tt A N0 (run tt Γ A N0 fin m) key k s = some r) {a : Act} {w : World} {ρ : Nat → Value} {F : FS} (hs : SX g ρ F s { a with defers := g.ds } w)
  {mk : Deferred} (hd : a.defers = mk :: g.ds) (hmk : MarkOk g ρ F s.mem w mk) : Fin P g fin r k a w := by
 unfold aftK at h
 split at h <;> try cases h
 rename_i an _
 cases hp : plainH (stripB k) with
 | false => rw [hp] at h; cases h
 | true =>
 rw [hp] at h
 simp only [cond_true] at h
 have hs2 : SX ⟨w, ρ, F, g.m, a.defers, Own ρ s.mem⟩ ρ F s a w := hs.anew g.m a.defers hs.gl.len
 obtain ⟨s', h1, hs'⟩ := normK_ok (g := ⟨w, ρ, F, g.m, a.defers, Own ρ s.mem⟩) h hN ⟨ρ, F, hs2⟩
 have hf := hrun m hm ⟨w, ρ, F, g.m, a.defers, Own ρ s.mem⟩ hN (stripB k) s' a w hp h1 hs'
 intro b cs
 obtain ⟨a', w', t, hst, s3, ms, ρ', F', e1, e2, e3, e4, e5⟩ := hf b cs
 have hsz : g.w.heap.size ≤ w.heap.size := hs.gl.size
 obtain ⟨D, rfl, d1, d2, d3, d4⟩ := hmk
 have hfr := e3.gl.free (D := D) d2 d4.1 d4.2
 refine ⟨a', w', t, (steps_strip k).trans hst, s3, ms ++ [{ target := .collected D, args := #[] }], ρ', F', e1, by rw [e2]; show ms ++ a.defers = _; rw [hd]; simp, ⟨e3.tr, e3.mr, hs.gl.trans (Nat.le_refl _) e3.gl, rfl, e3.gb⟩, fun d hdm => ?_, ?_⟩
 ·rcases List.mem_append.1 hdm with h | h
  ·obtain ⟨D', g1, g2, g3, g4, g5⟩ := e4 d h
   exact ⟨D', g1, Nat.le_trans hsz g2, g3, g4, g5⟩
  ·rw [List.mem_singleton] at h
   exact ⟨D, h, d1, Nat.lt_of_lt_of_le d2 e3.gl.size, hfr.2.trans d3, hfr.1⟩
 ·refine List.pairwise_append.2 ⟨e5, List.pairwise_singleton _ _, fun d h e he => ?_⟩
  rw [List.mem_singleton] at he
  subst he
  obtain ⟨D', g1, g2, _⟩ := e4 d h
  rw [g1]
  intro e
  injection e with e
  have g2 : w.heap.size ≤ D' := g2
  omega
def Post (tt : Tab) (A : Nat → Option LoopAnn) (N0 : Nat) (Γ : Gam) (fin : St → Option R) (r : R) (n : Nat) (k : List Item) (st : St) : Option Code → Prop
 | none => ∃ m, m ≤ n ∧ aftK tt A N0 (run tt Γ A N0 fin m) (loopKey k) k st = some r
 | some .ret => fin st = some r
 | some (.exit j) => ∃ m k', m ≤ n ∧ exitTo j k = some k' ∧ aftK tt A N0 (run tt Γ A N0 fin m) (loopKey k) k' st = some r
 | _ => False
omit hmix in
theorem range_ok {N0 n : Nat} (hN : N0 = g.m.length) {fin : St → Option R} {r : R}
  (hrun : ∀ m, m ≤ n → ∀ g' : Beg, N0 = g'.m.length → ∀ (todo : List Item) (s : St) (a : Act) (w : World), plainH todo = true → run tt Γ A N0 fin m todo s = some r → SR g' s a w → Fin P g' fin r todo a w)
  {q : Operand} {ps : Array Tmp} {asg body : Code} {k : List Item} {s : St} {a : Act} {w : World} (hin : rngIn tt Γ A N0 (run tt Γ A N0 fin n) q ps asg body k s = some r) (hs : SR g s a w) :
  Fin P g fin r (.code (.rangeFunc q ps asg body) :: k) a w := by
 obtain ⟨ρ0, F0, hs⟩ := hs
 unfold rngIn at hin
 split at hin <;> try cases hin
 rename_i p f nn hps hq
 split at hin <;> try cases hin
 rename_i it T kb b0 an hit hmn han
 split at hin <;> try cases hin
 rename_i hk
 obtain ⟨hkb, hnn⟩ := hk
 subst hkb
 obtain rfl : ps = #[p] := Array.toList_inj.1 hps
 have hqv := hs.ev q
 rw [hq] at hqv
 obtain ⟨hlt, B, hB1, hB2⟩ := VR.CR hqv (by simp)
 obtain ⟨B', vs, hB3, hB4, hB5⟩ := hs.mr.obj _ _ hmn
 rw [hB1] at hB3
 cases hB3
 have hbox : boxed w B T it.kb b0 := by
  obtain ⟨vl⟩ := vs
  match vl, hB5 with
  | [v], .cons h .nil =>
   have h : v = .int it.kb b0 := h
   subst h
   exact hB4
 have hlive : live s.mem nn := ⟨_, hmn, by simp⟩
 have hBF : ¬ F0 B := hs.mr.sep nn B hlive (by rw [hB1]; simp [blk, blk1])
 have hBlt : B < w.heap.size := (Array.getElem?_eq_some_iff.1 hB4).1
 have hs1 := kill_ok (n := nn) (by omega) hs
 have hBO : ¬ Own ρ0 (s.mem.set nn .gone) B := by
  rintro ⟨j, ⟨o, h1, h2⟩, h3⟩
  by_cases hj : j = nn
  ·subst hj
   rw [List.getElem?_set_self hlt] at h1
   cases h1
   exact h2 rfl
  ·rw [List.getElem?_set_ne (fun e => hj e.symm)] at h1
   exact hj (hs.mr.inj j nn B ⟨o, h1, h2⟩ hlive h3 (by rw [hB1]; simp [blk, blk1]))
 have hBg : g.w.heap.size ≤ B ∨ g.O B := (hs.gl.own B ⟨nn, hlive, by rw [hB1]; simp [blk, blk1]⟩).symm
 obtain ⟨s1, hrn, ρ, F, hsx⟩ := normK_ok (g := ⟨w, ρ0, F0, g.m, g.ds, Own ρ0 (s.mem.set nn .gone)⟩) hin hN ⟨ρ0, F0, hs1.anew g.m g.ds hs1.gl.len⟩
 have had : ({ a with defers := g.ds } : Act) = a := by rw [← hs.defers]
 rw [had] at hsx
 have hBfree := (hsx.gl.free (D := B) hBlt hBO hBF).1
 have hsG : SX g ρ F s1 a w := ⟨hsx.tr, hsx.mr, hs1.gl.trans (Nat.le_refl _) hsx.gl, hs.defers, hsx.gb⟩
 obtain ⟨D, hD⟩ : ∃ D, D = w.heap.size := ⟨_, rfl⟩
 obtain ⟨l, hl⟩ : ∃ l, l = w.heap.size + 1 := ⟨_, rfl⟩
 obtain ⟨fn0, hfn0⟩ : ∃ fn0 : FuncId → LoopState → Option Code → Loop, fn0 = fun fn st pe => { state := st, pending := pe, fn, tmps := a.tmps, params := #[p], assign := asg, body, defers := D } := ⟨_, rfl⟩
 have hw : (Code.rangeFunc q #[p] asg body).wp P (fun e a' w' => ∃ pe, (match pe with | none => e = .normal | some .ret => e = .ret | some (.exit j) => e = .exit j | _ => False) ∧
   ∃ s' ρ F, Post tt A N0 Γ fin r n k s' pe ∧ a'.defers = { target := .collected D, args := #[] } :: g.ds ∧ SX g ρ F s' { a' with defers := g.ds } w' ∧ MarkOk g ρ F s'.mem w' { target := .collected D, args := #[] }) a w := by
  obtain ⟨Rest, hRest⟩ : ∃ Rest : (Nat → Value) → FS → List AO → World → FuncId → LoopState → Option Code → Prop, Rest = fun ρ F m W fn st pe =>
    (D < W.heap.size ∧ W.heap[D]? = some (.deferred (some [])) ∧ Free ρ F m D) ∧ (l < W.heap.size ∧ W.heap[l]? = some (.loop (fn0 fn st pe)) ∧ Free ρ F m l) ∧ B < W.heap.size ∧ Free ρ F m B := ⟨_, rfl⟩
  have hgD : g.w.heap.size ≤ D := by rw [hD]; exact hs.gl.size
  have hgl : g.w.heap.size ≤ l := by omega
  have hDB : D ≠ B := by omega
  have hlB : l ≠ B := by omega
  have hDl : D ≠ l := by omega
  refine (wpIn_wide (n := 0)).1 (wpIn_rangeFunc fun fn _ => ?_)
  obtain ⟨J, hJ⟩ : ∃ J : Nat → Int → Int → World → Prop, J = fun m b x W => m ≤ n ∧ ∃ tm mem ρ F, run tt Γ A N0 fin m (.code (.rangeFunc q #[p] asg body) :: k) ⟨.one (.fn f) :: .one (.int it.kb b) :: .one (.int it.kx x) :: tm, mem⟩ = some r ∧
    SX g ρ F ⟨tm, mem⟩ a W ∧ Rest ρ F mem W fn .ready none := ⟨_, rfl⟩
  obtain ⟨Jd, hJd⟩ : ∃ Jd : World → Prop, Jd = fun W => ∃ st ρ F, Post tt A N0 Γ fin r n k st none ∧ SX g ρ F st a W ∧ Rest ρ F st.mem W fn .ready none := ⟨_, rfl⟩
  obtain ⟨Jx, hJx⟩ : ∃ Jx : World → Prop, Jx = fun W => ∃ pe st ρ F, (pe = .ret ∨ ∃ j, pe = .exit j) ∧ Post tt A N0 Γ fin r n k st (some pe) ∧ SX g ρ F st a W ∧ Rest ρ F st.mem W fn .done (some pe) := ⟨_, rfl⟩
  have hstab : ∀ {ρ F} {st : St} {W W' : World} {fn stt pe}, SX g ρ F st a W → Rest ρ F st.mem W fn stt pe → W.grownBy W' (some B) → SX g ρ F st a W' ∧ Rest ρ F st.mem W' fn stt pe := by
   intro ρ F st W W' fn stt pe h1 h2 h3
   rw [hRest] at h2 ⊢
   obtain ⟨⟨d1, d2, d3⟩, ⟨l1, l2, l3⟩, b1, b2⟩ := h2
   obtain ⟨k1, k2, k3, k4⟩ := h1.at h3 b2.1 b2.2
   have hsz := h3.size
   exact ⟨⟨k1, k2, h1.gl.other h3 hBg, h1.defers, k3⟩, ⟨by omega, (h3.block D d1 (by intro e; injection e with e; exact hDB e)).trans d2, d3⟩, ⟨by omega, (h3.block l l1 (by intro e; injection e with e; exact hlB e)).trans l2, l3⟩, by omega, b2⟩
  obtain ⟨⟨fnc, hfn1, hfn2, hfn3⟩, hit'⟩ := hG.it f it hit
  obtain ⟨cd, hcd⟩ := Option.isSome_iff_exists.1 hfn3
  have hnm : fnc.name ≠ "runtime.NumGoroutine" := by simpa using hfn2
  have hg1 : w.grownBy (w.alloc (.deferred (some []))) none := World.grownBy_alloc w _ none
  have hg2 : (w.alloc (.deferred (some []))).grownBy ((w.alloc (.deferred (some []))).alloc (.loop (fn0 fn .ready none))) none := World.grownBy_alloc _ _ none
  obtain ⟨W1, hW1⟩ : ∃ W1, W1 = (w.alloc (.deferred (some []))).alloc (.loop (fn0 fn .ready none)) := ⟨_, rfl⟩
  rw [← hW1] at hg2
  have hsz1 : (w.alloc (.deferred (some []))).heap.size = w.heap.size + 1 := by simp
  have hsz2 : W1.heap.size = w.heap.size + 2 := by rw [hW1]; simp
  have hD1 : W1.heap[D]? = some (.deferred (some [])) := by
   rw [hg2.block D (by omega) (by simp), hD]
   exact World.alloc_heap_new w _
  have hl1 : W1.heap[l]? = some (.loop (fn0 fn .ready none)) := by
   rw [hl, ← hsz1, hW1]
   exact World.alloc_heap_new _ _
  have hB1' : boxed W1 B T it.kb b0 := by
   show W1.heap[B]? = _
   rw [hg2.block B (by omega) (by simp), hg1.block B hBlt (by simp)]
   exact hbox
  have hX1 : SX g ρ F s1 a W1 := (hsG.grown hg1).grown hg2
  have hfresh : ∀ x, w.heap.size ≤ x → Free ρ F s1.mem x := by
   intro x hx
   refine ⟨fun ⟨j, hj, e⟩ => ?_, fun e => ?_⟩
   ·have := hsG.own_lt hj e
    omega
   ·have := hsG.mr.lt x e
    omega
  have hR1 : Rest ρ F s1.mem W1 fn .ready none := by
   rw [hRest]
   exact ⟨⟨by omega, hD1, hfresh D (by omega)⟩, ⟨by omega, hl1, hfresh l (by omega)⟩, by omega, hBfree⟩
  have hstep : ∀ m b x tm mem, run tt Γ A N0 fin (m + 1) (.code (.rangeFunc q #[p] asg body) :: k) ⟨.one (.fn f) :: .one (.int it.kb b) :: .one (.int it.kx x) :: tm, mem⟩ =
    (bif it.pre b x then aftK tt A N0 (run tt Γ A N0 fin m) (loopKey k) k ⟨tm, mem⟩ else (it.val b x).bind fun y =>
     evalB tt Γ asg ((⟨tm, mem⟩ : St).put (some p) (.one (.int it.kx y))) fun e s1 => match e with
     | .nor => evalB tt Γ body s1 fun e s2 => match e with
      | .nor => bif it.post b x then aftK tt A N0 (run tt Γ A N0 fin m) (loopKey k) k ⟨tm, s2.mem⟩ else normK tt N0 an ⟨tm, s2.mem⟩ fun s3 => run tt Γ A N0 fin m (.code (.rangeFunc q #[p] asg body) :: k) ⟨.one (.fn f) :: .one (.int it.kb (it.nb b x)) :: .one (.int it.kx (it.nl b x)) :: s3.tmps, s3.mem⟩
      | .exit id => match exitTo id k with
       | some k' => aftK tt A N0 (run tt Γ A N0 fin m) (loopKey k) k' ⟨tm, s2.mem⟩
       | none => none
      | .ret => fin ⟨tm, s2.mem⟩
     | _ => none) := by
   intro m b x tm mem
   rw [run]
   simp only [rngStep, hit, han]
   rfl
  refine ⟨l, [{ target := .collected D, args := #[] }], W1, { target := .fn (.func f) #[.pointer (some ⟨B, 0, none⟩)], args := #[.func (.yield l) #[] #[]] }, W1, f, #[.func (.yield l) #[] #[], .pointer (some ⟨B, 0, none⟩)], W1, ?_, ?_, fun _ _ => trivial, ?_, (fun h => by cases h), callsIn_wide.2 ?_⟩
  ·rw [show Fence.wide.round = none from rfl, run_enterLoop_outer, hl, hW1, hfn0]
   simp only [hD]
  ·have hc : a.eval (.const (.func (.yield l) #[] #[])) = .func (.yield l) #[] #[] := rfl
   simp [resolve, rangeCall, hB2, Deferred.ofValue, hc]
  ·simp [invoke, callFunc, hfn1, hnm, hcd]
  ·refine (hit' l B T n b0 W1 J Jd Jx ?_ ?_ ?_ ?_ ?_ ?_ hB1').mono fun e w' he => ?_
   ·intro m b x W W' h hg
    rw [hJ] at h ⊢
    obtain ⟨hm, tm, mem, ρ, F, h1, h2, h3⟩ := h
    obtain ⟨h4, h5⟩ := hstab (st := ⟨tm, mem⟩) h2 h3 hg
    exact ⟨hm, tm, mem, ρ, F, h1, h4, h5⟩
   ·intro W W' h hg
    rw [hJd] at h ⊢
    obtain ⟨st, ρ, F, h1, h2, h3⟩ := h
    obtain ⟨h4, h5⟩ := hstab h2 h3 hg
    exact ⟨st, ρ, F, h1, h4, h5⟩
   ·intro m b x W h
    rw [hJ] at h
    obtain ⟨hm, tm, mem, ρ, F, h1, h2, h3⟩ := h
    rw [hRest] at h3
    exact ⟨F, h2.gb, h2.mr.lt, h3.2.2.2.2⟩
   ·intro m b x W h hbx hpre
    rw [hJ] at h
    obtain ⟨hm, tm, mem, ρ, F, h1, h2, h3⟩ := h
    cases m with
    | zero => simp [run] at h1
    | succ m =>
     rw [hstep, hpre] at h1
     rw [hJd]
     exact ⟨⟨tm, mem⟩, ρ, F, ⟨m, by omega, h1⟩, h2, h3⟩
   ·intro m b x W h hbx hpre
    rw [hJ] at h
    obtain ⟨hm, tm, mem, ρ2, F2, h1, hX, hR⟩ := h
    cases m with
    | zero => simp [run] at h1
    | succ m =>
    rw [hstep, hpre] at h1
    simp only [cond_false] at h1
    obtain ⟨y, hy, hev⟩ := Option.bind_eq_some_iff.1 h1
    rw [hRest] at hR
    obtain ⟨⟨d1, d2, d3⟩, ⟨l1, l2, l3⟩, bb1, bb2⟩ := hR
    refine ⟨y, hy, _, _, _, _, run_yield (P := P) l2 (by rw [hfn0]; rfl), fun n' => ?_⟩
    rw [hfn0]
    simp only
    have htm : Array.foldl (fun (tmps : Array Value) (x : Tmp × Value) => tmps.setIfInBounds x.1 x.2) a.tmps (#[p].zip #[Value.int it.kx y]) = a.tmps.setIfInBounds p (.int it.kx y) := by simp
    have hXr := (hX.anew mem [] (Nat.le_refl _)).put (some p) (x := .one (.int it.kx y)) (v := .int it.kx y) (VR.of_CR (c := .int it.kx y) rfl)
    refine roundIn_of_wpIn trivial ?_
    have hA := evalB_ok (l := l) (n := n') hP hG.c asg hev ⟨ρ2, F2, hXr⟩
    rw [htm]
    refine wpIn_mono hA fun e a1 w1 he => ?_
    obtain ⟨e', s1', rfl, hk1, ρ3, F3, hX3⟩ := he
    cases e' with
    | ret => cases hk1
    | exit j => cases hk1
    | nor =>
    have gl3 := hX3.gl
    obtain ⟨fD3, hD3⟩ := gl3.free (D := D) d1 d3.1 d3.2
    obtain ⟨fl3, hl3⟩ := gl3.free (D := l) l1 l3.1 l3.2
    obtain ⟨fB3, hB3⟩ := gl3.free (D := B) bb1 bb2.1 bb2.2
    have sz3 : W.heap.size ≤ w1.heap.size := gl3.size
    have hl3' : w1.heap[l]? = some (.loop (fn0 fn .ready none)) := hl3.trans l2
    refine ⟨_, run_beginRound (P := P) hl3' (by rw [hfn0]), ?_⟩
    obtain ⟨w2, hw2⟩ : ∃ w2, w2 = w1.putObj l (.loop (fn0 fn .busy none)) := ⟨_, rfl⟩
    have hw2' : w1.putObj l (.loop { fn0 fn .ready none with state := .busy }) = w2 := by rw [hw2, hfn0]
    rw [hw2']
    have gr2 : w1.grownBy w2 (some l) := by rw [hw2]; exact grown_put _ _ _
    have sz2 : w2.heap.size = w1.heap.size := by rw [hw2]; simp
    obtain ⟨tr2, mr2, gb2, mv2⟩ := hX3.at gr2 fl3.1 fl3.2
    have hX3' : SX ⟨w2, ρ3, F3, s1'.mem, [], Own ρ3 s1'.mem⟩ ρ3 F3 s1' a1 w2 := ⟨tr2, mr2, Gl.refl _ _ _ _ _ (Nat.le_refl _), hX3.defers, gb2⟩
    refine wpIn_mono (evalB_ok (l := l) (n := n') hP hG.c body hk1 ⟨ρ3, F3, hX3'⟩) fun e a2 w3 he => ?_
    obtain ⟨e', s2, rfl, hk2, ρ4, F4, hX4⟩ := he
    have gl4 := hX4.gl
    have hl2 : w2.heap[l]? = some (.loop (fn0 fn .busy none)) := by rw [hw2]; exact World.putObj_heap_same (by omega)
    have hD2 : w2.heap[D]? = w1.heap[D]? := gr2.block D (by omega) (by intro e; injection e with e; exact hDl e)
    have hB2' : w2.heap[B]? = w1.heap[B]? := gr2.block B (by omega) (by intro e; injection e with e; exact hlB e.symm)
    obtain ⟨fD4, hD4⟩ := gl4.free (D := D) (by show D < w2.heap.size; omega) fD3.1 fD3.2
    obtain ⟨fl4, hl4⟩ := gl4.free (D := l) (by show l < w2.heap.size; omega) fl3.1 fl3.2
    obtain ⟨fB4, hB4'⟩ := gl4.free (D := B) (by show B < w2.heap.size; omega) fB3.1 fB3.2
    have sz4 : w2.heap.size ≤ w3.heap.size := gl4.size
    have hl4' : w3.heap[l]? = some (.loop (fn0 fn .busy none)) := hl4.trans hl2
    have hglw : Gl g w3 ρ4 F4 s2.mem := ((hX.gl.trans hX.gl.len gl3).other gr2 (.inl hgl)).trans (hX.gl.trans hX.gl.len gl3).len gl4
    have mvA : Mv W w1 F2 F3 := gl3.mv fun b hb => hX.notF hb
    have mvB : Mv w2 w3 F3 F4 := gl4.mv fun b hb => hX3.notF' sz2 hb
    have hrho : ∀ i, i < mem.length → ρ4 i = ρ2 i := fun i hi => (gl4.rho i (Nat.lt_of_lt_of_le hi gl3.len)).trans (gl3.rho i hi)
    have hlen : mem.length ≤ s2.mem.length := Nat.le_trans gl3.len gl4.len
    have hend : ∀ stt pe, SX g ρ4 F4 ⟨tm, s2.mem⟩ a (w3.putObj l (.loop (fn0 fn stt pe))) ∧ Rest ρ4 F4 s2.mem (w3.putObj l (.loop (fn0 fn stt pe))) fn stt pe ∧ boxed (w3.putObj l (.loop (fn0 fn stt pe))) B T it.kb b := by
     intro stt pe
     have gr4 := grown_put w3 l (.loop (fn0 fn stt pe))
     obtain ⟨tr4, mr4, gb4, mv4⟩ := hX4.at gr4 fl4.1 fl4.2
     have sz5 : (w3.putObj l (.loop (fn0 fn stt pe))).heap.size = w3.heap.size := by simp
     refine ⟨⟨hX.tr.mono (((mvA.trans mv2).trans mvB).trans mv4) (fun _ _ _ _ i hi _ => hrho i hi) hlen, mr4, hglw.other gr4 (.inl hgl), hX.defers, gb4⟩, ?_, ?_⟩
     ·rw [hRest]
      refine ⟨⟨by omega, (gr4.block D (by omega) (by intro e; injection e with e; exact hDl e)).trans (hD4.trans (hD2.trans (hD3.trans d2))), fD4⟩, ⟨by omega, World.putObj_heap_same (by omega), fl4⟩, by omega, fB4⟩
     ·exact (gr4.block B (by omega) (by intro e; injection e with e; exact hlB e.symm)).trans (hB4'.trans (hB2'.trans (hB3.trans hbx)))
    cases e' with
    | nor =>
     obtain ⟨hXe, hRe, hbe⟩ := hend .ready none
     refine ⟨_, _, run_endRound (P := P) none hl4', .inl ⟨rfl, ?_⟩⟩
     have hw4 : w3.putObj l (.loop { fn0 fn .busy none with state := if (none : Option Code).isNone then .ready else .done, pending := none }) = w3.putObj l (.loop (fn0 fn .ready none)) := by rw [hfn0]; rfl
     rw [hw4]
     refine ⟨hbe, ?_⟩
     simp only at hk2
     cases hpo : it.post b x with
     | true =>
      rw [hpo] at hk2
      refine .inl ⟨rfl, ?_⟩
      rw [hJd]
      exact ⟨⟨tm, s2.mem⟩, ρ4, F4, ⟨m, by omega, hk2⟩, hXe, hRe⟩
     | false =>
      rw [hpo] at hk2
      simp only [cond_false] at hk2
      refine .inr ⟨rfl, m, by omega, ?_⟩
      rw [hJ]
      generalize hwe : w3.putObj l (.loop (fn0 fn .ready none)) = we at hXe hRe hbe
      obtain ⟨s3, hs3, ρ5, F5, hX5⟩ := normK_ok (g := ⟨we, ρ4, F4, g.m, g.ds, Own ρ4 s2.mem⟩) hk2 hN ⟨ρ4, F4, hXe.anew g.m g.ds hXe.gl.len⟩
      have had' : ({ a with defers := g.ds } : Act) = a := by rw [← hs.defers]
      rw [had'] at hX5
      rw [hRest] at hRe ⊢
      obtain ⟨⟨e1, e2, e3⟩, ⟨e4, e5, e6⟩, e7, e8⟩ := hRe
      exact ⟨by omega, s3.tmps, s3.mem, ρ5, F5, hs3, ⟨hX5.tr, hX5.mr, hXe.gl.trans (Nat.le_refl _) hX5.gl, hs.defers, hX5.gb⟩, ⟨e1, e2, (hX5.gl.free (D := D) e1 e3.1 e3.2).1⟩, ⟨e4, e5, (hX5.gl.free (D := l) e4 e6.1 e6.2).1⟩, e7, (hX5.gl.free (D := B) e7 e8.1 e8.2).1⟩
    | ret =>
     obtain ⟨hXe, hRe, hbe⟩ := hend .done (some .ret)
     refine ⟨_, _, run_endRound (P := P) (some .ret) hl4', .inr ⟨rfl, ?_⟩⟩
     have hw4 : w3.putObj l (.loop { fn0 fn .busy none with state := if (some Code.ret).isNone then .ready else .done, pending := some .ret }) = w3.putObj l (.loop (fn0 fn .done (some .ret))) := by rw [hfn0]; rfl
     rw [hw4, hJx]
     exact ⟨.ret, ⟨tm, s2.mem⟩, ρ4, F4, .inl rfl, hk2, hXe, hRe⟩
    | exit j =>
     obtain ⟨hXe, hRe, hbe⟩ := hend .done (some (.exit j))
     refine ⟨_, _, run_endRound (P := P) (some (.exit j)) hl4', .inr ⟨rfl, ?_⟩⟩
     have hw4 : w3.putObj l (.loop { fn0 fn .busy none with state := if (some (Code.exit j)).isNone then .ready else .done, pending := some (.exit j) }) = w3.putObj l (.loop (fn0 fn .done (some (.exit j)))) := by rw [hfn0]; rfl
     rw [hw4, hJx]
     simp only at hk2
     split at hk2 <;> try cases hk2
     rename_i k' hk'
     exact ⟨.exit j, ⟨tm, s2.mem⟩, ρ4, F4, .inr ⟨j, rfl⟩, ⟨m, k', by omega, hk', hk2⟩, hXe, hRe⟩
   ·rw [hJ]
    exact ⟨Nat.le_refl _, s1.tmps, s1.mem, ρ, F, hrn, hX1, hR1⟩
   ·obtain ⟨⟨v, rfl⟩, he⟩ := he
    have hfinal : ∀ {st : St} {ρ : Nat → Value} {F : FS} {stt pe}, SX g ρ F st a w' → Rest ρ F st.mem w' fn stt pe →
      ({ a with defers := [{ target := .collected D, args := #[] }] ++ a.defers } : Act).defers = { target := .collected D, args := #[] } :: g.ds ∧ SX g ρ F st { ({ a with defers := [{ target := .collected D, args := #[] }] ++ a.defers } : Act) with defers := g.ds } (w'.putObj l (.loop { fn0 fn stt pe with state := .exhausted })) ∧ MarkOk g ρ F st.mem (w'.putObj l (.loop { fn0 fn stt pe with state := .exhausted })) { target := .collected D, args := #[] } := by
     intro st ρ F stt pe h1 h2
     rw [hRest] at h2
     obtain ⟨⟨e1, e2, e3⟩, ⟨e4, e5, e6⟩, e7, e8⟩ := h2
     have gr := grown_put w' l (.loop { fn0 fn stt pe with state := .exhausted })
     obtain ⟨k1, k2, k3, k4⟩ := h1.at gr e6.1 e6.2
     refine ⟨by show [_] ++ a.defers = _; rw [hs.defers]; rfl, ⟨k1, k2, h1.gl.other gr (.inl hgl), rfl, k3⟩, D, rfl, hgD, by simpa using e1, (gr.block D e1 (by intro e; injection e with e; exact hDl e)).trans e2, e3⟩
    rcases he with he | he
    ·rw [hJd] at he
     obtain ⟨st, ρ, F, hpo, hX, hR⟩ := he
     obtain ⟨f1, f2, f3⟩ := hfinal hX hR
     rw [hRest] at hR
     refine ⟨none, _, (run_endLoop (P := P) hR.2.1.2.1 (by rw [hfn0]; simp)).trans (congrArg (fun q => Result.ok q _) (show (fn0 fn .ready none).pending = none by rw [hfn0])), ?_⟩
     exact ⟨none, rfl, st, ρ, F, hpo, f1, f2, f3⟩
    ·rw [hJx] at he
     obtain ⟨pe, st, ρ, F, hpe, hpo, hX, hR⟩ := he
     obtain ⟨f1, f2, f3⟩ := hfinal hX hR
     rw [hRest] at hR
     refine ⟨some pe, _, (run_endLoop (P := P) hR.2.1.2.1 (by rw [hfn0]; simp)).trans (congrArg (fun q => Result.ok q _) (show (fn0 fn .done (some pe)).pending = some pe by rw [hfn0])), ?_⟩
     rcases hpe with rfl | ⟨j, rfl⟩
     ·exact wpIn_ret ⟨some .ret, rfl, st, ρ, F, hpo, f1, f2, f3⟩
     ·exact wpIn_exit ⟨some (.exit j), rfl, st, ρ, F, hpo, f1, f2, f3⟩
 intro b cs
 obtain ⟨e, a', w', ⟨pe, hpe, s', ρ', F', hpo, hd, hsx', hmk⟩, harr⟩ := hw b k cs
 match pe, hpe, hpo with
 | none, hpe, hpo =>
  subst hpe
  obtain ⟨m, hm, hpo⟩ := hpo
  obtain ⟨a2, w2, t, h1, h2⟩ := aft_fin hN hrun hm hpo hsx' hd hmk b cs
  exact ⟨a2, w2, t, Steps.trans harr h1, h2⟩
 | some .ret, hpe, hpo =>
  subst hpe
  obtain ⟨t, h1⟩ := harr
  exact ⟨a', w', t, h1, s', [_], ρ', F', hpo, hd, hsx', fun d hd => by rw [List.mem_singleton] at hd; subst hd; exact hmk, List.pairwise_singleton _ _⟩
 | some (.exit j), hpe, hpo =>
  subst hpe
  obtain ⟨m, k', hm, hk', hpo⟩ := hpo
  obtain ⟨a2, w2, t, h1, h2⟩ := aft_fin hN hrun hm hpo hsx' hd hmk b cs
  exact ⟨a2, w2, t, Steps.trans (harr k' hk') h1, h2⟩
theorem run_le {N0 : Nat} {fin : St → Option R} {r : R} : ∀ (n m : Nat), m ≤ n → ∀ (g : Beg), N0 = g.m.length → ∀ (todo : List Item) (s : St) (a : Act) (w : World), plainH todo = true → run tt Γ A N0 fin m todo s = some r → SR g s a w → Fin P g fin r todo a w
 | 0, m, hm, g, hN, todo, s, a, w, hp, h, _ => by
  have : m = 0 := by omega
  subst this
  simp [run] at h
 | n + 1, m, hm, g, hN, todo, s, a, w, hp, h, hs => by
  by_cases hmn : m ≤ n
  ·exact run_le n m hmn g hN todo s a w hp h hs
  obtain rfl : m = n + 1 := by omega
  have hs1 := seg_ok (g := g) (fin := fin) (r := r) hP hG hmix hN (run_le n n (Nat.le_refl _) g hN) (fun q ps asg body k s a w h hs => range_ok hP hG hN (run_le n) h hs)
  unfold run at h
  split at h
  ·exact Fin.step (fun b cs => .one step_inLoop) (hs1 _ _ _ _ _ h hs)
  ·simp [plainH] at hp
  ·exact hs1 _ _ _ _ _ h hs
def resOne (a : Act) : ResultVar → Sem Value
 | .tmp t => pure (a.tmps.getD t undef)
 | .cell p T => do loadVar T (← asAddr (a.tmps.getD p undef))
omit hG hmix hP in
theorem results_eq (fn : Func) (a : Act) : results fn a.tmps = (do
  let vs ← fn.results.mapM (resOne a)
  pure (if h : vs.size = 1 then vs[0] else .tuple vs)) := by
 unfold results
 congr 2
omit hG hmix in
theorem getR_ok {s : St} {a : Act} {w : World} {ρ : Nat → Value} {F : FS} (hs : SX g ρ F s a w) {q : ResultVar} {x : AV} (h : getR tt s q = some x) :
  ∃ v, (resOne a q).run P w = .ok v w ∧ VR w ρ F s.mem.length x v := by
 unfold getR at h
 split at h
 ·rename_i t
  cases h
  exact ⟨_, rfl, hs.ev (.tmp t)⟩
 ·rename_i p T
  split at h <;> try cases h
  rename_i n off e
  have hp := hs.ev (.tmp p)
  have e' : s.ev (.tmp p) = .one (.ptr n off) := e
  rw [e'] at hp
  obtain ⟨h1, b, h2, h3⟩ := VR.CR hp (by simp)
  have h3 : a.tmps.getD p undef = .pointer (some ⟨b, off, none⟩) := h3
  split at h <;> try cases h
  rename_i U l hm
  split at h <;> try cases h
  rename_i ag l' hag hl
  obtain ⟨b', vs, k2, k3, k4⟩ := hs.mr.obj _ _ hm
  rw [h2] at k2
  cases k2
  obtain ⟨k5, k6⟩ := cut_ok hl k4
  have hca := (cellsAt_var k3).sub off (tt.size T)
  rw [Addr.add_plain, Nat.zero_add] at hca
  obtain ⟨v, k7, k8⟩ := run_loadVar' hP hag hca k6 k5 h
  refine ⟨v, ?_, k8⟩
  simp only [resOne, h3, asAddr, Sem.run_bind, Sem.run_pure, Result.andThen_ok, k7 w (fun _ => rfl)]
omit hG hmix hP in
theorem comp_VRb {w : World} {ρ : Nat → Value} {F : FS} {N : Nat} {x : AV} {v : Value} (h : VR w ρ F N x v) : VRb w ρ F N x.comp.1 x.comp.2 v := by
 cases x with
 | one c => exact h
 | agg l => exact h
 | tup l => trivial
omit hG hmix in
theorem getRs_ok {s : St} {a : Act} {w : World} {ρ : Nat → Value} {F : FS} (hs : SX g ρ F s a w) : ∀ {rs : List ResultVar} {l : List (Bool × List AC)}, getRs tt s rs = some l →
  ∃ vs : List Value, (rs.mapM (resOne a)).run P w = .ok vs w ∧ F2 (fun p v => VRb w ρ F s.mem.length p.1 p.2 v) l vs
 | [], l, h => by simp [getRs] at h; subst h; exact ⟨[], rfl, .nil⟩
 | q :: rs, l, h => by
  unfold getRs at h
  split at h <;> try cases h
  rename_i x xs h1 h2
  obtain ⟨v, h3, h4⟩ := getR_ok hP hs h1
  obtain ⟨vs, h5, h6⟩ := getRs_ok hs h2
  refine ⟨v :: vs, ?_, .cons (comp_VRb h4) h6⟩
  rw [List.mapM_cons]
  simp only [Sem.run_bind, h3, Result.andThen_ok, h5, Sem.run_pure]
omit hG hmix in
theorem results_ok {fn : Func} {s : St} {a : Act} {w : World} {κ : AV → List AO → Option R} {r : R} (h : resK tt fn.results.toList κ s = some r) (hs : SR g s a w) :
  ∃ x u ρ' F', κ x s.mem = some r ∧ (results fn a.tmps).run P w = .ok u w ∧ VR w ρ' F' s.mem.length x u ∧ SX g ρ' F' s a w := by
 obtain ⟨ρ, F, hs⟩ := hs
 unfold resK at h
 split at h
 ·rename_i q e
  split at h <;> try cases h
  rename_i x hx
  obtain ⟨v, h1, h2⟩ := getR_ok hP hs hx
  refine ⟨x, v, ρ, F, h, ?_, h2, hs⟩
  rw [results_eq, Array.mapM_eq_mapM_toList, e]
  simp only [List.mapM_cons, List.mapM_nil, Sem.run_bind, Sem.run_map, h1, Result.andThen_ok, Sem.run_pure]
  simp
 ·rename_i rs hne
  split at h <;> try cases h
  rename_i l hl
  obtain ⟨vs, h1, h2⟩ := getRs_ok hP hs hl
  refine ⟨.tup l, .tuple vs.toArray, ρ, F, h, ?_, ⟨vs.toArray, rfl, h2⟩, hs⟩
  have hlen : vs.length ≠ 1 := by
   intro hv
   have h3 := F2.length h2
   have h4 : ∀ (rs : List ResultVar) (l : List (Bool × List AC)), getRs tt s rs = some l → l.length = rs.length := by
    intro rs
    induction rs with
    | nil => intro l h; simp [getRs] at h; subst h; rfl
    | cons q rs ih =>
     intro l h
     unfold getRs at h
     split at h <;> try cases h
     rename_i x xs _ h2
     simp [ih xs h2]
   have h5 := h4 _ _ hl
   rw [h3, hv] at h5
   obtain ⟨q, hq⟩ := List.length_eq_one_iff.1 h5.symm
   exact hne q hq
  rw [results_eq, Array.mapM_eq_mapM_toList]
  simp only [Sem.run_bind, Sem.run_map, h1, Result.andThen_ok, Sem.run_pure]
  have : ¬ vs.toArray.size = 1 := by simpa using hlen
  simp [hlen]
omit hG hmix hP in
theorem leave_marks {s : St} {ρ : Nat → Value} {F : FS} {a : Act} {cs : List Frame} : ∀ (ms : List Deferred) {w : World} {fr : Frame}, fr.mode = .returning → fr.defers = ms → SX g ρ F s a w → (∀ d ∈ ms, MarkOk g ρ F s.mem w d) → ms.Pairwise (fun d e => d.target ≠ e.target) →
  ∃ w', Steps P (lone fr cs w) (lone { fr with defers := [] } cs w') ∧ SX g ρ F s a w'
 | [], w, fr, hm, hd, hs, _, _ => ⟨w, by
   have : ({ fr with defers := [] } : Frame) = fr := by rw [← hd]
   rw [this]
   exact ⟨0, rfl⟩, hs⟩
 | d :: ms, w, fr, hm, hd, hs, hk, hp => by
  obtain ⟨D, hdt, h1, h2, h3, h4⟩ := hk d (by simp)
  have ht : d.target = .collected D := by rw [hdt]
  have hgr := grown_put w D (.deferred none)
  obtain ⟨k1, k2, k3, k4⟩ := hs.at hgr h4.1 h4.2
  have hst := step_collected (P := P) (cs := cs) (by rw [hm]; simp) hd ht (run_takeDeferred (P := P) h3)
  obtain ⟨w', k5, k6⟩ := leave_marks ms (w := w.putObj D (.deferred none)) (fr := { fr with defers := [] ++ ms }) hm rfl ⟨k1, k2, hs.gl.other hgr (.inl h1), hs.defers, k3⟩ (fun e he => by
   obtain ⟨D', g1, g2, g3, g4, g5⟩ := hk e (by simp [he])
   have hne : D' ≠ D := fun e' => (List.pairwise_cons.1 hp).1 e he (by rw [ht, g1, e'])
   exact ⟨D', g1, g2, by simpa using g3, (World.putObj_heap_other hne).trans g4, g5⟩) (List.pairwise_cons.1 hp).2
  exact ⟨w', Steps.trans (.one hst) k5, k6⟩
theorem absFn_ok {n f : Nat} {fn : Func} {args : List AV} {m : List AO} {κ : AV → List AO → Option R} {r : R} (hf : P.funcs[f]? = some fn) (h : absFn tt Γ A n fn args m κ = some r) (w : World) (ρ : Nat → Value) (F : FS) (vals : Array Value)
  (hargs : F2 (VR w ρ F m.length) args vals.toList) (hm : MR w ρ F m) (hgb : Glob w F) :
  Calls P f vals w fun e w' => ∃ u ρ' F' x m', e = .returned u ∧ κ x m' = some r ∧ VR w' ρ' F' m'.length x u ∧ MR w' ρ' F' m' ∧ Gl ⟨w, ρ, F, m, [], Own ρ m⟩ w' ρ' F' m' := by
 unfold absFn at h
 split at h <;> try cases h
 rename_i c hb
 have hlen := F2.length hargs
 have hs : SR ⟨w, ρ, F, m, [], Own ρ m⟩ ⟨args ++ List.replicate (fn.ntmps - args.length) (.one .any), m⟩ { tmps := vals ++ Array.replicate (fn.ntmps - vals.size) undef, defers := [] } w := by
  refine ⟨ρ, F, ?_, hm, Gl.refl _ _ _ _ _ (Nat.le_refl _), rfl, hgb⟩
  show F2 _ _ _
  simp only [Array.toList_append, Array.toList_replicate]
  refine F2.append hargs ?_
  have : args.length = vals.size := by simpa using hlen
  rw [this]
  generalize fn.ntmps - vals.size = k
  induction k with
  | zero => exact .nil
  | succ k ih => exact .cons trivial ih
 have hfin := seg_ok (g := ⟨w, ρ, F, m, [], Own ρ m⟩) (N0 := m.length) (fin := resK tt fn.results.toList κ) (r := r) hP hG hmix rfl (run_le hP hG hmix n n (Nat.le_refl _) ⟨w, ρ, F, m, [], Own ρ m⟩ rfl) (fun q ps asg body k s a w' h hs => range_ok hP hG (g := ⟨w, ρ, F, m, [], Own ρ m⟩) rfl (run_le hP hG hmix n) h hs) _ _ _ _ _ h hs
 intro cs
 let b : Frame := { (default : Frame) with fn := f, kind := .normal }
 have henter : Frame.enter P f vals .normal = b.at { tmps := vals ++ Array.replicate (fn.ntmps - vals.size) undef, defers := [] } [.code c] := by
  simp [Frame.enter, Frame.at, hf, hb, b]
 obtain ⟨a', w', todo', hst, s', ms, ρ1, F1, h1, hd, hsx, hmk, hpw⟩ := hfin b cs
 have hd' : a'.defers = ms := by rw [hd]; simp
 obtain ⟨w2, hst2, hsx2⟩ := leave_marks (P := P) (cs := cs) ms (fr := { b.at a' todo' with mode := .returning }) rfl hd' hsx hmk hpw
 obtain ⟨x, u, ρ', F', h2, h3, h4, h5⟩ := results_ok hP h1 ⟨ρ1, F1, hsx2⟩
 rw [← henter] at hst
 exact ⟨.returned u, w2, _, ⟨u, ρ', F', x, s'.mem, rfl, h2, h4, h5.mr, h5.gl⟩, hst.trans hst2, rfl, rfl, rfl, rfl, fn, hf, h3⟩
end code
end Go.Proofs.YtfihdjjilofklaaGreat.Am
