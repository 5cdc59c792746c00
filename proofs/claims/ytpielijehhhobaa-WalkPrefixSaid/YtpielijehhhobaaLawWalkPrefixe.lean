/- Plain: more steps only add visits and points. -/
import Derived.Test.YtpielijehhhobaaLawWalkRe
set_option linter.unusedVariables false
set_option linter.unusedSimpArgs false
set_option linter.unusedSectionVars false
namespace Go.Proofs.Ytpielijehhhobaa.Am
open Go
theorem wst_more {N : Nat} (hN : 200000100 ≤ N) {b : BoardT} {s0 : Int} (h0 : 0 ≤ s0) (h1 : s0 ≤ 800000000000) (hb : BOk b) (hl : b.2.2.2.length = 0) (hr : resV b.1 b.2.1 = 0) {t : Nat} {s : Int} {ns : LNode} (hS : Wst N b s0 t s ns) : ∀ (k : Nat) {s' : Int} {ns' : LNode}, t + k ≤ 61 → Wst N b s0 (t + k) s' ns' →
  ∀ a : Int, 0 ≤ a → a < (mvB b).length → (kidv ns 0 a).1 ≤ (kidv ns' 0 a).1 ∧ (kidv ns 0 a).2 ≤ (kidv ns' 0 a).2
 | 0, _, _, _, h, a, _, _ => by
  obtain ⟨_, rfl⟩ := hS.eq h
  exact ⟨Int.le_refl _, Int.le_refl _⟩
 | k + 1, _, _, ht, .s h e, a, a0, a1 => by
  obtain ⟨i1, i2⟩ := wst_more hN h0 h1 hb hl hr hS k (by omega) h a a0 a1
  obtain ⟨s2, ns2, hS2, hG2⟩ := Wst.next hN h0 h1 hb hl hr (t + k) (by omega)
  obtain ⟨rfl, rfl⟩ := h.eq hS2
  obtain ⟨o, s', ns', e', hG', hK⟩ := hG2.s hN h0 h1 hl hr (by omega)
  rw [e] at e'
  simp only [Option.some.injEq, Prod.mk.injEq] at e'
  obtain ⟨_, _, rfl, _⟩ := e'
  obtain ⟨_, j, d, j0, j1, d0, d1, q1, q2, q3⟩ := hK
  by_cases ej : a = j
  ·subst ej
   rw [q1]
   dsimp only
   omega
  ·rw [q2 a a0 a1 ej]
   exact ⟨i1, i2⟩
theorem wres_get {b : BoardT} {ns : LNode} {M : Nat} {k : Nat} (hk : k < M) : gD zWm (wres b ns M) (k : Int) = (gD z0 (mvB b) (k : Int), kidv ns 0 (k : Int)) := by
 rw [gD_nat (by unfold wres; simp; exact hk)]
 unfold wres
 simp
theorem prefL (N : Nat) (r : RulesT) (p : PosT) (seed steps more : Int) {b : BoardT} {ns ns' : LNode} (hm8 : (mvB b).length ≤ 8192) (hF : ∀ a : Int, 0 ≤ a → a < (mvB b).length → (kidv ns 0 a).1 ≤ (kidv ns' 0 a).1 ∧ (kidv ns 0 a).2 ≤ (kidv ns' 0 a).2) :
  ∀ (j k n : Nat), k + j = (mvB b).length → j < n →
   Q4.l0 N r p seed steps more n ((mvB b).length : Int) (k : Int) (wres b ns (mvB b).length) (wres b ns' (mvB b).length) = some true
 | 0, k, n, hk, hn => by
  obtain ⟨n, rfl⟩ := nxt (n := n) (by omega)
  rw [Q4.l0_s]
  unfold Q4.s0
  rw [bif_f (ltI_f (by omega))]
 | j + 1, k, n, hk, hn => by
  obtain ⟨n, rfl⟩ := nxt (n := n) (by omega)
  have hw := wres_get (b := b) (ns := ns) (show k < (mvB b).length by omega)
  have hw' := wres_get (b := b) (ns := ns') (show k < (mvB b).length by omega)
  obtain ⟨v0, v1⟩ := hF (k : Int) (by omega) (by omega)
  have hwl : ∀ ns, (wres b ns (mvB b).length).length = (mvB b).length := fun ns => by unfold wres; simp
  rw [Q4.l0_s]
  unfold Q4.s0
  rw [hwl, hwl, bif_t (ltI_t (by omega)), chk_idx (by omega) (by omega), chk_idx (by omega) (by omega), hw, hw']
  dsimp only
  rw [bif_f (ltI_f v0), chk_idx (by omega) (by omega), chk_idx (by omega) (by omega), bif_f (ltI_f v1), chk_idx (by omega) (by omega), chk_idx (by omega) (by omega), eqI_self, eqI_self, eqI_self, bif_f (by rfl), w64_id (x := (k : Int) + 1) (by omega) (by omega), show ((k : Int) + 1) = ((k + 1 : Nat) : Int) by omega]
  exact prefL N r p seed steps more hm8 hF j (k + 1) n (by omega) (by omega)
theorem mod30 (x : Int) : ∃ k : Nat, k < 30 ∧ Int.tmod (w64 ((Int.tmod x 30) + 30)) 30 = k := by
 have b1 := Int.tmod_lt_of_pos x (show (0 : Int) < 30 by decide)
 have b2 : -30 < Int.tmod x 30 := by
  have := Int.tmod_lt_of_pos (-x) (show (0 : Int) < 30 by decide)
  rw [Int.neg_tmod] at this
  omega
 rw [w64_id (x := Int.tmod x 30 + 30) (by omega) (by omega)]
 have c1 := Int.tmod_lt_of_pos (Int.tmod x 30 + 30) (show (0 : Int) < 30 by decide)
 have c2 := Int.tmod_nonneg 30 (show 0 ≤ Int.tmod x 30 + 30 by omega)
 exact ⟨(Int.tmod (Int.tmod x 30 + 30) 30).toNat, by omega, by omega⟩
theorem walkPrefix_at (r : RulesT) (p : PosT) (seed steps more : Int) : Q4 300000000 r p seed steps more = some true := by
 have hw : Q11 300000000 = some true := walked_ok
 unfold Q4 Q4.e
 rw [hw, Option.bind_some, bif_f (by rfl)]
 by_cases h12 : (12 : Int) < p.1.length
 ·rw [bif_t (ltI_t h12)]
 rw [bif_f (ltI_f (by omega))]
 dsimp only
 obtain ⟨st, st1, e1⟩ := mod30 steps
 obtain ⟨mo, mo1, e2⟩ := mod30 more
 rw [e1, e2, w64_id (x := (st : Int) + mo) (by omega) (by omega)]
 rcases run_ok (N := 300000000) (by decide) r p seed with ⟨v, hv, hh⟩ | ⟨hr, hp, hres, b, s0, hb1, hb2, hb, hl, q0, q1, hh⟩
 ·rw [hh st (by omega) (by omega), hh _ (by omega) (by omega), Option.bind_some, Option.bind_some, bif_t (by rw [eqI_f hv]; rfl), bif_t (eqI_self v)]
  rfl
 ·have hm8 : (mvB b).length ≤ 8192 := (mvP_spec hb.r hb.p).1
  obtain ⟨s, ns, hS, hG, e⟩ := hh st (by omega)
  obtain ⟨s', ns', hS', hG', e'⟩ := hh (st + mo) (by omega)
  rw [show (((st + mo : Nat)) : Int) = (st : Int) + mo by omega] at e'
  have hM := wst_more (N := 300000000) (by decide) q0 q1 hb hl (by rw [hb1, hb2]; exact hres) hS mo (by omega) hS'
  have hwl : ∀ ns, (wres b ns (mvB b).length).length = (mvB b).length := fun ns => by unfold wres; simp
  rw [e, e', Option.bind_some, Option.bind_some, bif_f (by rfl), bif_f (by rfl)]
  dsimp only
  rw [hwl, hwl, eqI_self, bif_f (by rfl)]
  exact prefL 300000000 r p seed steps more hm8 hM _ 0 300000000 (Nat.zero_add _) (by omega)
end Go.Proofs.Ytpielijehhhobaa.Am
