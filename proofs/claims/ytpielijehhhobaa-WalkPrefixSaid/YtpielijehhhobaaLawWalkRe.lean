/- Plain: walk.Run's result: the moves with the visits and points of the root's kids after so many steps. -/
import Derived.Test.YtpielijehhhobaaLawWalkCe
set_option linter.unusedVariables false
set_option linter.unusedSimpArgs false
set_option linter.unusedSectionVars false
namespace Go.Proofs.Ytpielijehhhobaa.Am
open Go
noncomputable section
abbrev ns0 : LNode := [([], ([], (1, 0)))]
inductive Wst (N : Nat) (b : BoardT) (s0 : Int) : Nat → Int → LNode → Prop
 | z : Wst N b s0 0 s0 ns0
 | s {t : Nat} {s s' o : Int} {ns ns' : LNode} : Wst N b s0 t s ns → Q33 N (b, s) (ns, 0) = some (o, ((b, s'), (ns', 0))) → Wst N b s0 (t + 1) s' ns'
theorem Wst.eq {N : Nat} {b : BoardT} {s0 : Int} : ∀ {t : Nat} {s s' : Int} {ns ns' : LNode}, Wst N b s0 t s ns → Wst N b s0 t s' ns' → s = s' ∧ ns = ns'
 | 0, _, _, _, _, .z, .z => ⟨rfl, rfl⟩
 | t + 1, _, _, _, _, .s h e, .s h' e' => by
  obtain ⟨rfl, rfl⟩ := Wst.eq h h'
  rw [e] at e'
  simp only [Option.some.injEq, Prod.mk.injEq] at e'
  exact ⟨e'.2.1.2, e'.2.2.1⟩
structure Gs (b : BoardT) (s0 : Int) (t : Nat) (s : Int) (ns : LNode) : Prop where
 inv : ∃ g, g 0 = b ∧ Inv ns g t (t + 1)
 len : 0 < ns.length
 lo : s0 ≤ s
 hi : s ≤ s0 + 200 * t
 v : (nd ns 0).2.2.1 = t + 1
theorem Gs.z {b : BoardT} (hb : BOk b) (hl : b.2.2.2.length = 0) (s0 : Int) : Gs b s0 0 s0 ns0 := by
 have hn : nd ns0 0 = ([], ([], (1, 0))) := rfl
 have h0 : ∀ i : Int, 0 ≤ i → i < (ns0.length : Int) → i = 0 := fun i a b => by simp at b; omega
 have hk : (ks ns0 0).length = 0 := rfl
 refine ⟨⟨fun _ => b, rfl, fun i a b => ⟨hb, by omega⟩, fun i a b => ?_, fun i a b c => ?_, fun i j a b c e => ?_, fun i j i' j' a b c e => ?_⟩, by simp, by omega, by omega, by rw [hn]; rfl⟩
 ·rw [h0 i a b, hn]
  dsimp only
  omega
 ·rw [h0 i a b, hk] at c; omega
 ·rw [h0 i a b, hk] at e; omega
 ·rw [h0 i a b, hk] at e; omega
theorem Gs.s {N : Nat} (hN : 200000100 ≤ N) {b : BoardT} {s0 : Int} (h0 : 0 ≤ s0) (h1 : s0 ≤ 800000000000) (hl : b.2.2.2.length = 0) (hr : resV b.1 b.2.1 = 0) {t : Nat} (ht : t ≤ 60) {s : Int} {ns : LNode} (hG : Gs b s0 t s ns) :
  ∃ o s' ns', Q33 N (b, s) (ns, 0) = some (o, ((b, s'), (ns', 0))) ∧ Gs b s0 (t + 1) s' ns' ∧ Kv ns ns' 0 (mvB b).length := by
 obtain ⟨⟨g, g0, hI⟩, hlen, a1, a2, a3⟩ := hG
 obtain ⟨o, s', ns', g', e, hP⟩ := step_ok t (N := N) (n := 0) (s := s) (by omega) hI (by omega) (by omega) (Int.le_refl _) (by omega) (by omega) (by omega) (by rw [g0, hl]; omega)
 rw [g0] at e
 refine ⟨o, s', ns', e, ⟨⟨g', by rw [hP.gg 0 (Int.le_refl _) (by omega), g0], by have := hP.inv; rw [show ((t + 1 : Nat) : Int) = (t : Int) + 1 by omega]; exact this⟩, by have := hP.len; omega, by have := hP.s0; omega, by have := hP.s1; omega, by have := hP.me; omega⟩, ?_⟩
 have := hP.kv (by omega) (by rw [g0]; exact hr)
 rw [g0] at this
 exact this
theorem Wst.next {N : Nat} (hN : 200000100 ≤ N) {b : BoardT} {s0 : Int} (h0 : 0 ≤ s0) (h1 : s0 ≤ 800000000000) (hb : BOk b) (hl : b.2.2.2.length = 0) (hr : resV b.1 b.2.1 = 0) : ∀ (t : Nat), t ≤ 61 → ∃ s ns, Wst N b s0 t s ns ∧ Gs b s0 t s ns
 | 0, _ => ⟨_, _, .z, Gs.z hb hl s0⟩
 | t + 1, ht => by
  obtain ⟨s, ns, hS, hG⟩ := Wst.next hN h0 h1 hb hl hr t (by omega)
  obtain ⟨o, s', ns', e, hG', _⟩ := hG.s hN h0 h1 hl hr (by omega)
  exact ⟨s', ns', .s hS e, hG'⟩
theorem runL_ok {N : Nat} (hN : 200000100 ≤ N) {b : BoardT} {s0 : Int} (h0 : 0 ≤ s0) (h1 : s0 ≤ 800000000000) (hl : b.2.2.2.length = 0) (hr : resV b.1 b.2.1 = 0) (r : RulesT) (p : PosT) (seed : Int) : ∀ (j t n : Nat) {s : Int} {ns : LNode}, t + j ≤ 61 → 10000 + j ≤ n → Wst N b s0 t s ns → Gs b s0 t s ns →
  ∃ s' ns' n', Wst N b s0 (t + j) s' ns' ∧ Gs b s0 (t + j) s' ns' ∧ 9000 ≤ n' ∧ runL N r p seed ((t + j : Nat) : Int) n t b s ns = ((Q34 N b).bind fun y => Q12.l1 N r p seed ((t + j : Nat) : Int) n' (y.length : Int) 0 ns' y [])
 | 0, t, n, s, ns, ht, hn, hS, hG => by
  obtain ⟨n, rfl⟩ := nxt (n := n) (by omega)
  rw [runL_s, bif_f (ltI_f (by omega))]
  exact ⟨s, ns, n, hS, hG, by omega, rfl⟩
 | j + 1, t, n, s, ns, ht, hn, hS, hG => by
  obtain ⟨n, rfl⟩ := nxt (n := n) (by omega)
  obtain ⟨o, s', ns', e, hG', _⟩ := hG.s hN h0 h1 hl hr (by omega)
  obtain ⟨s2, ns2, n2, a1, a2, a3, a4⟩ := runL_ok hN h0 h1 hl hr r p seed j (t + 1) n (by omega) (by omega) (.s hS e) hG'
  rw [runL_s, bif_t (ltI_t (by omega)), e, Option.bind_some]
  dsimp only
  rw [w64_id (by omega) (by omega), show ((t : Int) + 1) = ((t + 1 : Nat) : Int) by omega, show t + (j + 1) = t + 1 + j by omega]
  exact ⟨s2, ns2, n2, a1, a2, a3, a4⟩
def wres (b : BoardT) (ns : LNode) (k : Nat) : List TWm := (List.range k).map fun i : Nat => (gD z0 (mvB b) (i : Int), kidv ns 0 (i : Int))
theorem outC_ok {b : BoardT} {s0 : Int} {t : Nat} {s : Int} {ns : LNode} (hb : BOk b) (hG : Gs b s0 t s ns) : ∀ (j k n : Nat), k + j = (mvB b).length → j < n →
  outC (mvB b) ns ((mvB b).length : Int) n (k : Int) (wres b ns k) = some (wres b ns (mvB b).length, 0)
 | 0, k, n, hk, hn => by
  obtain ⟨n, rfl⟩ := nxt (n := n) (by omega)
  unfold outC
  rw [bif_f (ltI_f (by omega)), show k = (mvB b).length by omega]
 | j + 1, k, n, hk, hn => by
  obtain ⟨n, rfl⟩ := nxt (n := n) (by omega)
  have hm8 : (mvB b).length ≤ 8192 := (mvP_spec hb.r hb.p).1
  have ih := outC_ok hb hG j (k + 1) n (by omega) (by omega)
  obtain ⟨⟨g, g0, hI⟩, hlen, _, _, _⟩ := hG
  have hwl : (wres b ns k).length = k := by unfold wres; simp
  have hws : wres b ns (k + 1) = wres b ns k ++ [(gD z0 (mvB b) (k : Int), kidv ns 0 (k : Int))] := by
   unfold wres
   rw [List.range_succ, List.map_append]
   rfl
  unfold outC
  rw [bif_t (ltI_t (by omega)), chk_idx (by omega) (by omega), w64_id (x := (k : Int) + 1) (by omega) (by omega), show ((k : Int) + 1) = ((k + 1 : Nat) : Int) by omega]
  by_cases hz : (ks ns 0).length = 0
  ·rw [bif_f (by rw [eqI_t (show (((gD zN ns 0).2.1.length : Nat) : Int) = 0 from by unfold ks nd at hz; omega)]; rfl), chk_cap (by rw [hwl]; omega), ← ih, hws]
   unfold kidv
   rw [if_pos hz]
  ·have hms := hI.ms 0 (Int.le_refl _) (by omega) (by omega)
   rw [g0] at hms
   obtain ⟨c0, c1, _⟩ := hI.kd 0 (k : Int) (Int.le_refl _) (by omega) (by omega) (by omega)
   have hlt : (k : Int) < ((gD zN ns 0).2.1.length : Int) := by have := hms.2; unfold ks nd at this; omega
   have c0' : (0 : Int) ≤ gD (-1 : Int) (gD zN ns 0).2.1 (k : Int) := by unfold kid ks nd at c0; omega
   rw [bif_t (by rw [eqI_f (show (((gD zN ns 0).2.1.length : Nat) : Int) ≠ 0 from by unfold ks nd at hz; omega)]; rfl), chk_idx (by omega) hlt, eqI_self, chk_true, leI_t c0', chk_true, chk_idx (by omega) hlt, chk_true, chk_true, chk_cap (by rw [hwl]; omega), ← ih, hws]
   unfold kidv
   rw [if_neg hz]
   rfl
theorem run_ok {N : Nat} (hN : 200000100 ≤ N) (r : RulesT) (p : PosT) (seed : Int) : 
  ((∃ v, v ≠ 0 ∧ ∀ steps : Int, 0 ≤ steps → steps ≤ 61 → Q12 N r p seed steps = some ([], v)) ∨
  (ROk r ∧ POk r p ∧ resV r p = 0 ∧ ∃ b s0, b.1 = r ∧ b.2.1 = p ∧ BOk b ∧ b.2.2.2.length = 0 ∧ 0 ≤ s0 ∧ s0 ≤ 800000000000 ∧ ∀ steps : Nat, steps ≤ 61 → ∃ s ns, Wst N b s0 steps s ns ∧ Gs b s0 steps s ns ∧ Q12 N r p seed steps = some (wres b ns (mvB b).length, 0))) := by
 obtain ⟨v, hv, hv2⟩ := pcheck (N := N) (by omega) r p
 by_cases h0 : v = 0
 ·obtain ⟨hr, hp⟩ := hv2.1 h0
  have hnew := new_good (N := N) (by omega) hr hp
  have hbk : BOk (r, (p, (U (keyS p), []))) := ⟨hr, hp, rfl⟩
  by_cases hs : seed < 0 ∨ 100000000 < seed
  ·refine .inl ⟨4, by decide, fun steps a b => ?_⟩
   rw [walk_Run_e, hnew, Option.bind_some]
   dsimp only [oCase]
   rw [bif_f (by rfl)]
   unfold Q13 Q13.e
   rcases hs with hs | hs
   ·rw [bif_t (ltI_t hs), Option.bind_some]
    dsimp only [oCase]
    rw [bif_t (by rfl)]
   ·rw [bif_f (ltI_f (by omega)), bif_t (ltI_t hs), Option.bind_some]
    dsimp only [oCase]
    rw [bif_t (by rfl)]
  ·by_cases hres : resV r p = 0
   ·refine .inr ⟨hr, hp, hres, (r, (p, (U (keyS p), []))), seed * 4096, rfl, rfl, hbk, rfl, by omega, by omega, fun steps hst => ?_⟩
    have hs0 : (0 : Int) ≤ seed * 4096 := by omega
    have hs1 : seed * 4096 ≤ 800000000000 := by omega
    obtain ⟨s', ns', n', a1, a2, a3, a4⟩ := runL_ok hN hs0 hs1 (b := (r, (p, (U (keyS p), [])))) rfl hres r p seed steps 0 N (by omega) (by omega) .z (Gs.z hbk rfl _)
    rw [Nat.zero_add] at a1 a2 a4
    refine ⟨s', ns', a1, a2, ?_⟩
    rw [walk_Run_e, hnew, Option.bind_some]
    dsimp only [oCase]
    rw [bif_f (by rfl)]
    unfold Q13 Q13.e
    rw [bif_f (ltI_f (by omega)), bif_f (ltI_f (by omega)), Option.bind_some]
    dsimp only [oCase]
    rw [bif_f (by rfl), bif_f (ltI_f (by omega)), bif_f (ltI_f (by omega)), bresult_eq (by omega) hbk, Option.bind_some, bif_f (by rw [eqI_t hres]; rfl), w64_id (x := seed * 4096) (by omega) (by omega)]
    refine (show _ = _ from a4).trans ?_
    rw [bmoves_mvP (by omega) hbk, Option.bind_some, l1_eq]
    exact outC_ok hbk a2 _ 0 n' (Nat.zero_add _) (by have := (mvP_spec hr hp).1; show (mvP r p).length < n'; omega)
   ·refine .inl ⟨14, by decide, fun steps a b => ?_⟩
    rw [walk_Run_e, hnew, Option.bind_some]
    dsimp only [oCase]
    rw [bif_f (by rfl)]
    unfold Q13 Q13.e
    rw [bif_f (ltI_f (by omega)), bif_f (ltI_f (by omega)), Option.bind_some]
    dsimp only [oCase]
    rw [bif_f (by rfl), bif_f (ltI_f (by omega)), bif_f (ltI_f (by omega)), bresult_eq (by omega) hbk, Option.bind_some, bif_t (by rw [eqI_f hres]; rfl)]
 ·refine .inl ⟨v, h0, fun steps a b => ?_⟩
  rw [walk_Run_e, new_bad hv h0, Option.bind_some]
  dsimp only [oCase]
  rw [bif_t (by rw [eqI_f h0]; rfl)]
end
end Go.Proofs.Ytpielijehhhobaa.Am
