/- Plain: the visits of all moves are the steps. -/
import Derived.Test.YtpielijehhhobaaLawWalkRa
set_option linter.unusedVariables false
set_option linter.unusedSimpArgs false
set_option linter.unusedSectionVars false
namespace Go.Proofs.Ytpielijehhhobaa.Am
open Go
def sv (f : Int → Int × Int) : Nat → Int
 | 0 => 0
 | k + 1 => sv f k + (f (k : Int)).1
theorem sv_step {f f' : Int → Int × Int} {j : Int} {M : Nat} (hj : (f' j).1 = (f j).1 + 1) (h : ∀ a : Int, 0 ≤ a → a < M → a ≠ j → f' a = f a) : ∀ k : Nat, k ≤ M → sv f' k = sv f k + (if 0 ≤ j ∧ j < k then 1 else 0)
 | 0, _ => by rw [if_neg (by omega)]; rfl
 | k + 1, hk => by
  have ih := sv_step hj h k (by omega)
  unfold sv
  rw [ih]
  by_cases e : (k : Int) = j
  ·rw [e, hj, if_neg (by omega), if_pos (by omega)]
   omega
  ·rw [h k (by omega) (by omega) e]
   by_cases c : 0 ≤ j ∧ j < k
   ·rw [if_pos c, if_pos (by omega)]; omega
   ·rw [if_neg c, if_neg (by omega)]; omega
structure Fa (f : Int → Int × Int) (M t : Nat) : Prop where
 vq : ∀ a : Int, 0 ≤ a → a < M → 0 ≤ (f a).1 ∧ (f a).1 ≤ t ∧ 0 ≤ (f a).2 ∧ (f a).2 ≤ 2 * (f a).1
 pre : ∃ c : Int, 0 ≤ c ∧ c ≤ M ∧ (∀ a : Int, 0 ≤ a → a < c → (f a).1 ≠ 0) ∧ (∀ a : Int, c ≤ a → a < M → (f a).1 = 0)
 sum : sv f M = t
theorem fa_next {ns ns' : LNode} {M t : Nat} (h : Fa (kidv ns 0) M t) (hk : Kv ns ns' 0 M) : Fa (kidv ns' 0) M (t + 1) := by
 obtain ⟨hv, ⟨c, c0, c1, c2, c3⟩, hs⟩ := h
 obtain ⟨_, j, d, j0, j1, d0, d1, q1, q2, q3⟩ := hk
 refine ⟨fun a a0 a1 => ?_, ?_, ?_⟩
 ·by_cases e : a = j
  ·subst e
   have := hv a a0 a1
   rw [q1]
   dsimp only
   omega
  ·rw [q2 a a0 a1 e]
   have := hv a a0 a1
   omega
 ·rcases q3 with ⟨z, zz⟩ | z
  ·
   have hjc : j = c := by
    rcases Int.lt_trichotomy j c with h | h | h
    ·exact absurd z (c2 j j0 h)
    ·exact h
    ·exact absurd (c3 c (Int.le_refl _) (by omega)) (zz c c0 h)
   subst hjc
   refine ⟨j + 1, by omega, by omega, fun a a0 a1 => ?_, fun a a0 a1 => ?_⟩
   ·by_cases e : a = j
    ·subst e
     have := hv a a0 (by omega)
     rw [q1]
     dsimp only
     omega
    ·rw [q2 a a0 (by omega) e]
     exact c2 a a0 (by omega)
   ·rw [q2 a (by omega) a1 (by omega)]
    exact c3 a (by omega) a1
  ·have hcM : c = M := Classical.byContradiction fun ne => z c c0 (by omega) (c3 c (Int.le_refl _) (by omega))
   subst hcM
   refine ⟨M, c0, c1, fun a a0 a1 => ?_, fun a a0 a1 => absurd a1 (by omega)⟩
   by_cases e : a = j
   ·subst e
    have := hv a a0 a1
    rw [q1]
    dsimp only
    omega
   ·rw [q2 a a0 a1 e]
    exact z a a0 a1
 ·rw [sv_step (f := kidv ns 0) (j := j) (M := M) (by rw [q1]) (fun a a0 a1 ne => q2 a a0 a1 ne) M (Nat.le_refl _), hs, if_pos ⟨j0, j1⟩]
  omega
theorem fa_zero (M : Nat) : Fa (kidv ns0 0) M 0 := by
 have h : ∀ a : Int, kidv ns0 0 a = (0, 0) := fun a => rfl
 refine ⟨fun a a0 a1 => by rw [h]; exact ⟨Int.le_refl _, Int.le_refl _, Int.le_refl _, Int.le_refl _⟩, ⟨0, Int.le_refl _, by omega, fun a a0 a1 => by omega, fun a a0 a1 => by rw [h]⟩, ?_⟩
 have : ∀ k, sv (kidv ns0 0) k = 0 := fun k => by
  induction k with
  | zero => rfl
  | succ k ih => unfold sv; rw [ih, h]; rfl
 exact this M
theorem wst_fa {N : Nat} (hN : 200000100 ≤ N) {b : BoardT} {s0 : Int} (h0 : 0 ≤ s0) (h1 : s0 ≤ 800000000000) (hb : BOk b) (hl : b.2.2.2.length = 0) (hr : resV b.1 b.2.1 = 0) : ∀ (t : Nat) {s : Int} {ns : LNode}, t ≤ 61 → Wst N b s0 t s ns → Fa (kidv ns 0) (mvB b).length t
 | 0, _, _, _, .z => fa_zero _
 | t + 1, _, _, ht, .s hS e => by
  have ih := wst_fa hN h0 h1 hb hl hr t (by omega) hS
  obtain ⟨s2, ns2, hS2, hG2⟩ := Wst.next hN h0 h1 hb hl hr t (by omega)
  obtain ⟨rfl, rfl⟩ := hS.eq hS2
  obtain ⟨o, s', ns', e', hG', hK⟩ := hG2.s hN h0 h1 hl hr (by omega)
  rw [e] at e'
  simp only [Option.some.injEq, Prod.mk.injEq] at e'
  obtain ⟨_, _, rfl, _⟩ := e'
  exact fa_next ih hK
theorem wres_get {b : BoardT} {ns : LNode} {M : Nat} {k : Nat} (hk : k < M) : gD zWm (wres b ns M) (k : Int) = (gD z0 (mvB b) (k : Int), kidv ns 0 (k : Int)) := by
 rw [gD_nat (by unfold wres; simp; exact hk)]
 unfold wres
 simp
theorem addsL (N : Nat) (r : RulesT) (p : PosT) (seed steps : Int) {b : BoardT} {ns : LNode} {t : Nat} (ht : t ≤ 61) (hm8 : (mvB b).length ≤ 8192) (hF : Fa (kidv ns 0) (mvB b).length t) {c : Int} (c0 : 0 ≤ c) (c2 : ∀ a : Int, 0 ≤ a → a < c → (kidv ns 0 a).1 ≠ 0) (c3 : ∀ a : Int, c ≤ a → a < (mvB b).length → (kidv ns 0 a).1 = 0) :
  ∀ (j k n : Nat) (sum : Int) (no : Bool), k + j = (mvB b).length → j < n → sum = sv (kidv ns 0) k → 0 ≤ sum → sum ≤ 61 * k → (no = true ↔ c < k) →
   Q6.l0 N r p seed steps n (t : Int) sum no ((mvB b).length : Int) (k : Int) (wres b ns (mvB b).length) (mvB b) = some true
 | 0, k, n, sum, no, hk, hn, hs, s0, s1, hno => by
  obtain ⟨n, rfl⟩ := nxt (n := n) (by omega)
  rw [Q6.l0_s]
  unfold Q6.s0
  rw [bif_f (ltI_f (by omega)), eqI_t]
  rw [hs, show k = (mvB b).length by omega, hF.sum]
 | j + 1, k, n, sum, no, hk, hn, hs, s0, s1, hno => by
  obtain ⟨n, rfl⟩ := nxt (n := n) (by omega)
  have hw := wres_get (b := b) (ns := ns) (show k < (mvB b).length by omega)
  obtain ⟨v0, v1, v2, v3⟩ := hF.vq (k : Int) (by omega) (by omega)
  have hwl : (wres b ns (mvB b).length).length = (mvB b).length := by unfold wres; simp
  have hk2 := c2 (k : Int) (by omega)
  have hk3 := c3 (k : Int)
  rw [Q6.l0_s]
  unfold Q6.s0
  rw [hwl, bif_t (ltI_t (by omega)), chk_idx (by omega) (by omega), chk_idx (by omega) (by omega), hw]
  dsimp only
  rw [eqI_self, eqI_self, eqI_self, bif_f (by rfl), bif_f (ltI_f v0), bif_f (ltI_f v2), w64_id (x := 2 * (kidv ns 0 (k : Int)).1) (by omega) (by omega), bif_f (ltI_f v3), w64_id (x := sum + (kidv ns 0 (k : Int)).1) (by omega) (by omega), w64_id (x := (k : Int) + 1) (by omega) (by omega), show ((k : Int) + 1) = ((k + 1 : Nat) : Int) by omega]
  have ih := fun no' h => addsL N r p seed steps ht hm8 hF c0 c2 c3 j (k + 1) n (sum + (kidv ns 0 (k : Int)).1) no' (by omega) (by omega) (by rw [hs]; rfl) (by omega) (by omega) h
  cases no with
  | true =>
   have hck := hno.1 rfl
   rw [cond_true, bif_f (ltI_f (by have := hk3 (by omega) (by omega); omega)), cond_true]
   exact ih true ⟨fun _ => by omega, fun _ => rfl⟩
  | false =>
   have hck : ¬ c < k := fun h => Bool.noConfusion (hno.2 h)
   rw [cond_false, cond_false]
   refine ih _ ?_
   rw [eqI_iff]
   refine ⟨fun e => ?_, fun e => hk3 (by omega) (by omega)⟩
   have : ¬ (k : Int) < c := fun h => hk2 h e
   omega
theorem plays_trueA : Q16 300000000 = some true := by decide +kernel
theorem walkAdds_at (r : RulesT) (p : PosT) (seed steps : Int) : Q6 300000000 r p seed steps = some true := by
 have hw : Q11 300000000 = some true := walked_ok
 unfold Q6 Q6.e
 rw [hw, Option.bind_some, bif_f (by rfl), plays_trueA, Option.bind_some, bif_f (by rfl)]
 by_cases h12 : (12 : Int) < p.1.length
 ·rw [bif_t (ltI_t h12)]
 rw [bif_f (ltI_f (by omega))]
 have b1 := Int.tmod_lt_of_pos steps (show (0 : Int) < 50 by decide)
 have b2 : -50 < Int.tmod steps 50 := by
  have := Int.tmod_lt_of_pos (-steps) (show (0 : Int) < 50 by decide)
  rw [Int.neg_tmod] at this
  omega
 dsimp only
 rw [w64_id (x := Int.tmod steps 50 + 50) (by omega) (by omega)]
 have c1 := Int.tmod_lt_of_pos (Int.tmod steps 50 + 50) (show (0 : Int) < 50 by decide)
 have c2 := Int.tmod_nonneg 50 (show 0 ≤ Int.tmod steps 50 + 50 by omega)
 generalize Int.tmod (Int.tmod steps 50 + 50) 50 = st at *
 obtain ⟨st, rfl⟩ : ∃ a : Nat, st = a := ⟨st.toNat, by omega⟩
 rcases run_ok (N := 300000000) (by decide) r p seed with ⟨v, hv, hh⟩ | ⟨hr, hp, hres, b, s0, hb1, hb2, hb, hl, q0, q1, hh⟩
 ·rw [hh st (by omega) (by omega), Option.bind_some, bif_t (by rw [eqI_f hv]; rfl)]
  rfl
 ·obtain ⟨s, ns, hS, hG, e⟩ := hh st (by omega)
  have hm : mvB b = mvP r p := by unfold mvB; rw [hb1, hb2]
  have hm8 : (mvB b).length ≤ 8192 := (mvP_spec hb.r hb.p).1
  have hall : Q17 300000000 r p = some (mvB b, 0) := by
   unfold Q17 Q17.e
   obtain ⟨l, hl, hg⟩ := gen_ret hr hp (N := 300000000) (by decide)
   rw [pcheck_ok (by decide) hr hp, Option.bind_some, bif_f (by rfl), hl, Option.bind_some, hm]
   unfold mvP
   rw [if_pos hres, ← gen_same hr hp (N := 300000000) (by decide), hl]
   rfl
  have hF := wst_fa (N := 300000000) (by decide) q0 q1 hb hl (by rw [hb1, hb2]; exact hres) st (by omega) hS
  obtain ⟨c, c0, c1', c2', c3'⟩ := hF.pre
  rw [e, Option.bind_some, bif_f (by rfl), hall, Option.bind_some, bif_f (by rfl)]
  have hwl : (wres b ns (mvB b).length).length = (mvB b).length := by unfold wres; simp
  dsimp only
  rw [hwl, eqI_self, bif_f (by rfl)]
  exact addsL 300000000 r p seed steps (by omega) hm8 hF c0 c2' c3' _ 0 300000000 0 false (Nat.zero_add _) (by omega) rfl (by omega) (by omega) ⟨fun h => Bool.noConfusion h, fun h => by omega⟩
end Go.Proofs.Ytpielijehhhobaa.Am
