/- Plain: after the move of First, the other player has lost. -/
import Derived.Test.YtpielijehhhobaaLawProofDf
import Derived.Test.YtpielijehhhobaaLawTreef
import Derived.Test.YtpielijehhhobaaLawDoFf
set_option linter.unusedVariables false
set_option linter.unusedSimpArgs false
set_option linter.unusedSectionVars false
namespace Go.Proofs.Ytpielijehhhobaa.Am
open Go
theorem mod60 (x : Int) : ∃ k : Nat, k < 60 ∧ Int.tmod (w64 ((Int.tmod x 60) + 60)) 60 = k := by
 have b1 := Int.tmod_lt_of_pos x (show (0 : Int) < 60 by decide)
 have b2 : -60 < Int.tmod x 60 := by
  have := Int.tmod_lt_of_pos (-x) (show (0 : Int) < 60 by decide)
  rw [Int.neg_tmod] at this
  omega
 rw [w64_id (x := Int.tmod x 60 + 60) (by omega) (by omega)]
 have c1 := Int.tmod_lt_of_pos (Int.tmod x 60 + 60) (show (0 : Int) < 60 by decide)
 have c2 := Int.tmod_nonneg 60 (show 0 ≤ Int.tmod x 60 + 60 by omega)
 exact ⟨(Int.tmod (Int.tmod x 60 + 60) 60).toNat, by omega, by omega⟩
theorem scored_trueP : Q18 300000000 = some true := by decide +kernel
theorem plays_trueP : Q16 300000000 = some true := by decide +kernel
def FiQ (r : RulesT) (p : PosT) (y : MvT × Int) : Prop := (y.2 ≠ 0 ∧ y.1 = (0, (0, 0))) ∨ (y.2 = 0 ∧ resV r p = 0 ∧ y.1 ∈ cand r p ∧ negV r (doI r p y.1))
theorem first1_ok (N : Nat) (r : RulesT) (p : PosT) (budget : Int) {b : BoardT} (hbr : b.1 = r) (hbp : b.2.1 = p) (ho : ownB p.2.2.1 b = true) (q0 : 0 ≤ p.2.2.1) (q1 : p.2.2.1 ≤ 1) {t : Nat} {ns : LP} (hG : Pgs b p.2.2.1 t ns) : ∀ (j k n : Nat), k + j = (pks ns 0).length → j < n →
  Ret (Q22.l1 N r p budget n ((pn ns 0).2.1.length : Int) ((pn ns 0).2.1.length : Int) (k : Int) ns) (FiQ r p)
 | 0, k, n, hk, hn => by
  obtain ⟨n, rfl⟩ := nxt (n := n) (by omega)
  rw [Q22.l1_s]
  unfold Q22.s1
  rw [bif_f (ltI_f (show ((pn ns 0).2.1.length : Int) ≤ k by unfold pks at hk; omega))]
  exact Ret.ret (.inl ⟨by decide, rfl⟩)
 | j + 1, k, n, hk, hn => by
  obtain ⟨n, rfl⟩ := nxt (n := n) (by omega)
  have ih := first1_ok N r p budget hbr hbp ho q0 q1 hG j (k + 1) n (by omega) (by omega)
  obtain ⟨⟨g, sz, g0, hI, hA⟩, hlen⟩ := hG
  obtain ⟨hxe, hml, hg, hr0⟩ := kid_mv hI (Int.le_refl 0) (by omega) (by omega)
  obtain ⟨k0, k1, kg⟩ := hI.kd 0 (k : Int) (Int.le_refl 0) (by omega) (by omega) (by omega)
  have hlt : (k : Int) < ((pn ns 0).2.1.length : Int) := by show (k : Int) < ((pks ns 0).length : Int); omega
  have hki : 0 ≤ gD (-1 : Int) (pn ns 0).2.1 (k : Int) := by show 0 ≤ pkid ns 0 (k : Int); omega
  have hm8 := hg.len
  rw [Q22.l1_s]
  unfold Q22.s1
  rw [bif_t (ltI_t hlt), chk_idx (by omega) hlt]
  rw [show eqI ((pn ns 0).2.1.length : Int) ((gD (([] : LMv), ([] : List Int), ((0 : Int), ((0 : Int), false))) ns 0).2.1.length : Int) = true from eqI_self _, chk_true]
  dsimp only
  rw [show leI 0 (gD (-1 : Int) (gD (([] : LMv), ([] : List Int), ((0 : Int), ((0 : Int), false))) ns 0).2.1 (k : Int)) = true from leI_t hki, chk_true]
  by_cases c : (pn ns (pkid ns 0 (k : Int))).2.2.1 = 0
  ·rw [bif_t (eqI_t (show (gD (([] : LMv), ([] : List Int), ((0 : Int), ((0 : Int), false))) ns (gD (-1 : Int) (gD (([] : LMv), ([] : List Int), ((0 : Int), ((0 : Int), false))) ns 0).2.1 (k : Int))).2.2.1 = 0 from c)), chk_idx (by omega) (show (k : Int) < ((gD (([] : LMv), ([] : List Int), ((0 : Int), ((0 : Int), false))) ns 0).1.length : Int) from (show (k : Int) < ((pn ns 0).1.length : Int) by omega))]
   refine Ret.ret (.inr ⟨rfl, ?_, ?_⟩)
   ·rw [g0, hbr, hbp] at hr0
    exact hr0
   ·have hgm := gen_move (hI.bo 0 (Int.le_refl 0) (by omega)).1 (hI.bo 0 (Int.le_refl 0) (by omega)).2.2 hg (j := (k : Int)) (by omega) (by omega)
    have hw := (hI.wn _ (by omega) k1).2 (by rw [(kid_na hI q0 q1 (Int.le_refl 0) (by omega) (by omega) (by omega)).1]; unfold ka; rw [g0, ho]; exact c)
    rw [kg, g0] at hw
    have hm := hgm.1
    rw [g0, hbr, hbp] at hm
    have e2 : (makeB b (gD z0 (pn ns 0).1 (k : Int))).2.1 = doI b.1 b.2.1 (gD z0 (pn ns 0).1 (k : Int)) := rfl
    rw [e2, hbr, hbp] at hw
    exact ⟨hm, hw⟩
  ·rw [bif_f (eqI_f (show (gD (([] : LMv), ([] : List Int), ((0 : Int), ((0 : Int), false))) ns (gD (-1 : Int) (gD (([] : LMv), ([] : List Int), ((0 : Int), ((0 : Int), false))) ns 0).2.1 (k : Int))).2.2.1 ≠ 0 from c)), w64_id (by omega) (by omega), show ((k : Int) + 1) = ((k + 1 : Nat) : Int) by omega]
   exact ih
theorem firstL_ok (N : Nat) (r : RulesT) (p : PosT) (budget : Int) {b : BoardT} {P : Int} {t : Nat} {ns : LP} (hS : Pst N b P t ns) (hp0 : (pn ns 0).2.2.1 = 0) : ∀ (j k n : Nat) {nk : LP}, k + j = t → j < n → Pst N b P k nk →
  ∃ m, n = m + j + 1 ∧ firstL N r p budget n P (k : Int) b nk = Q22.l1 N r p budget m ((pn ns 0).2.1.length : Int) ((pn ns 0).2.1.length : Int) 0 ns
 | 0, k, n, nk, hk, hn, hK => by
  obtain ⟨n, rfl⟩ := nxt (n := n) (by omega)
  obtain rfl : k = t := by omega
  obtain rfl := hK.eq hS
  rw [firstL_s, bif_f (ltI_f (by omega))]
  exact ⟨n, by omega, rfl⟩
 | j + 1, k, n, nk, hk, hn, hK => by
  obtain ⟨n, rfl⟩ := nxt (n := n) (by omega)
  obtain ⟨nk', h1, h2, h3⟩ := hS.before k (by omega)
  obtain rfl := hK.eq h1
  have hnx : ∃ ns', Pst N b P (k + 1) ns' := by
   by_cases c : k + 1 = t
   ·exact ⟨ns, by rw [c]; exact hS⟩
   ·obtain ⟨ns', h, _⟩ := hS.before (k + 1) (by omega)
    exact ⟨ns', h⟩
  obtain ⟨ns', hN⟩ := hnx
  cases hN with
  | s h hp hd e =>
   obtain rfl := hK.eq h
   obtain ⟨m, e1, e2⟩ := firstL_ok N r p budget hS hp0 j (k + 1) n (by omega) (by omega) (.s hK hp hd e)
   refine ⟨m, by omega, ?_⟩
   rw [firstL_s, bif_t (ltI_t hp), e, Option.bind_some, ← e2]
   rfl
theorem first_ok {N : Nat} (hN : 200000200 ≤ N) (r : RulesT) (p : PosT) {B : Nat} (hB : B ≤ 100) : Ret (Q22 N r p B) fun y => (y.2 ≠ 0 ∧ y.1 = (0, (0, 0))) ∨ (ROk r ∧ POk r p ∧ y.2 = 0 ∧ resV r p = 0 ∧ y.1 ∈ cand r p ∧ negV r (doI r p y.1)) := by
 rw [first_e]
 rcases prove_ok hN r p with ⟨v, hv, _, hh⟩ | ⟨hr, hp, b, hbe, hb, q0, q1, hnew, hh⟩
 ·rw [hh B hB, Option.bind_some]
  dsimp only
  rw [bif_t (by rw [eqI_f hv]; rfl)]
  exact Ret.ret (.inl ⟨hv, rfl⟩)
 ·obtain ⟨t, ns, hS, hG, ht, _, e⟩ := hh B hB
  rw [e, Option.bind_some]
  dsimp only
  rw [bif_f (by rfl)]
  by_cases hst : stP ns = 0
  ·have hp0 : (pn ns 0).2.2.1 = 0 := by
    unfold stP at hst
    by_cases c : (pn ns 0).2.2.1 = 0
    ·exact c
    ·rw [if_neg c] at hst
     by_cases c2 : (pn ns 0).2.2.2.1 = 0
     ·rw [if_pos c2] at hst; omega
     ·rw [if_neg c2] at hst; omega
   rw [bif_f (by rw [eqI_t hst]; rfl)]
   by_cases ht0 : t = 0
   ·rw [bif_t (eqI_t (by omega))]
    exact Ret.ret (.inl ⟨by decide, rfl⟩)
   ·rw [bif_f (eqI_f (by omega)), hnew, Option.bind_some]
    dsimp only [oCase]
    unfold Q28 Q28.e
    have hb1 : b.1 = r := by rw [hbe]
    have hb2 : b.2.1 = p := by rw [hbe]
    rw [Option.bind_some, show b.2.1.2.2.1 = p.2.2.1 by rw [hb2], leaf_eq (by omega) hb q0 q1, Option.bind_some]
    dsimp only
    obtain ⟨m, e1, e2⟩ := firstL_ok N r p B hS hp0 t 0 N (by omega) (by omega) .z
    rw [show firstL N r p (B : Int) N p.2.2.1 0 b [([], ([], lfv (resV b.1 b.2.1) p.2.2.1))] = firstL N r p (B : Int) N p.2.2.1 ((0 : Nat) : Int) b [([], ([], lfv (resV b.1 b.2.1) p.2.2.1))] from rfl, e2]
    have ho : ownB p.2.2.1 b = true := by unfold ownB; rw [hb2]; exact eqI_self _
    have hlen : (pks ns 0).length ≤ 8192 := by
     obtain ⟨⟨g, sz, g0, hI, hA⟩, hlen⟩ := hG
     by_cases c : (pks ns 0).length = 0
     ·omega
     ·obtain ⟨hxe, hml, hg, hr0⟩ := kid_mv hI (Int.le_refl 0) (by omega) (by omega)
      have := hg.len
      omega
    obtain ⟨y, ey, hy⟩ := first1_ok N r p B hb1 hb2 ho q0 q1 hG (pks ns 0).length 0 m (by omega) (by omega)
    refine ⟨y, ey, ?_⟩
    rcases hy with h | ⟨h1, h2, h3, h4⟩
    ·exact .inl h
    ·exact .inr ⟨hr, hp, h1, h2, h3, h4⟩
  ·rw [bif_t (by rw [eqI_f hst]; rfl)]
   exact Ret.ret (.inl ⟨by decide, rfl⟩)
theorem proofnumFirst_at (r : RulesT) (p : PosT) (budget depth : Int) : Q8 300000000 r p budget depth = some true := by
 have ha : Q9 300000000 = some true := attacked_ok
 unfold Q8 Q8.e
 rw [ha, Option.bind_some, bif_f (by rfl), scored_trueP, Option.bind_some, bif_f (by rfl), plays_trueP, Option.bind_some, bif_f (by rfl)]
 obtain ⟨B, hB, e1⟩ := mod60 budget
 obtain ⟨y, ey, hy⟩ := first_ok (N := 300000000) (by decide) r p (B := B) (by omega)
 rw [e1, ey, Option.bind_some]
 rcases hy with ⟨h1, h2⟩ | ⟨hr, hp, h0, h1, h2, h3⟩
 ·rw [bif_t (by rw [eqI_f h1]; rfl), h2]
  rfl
 ·rw [bif_f (by rw [eqI_t h0]; rfl)]
  obtain ⟨l, hl, hg⟩ := gen_ret hr hp (N := 300000000) (by decide)
  rw [after_good (by decide) hr hp hl hg ((hg.mem _).2 h2), Option.bind_some]
  dsimp only
  obtain ⟨hv, hhv, _⟩ := heavy_ret (N := 300000000) (by decide) r (doI r p y.1) depth
  obtain ⟨z, hz, hz2⟩ := score_ret (N := 300000000) (by decide) r (doI r p y.1) depth
  rw [hhv, Option.bind_some]
  cases hv with
  | true => rfl
  | false =>
   rw [bif_f rfl, hz, Option.bind_some, bif_t (eqI_self 0)]
   rcases hz2 with ⟨k1, _⟩ | ⟨k1, _, _, _, _, k5⟩
   ·rw [bif_t (by rw [eqI_f k1]; rfl)]
   ·rw [bif_f (by rw [eqI_t k1]; rfl), leI_t]
    rw [k5]
    exact h3 depth.toNat
end Go.Proofs.Ytpielijehhhobaa.Am
