/- Plain: rules are checked: fine exactly if they are as the document asks. -/
import Derived.Test.YtpielijehhhobaaLawRulesBaseb
import Derived.Test.YtpielijehhhobaaLawBoardsb
set_option linter.unusedVariables false
set_option linter.unusedSimpArgs false
namespace Go.Proofs.Ytpielijehhhobaa.Am
open Go
abbrev cellsOk (k : Nat) (l : List Int) : Prop := ∀ c ∈ l, 0 ≤ c ∧ c ≤ 2 * (k : Int)
structure ROk (r : RulesT) : Prop where
 name : nameOk r.1
 b : 1 ≤ r.2.1 ∧ r.2.1 ≤ 8 ∧ 1 ≤ r.2.2.1 ∧ r.2.2.1 ≤ 8
 ps : PiecesOk r.2.2.2.1
 ns : (r.2.2.2.2.1.length : Int) = r.2.1 * r.2.2.1
 cells : cellsOk r.2.2.2.1.length r.2.2.2.2.1
 ne : r.2.2.2.2.2.2.2.1.length ≤ 6
 ends : ∀ x ∈ r.2.2.2.2.2.2.2.1, endOk r.2.2.2.1.length x
 bl : 0 ≤ r.2.2.2.2.2.2.2.2.1 ∧ r.2.2.2.2.2.2.2.2.1 ≤ 2
 qu : 0 ≤ r.2.2.2.2.2.2.2.2.2.1 ∧ r.2.2.2.2.2.2.2.2.2.1 ≤ 200
 re : 0 ≤ r.2.2.2.2.2.2.2.2.2.2 ∧ r.2.2.2.2.2.2.2.2.2.2 ≠ 1 ∧ r.2.2.2.2.2.2.2.2.2.2 ≤ 5
abbrev tailOk (r : RulesT) : Prop := (0 ≤ r.2.2.2.2.2.2.2.2.1 ∧ r.2.2.2.2.2.2.2.2.1 ≤ 2) ∧ (0 ≤ r.2.2.2.2.2.2.2.2.2.1 ∧ r.2.2.2.2.2.2.2.2.2.1 ≤ 200) ∧ (0 ≤ r.2.2.2.2.2.2.2.2.2.2 ∧ r.2.2.2.2.2.2.2.2.2.2 ≠ 1 ∧ r.2.2.2.2.2.2.2.2.2.2 ≤ 5)
theorem check_l1 (N : Nat) (r : RulesT) (hen : r.2.2.2.2.2.2.2.1.length ≤ 6) : ∀ (k j n : Nat), j + k = r.2.2.2.2.2.2.2.1.length → k + 1 ≤ n →
  Ret (Q58.l1 N r n (r.2.2.2.2.2.2.2.1.length : Int) (j : Int)) fun v => v = 0 ↔ (∀ x ∈ r.2.2.2.2.2.2.2.1.drop j, endOk r.2.2.2.1.length x) ∧ tailOk r
 | 0, j, n, hk, hn => by
  obtain ⟨n, rfl⟩ := nxt (n := n) (by omega)
  rw [Q58.l1_s, Q58.s1, bif_f (ltI_f (by omega)), forall_end (by omega)]
  unfold tailOk
  repeat' (refine Ret.bif (fun c => ?_) (fun c => ?_))
  all_goals (apply Ret.ret; simp only [ltI_iff, ltI_iff', eqI_iff, eqI_iff', true_iff, false_iff, true_and] at *; omega)
 | k + 1, j, n, hk, hn => by
  obtain ⟨n, rfl⟩ := nxt (n := n) (by omega)
  have ih := check_l1 N r hen k (j + 1) n (by omega) (by omega)
  have hj : j < r.2.2.2.2.2.2.2.1.length := by omega
  rw [Q58.l1_s, Q58.s1, bif_t (ltI_t (by omega)), chk_of (idx_ok hj), gD_nat hj, w64_id (by omega) (by omega), show ((j : Int) + 1) = ((j + 1 : Nat) : Int) by omega, forall_drop hj]
  refine Ret.bnd (end_iff N _ _) fun v hv => Ret.bif (fun c => ?_) (fun c => ?_)
  ·rw [not_t, eqI_iff'] at c
   exact Ret.ret ⟨fun h => absurd h c, fun h => absurd (hv.2 h.1.1) c⟩
  ·rw [not_f, eqI_iff] at c
   exact ih.mono fun u hu => hu.trans ⟨fun h => ⟨⟨hv.1 c, h.1⟩, h.2⟩, fun h => ⟨h.1.2, h.2⟩⟩
theorem check_l0 (N : Nat) (r : RulesT) (hps : r.2.2.2.1.length ≤ 6) (hst : r.2.2.2.2.1.length ≤ 64) : ∀ (k j n : Nat), j + k = r.2.2.2.2.1.length → k + 9 ≤ n →
  Ret (Q58.l0 N r n (r.2.2.2.2.1.length : Int) (j : Int)) fun v => v = 0 ↔ (∀ c ∈ r.2.2.2.2.1.drop j, 0 ≤ c ∧ c ≤ 2 * (r.2.2.2.1.length : Int)) ∧ r.2.2.2.2.2.2.2.1.length ≤ 6 ∧ (∀ x ∈ r.2.2.2.2.2.2.2.1, endOk r.2.2.2.1.length x) ∧ tailOk r
 | 0, j, n, hk, hn => by
  obtain ⟨n, rfl⟩ := nxt (n := n) (by omega)
  rw [Q58.l0_s, Q58.s0, bif_f (ltI_f (by omega)), forall_end (by omega)]
  refine Ret.bif (fun c => ?_) (fun c => ?_)
  ·rw [ltI_iff] at c
   exact Ret.ret ⟨fun h => (by cases h), fun h => (by have := h.2.1; omega)⟩
  ·rw [ltI_iff'] at c
   have h1 := check_l1 N r (by omega) r.2.2.2.2.2.2.2.1.length 0 n (by omega) (by omega)
   rw [List.drop_zero, show ((0 : Nat) : Int) = 0 from rfl] at h1
   exact h1.mono fun v hv => hv.trans ⟨fun h => ⟨trivial, by omega, h⟩, fun h => h.2.2⟩
 | k + 1, j, n, hk, hn => by
  obtain ⟨n, rfl⟩ := nxt (n := n) (by omega)
  have hj : j < r.2.2.2.2.1.length := by omega
  have ih := check_l0 N r hps hst k (j + 1) n (by omega) (by omega)
  rw [Q58.l0_s, Q58.s0, bif_t (ltI_t (by omega)), chk_of (idx_ok hj), gD_nat hj, w64_id (x := 2 * (r.2.2.2.1.length : Int)) (by omega) (by omega), w64_id (by omega) (by omega), show ((j : Int) + 1) = ((j + 1 : Nat) : Int) by omega, forall_drop hj]
  refine Ret.bif (fun c => ?_) (fun c => Ret.bif (fun c' => ?_) (fun c' => ?_))
  ·rw [ltI_iff] at c
   exact Ret.ret ⟨fun h => (by cases h), fun h => (by have := h.1.1.1; omega)⟩
  ·rw [ltI_iff] at c'
   exact Ret.ret ⟨fun h => (by cases h), fun h => (by have := h.1.1.2; omega)⟩
  ·rw [ltI_iff'] at c c'
   exact ih.mono fun u hu => hu.trans ⟨fun h => ⟨⟨⟨c, c'⟩, h.1⟩, h.2⟩, fun h => ⟨h.1.2, h.2⟩⟩
theorem area_le' {w h : Int} (hb : 1 ≤ w ∧ w ≤ 8 ∧ 1 ≤ h ∧ h ≤ 8) : 1 ≤ w * h ∧ w * h ≤ 64 := by
 obtain ⟨a, rfl⟩ : ∃ a : Nat, w = a := ⟨w.toNat, by omega⟩
 obtain ⟨c, rfl⟩ : ∃ c : Nat, h = c := ⟨h.toNat, by omega⟩
 have e1 : a * c ≤ 8 * 8 := Nat.mul_le_mul (by omega) (by omega)
 have e2 : 1 * 1 ≤ a * c := Nat.mul_le_mul (by omega) (by omega)
 have e3 : (a : Int) * (c : Int) = ((a * c : Nat) : Int) := by simp
 omega
theorem rcheck {N : Nat} (hN : 1000 ≤ N) (r : RulesT) : Ret (Q58 N r) fun v => v = 0 ↔ ROk r := by
 unfold Q58 Q58.e
 refine Ret.bnd (name_iff hN r.1) fun b hb => Ret.bif (fun c => ?_) (fun c => ?_)
 ·rw [not_t] at c
  exact Ret.ret ⟨fun h => (by cases h), fun h => (by have := hb.2 h.name; rw [c] at this; cases this)⟩
 rw [not_f] at c
 refine Ret.bif (fun c1 => ?_) (fun c1 => Ret.bif (fun c2 => ?_) (fun c2 => Ret.bif (fun c3 => ?_) (fun c3 => Ret.bif (fun c4 => ?_) (fun c4 => ?_))))
 ·rw [ltI_iff] at c1; exact Ret.ret ⟨fun h => (by cases h), fun h => (by have := h.b; omega)⟩
 ·rw [ltI_iff] at c2; exact Ret.ret ⟨fun h => (by cases h), fun h => (by have := h.b; omega)⟩
 ·rw [ltI_iff] at c3; exact Ret.ret ⟨fun h => (by cases h), fun h => (by have := h.b; omega)⟩
 ·rw [ltI_iff] at c4; exact Ret.ret ⟨fun h => (by cases h), fun h => (by have := h.b; omega)⟩
 rw [ltI_iff'] at c1 c2 c3 c4
 refine Ret.bnd (pieces_iff hN _) fun v hv => Ret.bif (fun c5 => ?_) (fun c5 => ?_)
 ·rw [not_t, eqI_iff'] at c5
  exact Ret.ret ⟨fun h => absurd h c5, fun h => absurd (hv.2 h.ps) c5⟩
 rw [not_f, eqI_iff] at c5
 have hp := hv.1 c5
 have ha := area_le' (w := r.2.1) (h := r.2.2.1) (by omega)
 rw [w64_id (by omega) (by omega)]
 refine Ret.bif (fun c6 => ?_) (fun c6 => ?_)
 ·rw [not_t, eqI_iff'] at c6
  exact Ret.ret ⟨fun h => (by cases h), fun h => absurd h.ns c6⟩
 rw [not_f, eqI_iff] at c6
 have h0 := check_l0 N r hp.le (by omega) r.2.2.2.2.1.length 0 N (by omega) (by omega)
 rw [List.drop_zero, show ((0 : Nat) : Int) = 0 from rfl] at h0
 exact h0.mono fun u hu => hu.trans ⟨fun h => ⟨hb.1 c, by omega, hp, c6, h.1, h.2.1, h.2.2.1, h.2.2.2.1, h.2.2.2.2.1, h.2.2.2.2.2⟩, fun h => ⟨h.cells, h.ne, h.ends, h.bl, h.qu, h.re⟩⟩
end Go.Proofs.Ytpielijehhhobaa.Am
