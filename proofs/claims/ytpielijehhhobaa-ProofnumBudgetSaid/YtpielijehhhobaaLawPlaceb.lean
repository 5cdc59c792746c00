/- Plain: positions are checked: fine exactly if they are as the document asks. -/
import Derived.Test.YtpielijehhhobaaLawRulesb
set_option linter.unusedVariables false
set_option linter.unusedSimpArgs false
namespace Go.Proofs.Ytpielijehhhobaa.Am
open Go
abbrev handOk (l : List Int) : Prop := ∀ c ∈ l, 0 ≤ c ∧ c ≤ 1000
abbrev lastOk (p : PosT) : Prop := (p.2.2.1 = 0 ∨ p.2.2.1 = 1) ∧ 0 ≤ p.2.2.2 ∧ p.2.2.2 ≤ 200
structure POk (r : RulesT) (p : PosT) : Prop where
 len : (p.1.length : Int) = r.2.1 * r.2.2.1
 h0 : p.2.1.1.length = r.2.2.2.1.length
 h1 : p.2.1.2.length = r.2.2.2.1.length
 cells : cellsOk r.2.2.2.1.length p.1
 o0 : handOk p.2.1.1
 o1 : handOk p.2.1.2
 last : lastOk p
section
variable (N : Nat) (r : RulesT) (p : PosT)
theorem pcheck_l1_end (n : Nat) (hn : 1 ≤ n) : Ret (Q37.l1 N r p n 2) fun v => v = 0 ↔ lastOk p := by
 obtain ⟨n, rfl⟩ := nxt (n := n) (by omega)
 rw [Q37.l1_s, Q37.s1, bif_f (by rfl)]
 unfold lastOk
 repeat' (refine Ret.bif (fun c => ?_) (fun c => ?_))
 all_goals (apply Ret.ret; simp only [ltI_iff, ltI_iff', eqI_iff, eqI_iff', not_t, not_f, true_iff, false_iff] at *; omega)
theorem pcheck_l2 (i : Int) (hd : List Int) (hl : hd.length ≤ 6) (B : Nat) (P : Prop) (hv : ∀ n, B ≤ n → Ret (Q37.l1 N r p n (w64 (i + 1))) fun v => v = 0 ↔ P) : ∀ (k j n : Nat), j + k = hd.length → k + B + 1 ≤ n →
  Ret (Q37.l2 N r p n i hd (hd.length : Int) (j : Int)) fun v => v = 0 ↔ (∀ c ∈ hd.drop j, 0 ≤ c ∧ c ≤ 1000) ∧ P
 | 0, j, n, hk, hn => by
  obtain ⟨n, rfl⟩ := nxt (n := n) (by omega)
  rw [Q37.l2_s, Q37.s2, bif_f (ltI_f (by omega)), forall_end (by omega)]
  exact (hv n (by omega)).mono fun v hv => by simpa using hv
 | k + 1, j, n, hk, hn => by
  obtain ⟨n, rfl⟩ := nxt (n := n) (by omega)
  have hj : j < hd.length := by omega
  have ih := pcheck_l2 i hd hl B P hv k (j + 1) n (by omega) (by omega)
  rw [Q37.l2_s, Q37.s2, bif_t (ltI_t (by omega)), chk_of (idx_ok hj), gD_nat hj, w64_id (by omega) (by omega), show ((j : Int) + 1) = ((j + 1 : Nat) : Int) by omega, forall_drop hj]
  refine Ret.bif (fun c => ?_) (fun c => Ret.bif (fun c' => ?_) (fun c' => ?_))
  ·rw [ltI_iff] at c
   exact Ret.ret ⟨fun h => (by cases h), fun h => (by have := h.1.1.1; omega)⟩
  ·rw [ltI_iff] at c'
   exact Ret.ret ⟨fun h => (by cases h), fun h => (by have := h.1.1.2; omega)⟩
  ·rw [ltI_iff'] at c c'
   exact ih.mono fun u hu => hu.trans ⟨fun h => ⟨⟨⟨c, c'⟩, h.1⟩, h.2⟩, fun h => ⟨h.1.2, h.2⟩⟩
theorem pcheck_l1 (n : Nat) (hn : 50 ≤ n) (h0 : p.2.1.1.length ≤ 6) (h1 : p.2.1.2.length ≤ 6) : Ret (Q37.l1 N r p n 0) fun v => v = 0 ↔ handOk p.2.1.1 ∧ handOk p.2.1.2 ∧ lastOk p := by
 have k1 : ∀ n, 15 ≤ n → Ret (Q37.l1 N r p n (w64 (0 + 1))) fun v => v = 0 ↔ handOk p.2.1.2 ∧ lastOk p := fun n hn => by
  obtain ⟨n, rfl⟩ := nxt (n := n) (by omega)
  rw [show w64 ((0 : Int) + 1) = 1 by decide, Q37.l1_s, Q37.s1, bif_t (by rfl), bif_f (by rfl), bif_t (by rfl)]
  have := pcheck_l2 N r p 1 p.2.1.2 h1 1 _ (fun n hn => by rw [show w64 ((1 : Int) + 1) = 2 by decide]; exact pcheck_l1_end N r p n hn) p.2.1.2.length 0 n (by omega) (by omega)
  rw [List.drop_zero] at this
  exact this
 obtain ⟨n, rfl⟩ := nxt (n := n) (by omega)
 rw [Q37.l1_s, Q37.s1, bif_t (by rfl), bif_t (by rfl)]
 have := pcheck_l2 N r p 0 p.2.1.1 h0 15 _ k1 p.2.1.1.length 0 n (by omega) (by omega)
 rw [List.drop_zero] at this
 exact this
theorem pcheck_l0 (hps : r.2.2.2.1.length ≤ 6) (hst : p.1.length ≤ 64) (P : Prop) (hv : ∀ n, 50 ≤ n → Ret (Q37.l1 N r p n 0) fun v => v = 0 ↔ P) : ∀ (k j n : Nat), j + k = p.1.length → k + 51 ≤ n →
  Ret (Q37.l0 N r p n (j : Int)) fun v => v = 0 ↔ (∀ c ∈ p.1.drop j, 0 ≤ c ∧ c ≤ 2 * (r.2.2.2.1.length : Int)) ∧ P
 | 0, j, n, hk, hn => by
  obtain ⟨n, rfl⟩ := nxt (n := n) (by omega)
  rw [Q37.l0_s, Q37.s0, bif_f (ltI_f (by omega)), forall_end (by omega)]
  exact (hv n (by omega)).mono fun v hv => by simpa using hv
 | k + 1, j, n, hk, hn => by
  obtain ⟨n, rfl⟩ := nxt (n := n) (by omega)
  have hj : j < p.1.length := by omega
  have ih := pcheck_l0 hps hst P hv k (j + 1) n (by omega) (by omega)
  rw [Q37.l0_s, Q37.s0, bif_t (ltI_t (by omega)), chk_of (idx_ok hj), gD_nat hj, w64_id (x := 2 * (r.2.2.2.1.length : Int)) (by omega) (by omega), w64_id (by omega) (by omega), show ((j : Int) + 1) = ((j + 1 : Nat) : Int) by omega, forall_drop hj]
  refine Ret.bif (fun c => ?_) (fun c => Ret.bif (fun c' => ?_) (fun c' => ?_))
  ·rw [ltI_iff] at c
   exact Ret.ret ⟨fun h => (by cases h), fun h => (by have := h.1.1.1; omega)⟩
  ·rw [ltI_iff] at c'
   exact Ret.ret ⟨fun h => (by cases h), fun h => (by have := h.1.1.2; omega)⟩
  ·rw [ltI_iff'] at c c'
   exact ih.mono fun u hu => hu.trans ⟨fun h => ⟨⟨⟨c, c'⟩, h.1⟩, h.2⟩, fun h => ⟨h.1.2, h.2⟩⟩
end
theorem pcheck {N : Nat} (hN : 1000 ≤ N) (r : RulesT) (p : PosT) : Ret (Q37 N r p) fun v => v = 0 ↔ ROk r ∧ POk r p := by
 unfold Q37 Q37.e
 refine Ret.bnd (rcheck hN r) fun v hv => Ret.bif (fun c => ?_) (fun c => ?_)
 ·rw [not_t, eqI_iff'] at c
  exact Ret.ret ⟨fun h => absurd h c, fun h => absurd (hv.2 h.1) c⟩
 rw [not_f, eqI_iff] at c
 have hr := hv.1 c
 have ha := area_le' hr.b
 have hps := hr.ps.le
 rw [w64_id (by omega) (by omega)]
 refine Ret.bif (fun c1 => ?_) (fun c1 => Ret.bif (fun c2 => ?_) (fun c2 => Ret.bif (fun c3 => ?_) (fun c3 => ?_)))
 ·rw [not_t, eqI_iff'] at c1; exact Ret.ret ⟨fun h => (by cases h), fun h => absurd h.2.len c1⟩
 ·rw [not_t, eqI_iff'] at c2; exact Ret.ret ⟨fun h => (by cases h), fun h => absurd h.2.h0 (by omega)⟩
 ·rw [not_t, eqI_iff'] at c3; exact Ret.ret ⟨fun h => (by cases h), fun h => absurd h.2.h1 (by omega)⟩
 rw [not_f, eqI_iff] at c1 c2 c3
 have h0 := pcheck_l0 N r p hps (by omega) _ (fun n hn => pcheck_l1 N r p n hn (by omega) (by omega)) p.1.length 0 N (by omega) (by omega)
 rw [List.drop_zero, show ((0 : Nat) : Int) = 0 from rfl] at h0
 exact h0.mono fun u hu => hu.trans ⟨fun h => ⟨hr, c1, by omega, by omega, h.1, h.2.1, h.2.2.1, h.2.2.2⟩, fun h => ⟨h.2.cells, h.2.o0, h.2.o1, h.2.last⟩⟩
theorem pcheck_ok {N : Nat} (hN : 1000 ≤ N) {r : RulesT} {p : PosT} (hr : ROk r) (hp : POk r p) : Q37 N r p = some 0 := by
 obtain ⟨v, h, hv⟩ := pcheck hN r p
 rw [h, hv.2 ⟨hr, hp⟩]
end Go.Proofs.Ytpielijehhhobaa.Am
