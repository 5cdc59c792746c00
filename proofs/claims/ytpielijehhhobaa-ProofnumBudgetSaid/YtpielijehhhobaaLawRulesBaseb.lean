/- Plain: what a check of rules asks. -/
import Derived.Test.YtpielijehhhobaaFnb1
import Derived.Test.YtpielijehhhobaaLawRetb
set_option linter.unusedVariables false
set_option linter.unusedSimpArgs false
namespace Go.Proofs.Ytpielijehhhobaa.Am
open Go
abbrev charOk (c : Int) : Prop := (65 ≤ c ∧ c ≤ 90) ∨ (48 ≤ c ∧ c ≤ 57)
def nameOk (s : ByteArray) : Prop := 0 < s.size ∧ s.size ≤ 8 ∧ ¬ (48 ≤ bt s 0 ∧ bt s 0 ≤ 57) ∧ ∀ i : Nat, i < s.size → charOk (bt s i)
theorem name_loop (N : Nat) (s : ByteArray) (hs : s.size ≤ 8) : ∀ (k j n : Nat), j + k = s.size → k < n → Ret (Q83.l0 N s n (j : Int)) fun b => b = true ↔ ∀ i : Nat, j ≤ i → i < s.size → charOk (bt s i)
 | 0, j, n, hk, hn => by
  obtain ⟨n, rfl⟩ := nxt (n := n) (by omega)
  rw [Q83.l0_s, Q83.s0, bif_f (ltI_f (by omega))]
  exact Ret.ret ⟨fun _ i h1 h2 => by omega, fun _ => rfl⟩
 | k + 1, j, n, hk, hn => by
  obtain ⟨n, rfl⟩ := nxt (n := n) (by omega)
  have ih := name_loop N s hs k (j + 1) n (by omega) (by omega)
  have hcut : (∀ i : Nat, j ≤ i → i < s.size → charOk (bt s i)) ↔ charOk (bt s j) ∧ ∀ i : Nat, j + 1 ≤ i → i < s.size → charOk (bt s i) := by
   constructor
   ·exact fun h => ⟨h j (by omega) (by omega), fun i h1 h2 => h i (by omega) h2⟩
   ·intro h i h1 h2
    rcases Nat.lt_or_ge j i with h3 | h3
    ·exact h.2 i h3 h2
    ·rw [show i = j by omega]; exact h.1
  rw [Q83.l0_s, Q83.s0, bif_t (ltI_t (by omega)), hcut]
  simp (disch := omega) only [chk_idx, w64_id]
  rw [show ((j : Int) + 1) = ((j + 1 : Nat) : Int) by omega]
  repeat' (refine Ret.bif (fun c => ?_) (fun c => ?_))
  all_goals simp only [ltI_iff, ltI_iff'] at *
  all_goals first
   | exact Ret.ret ⟨fun h => (by cases h), fun h => by have := h.1; unfold charOk at this; omega⟩
   | exact ih.mono fun b hb => hb.trans ⟨fun h => ⟨by unfold charOk; omega, h⟩, fun h => h.2⟩
theorem loop_len (bs : ByteArray) : ∀ (k i : Nat) (r : List UInt8), bs.size - i = k → (ByteArray.toList.loop bs i r).length = r.length + (bs.size - i) := by
 intro k
 induction k with
 | zero => intro i r h; unfold ByteArray.toList.loop; rw [if_neg (by omega)]; simp; omega
 | succ k ih =>
  intro i r h
  unfold ByteArray.toList.loop
  rw [if_pos (by omega), ih (i + 1) _ (by omega)]
  simp; omega
theorem toList_len (bs : ByteArray) : bs.toList.length = bs.size := by
 unfold ByteArray.toList
 rw [loop_len bs bs.size 0 [] (by omega)]
 simp
theorem name_iff {N : Nat} (hN : 1000 ≤ N) (s : ByteArray) : Ret (Q83 N s) fun b => b = true ↔ nameOk s := by
 unfold Q83 Q83.e nameOk
 refine Ret.bif (fun c => ?_) (fun c => ?_)
 ·refine Ret.ret ⟨fun h => (by cases h), fun h => ?_⟩
  exfalso
  have h1 : s.toList.length = 0 := by rw [show s.toList = (⟨#[]⟩ : ByteArray).toList by simpa using c, toList_len]; rfl
  rw [toList_len] at h1
  omega
 ·have hpos : 0 < s.size := by
   cases hz : s.size with
   | succ k => omega
   | zero =>
    exfalso
    obtain ⟨d⟩ := s
    have hd : d.size = 0 := hz
    have : d = #[] := Array.eq_empty_of_size_eq_zero hd
    subst this
    simp at c
  refine Ret.bif (fun c1 => ?_) (fun c1 => ?_)
  ·rw [ltI_iff] at c1
   exact Ret.ret ⟨fun h => (by cases h), fun h => by omega⟩
  rw [ltI_iff'] at c1
  have hl := name_loop N s (by omega) s.size 0 N (by omega) (by omega)
  rw [show ((0 : Nat) : Int) = 0 from rfl] at hl
  have hc : (true && ltI 0 (s.size : Int)) = true := by rw [ltI_t (by omega)]; rfl
  simp only [hc, chk_true]
  repeat' (refine Ret.bif (fun c => ?_) (fun c => ?_))
  all_goals simp only [leI_iff, leI_iff'] at *
  all_goals first
   | exact Ret.ret ⟨fun h => (by cases h), fun h => absurd ⟨by assumption, by assumption⟩ h.2.2.1⟩
   | exact hl.mono fun b hb => hb.trans ⟨fun h => ⟨hpos, by omega, by omega, fun i hi => h i (by omega) hi⟩, fun h i _ hi => h.2.2.2 i hi⟩
abbrev wayOk (w : WayT) : Prop := -7 ≤ w.1 ∧ w.1 ≤ 7 ∧ -7 ≤ w.2.1 ∧ w.2.1 ≤ 7 ∧ (w.1 ≠ 0 ∨ w.2.1 ≠ 0) ∧ 1 ≤ w.2.2.1 ∧ w.2.2.1 ≤ 7 ∧ 0 ≤ w.2.2.2 ∧ w.2.2.2 ≤ 2
theorem way_iff (N : Nat) (x : WayT) : Ret (Q94 N x) fun v => v = 0 ↔ wayOk x := by
 unfold Q94 Q94.e wayOk
 repeat' (refine Ret.bif (fun c => ?_) (fun c => ?_))
 all_goals (apply Ret.ret; simp only [ltI_iff, ltI_iff', eqI_iff, eqI_iff', true_iff, false_iff] at *; omega)
abbrev endOk (k : Int) (x : EndT) : Prop := (x.1 = 0 ∧ x.2.1 = 0 ∧ 1 ≤ x.2.2.1 ∧ x.2.2.1 ≤ 64) ∨ (x.1 = 1 ∧ 0 ≤ x.2.1 ∧ x.2.1 < k ∧ x.2.2.1 = 0) ∨ (x.1 = 2 ∧ 0 ≤ x.2.1 ∧ x.2.1 < k ∧ 1 ≤ x.2.2.1 ∧ x.2.2.1 ≤ 64)
theorem end_iff (N : Nat) (x : EndT) (t : Int) : Ret (Q85 N x t) fun v => v = 0 ↔ endOk t x := by
 unfold Q85 Q85.e endOk
 repeat' (refine Ret.bif (fun c => ?_) (fun c => ?_))
 all_goals (apply Ret.ret; simp only [ltI_iff, ltI_iff', leI_iff, leI_iff', eqI_iff, eqI_iff', not_t, not_f, true_iff, false_iff] at *; omega)
abbrev pieceOk (k : Int) (p : PieceT) : Prop := (65 ≤ p.1 ∧ p.1 ≤ 90) ∧ (0 ≤ p.2.1 ∧ p.2.1 ≤ 64 ∧ 0 ≤ p.2.2.1 ∧ p.2.2.1 ≤ k ∧ p.2.2.2.length ≤ 16) ∧ ∀ w ∈ p.2.2.2, wayOk w
theorem pieces_l2 (N : Nat) (l : List PieceT) (i : Int) (ways : List WayT) (hw : ways.length ≤ 16) (B : Nat) (P : Prop) (hB : ∀ n, B ≤ n → Ret (Q84.l0 N l n (w64 (i + 1))) fun v => v = 0 ↔ P) :
  ∀ (k j n : Nat), j + k = ways.length → B + k + 1 ≤ n → Ret (Q84.l2 N l n i ways (ways.length : Int) (j : Int)) fun v => v = 0 ↔ (∀ w ∈ ways.drop j, wayOk w) ∧ P
 | 0, j, n, hk, hn => by
  obtain ⟨n, rfl⟩ := nxt (n := n) (by omega)
  rw [Q84.l2_s, Q84.s2, bif_f (ltI_f (by omega)), forall_end (by omega)]
  exact (hB n (by omega)).mono fun v hv => by simpa using hv
 | k + 1, j, n, hk, hn => by
  obtain ⟨n, rfl⟩ := nxt (n := n) (by omega)
  have ih := pieces_l2 N l i ways hw B P hB k (j + 1) n (by omega) (by omega)
  have hj : j < ways.length := by omega
  rw [Q84.l2_s, Q84.s2, bif_t (ltI_t (by omega)), chk_of (idx_ok hj), gD_nat hj, w64_id (by omega) (by omega), show ((j : Int) + 1) = ((j + 1 : Nat) : Int) by omega, forall_drop hj]
  refine Ret.bnd (way_iff N ways[j]) fun v hv => Ret.bif (fun c => ?_) (fun c => ?_)
  ·rw [not_t, eqI_iff'] at c
   exact Ret.ret ⟨fun h => absurd h c, fun h => absurd (hv.2 h.1.1) c⟩
  ·rw [not_f, eqI_iff] at c
   exact ih.mono fun u hu => hu.trans ⟨fun h => ⟨⟨hv.1 c, h.1⟩, h.2⟩, fun h => ⟨h.1.2, h.2⟩⟩
theorem pieces_l1 (N : Nat) (l : List PieceT) (hl : l.length ≤ 6) (i : Int) (p p2 p3 : Int) (ways : List WayT) (before : List PieceT) (hb : before.length ≤ 6) (B : Nat) (P : Prop) (hB : ∀ n, B ≤ n → Ret (Q84.l0 N l n (w64 (i + 1))) fun v => v = 0 ↔ P) :
  ∀ (k j n : Nat), j + k = before.length → B + k + 19 ≤ n → Ret (Q84.l1 N l n i before (before.length : Int) (j : Int) p p2 p3 ways) fun v => v = 0 ↔ (∀ q ∈ before.drop j, q.1 ≠ p) ∧ ((0 ≤ p2 ∧ p2 ≤ 64 ∧ 0 ≤ p3 ∧ p3 ≤ l.length ∧ ways.length ≤ 16) ∧ ∀ w ∈ ways, wayOk w) ∧ P
 | 0, j, n, hk, hn => by
  obtain ⟨n, rfl⟩ := nxt (n := n) (by omega)
  rw [Q84.l1_s, Q84.s1, bif_f (ltI_f (by omega)), forall_end (by omega)]
  by_cases hw : ways.length ≤ 16
  ·have h2 := pieces_l2 N l i ways hw B P hB ways.length 0 n (by omega) (by omega)
   rw [List.drop_zero, show ((0 : Nat) : Int) = 0 from rfl] at h2
   repeat' (refine Ret.bif (fun c => ?_) (fun c => ?_))
   all_goals simp only [ltI_iff, ltI_iff'] at *
   all_goals first
    | exact h2.mono fun v hv => hv.trans ⟨fun h => ⟨trivial, ⟨⟨by omega, by omega, by omega, by omega, by omega⟩, h.1⟩, h.2⟩, fun h => ⟨h.2.1.2, h.2.2⟩⟩
    | exact Ret.ret ⟨fun h => (by cases h), fun h => by have := h.2.1.1; omega⟩
  ·repeat' (refine Ret.bif (fun c => ?_) (fun c => ?_))
   all_goals simp only [ltI_iff, ltI_iff'] at *
   all_goals first
    | omega
    | exact Ret.ret ⟨fun h => (by cases h), fun h => by have := h.2.1.1; omega⟩
 | k + 1, j, n, hk, hn => by
  obtain ⟨n, rfl⟩ := nxt (n := n) (by omega)
  have ih := pieces_l1 N l hl i p p2 p3 ways before hb B P hB k (j + 1) n (by omega) (by omega)
  have hj : j < before.length := by omega
  rw [Q84.l1_s, Q84.s1, bif_t (ltI_t (by omega)), chk_of (idx_ok hj), w64_id (by omega) (by omega), show ((j : Int) + 1) = ((j + 1 : Nat) : Int) by omega, gD_nat hj, forall_drop hj]
  refine Ret.bif (fun c => ?_) (fun c => ?_)
  ·rw [eqI_iff] at c
   exact Ret.ret ⟨fun h => (by cases h), fun h => absurd c h.1.1⟩
  ·rw [eqI_iff'] at c
   exact ih.mono fun u hu => hu.trans ⟨fun h => ⟨⟨c, h.1⟩, h.2⟩, fun h => ⟨h.1.2, h.2⟩⟩
def pieceAt (l : List PieceT) (i : Nat) : Prop := pieceOk l.length (gD zP l i) ∧ ∀ q ∈ l.take i, q.1 ≠ (gD zP l i).1
theorem pieces_l0 (N : Nat) (l : List PieceT) (hl : l.length ≤ 6) : ∀ (k j n : Nat), j + k = l.length → 26 * k + 1 ≤ n → Ret (Q84.l0 N l n (j : Int)) fun v => v = 0 ↔ ∀ i : Nat, j ≤ i → i < l.length → pieceAt l i
 | 0, j, n, hk, hn => by
  obtain ⟨n, rfl⟩ := nxt (n := n) (by omega)
  rw [Q84.l0_s, Q84.s0, bif_f (ltI_f (by omega))]
  exact Ret.ret ⟨fun _ i h1 h2 => by omega, fun _ => rfl⟩
 | k + 1, j, n, hk, hn => by
  obtain ⟨n, rfl⟩ := nxt (n := n) (by omega)
  have hj : j < l.length := by omega
  have hB : ∀ n, 26 * k + 1 ≤ n → Ret (Q84.l0 N l n (w64 ((j : Int) + 1))) fun v => v = 0 ↔ ∀ i : Nat, j + 1 ≤ i → i < l.length → pieceAt l i := fun n hn => by
   rw [w64_id (by omega) (by omega)]
   exact pieces_l0 N l hl k (j + 1) n (by omega) hn
  have hbl : ((l.take (j : Int).toNat).drop (0 : Int).toNat) = l.take j := by simp
  have hcut : (∀ i : Nat, j ≤ i → i < l.length → pieceAt l i) ↔ pieceAt l j ∧ ∀ i : Nat, j + 1 ≤ i → i < l.length → pieceAt l i := by
   constructor
   ·exact fun h => ⟨h j (by omega) (by omega), fun i h1 h2 => h i (by omega) h2⟩
   ·intro h i h1 h2
    rcases Nat.lt_or_ge j i with h3 | h3
    ·exact h.2 i h3 h2
    ·rw [show i = j by omega]; exact h.1
  have h1 := pieces_l1 N l hl j (gD zP l j).1 (gD zP l j).2.1 (gD zP l j).2.2.1 (gD zP l j).2.2.2 (l.take j) (by simp; omega) _ _ hB (l.take j).length 0 n (by omega) (by simp; omega)
  rw [List.drop_zero, show ((0 : Nat) : Int) = 0 from rfl] at h1
  rw [Q84.l0_s, Q84.s0, bif_t (ltI_t (by omega)), chk_of (idx_ok hj), hbl, hcut]
  unfold pieceAt
  simp (disch := omega) only [chk_t1]
  refine Ret.bif (fun c => ?_) (fun c => Ret.bif (fun c' => ?_) (fun c' => ?_))
  ·have c : (gD zP l j).1 < 65 := ltI_iff.1 c
   exact Ret.ret ⟨fun h => (by cases h), fun h => (by have := h.1.1.1.1; omega)⟩
  ·have c' : 90 < (gD zP l j).1 := ltI_iff.1 c'
   exact Ret.ret ⟨fun h => (by cases h), fun h => (by have := h.1.1.1.2; omega)⟩
  ·rw [ltI_iff'] at c c'
   exact h1.mono fun v hv => hv.trans ⟨fun h => ⟨⟨⟨⟨c, c'⟩, h.2.1⟩, h.1⟩, h.2.2⟩, fun h => ⟨h.1.2, h.1.1.2, h.2⟩⟩
structure PiecesOk (l : List PieceT) : Prop where
 pos : 1 ≤ l.length
 le : l.length ≤ 6
 each : ∀ i : Nat, i < l.length → pieceAt l i
theorem pieces_iff {N : Nat} (hN : 1000 ≤ N) (l : List PieceT) : Ret (Q84 N l) fun v => v = 0 ↔ PiecesOk l := by
 unfold Q84 Q84.e
 refine Ret.bif (fun c => ?_) (fun c => Ret.bif (fun c1 => ?_) (fun c1 => ?_))
 ·rw [eqI_iff] at c
  exact Ret.ret ⟨fun h => (by cases h), fun h => by have := h.pos; omega⟩
 ·rw [ltI_iff] at c1
  exact Ret.ret ⟨fun h => (by cases h), fun h => by have := h.le; omega⟩
 ·rw [eqI_iff'] at c
  rw [ltI_iff'] at c1
  exact (pieces_l0 N l (by omega) l.length 0 N (by omega) (by omega)).mono fun v hv => hv.trans ⟨fun h => ⟨by omega, by omega, fun i hi => h i (by omega) hi⟩, fun h i _ hi => h.each i hi⟩
end Go.Proofs.Ytpielijehhhobaa.Am
