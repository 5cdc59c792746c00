/- Plain: words for 'a result there is, of which this is true'. -/
import Derived.Test.YtfihdjjilofklaaGreatAm16
import Derived.Test.YtfihdjjilofklaaGreatFnp2
set_option linter.unusedVariables false
set_option linter.unusedSimpArgs false
namespace Go.Proofs.YtfihdjjilofklaaGreat.Am
open Go
abbrev WayT := Int × Int × Int × Int
abbrev PieceT := Int × Int × Int × List WayT
abbrev EndT := Int × Int × Int × Bool
abbrev RulesT := ByteArray × (Int × (Int × (List PieceT × (List Int × (Bool × (Bool × (List EndT × (Int × (Int × Int)))))))))
abbrev PosT := List Int × ((List Int × List Int) × (Int × Int))
abbrev MvT := Int × (Int × Int)
abbrev z0 : MvT := dM
abbrev zP : PieceT := ((0 : Int), ((0 : Int), ((0 : Int), ([] : (List (Int × (Int × (Int × Int))))))))
def Ret {β : Type} (x : Option β) (Q : β → Prop) : Prop := ∃ y, x = some y ∧ Q y
theorem Ret.bif {β : Type} {Q : β → Prop} {c : Bool} {x y : Option β} (h1 : c = true → Ret x Q) (h2 : c = false → Ret y Q) : Ret (bif c then x else y) Q := by
 cases c
 ·exact h2 rfl
 ·exact h1 rfl
theorem Ret.bnd {β γ : Type} {Q : γ → Prop} {Q' : β → Prop} {x : Option β} {f : β → Option γ} (h1 : Ret x Q') (h2 : ∀ y, Q' y → Ret (f y) Q) : Ret (x.bind f) Q := by
 obtain ⟨y, rfl, hy⟩ := h1
 exact h2 y hy
theorem Ret.chk {β : Type} {Q : β → Prop} {c : Bool} {x : Option β} (h1 : c = true) (h2 : Ret x Q) : Ret (chk c x) Q := by
 subst h1; exact h2
theorem Ret.ret {β : Type} {Q : β → Prop} {y : β} (h : Q y) : Ret (some y) Q := ⟨y, rfl, h⟩
theorem Ret.mono {β : Type} {Q Q' : β → Prop} {x : Option β} (h : Ret x Q) (hQ : ∀ y, Q y → Q' y) : Ret x Q' := by
 obtain ⟨y, rfl, hy⟩ := h
 exact ⟨y, rfl, hQ y hy⟩
theorem Ret.of_eq {β : Type} {Q : β → Prop} {x : Option β} {y : β} (h : x = some y) (hQ : Q y) : Ret x Q := ⟨y, h, hQ⟩
theorem chk_idx {R : Type} {i n : Int} {x : Option R} (h1 : 0 ≤ i) (h2 : i < n) : chk (leI 0 i && ltI i n) x = x := by
 rw [leI_t h1, ltI_t h2]; rfl
theorem chk_idx' {R : Type} {i n : Int} {x : Option R} (h1 : 0 ≤ i) (h2 : i ≤ n) : chk (leI 0 i && leI i n) x = x := by
 rw [leI_t h1, leI_t h2]; rfl
theorem chk_t1 {R : Type} {i n : Int} {x : Option R} (h1 : 0 ≤ i) (h2 : i ≤ n) : chk (true && (leI 0 i && leI i n)) x = x := by
 rw [leI_t h1, leI_t h2]; rfl
theorem chk_cap {R : Type} {k n : Nat} {x : Option R} (h : n * k ≤ 140737488355328) : chk (capOk k n) x = x := by
 unfold capOk; rw [decide_eq_true h]; rfl
theorem ltI_iff {a b : Int} : ltI a b = true ↔ a < b := by simp [ltI]
theorem ltI_iff' {a b : Int} : ltI a b = false ↔ b ≤ a := by simp [ltI]
theorem leI_iff {a b : Int} : leI a b = true ↔ a ≤ b := by simp [leI]
theorem leI_iff' {a b : Int} : leI a b = false ↔ b < a := by simp [leI]
theorem eqI_iff {a b : Int} : eqI a b = true ↔ a = b := by simp [eqI]
theorem eqI_iff' {a b : Int} : eqI a b = false ↔ a ≠ b := by simp [eqI]
theorem not_t {b : Bool} : (!b) = true ↔ b = false := by cases b <;> simp
theorem not_f {b : Bool} : (!b) = false ↔ b = true := by cases b <;> simp
theorem forall_drop {α : Type} {l : List α} {j : Nat} (hj : j < l.length) {P : α → Prop} : (∀ x ∈ l.drop j, P x) ↔ P l[j] ∧ ∀ x ∈ l.drop (j + 1), P x := by
 rw [List.drop_eq_getElem_cons hj, List.forall_mem_cons]
theorem forall_end {α : Type} {l : List α} {j : Nat} (hj : l.length ≤ j) {P : α → Prop} : (∀ x ∈ l.drop j, P x) ↔ True := by
 rw [List.drop_of_length_le hj]; simp
theorem nxt {n : Nat} (h : 0 < n) : ∃ m, n = m + 1 := ⟨n - 1, by omega⟩
end Go.Proofs.YtfihdjjilofklaaGreat.Am
set_option linter.unusedVariables false
set_option linter.unusedSimpArgs false
namespace Go.Proofs.YtfihdjjilofklaaGreat.Am
open Go
abbrev charOk (c : Int) : Prop := (65 ≤ c ∧ c ≤ 90) ∨ (48 ≤ c ∧ c ≤ 57)
def nameOk (s : ByteArray) : Prop := 0 < s.size ∧ s.size ≤ 8 ∧ ¬ (48 ≤ bt s 0 ∧ bt s 0 ≤ 57) ∧ ∀ i : Nat, i < s.size → charOk (bt s i)
theorem name_loop (N : Nat) (s : ByteArray) (hs : s.size ≤ 8) : ∀ (k j n : Nat), j + k = s.size → k < n → Ret (Q50.l0 N s n (j : Int)) fun b => b = true ↔ ∀ i : Nat, j ≤ i → i < s.size → charOk (bt s i)
 | 0, j, n, hk, hn => by
  obtain ⟨n, rfl⟩ := nxt (n := n) (by omega)
  rw [Q50.l0_s, Q50.s0, bif_f (ltI_f (by omega))]
  exact Ret.ret ⟨fun _ i h1 h2 => by omega, fun _ => rfl⟩
 | k + 1, j, n, hk, hn => by
  obtain ⟨n, rfl⟩ := nxt (n := n) (by omega)
  have ih := name_loop N s hs k (j + 1) n (by omega) (by omega)
  have hcut : (∀ i : Nat, j ≤ i → i < s.size → charOk (bt s i)) ↔ charOk (bt s j) ∧ ∀ i : Nat, j + 1 ≤ i → i < s.size → charOk (bt s i) := by
   constructor
   ·exact fun h => ⟨h j (by omega) (by omega), fun i h1 h2 => h i (by omega) h2⟩
   ·intro h i h1 h2
    rcases Nat.lt_or_ge j i with h3 | h3
    ·exact h.2 i h3 h2
    ·rw [show i = j by omega]; exact h.1
  rw [Q50.l0_s, Q50.s0, bif_t (ltI_t (by omega)), hcut]
  simp (disch := omega) only [chk_idx, w64_id]
  rw [show ((j : Int) + 1) = ((j + 1 : Nat) : Int) by omega]
  repeat' (refine Ret.bif (fun c => ?_) (fun c => ?_))
  all_goals simp only [ltI_iff, ltI_iff'] at *
  all_goals first
   | exact Ret.ret ⟨fun h => (by cases h), fun h => by have := h.1; unfold charOk at this; omega⟩
   | exact ih.mono fun b hb => hb.trans ⟨fun h => ⟨by unfold charOk; omega, h⟩, fun h => h.2⟩
theorem loop_len (bs : ByteArray) : ∀ (k i : Nat) (r : List UInt8), bs.size - i = k → (ByteArray.toList.loop bs i r).length = r.length + (bs.size - i) := by
 intro k
 induction k with
 | zero => intro i r h; unfold ByteArray.toList.loop; rw [if_neg (by omega)]; simp; omega
 | succ k ih =>
  intro i r h
  unfold ByteArray.toList.loop
  rw [if_pos (by omega), ih (i + 1) _ (by omega)]
  simp; omega
theorem toList_len (bs : ByteArray) : bs.toList.length = bs.size := by
 unfold ByteArray.toList
 rw [loop_len bs bs.size 0 [] (by omega)]
 simp
theorem name_iff {N : Nat} (hN : 1000 ≤ N) (s : ByteArray) : Ret (Q50 N s) fun b => b = true ↔ nameOk s := by
 unfold Q50 Q50.e nameOk
 refine Ret.bif (fun c => ?_) (fun c => ?_)
 ·refine Ret.ret ⟨fun h => (by cases h), fun h => ?_⟩
  exfalso
  have h1 : s.toList.length = 0 := by rw [show s.toList = (⟨#[]⟩ : ByteArray).toList by simpa using c, toList_len]; rfl
  rw [toList_len] at h1
  omega
 ·have hpos : 0 < s.size := by
   cases hz : s.size with
   | succ k => omega
   | zero =>
    exfalso
    obtain ⟨d⟩ := s
    have hd : d.size = 0 := hz
    have : d = #[] := Array.eq_empty_of_size_eq_zero hd
    subst this
    simp at c
  refine Ret.bif (fun c1 => ?_) (fun c1 => ?_)
  ·rw [ltI_iff] at c1
   exact Ret.ret ⟨fun h => (by cases h), fun h => by omega⟩
  rw [ltI_iff'] at c1
  have hl := name_loop N s (by omega) s.size 0 N (by omega) (by omega)
  rw [show ((0 : Nat) : Int) = 0 from rfl] at hl
  have hc : (true && ltI 0 (s.size : Int)) = true := by rw [ltI_t (by omega)]; rfl
  simp only [hc, chk_true]
  repeat' (refine Ret.bif (fun c => ?_) (fun c => ?_))
  all_goals simp only [leI_iff, leI_iff'] at *
  all_goals first
   | exact Ret.ret ⟨fun h => (by cases h), fun h => absurd ⟨by assumption, by assumption⟩ h.2.2.1⟩
   | exact hl.mono fun b hb => hb.trans ⟨fun h => ⟨hpos, by omega, by omega, fun i hi => h i (by omega) hi⟩, fun h i _ hi => h.2.2.2 i hi⟩
abbrev wayOk (w : WayT) : Prop := -7 ≤ w.1 ∧ w.1 ≤ 7 ∧ -7 ≤ w.2.1 ∧ w.2.1 ≤ 7 ∧ (w.1 ≠ 0 ∨ w.2.1 ≠ 0) ∧ 1 ≤ w.2.2.1 ∧ w.2.2.1 ≤ 7 ∧ 0 ≤ w.2.2.2 ∧ w.2.2.2 ≤ 2
theorem way_iff (N : Nat) (x : WayT) : Ret (Q75 N x) fun v => v = 0 ↔ wayOk x := by
 unfold Q75 Q75.e wayOk
 repeat' (refine Ret.bif (fun c => ?_) (fun c => ?_))
 all_goals (apply Ret.ret; simp only [ltI_iff, ltI_iff', eqI_iff, eqI_iff', true_iff, false_iff] at *; omega)
abbrev endOk (k : Int) (x : EndT) : Prop := (x.1 = 0 ∧ x.2.1 = 0 ∧ 1 ≤ x.2.2.1 ∧ x.2.2.1 ≤ 64) ∨ (x.1 = 1 ∧ 0 ≤ x.2.1 ∧ x.2.1 < k ∧ x.2.2.1 = 0) ∨ (x.1 = 2 ∧ 0 ≤ x.2.1 ∧ x.2.1 < k ∧ 1 ≤ x.2.2.1 ∧ x.2.2.1 ≤ 64)
theorem end_iff (N : Nat) (x : EndT) (t : Int) : Ret (Q52 N x t) fun v => v = 0 ↔ endOk t x := by
 unfold Q52 Q52.e endOk
 repeat' (refine Ret.bif (fun c => ?_) (fun c => ?_))
 all_goals (apply Ret.ret; simp only [ltI_iff, ltI_iff', leI_iff, leI_iff', eqI_iff, eqI_iff', not_t, not_f, true_iff, false_iff] at *; omega)
abbrev pieceOk (k : Int) (p : PieceT) : Prop := (65 ≤ p.1 ∧ p.1 ≤ 90) ∧ (0 ≤ p.2.1 ∧ p.2.1 ≤ 64 ∧ 0 ≤ p.2.2.1 ∧ p.2.2.1 ≤ k ∧ p.2.2.2.length ≤ 16) ∧ ∀ w ∈ p.2.2.2, wayOk w
theorem pieces_l2 (N : Nat) (l : List PieceT) (i : Int) (ways : List WayT) (hw : ways.length ≤ 16) (B : Nat) (P : Prop) (hB : ∀ n, B ≤ n → Ret (Q51.l0 N l n (w64 (i + 1))) fun v => v = 0 ↔ P) :
  ∀ (k j n : Nat), j + k = ways.length → B + k + 1 ≤ n → Ret (Q51.l2 N l n i ways (ways.length : Int) (j : Int)) fun v => v = 0 ↔ (∀ w ∈ ways.drop j, wayOk w) ∧ P
 | 0, j, n, hk, hn => by
  obtain ⟨n, rfl⟩ := nxt (n := n) (by omega)
  rw [Q51.l2_s, Q51.s2, bif_f (ltI_f (by omega)), forall_end (by omega)]
  exact (hB n (by omega)).mono fun v hv => by simpa using hv
 | k + 1, j, n, hk, hn => by
  obtain ⟨n, rfl⟩ := nxt (n := n) (by omega)
  have ih := pieces_l2 N l i ways hw B P hB k (j + 1) n (by omega) (by omega)
  have hj : j < ways.length := by omega
  rw [Q51.l2_s, Q51.s2, bif_t (ltI_t (by omega)), chk_of (idx_ok hj), gD_nat hj, w64_id (by omega) (by omega), show ((j : Int) + 1) = ((j + 1 : Nat) : Int) by omega, forall_drop hj]
  refine Ret.bnd (way_iff N ways[j]) fun v hv => Ret.bif (fun c => ?_) (fun c => ?_)
  ·rw [not_t, eqI_iff'] at c
   exact Ret.ret ⟨fun h => absurd h c, fun h => absurd (hv.2 h.1.1) c⟩
  ·rw [not_f, eqI_iff] at c
   exact ih.mono fun u hu => hu.trans ⟨fun h => ⟨⟨hv.1 c, h.1⟩, h.2⟩, fun h => ⟨h.1.2, h.2⟩⟩
theorem pieces_l1 (N : Nat) (l : List PieceT) (hl : l.length ≤ 6) (i : Int) (p p2 p3 : Int) (ways : List WayT) (before : List PieceT) (hb : before.length ≤ 6) (B : Nat) (P : Prop) (hB : ∀ n, B ≤ n → Ret (Q51.l0 N l n (w64 (i + 1))) fun v => v = 0 ↔ P) :
  ∀ (k j n : Nat), j + k = before.length → B + k + 19 ≤ n → Ret (Q51.l1 N l n i before (before.length : Int) (j : Int) p p2 p3 ways) fun v => v = 0 ↔ (∀ q ∈ before.drop j, q.1 ≠ p) ∧ ((0 ≤ p2 ∧ p2 ≤ 64 ∧ 0 ≤ p3 ∧ p3 ≤ l.length ∧ ways.length ≤ 16) ∧ ∀ w ∈ ways, wayOk w) ∧ P
 | 0, j, n, hk, hn => by
  obtain ⟨n, rfl⟩ := nxt (n := n) (by omega)
  rw [Q51.l1_s, Q51.s1, bif_f (ltI_f (by omega)), forall_end (by omega)]
  by_cases hw : ways.length ≤ 16
  ·have h2 := pieces_l2 N l i ways hw B P hB ways.length 0 n (by omega) (by omega)
   rw [List.drop_zero, show ((0 : Nat) : Int) = 0 from rfl] at h2
   repeat' (refine Ret.bif (fun c => ?_) (fun c => ?_))
   all_goals simp only [ltI_iff, ltI_iff'] at *
   all_goals first
    | exact h2.mono fun v hv => hv.trans ⟨fun h => ⟨trivial, ⟨⟨by omega, by omega, by omega, by omega, by omega⟩, h.1⟩, h.2⟩, fun h => ⟨h.2.1.2, h.2.2⟩⟩
    | exact Ret.ret ⟨fun h => (by cases h), fun h => by have := h.2.1.1; omega⟩
  ·repeat' (refine Ret.bif (fun c => ?_) (fun c => ?_))
   all_goals simp only [ltI_iff, ltI_iff'] at *
   all_goals first
    | omega
    | exact Ret.ret ⟨fun h => (by cases h), fun h => by have := h.2.1.1; omega⟩
 | k + 1, j, n, hk, hn => by
  obtain ⟨n, rfl⟩ := nxt (n := n) (by omega)
  have ih := pieces_l1 N l hl i p p2 p3 ways before hb B P hB k (j + 1) n (by omega) (by omega)
  have hj : j < before.length := by omega
  rw [Q51.l1_s, Q51.s1, bif_t (ltI_t (by omega)), chk_of (idx_ok hj), w64_id (by omega) (by omega), show ((j : Int) + 1) = ((j + 1 : Nat) : Int) by omega, gD_nat hj, forall_drop hj]
  refine Ret.bif (fun c => ?_) (fun c => ?_)
  ·rw [eqI_iff] at c
   exact Ret.ret ⟨fun h => (by cases h), fun h => absurd c h.1.1⟩
  ·rw [eqI_iff'] at c
   exact ih.mono fun u hu => hu.trans ⟨fun h => ⟨⟨c, h.1⟩, h.2⟩, fun h => ⟨h.1.2, h.2⟩⟩
def pieceAt (l : List PieceT) (i : Nat) : Prop := pieceOk l.length (gD zP l i) ∧ ∀ q ∈ l.take i, q.1 ≠ (gD zP l i).1
theorem pieces_l0 (N : Nat) (l : List PieceT) (hl : l.length ≤ 6) : ∀ (k j n : Nat), j + k = l.length → 26 * k + 1 ≤ n → Ret (Q51.l0 N l n (j : Int)) fun v => v = 0 ↔ ∀ i : Nat, j ≤ i → i < l.length → pieceAt l i
 | 0, j, n, hk, hn => by
  obtain ⟨n, rfl⟩ := nxt (n := n) (by omega)
  rw [Q51.l0_s, Q51.s0, bif_f (ltI_f (by omega))]
  exact Ret.ret ⟨fun _ i h1 h2 => by omega, fun _ => rfl⟩
 | k + 1, j, n, hk, hn => by
  obtain ⟨n, rfl⟩ := nxt (n := n) (by omega)
  have hj : j < l.length := by omega
  have hB : ∀ n, 26 * k + 1 ≤ n → Ret (Q51.l0 N l n (w64 ((j : Int) + 1))) fun v => v = 0 ↔ ∀ i : Nat, j + 1 ≤ i → i < l.length → pieceAt l i := fun n hn => by
   rw [w64_id (by omega) (by omega)]
   exact pieces_l0 N l hl k (j + 1) n (by omega) hn
  have hbl : ((l.take (j : Int).toNat).drop (0 : Int).toNat) = l.take j := by simp
  have hcut : (∀ i : Nat, j ≤ i → i < l.length → pieceAt l i) ↔ pieceAt l j ∧ ∀ i : Nat, j + 1 ≤ i → i < l.length → pieceAt l i := by
   constructor
   ·exact fun h => ⟨h j (by omega) (by omega), fun i h1 h2 => h i (by omega) h2⟩
   ·intro h i h1 h2
    rcases Nat.lt_or_ge j i with h3 | h3
    ·exact h.2 i h3 h2
    ·rw [show i = j by omega]; exact h.1
  have h1 := pieces_l1 N l hl j (gD zP l j).1 (gD zP l j).2.1 (gD zP l j).2.2.1 (gD zP l j).2.2.2 (l.take j) (by simp; omega) _ _ hB (l.take j).length 0 n (by omega) (by simp; omega)
  rw [List.drop_zero, show ((0 : Nat) : Int) = 0 from rfl] at h1
  rw [Q51.l0_s, Q51.s0, bif_t (ltI_t (by omega)), chk_of (idx_ok hj), hbl, hcut]
  unfold pieceAt
  simp (disch := omega) only [chk_t1]
  refine Ret.bif (fun c => ?_) (fun c => Ret.bif (fun c' => ?_) (fun c' => ?_))
  ·have c : (gD zP l j).1 < 65 := ltI_iff.1 c
   exact Ret.ret ⟨fun h => (by cases h), fun h => (by have := h.1.1.1.1; omega)⟩
  ·have c' : 90 < (gD zP l j).1 := ltI_iff.1 c'
   exact Ret.ret ⟨fun h => (by cases h), fun h => (by have := h.1.1.1.2; omega)⟩
  ·rw [ltI_iff'] at c c'
   exact h1.mono fun v hv => hv.trans ⟨fun h => ⟨⟨⟨⟨c, c'⟩, h.2.1⟩, h.1⟩, h.2.2⟩, fun h => ⟨h.1.2, h.1.1.2, h.2⟩⟩
structure PiecesOk (l : List PieceT) : Prop where
 pos : 1 ≤ l.length
 le : l.length ≤ 6
 each : ∀ i : Nat, i < l.length → pieceAt l i
theorem pieces_iff {N : Nat} (hN : 1000 ≤ N) (l : List PieceT) : Ret (Q51 N l) fun v => v = 0 ↔ PiecesOk l := by
 unfold Q51 Q51.e
 refine Ret.bif (fun c => ?_) (fun c => Ret.bif (fun c1 => ?_) (fun c1 => ?_))
 ·rw [eqI_iff] at c
  exact Ret.ret ⟨fun h => (by cases h), fun h => by have := h.pos; omega⟩
 ·rw [ltI_iff] at c1
  exact Ret.ret ⟨fun h => (by cases h), fun h => by have := h.le; omega⟩
 ·rw [eqI_iff'] at c
  rw [ltI_iff'] at c1
  exact (pieces_l0 N l (by omega) l.length 0 N (by omega) (by omega)).mono fun v hv => hv.trans ⟨fun h => ⟨by omega, by omega, fun i hi => h i (by omega) hi⟩, fun h i _ hi => h.each i hi⟩
end Go.Proofs.YtfihdjjilofklaaGreat.Am
set_option linter.unusedVariables false
set_option linter.unusedSimpArgs false
namespace Go.Proofs.YtfihdjjilofklaaGreat.Am
open Go
def upto (n : Nat) (f : Nat → Bool) : Bool := (List.range n).all f
theorem upto_at {n : Nat} {f : Nat → Bool} (hf : upto n f = true) {i : Nat} (hi : i < n) : f i = true := List.all_eq_true.1 hf i (List.mem_range.2 hi)
end Go.Proofs.YtfihdjjilofklaaGreat.Am
set_option linter.unusedVariables false
set_option linter.unusedSimpArgs false
namespace Go.Proofs.YtfihdjjilofklaaGreat.Am
open Go
abbrev cellsOk (k : Nat) (l : List Int) : Prop := ∀ c ∈ l, 0 ≤ c ∧ c ≤ 2 * (k : Int)
structure ROk (r : RulesT) : Prop where
 name : nameOk r.1
 b : 1 ≤ r.2.1 ∧ r.2.1 ≤ 8 ∧ 1 ≤ r.2.2.1 ∧ r.2.2.1 ≤ 8
 ps : PiecesOk r.2.2.2.1
 ns : (r.2.2.2.2.1.length : Int) = r.2.1 * r.2.2.1
 cells : cellsOk r.2.2.2.1.length r.2.2.2.2.1
 ne : r.2.2.2.2.2.2.2.1.length ≤ 6
 ends : ∀ x ∈ r.2.2.2.2.2.2.2.1, endOk r.2.2.2.1.length x
 bl : 0 ≤ r.2.2.2.2.2.2.2.2.1 ∧ r.2.2.2.2.2.2.2.2.1 ≤ 2
 qu : 0 ≤ r.2.2.2.2.2.2.2.2.2.1 ∧ r.2.2.2.2.2.2.2.2.2.1 ≤ 200
 re : 0 ≤ r.2.2.2.2.2.2.2.2.2.2 ∧ r.2.2.2.2.2.2.2.2.2.2 ≠ 1 ∧ r.2.2.2.2.2.2.2.2.2.2 ≤ 5
abbrev tailOk (r : RulesT) : Prop := (0 ≤ r.2.2.2.2.2.2.2.2.1 ∧ r.2.2.2.2.2.2.2.2.1 ≤ 2) ∧ (0 ≤ r.2.2.2.2.2.2.2.2.2.1 ∧ r.2.2.2.2.2.2.2.2.2.1 ≤ 200) ∧ (0 ≤ r.2.2.2.2.2.2.2.2.2.2 ∧ r.2.2.2.2.2.2.2.2.2.2 ≠ 1 ∧ r.2.2.2.2.2.2.2.2.2.2 ≤ 5)
theorem check_l1 (N : Nat) (r : RulesT) (hen : r.2.2.2.2.2.2.2.1.length ≤ 6) : ∀ (k j n : Nat), j + k = r.2.2.2.2.2.2.2.1.length → k + 1 ≤ n →
  Ret (Q29.l1 N r n (r.2.2.2.2.2.2.2.1.length : Int) (j : Int)) fun v => v = 0 ↔ (∀ x ∈ r.2.2.2.2.2.2.2.1.drop j, endOk r.2.2.2.1.length x) ∧ tailOk r
 | 0, j, n, hk, hn => by
  obtain ⟨n, rfl⟩ := nxt (n := n) (by omega)
  rw [Q29.l1_s, Q29.s1, bif_f (ltI_f (by omega)), forall_end (by omega)]
  unfold tailOk
  repeat' (refine Ret.bif (fun c => ?_) (fun c => ?_))
  all_goals (apply Ret.ret; simp only [ltI_iff, ltI_iff', eqI_iff, eqI_iff', true_iff, false_iff, true_and] at *; omega)
 | k + 1, j, n, hk, hn => by
  obtain ⟨n, rfl⟩ := nxt (n := n) (by omega)
  have ih := check_l1 N r hen k (j + 1) n (by omega) (by omega)
  have hj : j < r.2.2.2.2.2.2.2.1.length := by omega
  rw [Q29.l1_s, Q29.s1, bif_t (ltI_t (by omega)), chk_of (idx_ok hj), gD_nat hj, w64_id (by omega) (by omega), show ((j : Int) + 1) = ((j + 1 : Nat) : Int) by omega, forall_drop hj]
  refine Ret.bnd (end_iff N _ _) fun v hv => Ret.bif (fun c => ?_) (fun c => ?_)
  ·rw [not_t, eqI_iff'] at c
   exact Ret.ret ⟨fun h => absurd h c, fun h => absurd (hv.2 h.1.1) c⟩
  ·rw [not_f, eqI_iff] at c
   exact ih.mono fun u hu => hu.trans ⟨fun h => ⟨⟨hv.1 c, h.1⟩, h.2⟩, fun h => ⟨h.1.2, h.2⟩⟩
theorem check_l0 (N : Nat) (r : RulesT) (hps : r.2.2.2.1.length ≤ 6) (hst : r.2.2.2.2.1.length ≤ 64) : ∀ (k j n : Nat), j + k = r.2.2.2.2.1.length → k + 9 ≤ n →
  Ret (Q29.l0 N r n (r.2.2.2.2.1.length : Int) (j : Int)) fun v => v = 0 ↔ (∀ c ∈ r.2.2.2.2.1.drop j, 0 ≤ c ∧ c ≤ 2 * (r.2.2.2.1.length : Int)) ∧ r.2.2.2.2.2.2.2.1.length ≤ 6 ∧ (∀ x ∈ r.2.2.2.2.2.2.2.1, endOk r.2.2.2.1.length x) ∧ tailOk r
 | 0, j, n, hk, hn => by
  obtain ⟨n, rfl⟩ := nxt (n := n) (by omega)
  rw [Q29.l0_s, Q29.s0, bif_f (ltI_f (by omega)), forall_end (by omega)]
  refine Ret.bif (fun c => ?_) (fun c => ?_)
  ·rw [ltI_iff] at c
   exact Ret.ret ⟨fun h => (by cases h), fun h => (by have := h.2.1; omega)⟩
  ·rw [ltI_iff'] at c
   have h1 := check_l1 N r (by omega) r.2.2.2.2.2.2.2.1.length 0 n (by omega) (by omega)
   rw [List.drop_zero, show ((0 : Nat) : Int) = 0 from rfl] at h1
   exact h1.mono fun v hv => hv.trans ⟨fun h => ⟨trivial, by omega, h⟩, fun h => h.2.2⟩
 | k + 1, j, n, hk, hn => by
  obtain ⟨n, rfl⟩ := nxt (n := n) (by omega)
  have hj : j < r.2.2.2.2.1.length := by omega
  have ih := check_l0 N r hps hst k (j + 1) n (by omega) (by omega)
  rw [Q29.l0_s, Q29.s0, bif_t (ltI_t (by omega)), chk_of (idx_ok hj), gD_nat hj, w64_id (x := 2 * (r.2.2.2.1.length : Int)) (by omega) (by omega), w64_id (by omega) (by omega), show ((j : Int) + 1) = ((j + 1 : Nat) : Int) by omega, forall_drop hj]
  refine Ret.bif (fun c => ?_) (fun c => Ret.bif (fun c' => ?_) (fun c' => ?_))
  ·rw [ltI_iff] at c
   exact Ret.ret ⟨fun h => (by cases h), fun h => (by have := h.1.1.1; omega)⟩
  ·rw [ltI_iff] at c'
   exact Ret.ret ⟨fun h => (by cases h), fun h => (by have := h.1.1.2; omega)⟩
  ·rw [ltI_iff'] at c c'
   exact ih.mono fun u hu => hu.trans ⟨fun h => ⟨⟨⟨c, c'⟩, h.1⟩, h.2⟩, fun h => ⟨h.1.2, h.2⟩⟩
theorem area_le' {w h : Int} (hb : 1 ≤ w ∧ w ≤ 8 ∧ 1 ≤ h ∧ h ≤ 8) : 1 ≤ w * h ∧ w * h ≤ 64 := by
 obtain ⟨a, rfl⟩ : ∃ a : Nat, w = a := ⟨w.toNat, by omega⟩
 obtain ⟨c, rfl⟩ : ∃ c : Nat, h = c := ⟨h.toNat, by omega⟩
 have e1 : a * c ≤ 8 * 8 := Nat.mul_le_mul (by omega) (by omega)
 have e2 : 1 * 1 ≤ a * c := Nat.mul_le_mul (by omega) (by omega)
 have e3 : (a : Int) * (c : Int) = ((a * c : Nat) : Int) := by simp
 omega
theorem rcheck {N : Nat} (hN : 1000 ≤ N) (r : RulesT) : Ret (Q29 N r) fun v => v = 0 ↔ ROk r := by
 unfold Q29 Q29.e
 refine Ret.bnd (name_iff hN r.1) fun b hb => Ret.bif (fun c => ?_) (fun c => ?_)
 ·rw [not_t] at c
  exact Ret.ret ⟨fun h => (by cases h), fun h => (by have := hb.2 h.name; rw [c] at this; cases this)⟩
 rw [not_f] at c
 refine Ret.bif (fun c1 => ?_) (fun c1 => Ret.bif (fun c2 => ?_) (fun c2 => Ret.bif (fun c3 => ?_) (fun c3 => Ret.bif (fun c4 => ?_) (fun c4 => ?_))))
 ·rw [ltI_iff] at c1; exact Ret.ret ⟨fun h => (by cases h), fun h => (by have := h.b; omega)⟩
 ·rw [ltI_iff] at c2; exact Ret.ret ⟨fun h => (by cases h), fun h => (by have := h.b; omega)⟩
 ·rw [ltI_iff] at c3; exact Ret.ret ⟨fun h => (by cases h), fun h => (by have := h.b; omega)⟩
 ·rw [ltI_iff] at c4; exact Ret.ret ⟨fun h => (by cases h), fun h => (by have := h.b; omega)⟩
 rw [ltI_iff'] at c1 c2 c3 c4
 refine Ret.bnd (pieces_iff hN _) fun v hv => Ret.bif (fun c5 => ?_) (fun c5 => ?_)
 ·rw [not_t, eqI_iff'] at c5
  exact Ret.ret ⟨fun h => absurd h c5, fun h => absurd (hv.2 h.ps) c5⟩
 rw [not_f, eqI_iff] at c5
 have hp := hv.1 c5
 have ha := area_le' (w := r.2.1) (h := r.2.2.1) (by omega)
 rw [w64_id (by omega) (by omega)]
 refine Ret.bif (fun c6 => ?_) (fun c6 => ?_)
 ·rw [not_t, eqI_iff'] at c6
  exact Ret.ret ⟨fun h => (by cases h), fun h => absurd h.ns c6⟩
 rw [not_f, eqI_iff] at c6
 have h0 := check_l0 N r hp.le (by omega) r.2.2.2.2.1.length 0 N (by omega) (by omega)
 rw [List.drop_zero, show ((0 : Nat) : Int) = 0 from rfl] at h0
 exact h0.mono fun u hu => hu.trans ⟨fun h => ⟨hb.1 c, by omega, hp, c6, h.1, h.2.1, h.2.2.1, h.2.2.2.1, h.2.2.2.2.1, h.2.2.2.2.2⟩, fun h => ⟨h.cells, h.ne, h.ends, h.bl, h.qu, h.re⟩⟩
end Go.Proofs.YtfihdjjilofklaaGreat.Am
set_option linter.unusedVariables false
set_option linter.unusedSimpArgs false
namespace Go.Proofs.YtfihdjjilofklaaGreat.Am
open Go
abbrev handOk (l : List Int) : Prop := ∀ c ∈ l, 0 ≤ c ∧ c ≤ 1000
abbrev lastOk (p : PosT) : Prop := (p.2.2.1 = 0 ∨ p.2.2.1 = 1) ∧ 0 ≤ p.2.2.2 ∧ p.2.2.2 ≤ 200
structure POk (r : RulesT) (p : PosT) : Prop where
 len : (p.1.length : Int) = r.2.1 * r.2.2.1
 h0 : p.2.1.1.length = r.2.2.2.1.length
 h1 : p.2.1.2.length = r.2.2.2.1.length
 cells : cellsOk r.2.2.2.1.length p.1
 o0 : handOk p.2.1.1
 o1 : handOk p.2.1.2
 last : lastOk p
section
variable (N : Nat) (r : RulesT) (p : PosT)
theorem pcheck_l1_end (n : Nat) (hn : 1 ≤ n) : Ret (Q40.l1 N r p n 2) fun v => v = 0 ↔ lastOk p := by
 obtain ⟨n, rfl⟩ := nxt (n := n) (by omega)
 rw [Q40.l1_s, Q40.s1, bif_f (by rfl)]
 unfold lastOk
 repeat' (refine Ret.bif (fun c => ?_) (fun c => ?_))
 all_goals (apply Ret.ret; simp only [ltI_iff, ltI_iff', eqI_iff, eqI_iff', not_t, not_f, true_iff, false_iff] at *; omega)
theorem pcheck_l2 (i : Int) (hd : List Int) (hl : hd.length ≤ 6) (B : Nat) (P : Prop) (hv : ∀ n, B ≤ n → Ret (Q40.l1 N r p n (w64 (i + 1))) fun v => v = 0 ↔ P) : ∀ (k j n : Nat), j + k = hd.length → k + B + 1 ≤ n →
  Ret (Q40.l2 N r p n i hd (hd.length : Int) (j : Int)) fun v => v = 0 ↔ (∀ c ∈ hd.drop j, 0 ≤ c ∧ c ≤ 1000) ∧ P
 | 0, j, n, hk, hn => by
  obtain ⟨n, rfl⟩ := nxt (n := n) (by omega)
  rw [Q40.l2_s, Q40.s2, bif_f (ltI_f (by omega)), forall_end (by omega)]
  exact (hv n (by omega)).mono fun v hv => by simpa using hv
 | k + 1, j, n, hk, hn => by
  obtain ⟨n, rfl⟩ := nxt (n := n) (by omega)
  have hj : j < hd.length := by omega
  have ih := pcheck_l2 i hd hl B P hv k (j + 1) n (by omega) (by omega)
  rw [Q40.l2_s, Q40.s2, bif_t (ltI_t (by omega)), chk_of (idx_ok hj), gD_nat hj, w64_id (by omega) (by omega), show ((j : Int) + 1) = ((j + 1 : Nat) : Int) by omega, forall_drop hj]
  refine Ret.bif (fun c => ?_) (fun c => Ret.bif (fun c' => ?_) (fun c' => ?_))
  ·rw [ltI_iff] at c
   exact Ret.ret ⟨fun h => (by cases h), fun h => (by have := h.1.1.1; omega)⟩
  ·rw [ltI_iff] at c'
   exact Ret.ret ⟨fun h => (by cases h), fun h => (by have := h.1.1.2; omega)⟩
  ·rw [ltI_iff'] at c c'
   exact ih.mono fun u hu => hu.trans ⟨fun h => ⟨⟨⟨c, c'⟩, h.1⟩, h.2⟩, fun h => ⟨h.1.2, h.2⟩⟩
theorem pcheck_l1 (n : Nat) (hn : 50 ≤ n) (h0 : p.2.1.1.length ≤ 6) (h1 : p.2.1.2.length ≤ 6) : Ret (Q40.l1 N r p n 0) fun v => v = 0 ↔ handOk p.2.1.1 ∧ handOk p.2.1.2 ∧ lastOk p := by
 have k1 : ∀ n, 15 ≤ n → Ret (Q40.l1 N r p n (w64 (0 + 1))) fun v => v = 0 ↔ handOk p.2.1.2 ∧ lastOk p := fun n hn => by
  obtain ⟨n, rfl⟩ := nxt (n := n) (by omega)
  rw [show w64 ((0 : Int) + 1) = 1 by decide, Q40.l1_s, Q40.s1, bif_t (by rfl), bif_f (by rfl), bif_t (by rfl)]
  have := pcheck_l2 N r p 1 p.2.1.2 h1 1 _ (fun n hn => by rw [show w64 ((1 : Int) + 1) = 2 by decide]; exact pcheck_l1_end N r p n hn) p.2.1.2.length 0 n (by omega) (by omega)
  rw [List.drop_zero] at this
  exact this
 obtain ⟨n, rfl⟩ := nxt (n := n) (by omega)
 rw [Q40.l1_s, Q40.s1, bif_t (by rfl), bif_t (by rfl)]
 have := pcheck_l2 N r p 0 p.2.1.1 h0 15 _ k1 p.2.1.1.length 0 n (by omega) (by omega)
 rw [List.drop_zero] at this
 exact this
theorem pcheck_l0 (hps : r.2.2.2.1.length ≤ 6) (hst : p.1.length ≤ 64) (P : Prop) (hv : ∀ n, 50 ≤ n → Ret (Q40.l1 N r p n 0) fun v => v = 0 ↔ P) : ∀ (k j n : Nat), j + k = p.1.length → k + 51 ≤ n →
  Ret (Q40.l0 N r p n (j : Int)) fun v => v = 0 ↔ (∀ c ∈ p.1.drop j, 0 ≤ c ∧ c ≤ 2 * (r.2.2.2.1.length : Int)) ∧ P
 | 0, j, n, hk, hn => by
  obtain ⟨n, rfl⟩ := nxt (n := n) (by omega)
  rw [Q40.l0_s, Q40.s0, bif_f (ltI_f (by omega)), forall_end (by omega)]
  exact (hv n (by omega)).mono fun v hv => by simpa using hv
 | k + 1, j, n, hk, hn => by
  obtain ⟨n, rfl⟩ := nxt (n := n) (by omega)
  have hj : j < p.1.length := by omega
  have ih := pcheck_l0 hps hst P hv k (j + 1) n (by omega) (by omega)
  rw [Q40.l0_s, Q40.s0, bif_t (ltI_t (by omega)), chk_of (idx_ok hj), gD_nat hj, w64_id (x := 2 * (r.2.2.2.1.length : Int)) (by omega) (by omega), w64_id (by omega) (by omega), show ((j : Int) + 1) = ((j + 1 : Nat) : Int) by omega, forall_drop hj]
  refine Ret.bif (fun c => ?_) (fun c => Ret.bif (fun c' => ?_) (fun c' => ?_))
  ·rw [ltI_iff] at c
   exact Ret.ret ⟨fun h => (by cases h), fun h => (by have := h.1.1.1; omega)⟩
  ·rw [ltI_iff] at c'
   exact Ret.ret ⟨fun h => (by cases h), fun h => (by have := h.1.1.2; omega)⟩
  ·rw [ltI_iff'] at c c'
   exact ih.mono fun u hu => hu.trans ⟨fun h => ⟨⟨⟨c, c'⟩, h.1⟩, h.2⟩, fun h => ⟨h.1.2, h.2⟩⟩
end
theorem pcheck {N : Nat} (hN : 1000 ≤ N) (r : RulesT) (p : PosT) : Ret (Q40 N r p) fun v => v = 0 ↔ ROk r ∧ POk r p := by
 unfold Q40 Q40.e
 refine Ret.bnd (rcheck hN r) fun v hv => Ret.bif (fun c => ?_) (fun c => ?_)
 ·rw [not_t, eqI_iff'] at c
  exact Ret.ret ⟨fun h => absurd h c, fun h => absurd (hv.2 h.1) c⟩
 rw [not_f, eqI_iff] at c
 have hr := hv.1 c
 have ha := area_le' hr.b
 have hps := hr.ps.le
 rw [w64_id (by omega) (by omega)]
 refine Ret.bif (fun c1 => ?_) (fun c1 => Ret.bif (fun c2 => ?_) (fun c2 => Ret.bif (fun c3 => ?_) (fun c3 => ?_)))
 ·rw [not_t, eqI_iff'] at c1; exact Ret.ret ⟨fun h => (by cases h), fun h => absurd h.2.len c1⟩
 ·rw [not_t, eqI_iff'] at c2; exact Ret.ret ⟨fun h => (by cases h), fun h => absurd h.2.h0 (by omega)⟩
 ·rw [not_t, eqI_iff'] at c3; exact Ret.ret ⟨fun h => (by cases h), fun h => absurd h.2.h1 (by omega)⟩
 rw [not_f, eqI_iff] at c1 c2 c3
 have h0 := pcheck_l0 N r p hps (by omega) _ (fun n hn => pcheck_l1 N r p n hn (by omega) (by omega)) p.1.length 0 N (by omega) (by omega)
 rw [List.drop_zero, show ((0 : Nat) : Int) = 0 from rfl] at h0
 exact h0.mono fun u hu => hu.trans ⟨fun h => ⟨hr, c1, by omega, by omega, h.1, h.2.1, h.2.2.1, h.2.2.2⟩, fun h => ⟨h.2.cells, h.2.o0, h.2.o1, h.2.last⟩⟩
theorem pcheck_ok {N : Nat} (hN : 1000 ≤ N) {r : RulesT} {p : PosT} (hr : ROk r) (hp : POk r p) : Q40 N r p = some 0 := by
 obtain ⟨v, h, hv⟩ := pcheck hN r p
 rw [h, hv.2 ⟨hr, hp⟩]
end Go.Proofs.YtfihdjjilofklaaGreat.Am
set_option linter.unusedVariables false
set_option linter.unusedSimpArgs false
namespace Go.Proofs.YtfihdjjilofklaaGreat.Am
open Go
def ownI (c : Int) : Int := if c = 0 then -1 else (c - 1) % 2
def kindI (c : Int) : Int := (c - 1) / 2
theorem owner_eq {N : Nat} {c : Int} (h0 : 0 ≤ c) (h1 : c ≤ 1000) : Q57 N c = some (ownI c) := by
 unfold Q57 Q57.e ownI
 by_cases h : c = 0
 ·rw [bif_t (eqI_t h), if_pos h]
 ·rw [bif_f (eqI_f h), if_neg h, w64_id (by omega) (by omega), Int.tmod_eq_emod_of_nonneg (by omega)]
theorem kind_eq {N : Nat} {c : Int} (h0 : 1 ≤ c) (h1 : c ≤ 1000) : Q44 N c = some (kindI c) := by
 unfold Q44 Q44.e kindI
 rw [w64_id (x := c - 1) (by omega) (by omega), Int.tdiv_eq_ediv_of_nonneg (by omega), w64_id (by omega) (by omega)]
theorem own_cases {c : Int} (h0 : 0 ≤ c) : (c = 0 ∧ ownI c = -1) ∨ (1 ≤ c ∧ (ownI c = 0 ∨ ownI c = 1)) := by
 unfold ownI
 by_cases h : c = 0
 ·rw [if_pos h]; exact Or.inl ⟨h, rfl⟩
 ·rw [if_neg h]; omega
theorem kind_lt {c : Int} {k : Nat} (h0 : 1 ≤ c) (h1 : c ≤ 2 * (k : Int)) : 0 ≤ kindI c ∧ kindI c < k := by
 unfold kindI; omega
theorem sq_bound {w h x y : Int} (hb : 1 ≤ w ∧ w ≤ 8 ∧ 1 ≤ h ∧ h ≤ 8) (hx : 0 ≤ x ∧ x < w) (hy : 0 ≤ y ∧ y < h) : 0 ≤ y * w ∧ y * w ≤ 56 ∧ y * w + x < w * h := by
 obtain ⟨w, rfl⟩ : ∃ a : Nat, w = a := ⟨w.toNat, by omega⟩
 obtain ⟨h, rfl⟩ : ∃ a : Nat, h = a := ⟨h.toNat, by omega⟩
 obtain ⟨y, rfl⟩ : ∃ a : Nat, y = a := ⟨y.toNat, by omega⟩
 have e1 : y * w ≤ 7 * 8 := Nat.mul_le_mul (by omega) (by omega)
 have e2 : (y + 1) * w ≤ h * w := Nat.mul_le_mul (by omega) (Nat.le_refl _)
 have e3 : (y : Int) * (w : Int) = ((y * w : Nat) : Int) := by simp
 have e4 : (w : Int) * (h : Int) = ((h * w : Nat) : Int) := by simp [Int.mul_comm]
 rw [Nat.add_mul, Nat.one_mul] at e2
 omega
theorem sq_parts {w h s : Int} (hb : 1 ≤ w ∧ w ≤ 8 ∧ 1 ≤ h ∧ h ≤ 8) (hs : 0 ≤ s ∧ s < w * h) : 0 ≤ s % w ∧ s % w < w ∧ 0 ≤ s / w ∧ s / w < h ∧ (s / w) * w + s % w = s := by
 refine ⟨Int.emod_nonneg _ (by omega), Int.emod_lt_of_pos _ (by omega), Int.ediv_nonneg hs.1 (by omega), ?_, ?_⟩
 ·exact Int.ediv_lt_of_lt_mul (by omega) (by rw [Int.mul_comm]; exact hs.2)
 ·rw [Int.mul_comm]; exact Int.mul_ediv_add_emod s w
def farI (r : RulesT) (player to : Int) : Bool := bif eqI player 0 then eqI (to / r.2.1) (r.2.2.1 - 1) else eqI (to / r.2.1) 0
theorem far_eq {N : Nat} {r : RulesT} (hb : 1 ≤ r.2.1 ∧ r.2.1 ≤ 8 ∧ 1 ≤ r.2.2.1 ∧ r.2.2.1 ≤ 8) {player to : Int} (ht : 0 ≤ to ∧ to < r.2.1 * r.2.2.1) : Q77 N r player to = some (farI r player to) := by
 unfold Q77 Q77.e farI
 have h1 := sq_parts hb ht
 rw [Int.tdiv_eq_ediv_of_nonneg ht.1, w64_id (x := to / r.2.1) (by omega) (by omega), w64_id (x := r.2.2.1 - 1) (by omega) (by omega), bif_f (c := eqI r.2.1 0) (eqI_f (by omega)), bif_f (c := eqI r.2.1 0) (eqI_f (by omega))]
 cases eqI player 0 <;> rfl
def arrI (r : RulesT) (player kind to : Int) : Int := bif ltI 0 (gD zP (r.2.2.2.1) kind).2.2.1 && farI r player to then (gD zP (r.2.2.2.1) kind).2.2.1 - 1 else kind
theorem piece_ok {r : RulesT} (hr : ROk r) {kind : Int} (hk : 0 ≤ kind ∧ kind < (r.2.2.2.1).length) : pieceOk (r.2.2.2.1).length (gD zP (r.2.2.2.1) kind) := by
 obtain ⟨k, rfl⟩ : ∃ a : Nat, kind = a := ⟨kind.toNat, by omega⟩
 exact (hr.ps.each k (by omega)).1
theorem arrives_eq {N : Nat} {r : RulesT} (hr : ROk r) {player kind to : Int} (hk : 0 ≤ kind ∧ kind < (r.2.2.2.1).length) (ht : 0 ≤ to ∧ to < r.2.1 * r.2.2.1) : Q78 N r player kind to = some (arrI r player kind to) := by
 unfold Q78 Q78.e arrI
 have hp := piece_ok hr hk
 have h6 := hr.ps.le
 rw [chk_idx hk.1 hk.2, far_eq hr.b ht, ob]
 have e : w64 ((gD zP (r.2.2.2.1) kind).2.2.1 - 1) = (gD zP (r.2.2.2.1) kind).2.2.1 - 1 := w64_id (by omega) (by omega)
 rw [e]
 cases ltI 0 (gD zP (r.2.2.2.1) kind).2.2.1 <;> cases farI r player to <;> rfl
theorem arr_lt {r : RulesT} (hr : ROk r) {player kind to : Int} (hk : 0 ≤ kind ∧ kind < (r.2.2.2.1).length) : 0 ≤ arrI r player kind to ∧ arrI r player kind to < (r.2.2.2.1).length := by
 have hp := (piece_ok hr hk).2.1
 unfold arrI
 cases hc : ltI 0 (gD zP (r.2.2.2.1) kind).2.2.1 && farI r player to
 ·exact hk
 ·simp only [Bool.and_eq_true, ltI_iff] at hc
  rw [cond_true]
  omega
def alongL (r : RulesT) (p : PosT) (from_ kind dx dy take : Int) : Nat → Int → Int → List MvT
 | 0, _, _ => []
 | k + 1, x, y =>
  if x + dx < 0 ∨ r.2.1 ≤ x + dx ∨ y + dy < 0 ∨ r.2.2.1 ≤ y + dy then [] else
  (if (ownI (gD 0 p.1 ((y + dy) * r.2.1 + (x + dx))) < 0 ∧ take ≠ 2) ∨ (ownI (gD 0 p.1 ((y + dy) * r.2.1 + (x + dx))) = 1 - p.2.2.1 ∧ take ≠ 0) then
   [(from_, ((y + dy) * r.2.1 + (x + dx), arrI r (p.2.2.1) kind ((y + dy) * r.2.1 + (x + dx))))] else []) ++
  (if 0 ≤ ownI (gD 0 p.1 ((y + dy) * r.2.1 + (x + dx))) then [] else alongL r p from_ kind dx dy take k (x + dx) (y + dy))
theorem cell_ok {r : RulesT} {p : PosT} (hp : POk r p) {s : Int} (hs : 0 ≤ s ∧ s < r.2.1 * r.2.2.1) : 0 ≤ gD 0 p.1 s ∧ gD 0 p.1 s ≤ 2 * ((r.2.2.2.1).length : Int) := by
 have hl := hp.len
 obtain ⟨s, rfl⟩ : ∃ a : Nat, s = a := ⟨s.toNat, by omega⟩
 rw [gD_nat (by omega)]
 exact hp.cells _ (List.getElem_mem _)
section
variable {r : RulesT} (hr : ROk r) {p : PosT} (hp : POk r p)
include hr hp
theorem along_l0 (N : Nat) (out0 : List MvT) (from_ : Int) (w : WayT) (hw : wayOk w) {kind dy : Int} (hk : 0 ≤ kind ∧ kind < (r.2.2.2.1).length) (hdy : -7 ≤ dy ∧ dy ≤ 7) :
  ∀ (k n : Nat) (x y t : Int) (out : List MvT), t + k = w.2.2.1 → 0 ≤ t → k < n → (0 ≤ x ∧ x < r.2.1) → (0 ≤ y ∧ y < r.2.2.1) → out.length + k ≤ 100000 →
  Q58.l0 N out0 r p from_ w n kind dy x y t out = some (out ++ alongL r p from_ kind w.1 dy w.2.2.2 k x y)
 | 0, n, x, y, t, out, ht, ht0, hn, hx, hy, ho => by
  obtain ⟨n, rfl⟩ := nxt (n := n) (by omega)
  rw [Q58.l0_s, Q58.s0, bif_f (ltI_f (by omega))]
  simp [alongL]
 | k + 1, n, x, y, t, out, ht, ht0, hn, hx, hy, ho => by
  obtain ⟨n, rfl⟩ := nxt (n := n) (by omega)
  have hb := hr.b
  have h6 := hr.ps.le
  rw [Q58.l0_s, Q58.s0, bif_t (ltI_t (by omega))]
  simp (disch := omega) only [w64_id (x := x + w.1), w64_id (x := y + dy), w64_id (x := t + 1)]
  unfold alongL
  by_cases c1 : x + w.1 < 0
  ·rw [bif_t (ltI_t c1), if_pos (Or.inl c1), List.append_nil]
  by_cases c2 : r.2.1 ≤ x + w.1
  ·rw [bif_f (ltI_f (by omega)), bif_t (leI_t c2), if_pos (Or.inr (Or.inl c2)), List.append_nil]
  by_cases c3 : y + dy < 0
  ·rw [bif_f (ltI_f (by omega)), bif_f (leI_f (by omega)), bif_t (ltI_t c3), if_pos (by omega), List.append_nil]
  by_cases c4 : r.2.2.1 ≤ y + dy
  ·rw [bif_f (ltI_f (by omega)), bif_f (leI_f (by omega)), bif_f (ltI_f (by omega)), bif_t (leI_t c4), if_pos (by omega), List.append_nil]
  rw [bif_f (ltI_f (by omega)), bif_f (leI_f (by omega)), bif_f (ltI_f (by omega)), bif_f (leI_f (by omega)), if_neg (by omega)]
  have hq := sq_bound (x := x + w.1) (y := y + dy) hb (by omega) (by omega)
  rw [w64_id (x := (y + dy) * r.2.1) (by omega) (by omega), w64_id (x := (y + dy) * r.2.1 + (x + w.1)) (by omega) (by omega)]
  have hto : 0 ≤ (y + dy) * r.2.1 + (x + w.1) ∧ (y + dy) * r.2.1 + (x + w.1) < r.2.1 * r.2.2.1 := by omega
  have hc := cell_ok hp hto
  have hl := hp.len
  have ho1 := own_cases hc.1
  have har : Q78 N r p.2.2.1 kind ((y + dy) * r.2.1 + (x + w.1)) = _ := arrives_eq hr hk hto
  have how := owner_eq (N := N) hc.1 (by omega)
  have ih := fun out' (h : out'.length + k ≤ 100000) => along_l0 N out0 from_ w hw hk hdy k n (x + w.1) (y + dy) (t + 1) out' (by omega) (by omega) (by omega) (by omega) (by omega) h
  rw [chk_idx (by omega) (by omega), how, ob, har]
  generalize ownI (gD 0 p.1 ((y + dy) * r.2.1 + (x + w.1))) = o at *
  generalize arrI r p.2.2.1 kind ((y + dy) * r.2.1 + (x + w.1)) = a at *
  generalize (y + dy) * r.2.1 + (x + w.1) = to at *
  have htt := hp.last.1
  rw [w64_id (x := 1 - p.2.2.1) (by omega) (by omega)]
  simp only [ob]
  rw [chk_cap (by simp; omega), ih out (by omega), ih (out ++ [(from_, (to, a))]) (by simp; omega)]
  simp only [ltI, leI, eqI, Bool.cond_eq_ite, decide_eq_true_eq, Bool.not_eq_true', decide_eq_false_iff_not]
  repeat' split
  all_goals first | omega | simp
theorem along_eq {N : Nat} (hN : 1000 ≤ N) (out : List MvT) {from_ : Int} (hf : 0 ≤ from_ ∧ from_ < r.2.1 * r.2.2.1) (w : WayT) (hw : wayOk w) (hc : 1 ≤ gD 0 p.1 from_) (ho : out.length + 7 ≤ 100000) :
  Q58 N out r p from_ w = some (out ++ alongL r p from_ (kindI (gD 0 p.1 from_)) w.1 (if p.2.2.1 = 1 then - w.2.1 else w.2.1) w.2.2.2 w.2.2.1.toNat (from_ % r.2.1) (from_ / r.2.1)) := by
 have hb := hr.b
 have h6 := hr.ps.le
 have hl := hp.len
 have hq := sq_parts hb hf
 have hcc := cell_ok hp hf
 have hkk := kind_lt hc hcc.2
 unfold Q58 Q58.e
 rw [chk_idx hf.1 (by omega), kind_eq hc (by omega), ob]
 simp only [bif_f (c := eqI r.2.1 0) (eqI_f (by omega))]
 rw [Int.tdiv_eq_ediv_of_nonneg hf.1, Int.tmod_eq_emod_of_nonneg hf.1, w64_id (x := from_ / r.2.1) (by omega) (by omega), w64_id (x := 0 - w.2.1) (by omega) (by omega)]
 by_cases ht : p.2.2.1 = 1
 ·rw [bif_t (eqI_t ht), if_pos ht, show 0 - w.2.1 = - w.2.1 by omega]
  exact along_l0 hr hp N out from_ w hw hkk (by omega) w.2.2.1.toNat N _ _ 0 out (by omega) (by omega) (by omega) (by omega) (by omega) (by omega)
 ·rw [bif_f (eqI_f ht), if_neg ht]
  exact along_l0 hr hp N out from_ w hw hkk (by omega) w.2.2.1.toNat N _ _ 0 out (by omega) (by omega) (by omega) (by omega) (by omega) (by omega)
end
end Go.Proofs.YtfihdjjilofklaaGreat.Am
