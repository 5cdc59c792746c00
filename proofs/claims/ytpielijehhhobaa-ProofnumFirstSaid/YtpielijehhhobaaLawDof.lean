/- Plain: a move is made. -/
import Derived.Test.YtpielijehhhobaaLawGenf
set_option linter.unusedVariables false
set_option linter.unusedSimpArgs false
set_option linter.unusedSectionVars false
namespace Go.Proofs.Ytpielijehhhobaa.Am
open Go
structure MoveOk (r : RulesT) (p : PosT) (m : MvT) : Prop where
 to : 0 ≤ m.2.1 ∧ m.2.1 < r.2.1 * r.2.2.1
 piece : 0 ≤ m.2.2 ∧ m.2.2 < (r.2.2.2.1).length
 own : ownI (gD 0 p.1 m.2.1) ≠ p.2.2.1
 src : (m.1 = -1 ∧ gD 0 p.1 m.2.1 = 0 ∧ 0 < gD 0 (handT p) m.2.2) ∨ (0 ≤ m.1 ∧ m.1 < r.2.1 * r.2.2.1 ∧ ownI (gD 0 p.1 m.1) = p.2.2.1)
theorem mem_putsS (r : RulesT) (p : PosT) (t : Int) (m : MvT) : ∀ (k j : Nat), m ∈ putsS r p t k j ↔ ∃ i : Nat, j ≤ i ∧ i < j + k ∧ openB r p i = true ∧ m = ((-1 : Int), ((i : Int), t))
 | 0, j => by
  constructor
  ·intro h; cases h
  ·rintro ⟨i, h1, h2, _⟩; omega
 | k + 1, j => by
  unfold putsS
  rw [List.mem_append, mem_putsS r p t m k (j + 1)]
  constructor
  ·rintro (h | ⟨i, h1, h2, h3⟩)
   ·cases ho : openB r p j with
    | false => rw [ho] at h; cases h
    | true =>
     rw [ho] at h
     exact ⟨j, by omega, by omega, ho, by simpa using h⟩
   ·exact ⟨i, by omega, by omega, h3⟩
  ·rintro ⟨i, h1, h2, h3, h4⟩
   rcases Nat.lt_or_ge j i with h | h
   ·exact Or.inr ⟨i, by omega, by omega, h3, h4⟩
   ·obtain rfl : i = j := by omega
    rw [h3]
    exact Or.inl (by simp [h4])
theorem mem_putsH (r : RulesT) (p : PosT) (hand : List Int) (m : MvT) : ∀ (k j : Nat), m ∈ putsH r p hand k j ↔ ∃ t : Nat, j ≤ t ∧ t < j + k ∧ 0 < gD 0 hand t ∧ m ∈ putsS r p t p.1.length 0
 | 0, j => by
  constructor
  ·intro h; cases h
  ·rintro ⟨i, h1, h2, _⟩; omega
 | k + 1, j => by
  unfold putsH
  rw [List.mem_append, mem_putsH r p hand m k (j + 1)]
  constructor
  ·rintro (h | ⟨i, h1, h2, h3⟩)
   ·by_cases c : 0 < gD 0 hand j
    ·rw [bif_t (ltI_t c)] at h
     exact ⟨j, by omega, by omega, c, h⟩
    ·rw [bif_f (ltI_f (by omega))] at h; cases h
   ·exact ⟨i, by omega, by omega, h3⟩
  ·rintro ⟨i, h1, h2, h3, h4⟩
   rcases Nat.lt_or_ge j i with h | h
   ·exact Or.inr ⟨i, by omega, by omega, h3, h4⟩
   ·obtain rfl : i = j := by omega
    rw [bif_t (ltI_t h3)]
    exact Or.inl h4
theorem mem_walks (r : RulesT) (p : PosT) (m : MvT) : ∀ (k j : Nat), m ∈ walks r p k j ↔ ∃ i : Nat, j ≤ i ∧ i < j + k ∧ ownI (gD 0 p.1 i) = p.2.2.1 ∧ ∃ w ∈ (gD zP (r.2.2.2.1) (kindI (gD 0 p.1 i))).2.2.2, m ∈ wayL r p i w
 | 0, j => by
  constructor
  ·intro h; cases h
  ·rintro ⟨i, h1, h2, _⟩; omega
 | k + 1, j => by
  unfold walks
  rw [List.mem_append, mem_walks r p m k (j + 1)]
  constructor
  ·rintro (h | ⟨i, h1, h2, h3⟩)
   ·by_cases c : ownI (gD 0 p.1 j) = p.2.2.1
    ·rw [if_pos c, List.mem_flatMap] at h
     exact ⟨j, by omega, by omega, c, h⟩
    ·rw [if_neg c] at h; cases h
   ·exact ⟨i, by omega, by omega, h3⟩
  ·rintro ⟨i, h1, h2, h3, h4⟩
   rcases Nat.lt_or_ge j i with h | h
   ·exact Or.inr ⟨i, by omega, by omega, h3, h4⟩
   ·obtain rfl : i = j := by omega
    rw [if_pos h3, List.mem_flatMap]
    exact Or.inl h4
section
variable {r : RulesT} (hr : ROk r) {p : PosT} (hp : POk r p)
include hr hp
theorem mem_along {f kind dx dy t : Int} (hk : 0 ≤ kind ∧ kind < (r.2.2.2.1).length) {m : MvT} : ∀ (k : Nat) (x y : Int), (0 ≤ x ∧ x < r.2.1) → (0 ≤ y ∧ y < r.2.2.1) → m ∈ alongL r p f kind dx dy t k x y →
  m.1 = f ∧ (0 ≤ m.2.1 ∧ m.2.1 < r.2.1 * r.2.2.1) ∧ (0 ≤ m.2.2 ∧ m.2.2 < (r.2.2.2.1).length) ∧ ownI (gD 0 p.1 m.2.1) ≠ p.2.2.1
 | 0, x, y, _, _, h => by cases h
 | k + 1, x, y, hx, hy, h => by
  have ht := hp.last.1
  unfold alongL at h
  split at h
  ·cases h
  rename_i c
  have hq := sq_bound (x := x + dx) (y := y + dy) hr.b (by omega) (by omega)
  have ha := arr_lt hr (player := p.2.2.1) (to := (y + dy) * r.2.1 + (x + dx)) hk
  rw [List.mem_append] at h
  rcases h with h | h
  ·split at h
   ·rename_i c2
    rw [List.mem_singleton] at h
    subst h
    exact ⟨rfl, by dsimp only; omega, ha, by dsimp only; omega⟩
   ·cases h
  ·split at h
   ·cases h
   ·exact mem_along hk k _ _ (by omega) (by omega) h
theorem own_pos {s : Int} (hs : 0 ≤ s ∧ s < r.2.1 * r.2.2.1) (ho : ownI (gD 0 p.1 s) = p.2.2.1) : 1 ≤ gD 0 p.1 s := by
 have hc := cell_ok hp hs
 have := own_cases hc.1
 have := hp.last.1
 omega
theorem cand_ok {m : MvT} (hm : m ∈ cand r p) : MoveOk r p m := by
 have hll := len_le hr hp
 have hl := hp.len
 have ht := hp.last.1
 unfold cand at hm
 rw [List.mem_append, mem_putsH, mem_walks] at hm
 rcases hm with ⟨t, _, h2, h3, h4⟩ | ⟨i, _, h2, h3, w, h4, h5⟩
 ·rw [mem_putsS] at h4
  obtain ⟨i, _, h5, h6, rfl⟩ := h4
  unfold openB at h6
  simp only [Bool.and_eq_true, eqI_iff] at h6
  refine ⟨by dsimp only; omega, by dsimp only; omega, ?_, Or.inl ⟨rfl, h6.1, h3⟩⟩
  dsimp only
  rw [h6.1]
  unfold ownI
  rw [if_pos rfl]
  omega
 ·have hs : 0 ≤ (i : Int) ∧ (i : Int) < r.2.1 * r.2.2.1 := by omega
  have hc := own_pos hr hp hs h3
  have hkk := kind_lt hc (cell_ok hp hs).2
  have hq := sq_parts hr.b hs
  obtain ⟨g1, g2, g3, g4⟩ := mem_along hr hp hkk _ _ _ ⟨hq.1, hq.2.1⟩ ⟨hq.2.2.1, hq.2.2.2.1⟩ h5
  exact ⟨g2, g3, g4, Or.inr (by rw [g1]; exact ⟨by omega, by omega, h3⟩)⟩
end
def setH (p : PosT) (h : List Int) : List Int × List Int := if p.2.2.1 = 0 then (h, p.2.1.2) else (p.2.1.1, h)
def hand1 (p : PosT) (m : MvT) : List Int := if m.1 < 0 then (handT p).set m.2.2.toNat (gD 0 (handT p) m.2.2 - 1) else handT p
def hand2 (r : RulesT) (p : PosT) (m : MvT) : List Int := if gD 0 p.1 m.2.1 ≠ 0 ∧ r.2.2.2.2.2.2.1 = true then (hand1 p m).set (kindI (gD 0 p.1 m.2.1)).toNat (if 1000 < gD 0 (hand1 p m) (kindI (gD 0 p.1 m.2.1)) + 1 then 1000 else gD 0 (hand1 p m) (kindI (gD 0 p.1 m.2.1)) + 1) else hand1 p m
def cells2 (p : PosT) (m : MvT) : List Int := (if m.1 < 0 then p.1 else p.1.set m.1.toNat 0).set m.2.1.toNat (2 * m.2.2 + p.2.2.1 + 1)
def doI (r : RulesT) (p : PosT) (m : MvT) : PosT := (cells2 p m, (setH p (hand2 r p m), (1 - p.2.2.1, if m.1 < 0 ∨ gD 0 p.1 m.2.1 ≠ 0 then 0 else if 200 < p.2.2.2 + 1 then 200 else p.2.2.2 + 1)))
theorem clone_eq {N : Nat} {l : List Int} (hl : l.length ≤ 100) : Q75 N l = some l := by
 unfold Q75 Q75.e
 rw [chk_cap (by simp; omega)]
 rfl
theorem pos_eta (p : PosT) : (p.1, ((p.2.1.1, p.2.1.2), p.2.2)) = p := rfl
theorem gD_ok {l : List Int} {Q : Int → Prop} (h : ∀ c ∈ l, Q c) {i : Int} (h0 : 0 ≤ i) (h1 : i < l.length) : Q (gD 0 l i) := by
 obtain ⟨i, rfl⟩ : ∃ a : Nat, i = a := ⟨i.toNat, by omega⟩
 rw [gD_nat (by omega)]
 exact h _ (List.getElem_mem _)
theorem set_ok {l : List Int} {Q : Int → Prop} (h : ∀ c ∈ l, Q c) {i : Nat} {v : Int} (hv : Q v) : ∀ c ∈ l.set i v, Q c := by
 intro c hc
 rcases List.mem_or_eq_of_mem_set hc with h1 | h1
 ·exact h c h1
 ·rw [h1]; exact hv
section
variable {r : RulesT} (hr : ROk r) {p : PosT} (hp : POk r p)
include hr hp
theorem hand_ok : handOk (handT p) := by
 unfold handT
 split
 ·exact hp.o0
 ·exact hp.o1
theorem copy_eq (N : Nat) : Q47 N p = some p := by
 have hll := len_le hr hp
 have h0 := hp.h0
 have h1 := hp.h1
 unfold Q47 Q47.e
 rw [clone_eq (by omega), Option.bind_some, clone_eq (by omega), Option.bind_some, clone_eq (by omega), Option.bind_some]
theorem hand1_ok {m : MvT} (hm : MoveOk r p m) : handOk (hand1 p m) ∧ (hand1 p m).length = (r.2.2.2.1).length := by
 have hll := len_le hr hp
 have hh := hand_ok hr hp
 have hpi := hm.piece
 have := gD_ok hh hpi.1 (by omega)
 unfold hand1
 split
 ·rename_i hs
  rcases hm.src with h | h
  ·exact ⟨set_ok hh (by omega), by rw [List.length_set]; exact hll.2.1⟩
  ·omega
 ·exact ⟨hh, hll.2.1⟩
theorem hand2_ok {m : MvT} (hm : MoveOk r p m) : handOk (hand2 r p m) ∧ (hand2 r p m).length = (r.2.2.2.1).length := by
 have h1 := hand1_ok hr hp hm
 unfold hand2
 split
 ·rename_i hc
  have hcc := cell_ok hp hm.to
  have hkk := kind_lt (k := (r.2.2.2.1).length) (show 1 ≤ gD 0 p.1 m.2.1 by omega) hcc.2
  have := gD_ok h1.1 hkk.1 (by omega)
  exact ⟨set_ok h1.1 (by split <;> omega), by rw [List.length_set]; exact h1.2⟩
 ·exact h1
theorem do_ok {m : MvT} (hm : MoveOk r p m) : POk r (doI r p m) := by
 have h2 := hand2_ok hr hp hm
 have hlast := hp.last
 have hpi := hm.piece
 refine ⟨?_, ?_, ?_, ?_, ?_, ?_, ?_⟩
 ·show ((cells2 p m).length : Int) = _
  unfold cells2
  rw [List.length_set]
  split
  ·exact hp.len
  ·rw [List.length_set]; exact hp.len
 ·show (setH p (hand2 r p m)).1.length = _
  unfold setH
  split
  ·exact h2.2
  ·exact hp.h0
 ·show (setH p (hand2 r p m)).2.length = _
  unfold setH
  split
  ·exact hp.h1
  ·exact h2.2
 ·show cellsOk _ (cells2 p m)
  unfold cells2
  refine set_ok ?_ (by omega)
  split
  ·exact hp.cells
  ·exact set_ok hp.cells (by omega)
 ·show handOk (setH p (hand2 r p m)).1
  unfold setH
  split
  ·exact h2.1
  ·exact hp.o0
 ·show handOk (setH p (hand2 r p m)).2
  unfold setH
  split
  ·exact hp.o1
  ·exact h2.1
 ·unfold doI lastOk
  dsimp only
  refine ⟨by omega, ?_⟩
  split
  ·omega
  ·split <;> omega
end
end Go.Proofs.Ytpielijehhhobaa.Am
