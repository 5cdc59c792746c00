/- Plain: keys of positions, and of the positions after moves. -/
import Derived.Test.YtlfhchkhbecmbaaLawDod
import Derived.Test.YtlfhchkhbecmbaaFnd1
import Derived.Test.YtlfhchkhbecmbaaAm16
set_option linter.unusedVariables false
set_option linter.unusedSimpArgs false
set_option linter.unusedSectionVars false
namespace Go.Proofs.Ytlfhchkhbecmbaa.Am
open Go
abbrev U (x : Int) : Int := IntKind.wrap .u64 x
theorem U_eq (x : Int) : U x = x % 18446744073709551616 := by
 unfold U IntKind.wrap
 have e : (2 : Int) ^ IntKind.bits .u64 = 18446744073709551616 := by decide
 simp only [e]
 simp [IntKind.signed]
theorem U_add (a b : Int) : U (U a + b) = U (a + b) := by simp only [U_eq]; omega
def mixI (n : Int) : Int := (Q61 0 n).getD 0
theorem mix_eq (N : Nat) (n : Int) : Q61 N n = some (mixI n) := rfl
def turnK (t : Int) : Int := U (U t * mixI 3000)
theorem turn_eq (N : Nat) (t : Int) : Q45 N t = some (turnK t) := by
 unfold Q45 Q45.e
 rw [mix_eq]; rfl
def sqK (s c : Int) : Int := if c = 0 then 0 else mixI (16 * s + c)
theorem square_eq (N : Nat) {s c : Int} (hs : 0 ≤ s ∧ s ≤ 1000) (hc : 0 ≤ c ∧ c ≤ 1000) : Q46 N s c = some (sqK s c) := by
 unfold Q46 Q46.e sqK
 by_cases h : c = 0
 ·rw [bif_t (eqI_t h), if_pos h]
 ·rw [bif_f (eqI_f h), if_neg h, mix_eq, w64_id (x := 16 * s) (by omega) (by omega), w64_id (by omega) (by omega)]; rfl
def heldK (o k n : Int) : Int := U (U n * mixI (2000 + 8 * o + k))
theorem held_eq (N : Nat) {o k n : Int} (ho : 0 ≤ o ∧ o ≤ 1) (hk : 0 ≤ k ∧ k ≤ 100) : Q47 N o k n = some (heldK o k n) := by
 unfold Q47 Q47.e heldK
 rw [mix_eq, w64_id (x := 8 * o) (by omega) (by omega), w64_id (x := 2000 + 8 * o) (by omega) (by omega), w64_id (by omega) (by omega)]; rfl
def sumF (f : Int → Int → Int) : List Int → Nat → Int
 | [], _ => 0
 | c :: l, j => f j c + sumF f l (j + 1)
theorem sumF_set (f : Int → Int → Int) : ∀ (l : List Int) (i j : Nat) (v : Int) (h : i < l.length), sumF f (l.set i v) j = sumF f l j - f ((j + i : Nat) : Int) l[i] + f ((j + i : Nat) : Int) v
 | [], i, j, v, h => by simp at h
 | c :: l, 0, j, v, h => by simp only [List.set_cons_zero, sumF, List.getElem_cons_zero, Nat.add_zero]; omega
 | c :: l, i + 1, j, v, h => by
  have := sumF_set f l i (j + 1) v (by simpa using h)
  simp only [List.set_cons_succ, sumF, List.getElem_cons_succ]
  rw [show j + 1 + i = j + (i + 1) by omega] at this
  omega
theorem sumF_set' (f : Int → Int → Int) (l : List Int) (i v : Int) (h0 : 0 ≤ i) (h : i < l.length) : sumF f (l.set i.toNat v) 0 = sumF f l 0 - f i (gD 0 l i) + f i v := by
 obtain ⟨i, rfl⟩ : ∃ a : Nat, i = a := ⟨i.toNat, by omega⟩
 rw [Int.toNat_natCast, gD_nat (by omega), sumF_set f l i 0 v (by omega), Nat.zero_add]
def keyS (p : PosT) : Int := turnK (p.2.2.1) + sumF sqK p.1 0 + sumF (heldK 0) (p.2.1.1) 0 + sumF (heldK 1) (p.2.1.2) 0
section
variable (N : Nat) (p : PosT)
theorem of_l1_end : ∀ n, 1 ≤ n → ∀ k, Q30.l1 N p n k 2 = some k := by
 intro n hn k
 obtain ⟨n, rfl⟩ := nxt (n := n) (by omega)
 rw [Q30.l1_s, Q30.s1, bif_f (by rfl)]
theorem of_l2 (o : Int) (ho : 0 ≤ o ∧ o ≤ 1) (l : List Int) (hl : l.length ≤ 6) (B : Nat) (S : Int) (hB : ∀ n, B ≤ n → ∀ k, Q30.l1 N p n (U k) (w64 (o + 1)) = some (U (k + S))) : ∀ (m j n : Nat) (k : Int), j + m = l.length → B + m + 1 ≤ n → Q30.l2 N p n (U k) o o l (l.length : Int) (j : Int) = some (U (k + (sumF (heldK o) (l.drop j) j + S)))
 | 0, j, n, k, hm, hn => by
  obtain ⟨n, rfl⟩ := nxt (n := n) (by omega)
  rw [Q30.l2_s, Q30.s2, bif_f (ltI_f (by omega)), hB n (by omega), List.drop_of_length_le (by omega)]
  simp [sumF]
 | m + 1, j, n, k, hm, hn => by
  obtain ⟨n, rfl⟩ := nxt (n := n) (by omega)
  have hj : j < l.length := by omega
  rw [Q30.l2_s, Q30.s2, bif_t (ltI_t (by omega)), chk_of (idx_ok hj), gD_nat hj, held_eq N ho (by omega), ob, w64_id (by omega) (by omega), show ((j : Int) + 1) = ((j + 1 : Nat) : Int) by omega]
  show Q30.l2 N p n (U (U k + heldK o j l[j])) o o l (l.length : Int) ((j + 1 : Nat) : Int) = _
  rw [U_add, of_l2 o ho l hl B S hB m (j + 1) n _ (by omega) (by omega), List.drop_eq_getElem_cons hj]
  simp only [sumF, Int.add_assoc]
theorem of_l1 (h0 : (p.2.1.1).length ≤ 6) (h1 : (p.2.1.2).length ≤ 6) (n : Nat) (hn : 30 ≤ n) (k : Int) : Q30.l1 N p n (U k) 0 = some (U (k + (sumF (heldK 0) (p.2.1.1) 0 + sumF (heldK 1) (p.2.1.2) 0))) := by
 have k1 : ∀ n, 9 ≤ n → ∀ k, Q30.l1 N p n (U k) (w64 (0 + 1)) = some (U (k + sumF (heldK 1) (p.2.1.2) 0)) := fun n hn k => by
  obtain ⟨n, rfl⟩ := nxt (n := n) (by omega)
  rw [show w64 ((0 : Int) + 1) = 1 by decide, Q30.l1_s, Q30.s1, bif_t (by rfl), bif_f (by rfl), bif_t (by rfl)]
  have := of_l2 N p 1 (by omega) (p.2.1.2) h1 1 0 (fun n hn k => by rw [show w64 ((1 : Int) + 1) = 2 by decide, of_l1_end N p n hn, Int.add_zero]) (p.2.1.2).length 0 n k (by omega) (by omega)
  rw [List.drop_zero, Int.add_zero] at this
  exact this
 obtain ⟨n, rfl⟩ := nxt (n := n) (by omega)
 rw [Q30.l1_s, Q30.s1, bif_t (by rfl), bif_t (by rfl)]
 have := of_l2 N p 0 (by omega) (p.2.1.1) h0 9 _ k1 (p.2.1.1).length 0 n k (by omega) (by omega)
 rw [List.drop_zero] at this
 exact this
theorem of_l0 (hl : p.1.length ≤ 64) (hc : ∀ c ∈ p.1, 0 ≤ c ∧ c ≤ 12) (S : Int) (hS : ∀ n, 30 ≤ n → ∀ k, Q30.l1 N p n (U k) 0 = some (U (k + S))) : ∀ (m j n : Nat) (k : Int), j + m = p.1.length → 31 + m ≤ n → Q30.l0 N p n (U k) (j : Int) = some (U (k + (sumF sqK (p.1.drop j) j + S)))
 | 0, j, n, k, hm, hn => by
  obtain ⟨n, rfl⟩ := nxt (n := n) (by omega)
  rw [Q30.l0_s, Q30.s0, bif_f (ltI_f (by omega)), hS n (by omega), List.drop_of_length_le (by omega)]
  simp [sumF]
 | m + 1, j, n, k, hm, hn => by
  obtain ⟨n, rfl⟩ := nxt (n := n) (by omega)
  have hj : j < p.1.length := by omega
  have hcj := hc p.1[j] (List.getElem_mem _)
  rw [Q30.l0_s, Q30.s0, bif_t (ltI_t (by omega)), chk_of (idx_ok hj), gD_nat hj, square_eq N (by omega) (by omega), ob, w64_id (by omega) (by omega), show ((j : Int) + 1) = ((j + 1 : Nat) : Int) by omega]
  show Q30.l0 N p n (U (U k + sqK j p.1[j])) ((j + 1 : Nat) : Int) = _
  rw [U_add, of_l0 hl hc S hS m (j + 1) n _ (by omega) (by omega), List.drop_eq_getElem_cons hj]
  simp only [sumF, Int.add_assoc]
end
section
variable {r : RulesT} (hr : ROk r) {p : PosT} (hp : POk r p)
include hr hp
theorem of_eq {N : Nat} (hN : 1000 ≤ N) : Q30 N p = some (U (keyS p)) := by
 have hll := len_le hr hp
 have h0 := hp.h0
 have h1 := hp.h1
 have hcells := hp.cells
 unfold Q30 Q30.e
 rw [turn_eq, ob]
 have := of_l0 N p hll.1 (fun c hc => by have := hcells c hc; omega) _ (fun n hn k => of_l1 N p (by omega) (by omega) n hn k) p.1.length 0 N (U (p.2.2.1) * mixI 3000) (by omega) (by omega)
 rw [List.drop_zero, show ((0 : Nat) : Int) = 0 from rfl] at this
 refine this.trans ?_
 unfold keyS turnK
 simp only [U_eq]
 congr 1
 omega
def nextI (r : RulesT) (p : PosT) (m : MvT) (k : Int) : Int :=
 U (k + turnK (1 - p.2.2.1) - turnK (p.2.2.1) - (if m.1 < 0 then heldK (p.2.2.1) m.2.2 1 else sqK m.1 (gD 0 p.1 m.1)) - sqK m.2.1 (gD 0 p.1 m.2.1) +
  (if gD 0 p.1 m.2.1 ≠ 0 ∧ r.2.2.2.2.2.2.1 = true ∧ gD 0 (handT p) (kindI (gD 0 p.1 m.2.1)) < 1000 then heldK (p.2.2.1) (kindI (gD 0 p.1 m.2.1)) 1 else 0) + sqK m.2.1 (2 * m.2.2 + p.2.2.1 + 1))
theorem next_eq (N : Nat) {m : MvT} (hm : MoveOk r p m) (k : Int) : Q53 N r p m k = some (nextI r p m k) := by
 have hll := len_le hr hp
 have hl := hp.len
 have h0 := hp.h0
 have h1 := hp.h1
 have hto := hm.to
 have hpi := hm.piece
 have hlast := hp.last.1
 have hcc := cell_ok hp hto
 have hcell : Q55 N m.2.2 p.2.2.1 = some (2 * m.2.2 + p.2.2.1 + 1) := by
  unfold Q55 Q55.e
  simp (disch := omega) only [w64_id]
 have hk : gD 0 p.1 m.2.1 ≠ 0 → Q54 N (gD 0 p.1 m.2.1) = some (kindI (gD 0 p.1 m.2.1)) ∧ 0 ≤ kindI (gD 0 p.1 m.2.1) ∧ kindI (gD 0 p.1 m.2.1) < (r.2.2.2.1).length := fun h => ⟨kind_eq (by omega) (by omega), kind_lt (by omega) hcc.2⟩
 unfold Q53 Q53.e nextI handT
 rw [w64_id (x := 1 - p.2.2.1) (by omega) (by omega), turn_eq, ob, turn_eq, ob]
 simp only [hcell, ob, square_eq N (s := m.2.1) (c := 2 * m.2.2 + p.2.2.1 + 1) (by omega) (by omega), square_eq N (s := m.2.1) (c := gD 0 p.1 m.2.1) (by omega) (by omega)]
 by_cases hs : m.1 < 0
 ·have hz : gD 0 p.1 m.2.1 = 0 := by
   rcases hm.src with h | h
   ·exact h.2.1
   ·omega
  rw [bif_t (ltI_t hs), held_eq N (by omega) (by omega), ob, chk_idx hto.1 (by omega), hz, bif_f (by rfl), if_pos hs, if_neg (by simp)]
  rw [show sqK m.2.1 0 = 0 by unfold sqK; rw [if_pos rfl]]
  congr 1
  show U (U (U (k + U (turnK (1 - p.2.2.1) - turnK p.2.2.1)) - heldK p.2.2.1 m.2.2 1) + sqK m.2.1 (2 * m.2.2 + p.2.2.1 + 1)) = _
  simp only [U_eq]
  omega
 ·have hsrc : 0 ≤ m.1 ∧ m.1 < r.2.1 * r.2.2.1 := by
   rcases hm.src with h | h
   ·omega
   ·exact ⟨h.1, h.2.1⟩
  have hcf := cell_ok hp hsrc
  rw [bif_f (ltI_f (by omega)), chk_idx hsrc.1 (by omega), square_eq N (by omega) (by omega), ob, chk_idx hto.1 (by omega), if_neg hs]
  by_cases hz : gD 0 p.1 m.2.1 = 0
  ·rw [hz, bif_f (by rfl), if_neg (by simp)]
   rw [show sqK m.2.1 0 = 0 by unfold sqK; rw [if_pos rfl]]
   congr 1
   show U (U (U (k + U (turnK (1 - p.2.2.1) - turnK p.2.2.1)) - sqK m.1 (gD 0 p.1 m.1)) + sqK m.2.1 (2 * m.2.2 + p.2.2.1 + 1)) = _
   simp only [U_eq]
   omega
  ·obtain ⟨hk1, hk2, hk3⟩ := hk hz
   rw [bif_t (by rw [eqI_f hz]; rfl), hk1]
   simp only [ob, if_pos (show gD 0 p.1 m.2.1 ≠ 0 from hz), true_and]
   by_cases hK : r.2.2.2.2.2.2.1 = true
   ·rw [bif_t hK]
    simp only [hK, true_and]
    rcases hlast with ht | ht
    ·rw [bif_t (eqI_t ht), chk_idx hk2 (by omega), held_eq N (by omega) (by omega), if_pos ht]
     by_cases h1 : gD 0 (p.2.1.1) (kindI (gD 0 p.1 m.2.1)) < 1000
     ·rw [bif_t (ltI_t h1), if_pos ⟨hz, h1⟩, ob]
      congr 1
      show U (U (U (U (U (k + U (turnK (1 - p.2.2.1) - turnK p.2.2.1)) - sqK m.1 (gD 0 p.1 m.1)) - sqK m.2.1 (gD 0 p.1 m.2.1)) + heldK p.2.2.1 (kindI (gD 0 p.1 m.2.1)) 1) + sqK m.2.1 (2 * m.2.2 + p.2.2.1 + 1)) = _
      simp only [U_eq]
      omega
     ·rw [bif_f (ltI_f (by omega)), if_neg (fun h => h1 h.2)]
      congr 1
      show U (U (U (U (k + U (turnK (1 - p.2.2.1) - turnK p.2.2.1)) - sqK m.1 (gD 0 p.1 m.1)) - sqK m.2.1 (gD 0 p.1 m.2.1)) + sqK m.2.1 (2 * m.2.2 + p.2.2.1 + 1)) = _
      simp only [U_eq]
      omega
    ·rw [bif_f (eqI_f (by omega)), bif_t (eqI_t ht), chk_idx hk2 (by omega), held_eq N (by omega) (by omega), if_neg (show ¬ p.2.2.1 = 0 by omega)]
     by_cases h1 : gD 0 (p.2.1.2) (kindI (gD 0 p.1 m.2.1)) < 1000
     ·rw [bif_t (ltI_t h1), if_pos ⟨hz, h1⟩, ob]
      congr 1
      show U (U (U (U (U (k + U (turnK (1 - p.2.2.1) - turnK p.2.2.1)) - sqK m.1 (gD 0 p.1 m.1)) - sqK m.2.1 (gD 0 p.1 m.2.1)) + heldK p.2.2.1 (kindI (gD 0 p.1 m.2.1)) 1) + sqK m.2.1 (2 * m.2.2 + p.2.2.1 + 1)) = _
      simp only [U_eq]
      omega
     ·rw [bif_f (ltI_f (by omega)), if_neg (fun h => h1 h.2)]
      congr 1
      show U (U (U (U (k + U (turnK (1 - p.2.2.1) - turnK p.2.2.1)) - sqK m.1 (gD 0 p.1 m.1)) - sqK m.2.1 (gD 0 p.1 m.2.1)) + sqK m.2.1 (2 * m.2.2 + p.2.2.1 + 1)) = _
      simp only [U_eq]
      omega
   ·rw [bif_f (by simpa using hK), if_neg (fun h => hK h.2.1)]
    congr 1
    show U (U (U (U (k + U (turnK (1 - p.2.2.1) - turnK p.2.2.1)) - sqK m.1 (gD 0 p.1 m.1)) - sqK m.2.1 (gD 0 p.1 m.2.1)) + sqK m.2.1 (2 * m.2.2 + p.2.2.1 + 1)) = _
    simp only [U_eq]
    omega
theorem held_add {o k n : Int} (hn : 0 ≤ n ∧ n ≤ 1000) : (heldK o k (n + 1)) % 18446744073709551616 = (heldK o k n + heldK o k 1) % 18446744073709551616 := by
 unfold heldK
 simp only [U_eq]
 rw [Int.emod_eq_of_lt (a := n + 1) (by omega) (by omega), Int.emod_eq_of_lt (a := n) (by omega) (by omega), Int.emod_eq_of_lt (a := 1) (by omega) (by omega), Int.add_mul, Int.one_mul]
 omega
theorem hand_sum {m : MvT} (hm : MoveOk r p m) (o : Int) : (sumF (heldK o) (hand2 r p m) 0) % 18446744073709551616 =
  (sumF (heldK o) (handT p) 0 - (if m.1 < 0 then heldK o m.2.2 1 else 0) + (if gD 0 p.1 m.2.1 ≠ 0 ∧ r.2.2.2.2.2.2.1 = true ∧ gD 0 (handT p) (kindI (gD 0 p.1 m.2.1)) < 1000 then heldK o (kindI (gD 0 p.1 m.2.1)) 1 else 0)) % 18446744073709551616 := by
 have hll := len_le hr hp
 have hto := hm.to
 have hpi := hm.piece
 have hh := hand_ok hr hp
 have hcc := cell_ok hp hto
 by_cases hs : m.1 < 0
 ·have hz : gD 0 p.1 m.2.1 = 0 ∧ 0 < gD 0 (handT p) m.2.2 := by
   rcases hm.src with h | h
   ·exact h.2
   ·omega
  have hb := gD_ok hh hpi.1 (by omega)
  have e2 : hand2 r p m = (handT p).set m.2.2.toNat (gD 0 (handT p) m.2.2 - 1) := by
   unfold hand2 hand1
   rw [if_neg (fun h => h.1 hz.1), if_pos hs]
  rw [e2, if_pos hs, if_neg (fun h => h.1 hz.1), sumF_set' _ _ _ _ hpi.1 (by omega)]
  have := held_add hr hp (o := o) (k := m.2.2) (n := gD 0 (handT p) m.2.2 - 1) (by omega)
  rw [show gD 0 (handT p) m.2.2 - 1 + 1 = gD 0 (handT p) m.2.2 by omega] at this
  omega
 ·rw [if_neg hs]
  by_cases hc : gD 0 p.1 m.2.1 ≠ 0 ∧ r.2.2.2.2.2.2.1 = true
  ·have hkk := kind_lt (k := (r.2.2.2.1).length) (show 1 ≤ gD 0 p.1 m.2.1 by omega) hcc.2
   have hb := gD_ok hh hkk.1 (by omega)
   by_cases h1 : gD 0 (handT p) (kindI (gD 0 p.1 m.2.1)) < 1000
   ·have e2 : hand2 r p m = (handT p).set (kindI (gD 0 p.1 m.2.1)).toNat (gD 0 (handT p) (kindI (gD 0 p.1 m.2.1)) + 1) := by
     unfold hand2 hand1
     rw [if_neg hs, if_pos hc, if_neg (by omega)]
    rw [e2, if_pos ⟨hc.1, hc.2, h1⟩, sumF_set' _ _ _ _ hkk.1 (by omega)]
    have := held_add hr hp (o := o) (k := kindI (gD 0 p.1 m.2.1)) hb
    omega
   ·have e2 : hand2 r p m = (handT p).set (kindI (gD 0 p.1 m.2.1)).toNat 1000 := by
     unfold hand2 hand1
     rw [if_neg hs, if_pos hc, if_pos (by omega)]
    rw [e2, if_neg (fun h => h1 h.2.2), sumF_set' _ _ _ _ hkk.1 (by omega), show gD 0 (handT p) (kindI (gD 0 p.1 m.2.1)) = 1000 by omega]
    omega
  ·have e2 : hand2 r p m = handT p := by
    unfold hand2 hand1
    rw [if_neg hc, if_neg hs]
   rw [e2, if_neg (fun h => hc ⟨h.1, h.2.1⟩)]
   omega
theorem key_do {m : MvT} (hm : MoveOk r p m) : U (keyS (doI r p m)) = nextI r p m (U (keyS p)) := by
 have hll := len_le hr hp
 have hl := hp.len
 have hto := hm.to
 have hpi := hm.piece
 have hlast := hp.last.1
 have hcc := cell_ok hp hto
 have hcells : sumF sqK (cells2 p m) 0 = sumF sqK p.1 0 - (if m.1 < 0 then 0 else sqK m.1 (gD 0 p.1 m.1)) - sqK m.2.1 (gD 0 p.1 m.2.1) + sqK m.2.1 (2 * m.2.2 + p.2.2.1 + 1) := by
  unfold cells2
  by_cases hs : m.1 < 0
  ·rw [if_pos hs, if_pos hs, sumF_set' _ _ _ _ hto.1 (by omega)]
   omega
  ·have hsrc : 0 ≤ m.1 ∧ m.1 < r.2.1 * r.2.2.1 ∧ ownI (gD 0 p.1 m.1) = p.2.2.1 := by
    rcases hm.src with h | h
    ·omega
    ·exact h
   have hne : m.1 ≠ m.2.1 := fun e => hm.own (by rw [← e]; exact hsrc.2.2)
   have hg : gD 0 (p.1.set m.1.toNat 0) m.2.1 = gD 0 p.1 m.2.1 := by
    obtain ⟨a, ha⟩ : ∃ a : Nat, m.1 = a := ⟨m.1.toNat, by omega⟩
    obtain ⟨b, hb⟩ : ∃ b : Nat, m.2.1 = b := ⟨m.2.1.toNat, by omega⟩
    rw [ha, hb, gD_nat (by rw [List.length_set]; omega), gD_nat (by omega), Int.toNat_natCast, List.getElem_set_ne (by omega)]
   rw [if_neg hs, if_neg hs, sumF_set' _ _ _ _ hto.1 (by rw [List.length_set]; omega), hg, sumF_set' _ _ _ _ hsrc.1 (by omega), show sqK m.1 0 = 0 by unfold sqK; rw [if_pos rfl]]
   omega
 have hh := hand_sum hr hp hm (p.2.2.1)
 unfold nextI keyS doI setH
 dsimp only
 rw [hcells]
 simp only [U_eq]
 rcases hlast with ht | ht
 ·have hT : handT p = p.2.1.1 := by unfold handT; rw [if_pos ht]
  rw [hT] at hh ⊢
  rw [if_pos ht]
  rw [ht] at hh ⊢
  dsimp only
  by_cases hs : m.1 < 0
  ·simp only [if_pos hs] at hh ⊢
   split at hh
   ·rename_i hx; rw [if_pos hx]; omega
   ·rename_i hx; rw [if_neg hx]; omega
  ·simp only [if_neg hs] at hh ⊢
   split at hh
   ·rename_i hx; rw [if_pos hx]; omega
   ·rename_i hx; rw [if_neg hx]; omega
 ·have h01 : ¬ p.2.2.1 = 0 := by omega
  have hT : handT p = p.2.1.2 := by unfold handT; rw [if_neg h01]
  rw [hT] at hh ⊢
  rw [if_neg h01]
  rw [ht] at hh ⊢
  dsimp only
  by_cases hs : m.1 < 0
  ·simp only [if_pos hs] at hh ⊢
   split at hh
   ·rename_i hx; rw [if_pos hx]; omega
   ·rename_i hx; rw [if_neg hx]; omega
  ·simp only [if_neg hs] at hh ⊢
   split at hh
   ·rename_i hx; rw [if_pos hx]; omega
   ·rename_i hx; rw [if_neg hx]; omega
end
end Go.Proofs.Ytlfhchkhbecmbaa.Am
set_option linter.unusedVariables false
set_option linter.unusedSimpArgs false
set_option linter.unusedSectionVars false
namespace Go.Proofs.Ytlfhchkhbecmbaa.Am
open Go
def hasB (r : RulesT) (p : PosT) (player x y : Int) : Bool := leI 0 x && (ltI x (r.2.1) && (leI 0 y && (ltI y (r.2.2.1) && eqI (ownI (gD 0 p.1 (y * r.2.1 + x))) player)))
def lineB (r : RulesT) (p : PosT) (player dx dy : Int) : Nat → Int → Int → Bool
 | 0, _, _ => true
 | k + 1, x, y => hasB r p player x y && lineB r p player dx dy k (x + dx) (y + dy)
def rowS (r : RulesT) (p : PosT) (player : Int) (count : Nat) (s : Int) : Bool :=
 lineB r p player 1 0 count (s % r.2.1) (s / r.2.1) || (lineB r p player 0 1 count (s % r.2.1) (s / r.2.1) || (lineB r p player 1 1 count (s % r.2.1) (s / r.2.1) || lineB r p player 1 (-1) count (s % r.2.1) (s / r.2.1)))
def anyS (f : Int → Bool) : Nat → Nat → Bool
 | 0, _ => false
 | k + 1, j => f j || anyS f k (j + 1)
def cntI (v : Int) : List Int → Int
 | [] => 0
 | c :: l => (if c = v then 1 else 0) + cntI v l
def reachB (r : RulesT) (p : PosT) (piece : Int) (s : Int) : Bool := eqI (gD 0 p.1 s) (2 * piece + (1 - p.2.2.1) + 1) && farI r (1 - p.2.2.1) s
def holdsB (r : RulesT) (p : PosT) (x : EndT) : Bool :=
 bif eqI x.1 0 then anyS (rowS r p (1 - p.2.2.1) x.2.2.1.toNat) p.1.length 0
 else bif eqI x.1 1 then anyS (reachB r p x.2.1) p.1.length 0
 else ltI (cntI (2 * x.2.1 + p.2.2.1 + 1) p.1) x.2.2.1
def overI (r : RulesT) (p : PosT) (any : Bool) : Int :=
 if 0 < r.2.2.2.2.2.2.2.2.2.1 ∧ r.2.2.2.2.2.2.2.2.2.1 ≤ p.2.2.2 then 3 else if any = true then 0 else if r.2.2.2.2.2.2.2.2.1 = 0 then 2 - p.2.2.1 else if r.2.2.2.2.2.2.2.2.1 = 1 then 1 + p.2.2.1 else 3
def resI (r : RulesT) (p : PosT) (any : Bool) : List EndT → Int
 | [] => overI r p any
 | x :: l => if holdsB r p x = true then (if x.2.2.2 = true then 1 + p.2.2.1 else 2 - p.2.2.1) else resI r p any l
section
variable {r : RulesT} (hr : ROk r) {p : PosT} (hp : POk r p)
include hr hp
theorem row_l2 (N : Nat) (player count : Int) (hpl : player = 0 ∨ player = 1) (s j d e1 e2 : Int) (he : -1 ≤ e1 ∧ e1 ≤ 1 ∧ -1 ≤ e2 ∧ e2 ≤ 1) (B : Nat) (E : Option Bool)
  (hB : ∀ n, B ≤ n → Q62.l1 N r p player count n s j (w64 (d + 1)) = E) : ∀ (k n : Nat) (x y m : Int), m + k = count → 0 ≤ m → count ≤ 64 → B + k + 1 ≤ n → -1 ≤ x ∧ x ≤ 8 → -1 ≤ y ∧ y ≤ 8 →
  Q62.l2 N r p player count n s x y m j d e1 e2 = bif lineB r p player e1 e2 k x y then some true else E
 | 0, n, x, y, m, hm, hm0, hc, hn, hx, hy => by
  obtain ⟨n, rfl⟩ := nxt (n := n) (by omega)
  rw [Q62.l2_s, Q62.s2, hB n (by omega)]
  simp only [ltI_f (show count ≤ m by omega), eqI_t (show m = count by omega), cond_true, cond_false, lineB]
  cases leI 0 x <;> cases ltI x (r.2.1) <;> cases leI 0 y <;> cases ltI y (r.2.2.1) <;> rfl
 | k + 1, n, x, y, m, hm, hm0, hc, hn, hx, hy => by
  obtain ⟨n, rfl⟩ := nxt (n := n) (by omega)
  have hb := hr.b
  rw [Q62.l2_s, Q62.s2, hB n (by omega)]
  simp only [ltI_t (show m < count by omega), eqI_f (show m ≠ count by omega), cond_true, cond_false, lineB, hasB]
  by_cases c1 : 0 ≤ x
  rotate_left
  ·simp [leI_f (show x < 0 by omega)]
  by_cases c2 : x < r.2.1
  rotate_left
  ·simp [leI_t c1, ltI_f (show r.2.1 ≤ x by omega)]
  by_cases c3 : 0 ≤ y
  rotate_left
  ·simp [leI_t c1, ltI_t c2, leI_f (show y < 0 by omega)]
  by_cases c4 : y < r.2.2.1
  rotate_left
  ·simp [leI_t c1, ltI_t c2, leI_t c3, ltI_f (show r.2.2.1 ≤ y by omega)]
  simp only [leI_t c1, ltI_t c2, leI_t c3, ltI_t c4, cond_true, Bool.true_and]
  have hq := sq_bound (x := x) (y := y) hb ⟨c1, c2⟩ ⟨c3, c4⟩
  have hl := hp.len
  have hcc := cell_ok hp (s := y * r.2.1 + x) (by omega)
  have h6 := hr.ps.le
  rw [w64_id (x := y * r.2.1) (by omega) (by omega), w64_id (x := y * r.2.1 + x) (by omega) (by omega), chk_idx (by omega) (by omega), owner_eq hcc.1 (by omega), ob]
  by_cases c5 : ownI (gD 0 p.1 (y * r.2.1 + x)) = player
  ·rw [bif_t (eqI_t c5), eqI_t c5, Bool.true_and, w64_id (x := x + e1) (by omega) (by omega), w64_id (x := y + e2) (by omega) (by omega), w64_id (x := m + 1) (by omega) (by omega)]
   exact row_l2 N player count hpl s j d e1 e2 he B E hB k n (x + e1) (y + e2) (m + 1) (by omega) (by omega) hc (by omega) (by omega) (by omega)
  ·rw [bif_f (eqI_f c5), eqI_f c5]; rfl
theorem row_l1 (N : Nat) (player count : Int) (hpl : player = 0 ∨ player = 1) (hcnt : 0 ≤ count ∧ count ≤ 64) (s : Int) (hs : 0 ≤ s ∧ s < p.1.length) (j : Int) (B : Nat) (E : Option Bool)
  (hB : ∀ n, B ≤ n → Q62.l0 N r p player count n (w64 (j + 1)) = E) (n : Nat) (hn : B + 300 ≤ n) :
  Q62.l1 N r p player count n s j 0 = bif rowS r p player count.toNat s then some true else E := by
 have hb := hr.b
 have hl := hp.len
 have hq := sq_parts hb (s := s) (by omega)
 have e4 : ∀ n, B + 1 ≤ n → Q62.l1 N r p player count n s j (w64 (3 + 1)) = E := fun n hn => by
  obtain ⟨n, rfl⟩ := nxt (n := n) (by omega)
  rw [show w64 ((3 : Int) + 1) = 4 by decide, Q62.l1_s, Q62.s1, bif_f (by rfl), hB n (by omega)]
 have go : ∀ (d e1 e2 : Int) (B' : Nat) (E' : Option Bool), (-1 ≤ e1 ∧ e1 ≤ 1 ∧ -1 ≤ e2 ∧ e2 ≤ 1) → (∀ n, B' ≤ n → Q62.l1 N r p player count n s j (w64 (d + 1)) = E') → ∀ n, B' + 66 ≤ n →
   Q62.l2 N r p player count n s (Int.tmod s (r.2.1)) (w64 (Int.tdiv s (r.2.1))) 0 j d e1 e2 = bif lineB r p player e1 e2 count.toNat (s % r.2.1) (s / r.2.1) then some true else E' := fun d e1 e2 B' E' he hB' n hn => by
  rw [Int.tdiv_eq_ediv_of_nonneg hs.1, Int.tmod_eq_emod_of_nonneg hs.1, w64_id (x := s / r.2.1) (by omega) (by omega)]
  exact row_l2 hr hp N player count hpl s j d e1 e2 he B' E' hB' count.toNat n _ _ 0 (by omega) (by omega) (by omega) (by omega) (by omega) (by omega)
 have e3 : ∀ n, B + 70 ≤ n → Q62.l1 N r p player count n s j (w64 (2 + 1)) = _ := fun n hn => by
  obtain ⟨n, rfl⟩ := nxt (n := n) (by omega)
  rw [show w64 ((2 : Int) + 1) = 3 by decide, Q62.l1_s, Q62.s1, bif_t (by rfl), bif_f (by rfl), bif_f (by rfl), bif_f (by rfl), bif_t (by rfl), bif_f (eqI_f (by omega)), bif_f (eqI_f (by omega))]
  exact go 3 1 (-1) (B + 1) E (by omega) e4 n (by omega)
 have e2 : ∀ n, B + 140 ≤ n → Q62.l1 N r p player count n s j (w64 (1 + 1)) = _ := fun n hn => by
  obtain ⟨n, rfl⟩ := nxt (n := n) (by omega)
  rw [show w64 ((1 : Int) + 1) = 2 by decide, Q62.l1_s, Q62.s1, bif_t (by rfl), bif_f (by rfl), bif_f (by rfl), bif_t (by rfl), bif_f (eqI_f (by omega)), bif_f (eqI_f (by omega))]
  exact go 2 1 1 (B + 70) _ (by omega) e3 n (by omega)
 have e1 : ∀ n, B + 210 ≤ n → Q62.l1 N r p player count n s j (w64 (0 + 1)) = _ := fun n hn => by
  obtain ⟨n, rfl⟩ := nxt (n := n) (by omega)
  rw [show w64 ((0 : Int) + 1) = 1 by decide, Q62.l1_s, Q62.s1, bif_t (by rfl), bif_f (by rfl), bif_t (by rfl), bif_f (eqI_f (by omega)), bif_f (eqI_f (by omega))]
  exact go 1 0 1 (B + 140) _ (by omega) e2 n (by omega)
 obtain ⟨n, rfl⟩ := nxt (n := n) (by omega)
 rw [Q62.l1_s, Q62.s1, bif_t (by rfl), bif_t (by rfl), bif_f (eqI_f (by omega)), bif_f (eqI_f (by omega)), go 0 1 0 (B + 210) _ (by omega) e1 n (by omega)]
 unfold rowS
 cases lineB r p player 1 0 count.toNat (s % r.2.1) (s / r.2.1) <;> cases lineB r p player 0 1 count.toNat (s % r.2.1) (s / r.2.1) <;> cases lineB r p player 1 1 count.toNat (s % r.2.1) (s / r.2.1) <;> cases lineB r p player 1 (-1) count.toNat (s % r.2.1) (s / r.2.1) <;> rfl
theorem row_l0 (N : Nat) (player count : Int) (hpl : player = 0 ∨ player = 1) (hcnt : 0 ≤ count ∧ count ≤ 64) : ∀ (k j n : Nat), j + k = p.1.length → 301 * k + 1 ≤ n →
  Q62.l0 N r p player count n (j : Int) = some (anyS (rowS r p player count.toNat) k j)
 | 0, j, n, hk, hn => by
  obtain ⟨n, rfl⟩ := nxt (n := n) (by omega)
  rw [Q62.l0_s, Q62.s0, bif_f (ltI_f (by omega))]; rfl
 | k + 1, j, n, hk, hn => by
  obtain ⟨n, rfl⟩ := nxt (n := n) (by omega)
  have hll := len_le hr hp
  rw [Q62.l0_s, Q62.s0, bif_t (ltI_t (by omega)), row_l1 hr hp N player count hpl hcnt j (by omega) j (301 * k + 1) _ (fun n hn => by
   rw [w64_id (by omega) (by omega), show ((j : Int) + 1) = ((j + 1 : Nat) : Int) by omega]
   exact row_l0 N player count hpl hcnt k (j + 1) n (by omega) hn) n (by omega), anyS]
  cases rowS r p player count.toNat j <;> rfl
theorem holds_l0 (N : Nat) (x : EndT) (hx : 0 ≤ x.2.1 ∧ x.2.1 < (r.2.2.2.1).length) : ∀ (k j n : Nat), j + k = p.1.length → k + 1 ≤ n → Q48.l0 N r p x n (j : Int) = some (anyS (reachB r p x.2.1) k j)
 | 0, j, n, hk, hn => by
  obtain ⟨n, rfl⟩ := nxt (n := n) (by omega)
  rw [Q48.l0_s, Q48.s0, bif_f (ltI_f (by omega))]; rfl
 | k + 1, j, n, hk, hn => by
  obtain ⟨n, rfl⟩ := nxt (n := n) (by omega)
  have hll := len_le hr hp
  have hl := hp.len
  have ht := hp.last.1
  have ih := holds_l0 N x hx k (j + 1) n (by omega) (by omega)
  have hcell : Q55 N x.2.1 (w64 (1 - p.2.2.1)) = some (2 * x.2.1 + (1 - p.2.2.1) + 1) := by
   unfold Q55 Q55.e
   simp (disch := omega) only [w64_id]
  rw [Q48.l0_s, Q48.s0, bif_t (ltI_t (by omega)), chk_of (idx_ok (by omega)), hcell, ob, w64_id (x := 1 - p.2.2.1) (by omega) (by omega), far_eq hr.b (by omega), ob, w64_id (x := (j : Int) + 1) (by omega) (by omega), show ((j : Int) + 1) = ((j + 1 : Nat) : Int) by omega, ih, anyS, reachB]
  cases eqI (gD 0 p.1 (j : Int)) (2 * x.2.1 + (1 - p.2.2.1) + 1) <;> cases farI r (1 - p.2.2.1) (j : Int) <;> rfl
theorem holds_l1 (N : Nat) (x : EndT) (hx : 0 ≤ x.2.1 ∧ x.2.1 < (r.2.2.2.1).length) : ∀ (k j n : Nat) (m : Int), j + k = p.1.length → k + 1 ≤ n → 0 ≤ m → m + k ≤ 100 → Q48.l1 N r p x n m (j : Int) = some (ltI (m + cntI (2 * x.2.1 + p.2.2.1 + 1) (p.1.drop j)) x.2.2.1)
 | 0, j, n, m, hk, hn, hm, hm' => by
  obtain ⟨n, rfl⟩ := nxt (n := n) (by omega)
  rw [Q48.l1_s, Q48.s1, bif_f (ltI_f (by omega)), List.drop_of_length_le (by omega), cntI, Int.add_zero]
 | k + 1, j, n, m, hk, hn, hm, hm' => by
  obtain ⟨n, rfl⟩ := nxt (n := n) (by omega)
  have hll := len_le hr hp
  have hj : j < p.1.length := by omega
  have ht := hp.last.1
  have hcell : Q55 N x.2.1 p.2.2.1 = some (2 * x.2.1 + p.2.2.1 + 1) := by
   unfold Q55 Q55.e
   simp (disch := omega) only [w64_id]
  rw [Q48.l1_s, Q48.s1, bif_t (ltI_t (by omega)), chk_of (idx_ok (by omega)), hcell, ob, gD_nat hj, w64_id (x := m + 1) (by omega) (by omega), w64_id (x := (j : Int) + 1) (by omega) (by omega), show ((j : Int) + 1) = ((j + 1 : Nat) : Int) by omega, holds_l1 N x hx k (j + 1) n m (by omega) (by omega) (by omega) (by omega), holds_l1 N x hx k (j + 1) n (m + 1) (by omega) (by omega) (by omega) (by omega), List.drop_eq_getElem_cons hj, cntI]
  by_cases c : p.1[j] = 2 * x.2.1 + p.2.2.1 + 1
  ·rw [bif_t (eqI_t c), if_pos c, Int.add_assoc]
  ·rw [bif_f (eqI_f c), if_neg c, Int.zero_add]
theorem holds_eq {N : Nat} (hN : 30000 ≤ N) {x : EndT} (hx : endOk (r.2.2.2.1).length x) : Q48 N r p x = some (holdsB r p x) := by
 have hll := len_le hr hp
 have ht := hp.last.1
 unfold Q48 Q48.e holdsB
 by_cases c0 : x.1 = 0
 ·rw [bif_t (eqI_t c0), bif_t (eqI_t c0), w64_id (x := 1 - p.2.2.1) (by omega) (by omega)]
  unfold Q62 Q62.e
  have := row_l0 hr hp N (1 - p.2.2.1) x.2.2.1 (by omega) (by omega) p.1.length 0 N (by omega) (by omega)
  rw [show ((0 : Nat) : Int) = 0 from rfl] at this
  rw [this, ob]
 ·rw [bif_f (eqI_f c0), bif_f (eqI_f c0)]
  by_cases c1 : x.1 = 1
  ·rw [bif_t (eqI_t c1), bif_t (eqI_t c1)]
   exact holds_l0 hr hp N x (by omega) p.1.length 0 N (by omega) (by omega)
  ·rw [bif_f (eqI_f c1), bif_f (eqI_f c1)]
   have := holds_l1 hr hp N x (by omega) p.1.length 0 N 0 (by omega) (by omega) (by omega) (by omega)
   rw [List.drop_zero, Int.zero_add] at this
   exact this
theorem wins_eq (N : Nat) {t : Int} (h : 0 ≤ t ∧ t ≤ 1) : Q49 N t = some (1 + t) := by
 unfold Q49 Q49.e
 rw [w64_id (by omega) (by omega)]
theorem result_l0 {N : Nat} (hN : 30000 ≤ N) {l : List MvT} (hl : Q50 N r p = some l) : ∀ (k j n : Nat), j + k = (r.2.2.2.2.2.2.2.1).length → k + 1 ≤ n → Q31.l0 N r p n ((r.2.2.2.2.2.2.2.1).length : Int) (j : Int) = some (resI r p (ltI 0 (l.length : Int)) ((r.2.2.2.2.2.2.2.1).drop j))
 | 0, j, n, hk, hn => by
  obtain ⟨n, rfl⟩ := nxt (n := n) (by omega)
  have ht := hp.last.1
  rw [Q31.l0_s, Q31.s0, bif_f (ltI_f (by omega)), List.drop_of_length_le (by omega), hl, ob, w64_id (x := 1 - p.2.2.1) (by omega) (by omega), wins_eq hr hp N (by omega), wins_eq hr hp N (by omega), ob, ob, resI, overI]
  rw [show 1 + (1 - p.2.2.1) = 2 - p.2.2.1 by omega]
  simp only [ltI, leI, eqI, Bool.cond_eq_ite, decide_eq_true_eq]
  repeat' split
  all_goals first | rfl | (exfalso; omega)
 | k + 1, j, n, hk, hn => by
  obtain ⟨n, rfl⟩ := nxt (n := n) (by omega)
  have ht := hp.last.1
  have hne := hr.ne
  have hj : j < (r.2.2.2.2.2.2.2.1).length := by omega
  have hx := hr.ends (r.2.2.2.2.2.2.2.1)[j] (List.getElem_mem _)
  rw [Q31.l0_s, Q31.s0, bif_t (ltI_t (by omega)), chk_of (idx_ok hj), gD_nat hj, holds_eq hr hp hN hx, ob, w64_id (x := 1 - p.2.2.1) (by omega) (by omega), wins_eq hr hp N (by omega), wins_eq hr hp N (by omega), ob, ob, w64_id (x := (j : Int) + 1) (by omega) (by omega), show ((j : Int) + 1) = ((j + 1 : Nat) : Int) by omega, result_l0 hN hl k (j + 1) n (by omega) (by omega), List.drop_eq_getElem_cons hj, resI]
  rw [show 1 + (1 - p.2.2.1) = 2 - p.2.2.1 by omega]
  cases holdsB r p (r.2.2.2.2.2.2.2.1)[j] <;> cases (r.2.2.2.2.2.2.2.1)[j].2.2.2 <;> rfl
theorem result_eq {N : Nat} (hN : 30000 ≤ N) {l : List MvT} (hl : Q50 N r p = some l) : Q31 N r p = some (resI r p (ltI 0 (l.length : Int)) (r.2.2.2.2.2.2.2.1)) := by
 have hne := hr.ne
 unfold Q31 Q31.e
 have := result_l0 hr hp hN hl (r.2.2.2.2.2.2.2.1).length 0 N (by omega) (by omega)
 rw [List.drop_zero] at this
 exact this
theorem res_range (any : Bool) : ∀ l : List EndT, 0 ≤ resI r p any l ∧ resI r p any l ≤ 3 ∧ (resI r p any l = 0 → any = true)
 | [] => by
  have ht := hp.last.1
  unfold resI overI
  split
  ·omega
  ·split
   ·rename_i h; exact ⟨by omega, by omega, fun _ => h⟩
   ·split
    ·omega
    ·split <;> omega
 | x :: l => by
  have ht := hp.last.1
  have := res_range any l
  unfold resI
  split
  ·split <;> omega
  ·exact this
end
end Go.Proofs.Ytlfhchkhbecmbaa.Am
set_option linter.unusedVariables false
set_option linter.unusedSimpArgs false
namespace Go.Proofs.Ytlfhchkhbecmbaa.Am
open Go
theorem index_loop (N : Nat) (s : List Int) (hs : s.length < 4611686018427387904) : ∀ (k j n : Nat), j + k = s.length → k < n →
  ∃ r, Q42.l0 N s n (j : Int) = some r ∧ (0 ≤ r ↔ ∃ x ∈ s.drop j, x ≠ 0)
 | 0, j, n + 1, hk, hn => by
  refine ⟨-1, ?_, ?_⟩
  ·simp only [Q42.l0_s, Q42.s0]
   rw [bif_f (ltI_f (by omega))]
  ·have : s.drop j = [] := by rw [List.drop_eq_nil_iff]; omega
   simp [this]
 | k + 1, j, n + 1, hk, hn => by
  have hj : j < s.length := by omega
  have hd : s.drop j = s[j] :: s.drop (j + 1) := List.drop_eq_getElem_cons hj
  simp only [Q42.l0_s, Q42.s0, Q26, Q26.e, Option.bind]
  rw [bif_t (ltI_t (by omega)), chk_of (idx_ok hj), gD_nat hj]
  by_cases h0 : s[j] = 0
  ·rw [bif_f (by simp [eqI, h0])]
   obtain ⟨r, h1, h2⟩ := index_loop N s hs k (j + 1) n (by omega) (by omega)
   rw [w64_id (by omega) (by omega)]
   refine ⟨r, by exact_mod_cast h1, ?_⟩
   rw [h2, hd]
   simp [h0]
  ·rw [bif_t (by simp [eqI, h0])]
   refine ⟨_, rfl, ?_⟩
   exact ⟨fun _ => ⟨s[j], by rw [hd]; exact List.mem_cons_self .., h0⟩, fun _ => by omega⟩
theorem fine_eq {N : Nat} {l : List Int} (hs : l.length < 4611686018427387904) (hN : l.length < N) : Q13 N l = some (decide (∀ x ∈ l, x = 0)) := by
 obtain ⟨r, h1, h2⟩ := index_loop N l hs l.length 0 N (by omega) hN
 simp only [Q13, Q13.e, Q25, Q25.e, Q42, Q42.e]
 have h1' : Q42.l0 N l N 0 = some r := by exact_mod_cast h1
 simp only [h1', Option.bind, Option.some.injEq]
 rw [List.drop_zero] at h2
 by_cases h : ∀ x ∈ l, x = 0
 ·have : ¬ 0 ≤ r := fun h3 => by obtain ⟨x, hx, h4⟩ := h2.1 h3; exact h4 (h x hx)
  rw [leI_f (by omega), decide_eq_true h]; rfl
 ·have : 0 ≤ r := h2.2 (by
   by_cases h5 : ∃ x ∈ l, x ≠ 0
   ·exact h5
   ·exact absurd (fun x hx => by by_cases h6 : x = 0; exact h6; exact absurd ⟨x, hx, h6⟩ h5) h)
  rw [leI_t this, decide_eq_false h]; rfl
end Go.Proofs.Ytlfhchkhbecmbaa.Am
set_option linter.unusedVariables false
set_option linter.unusedSimpArgs false
set_option linter.unusedSectionVars false
namespace Go.Proofs.Ytlfhchkhbecmbaa.Am
open Go
abbrev UndoT := MvT × (Int × (Int × (Bool × (Int × Int))))
abbrev BoardT := RulesT × (PosT × (Int × List UndoT))
abbrev zU : UndoT := (z0, ((0 : Int), ((0 : Int), (false, ((0 : Int), (0 : Int))))))
theorem copy_l0 (N : Nat) {r : RulesT} (hr : ROk r) : ∀ (k j n : Nat) (m : List PieceT), j + k = (r.2.2.2.1).length → m.length = (r.2.2.2.1).length → (∀ i, i < j → m[i]? = (r.2.2.2.1)[i]?) → k < n →
  Q28.l0 N r n ((r.2.2.2.1).length : Int) (j : Int) m = some r
 | 0, j, n, m, hk, hm, hi, hn => by
  obtain ⟨n, rfl⟩ := nxt (n := n) (by omega)
  have ha := area_le' hr.b
  have hs := hr.ns
  have he := hr.ne
  have : m = r.2.2.2.1 := by
   apply List.ext_getElem?
   intro i
   by_cases h : i < j
   ·exact hi i h
   ·rw [List.getElem?_eq_none (by omega), List.getElem?_eq_none (by omega)]
  subst this
  rw [Q28.l0_s, Q28.s0, bif_f (ltI_f (by omega)), chk_cap (by omega), chk_cap (by omega)]
 | k + 1, j, n, m, hk, hm, hi, hn => by
  obtain ⟨n, rfl⟩ := nxt (n := n) (by omega)
  have hj : j < (r.2.2.2.1).length := by omega
  have h6 := hr.ps.le
  have hw := (piece_ok hr (kind := j) (by omega)).2.1
  rw [gD_nat hj] at hw
  rw [Q28.l0_s, Q28.s0, bif_t (ltI_t (by omega)), chk_of (idx_ok hj), gD_nat hj, chk_cap (by omega), chk_of (idx_ok (by omega)), w64_id (by omega) (by omega), show ((j : Int) + 1) = ((j + 1 : Nat) : Int) by omega, Int.toNat_natCast]
  refine copy_l0 N hr k (j + 1) n _ (by omega) (by simp [hm]) (fun i hi' => ?_) (by omega)
  rw [List.getElem?_set]
  by_cases hij : j = i
  ·subst hij
   rw [if_pos rfl, if_pos (by omega), List.getElem?_eq_getElem hj]
  ·rw [if_neg hij]
   exact hi i (by omega)
theorem rcopy_eq {N : Nat} (hN : 1000 ≤ N) {r : RulesT} (hr : ROk r) : Q28 N r = some r := by
 have h6 := hr.ps.le
 unfold Q28 Q28.e
 dsimp only
 rw [chk_of (by
  rw [leI_t (by omega), decide_eq_true (by omega), Bool.true_and, Bool.true_and, Int.toNat_natCast]
  unfold capOk
  exact decide_eq_true (by omega))]
 have := copy_l0 N hr (r.2.2.2.1).length 0 N (List.replicate ((r.2.2.2.1).length : Int).toNat zP) (by omega) (by simp) (fun i hi => by omega) (by omega)
 rw [show ((0 : Nat) : Int) = 0 from rfl] at this
 exact this
structure BOk (b : BoardT) : Prop where
 r : ROk b.1
 p : POk b.1 b.2.1
 key : b.2.2.1 = U (keyS b.2.1)
theorem new_good {N : Nat} (hN : 1000 ≤ N) {r : RulesT} {p : PosT} (hr : ROk r) (hp : POk r p) : Q14 N r p = some (some (r, (p, (U (keyS p), []))), 0) := by
 unfold Q14 Q14.e
 rw [pcheck_ok hN hr hp, ob, bif_f (by rfl), rcopy_eq hN hr, ob, copy_eq hr hp, ob, of_eq hr hp hN, ob]
theorem new_bad {N : Nat} {r : RulesT} {p : PosT} {v : Int} (hv : Q27 N r p = some v) (h0 : v ≠ 0) : Q14 N r p = some (none, v) := by
 unfold Q14 Q14.e
 rw [hv, ob, bif_t (by simp [eqI, h0])]
def undoI (b : BoardT) (m : MvT) : UndoT :=
 (m, (if m.1 < 0 then 0 else gD 0 b.2.1.1 m.1, (gD 0 b.2.1.1 m.2.1, (decide (gD 0 b.2.1.1 m.2.1 ≠ 0 ∧ b.1.2.2.2.2.2.2.1 = true ∧ gD 0 (handT b.2.1) (kindI (gD 0 b.2.1.1 m.2.1)) < 1000), (b.2.1.2.2.2, b.2.2.1)))))
def makeB (b : BoardT) (m : MvT) : BoardT := (b.1, (doI b.1 b.2.1 m, (nextI b.1 b.2.1 m b.2.2.1, b.2.2.2 ++ [undoI b m])))
theorem set_same {l : List Int} {i : Int} (h0 : 0 ≤ i) (h : i < l.length) : l.set i.toNat (gD 0 l i) = l := by
 obtain ⟨i, rfl⟩ : ∃ a : Nat, i = a := ⟨i.toNat, by omega⟩
 rw [Int.toNat_natCast, gD_nat (by omega), List.set_getElem_self]
section
variable {b : BoardT} (hb : BOk b) (hl : b.2.2.2.length ≤ 100000) {m : MvT} (hm : MoveOk b.1 b.2.1 m)
include hb hl hm
theorem make_eq (N : Nat) : Q37 N b m = some (makeB b m) := by
 obtain ⟨r, p, key, d⟩ := b
 obtain ⟨hr, hp, hkey⟩ := hb
 dsimp only at hr hp hkey hl hm
 have hll := len_le hr hp
 have hlen := hp.len
 have h0 := hp.h0
 have h1 := hp.h1
 have hto := hm.to
 have hpi := hm.piece
 have hlast := hp.last
 have hc := cell_ok hp hto
 have hcell : Q55 N m.2.2 p.2.2.1 = some (2 * m.2.2 + p.2.2.1 + 1) := by
  unfold Q55 Q55.e
  simp (disch := omega) only [w64_id]
 have hk : gD 0 p.1 m.2.1 ≠ 0 → Q54 N (gD 0 p.1 m.2.1) = some (kindI (gD 0 p.1 m.2.1)) ∧ 0 ≤ kindI (gD 0 p.1 m.2.1) ∧ kindI (gD 0 p.1 m.2.1) < (r.2.2.2.1).length := fun h => ⟨kind_eq (by omega) (by omega), kind_lt (by omega) hc.2⟩
 have hb0 : ∀ i : Int, 0 ≤ i → i < (r.2.2.2.1).length → 0 ≤ gD 0 (p.2.1.1) i ∧ gD 0 (p.2.1.1) i ≤ 1000 := fun i hi hi' => gD_ok hp.o0 hi (by omega)
 have hb1 : ∀ i : Int, 0 ≤ i → i < (r.2.2.2.1).length → 0 ≤ gD 0 (p.2.1.2) i ∧ gD 0 (p.2.1.2) i ≤ 1000 := fun i hi hi' => gD_ok hp.o1 hi (by omega)
 have hm0 := hb0 _ hpi.1 hpi.2
 have hm1 := hb1 _ hpi.1 hpi.2
 unfold Q37 Q37.e
 dsimp only
 rw [chk_idx hto.1 (by omega), next_eq hr hp N hm, ob, hcell]
 unfold makeB undoI doI setH hand2 hand1 cells2 handT
 dsimp only
 by_cases hs : m.1 < 0
 ·have hz : gD 0 p.1 m.2.1 = 0 := by
   rcases hm.src with h | h
   ·exact h.2.1
   ·omega
  rcases hlast.1 with ht | ht
  ·rw [bif_t (eqI_t ht), bif_t (ltI_t hs)]
   simp (disch := first | omega | (simp; omega)) only [chk_idx, w64_id, chk_cap, hz, eqI_t, Bool.not_true, cond_false, ob, if_pos hs, if_pos ht]
   simp [hs]
  ·rw [bif_f (eqI_f (by omega)), bif_t (eqI_t ht), bif_t (ltI_t hs)]
   simp (disch := first | omega | (simp; omega)) only [chk_idx, w64_id, chk_cap, hz, eqI_t, Bool.not_true, cond_false, ob, if_pos hs, if_neg (show ¬ p.2.2.1 = 0 by omega)]
   simp [hs]
 ·have hsrc : 0 ≤ m.1 ∧ m.1 < r.2.1 * r.2.2.1 := by
   rcases hm.src with h | h
   ·omega
   ·exact ⟨h.1, h.2.1⟩
  simp only [if_neg hs]
  by_cases hz : gD 0 p.1 m.2.1 = 0
  ·by_cases h200 : 200 < p.2.2.2 + 1
   ·rcases hlast.1 with ht | ht
    ·rw [bif_t (eqI_t ht), bif_f (ltI_f (by omega))]
     simp (disch := first | omega | (simp; omega)) only [chk_idx, w64_id, chk_cap, hz, eqI_t, Bool.not_true, cond_false, ob, List.length_set]
     simp [hs, ht, ltI_t h200, h200]
    ·rw [bif_f (eqI_f (by omega)), bif_t (eqI_t ht), bif_f (ltI_f (by omega))]
     simp (disch := first | omega | (simp; omega)) only [chk_idx, w64_id, chk_cap, hz, eqI_t, Bool.not_true, cond_false, ob, List.length_set]
     simp [hs, ht, ltI_t h200, h200]
   ·rcases hlast.1 with ht | ht
    ·rw [bif_t (eqI_t ht), bif_f (ltI_f (by omega))]
     simp (disch := first | omega | (simp; omega)) only [chk_idx, w64_id, chk_cap, hz, eqI_t, Bool.not_true, cond_false, ob, List.length_set]
     simp [hs, ht, ltI_f (show p.2.2.2 + 1 ≤ 200 by omega), h200]
    ·rw [bif_f (eqI_f (by omega)), bif_t (eqI_t ht), bif_f (ltI_f (by omega))]
     simp (disch := first | omega | (simp; omega)) only [chk_idx, w64_id, chk_cap, hz, eqI_t, Bool.not_true, cond_false, ob, List.length_set]
     simp [hs, ht, ltI_f (show p.2.2.2 + 1 ≤ 200 by omega), h200]
  ·obtain ⟨hk1, hk2, hk3⟩ := hk hz
   have hk0 := hb0 _ hk2 hk3
   have hk1' := hb1 _ hk2 hk3
   rw [hk1]
   rcases hlast.1 with ht | ht
   ·rw [bif_t (eqI_t ht), bif_f (ltI_f (by omega))]
    have hsame := set_same (l := p.2.1.1) hk2 (by omega)
    simp (disch := first | omega | (simp; omega)) only [chk_idx, w64_id, chk_cap, eqI_f hz, Bool.not_false, cond_true, ob, List.length_set, if_pos ht]
    by_cases h1000 : gD 0 p.2.1.1 (kindI (gD 0 p.1 m.2.1)) < 1000
    ·cases hK : r.2.2.2.2.2.2.1 <;> simp [hs, ht, hz, ltI_t h1000, h1000, show ¬ 1000 < gD 0 p.2.1.1 (kindI (gD 0 p.1 m.2.1)) + 1 by omega]
    ·have e : gD 0 p.2.1.1 (kindI (gD 0 p.1 m.2.1)) = 1000 := by omega
     rw [e] at hsame
     cases hK : r.2.2.2.2.2.2.1 <;> simp [hs, ht, hz, ltI_f (show 1000 ≤ gD 0 p.2.1.1 (kindI (gD 0 p.1 m.2.1)) by omega), h1000, e, hsame, show ltI 1000 1000 = false from rfl]
   ·rw [bif_f (eqI_f (by omega)), bif_t (eqI_t ht), bif_f (ltI_f (by omega))]
    have hsame := set_same (l := p.2.1.2) hk2 (by omega)
    simp (disch := first | omega | (simp; omega)) only [chk_idx, w64_id, chk_cap, eqI_f hz, Bool.not_false, cond_true, ob, List.length_set, if_neg (show ¬ p.2.2.1 = 0 by omega)]
    by_cases h1000 : gD 0 p.2.1.2 (kindI (gD 0 p.1 m.2.1)) < 1000
    ·cases hK : r.2.2.2.2.2.2.1 <;> simp [hs, ht, hz, ltI_t h1000, h1000, show ¬ 1000 < gD 0 p.2.1.2 (kindI (gD 0 p.1 m.2.1)) + 1 by omega]
    ·have e : gD 0 p.2.1.2 (kindI (gD 0 p.1 m.2.1)) = 1000 := by omega
     rw [e] at hsame
     cases hK : r.2.2.2.2.2.2.1 <;> simp [hs, ht, hz, ltI_f (show 1000 ≤ gD 0 p.2.1.2 (kindI (gD 0 p.1 m.2.1)) by omega), h1000, e, hsame, show ltI 1000 1000 = false from rfl]
theorem make_ok : BOk (makeB b m) := ⟨hb.r, do_ok hb.r hb.p hm, by
 show nextI b.1 b.2.1 m b.2.2.1 = U (keyS (doI b.1 b.2.1 m))
 rw [key_do hb.r hb.p hm, hb.key]⟩
end
end Go.Proofs.Ytlfhchkhbecmbaa.Am
set_option linter.unusedVariables false
set_option linter.unusedSimpArgs false
set_option linter.unusedSectionVars false
namespace Go.Proofs.Ytlfhchkhbecmbaa.Am
open Go
theorem set_back {l : List Int} {i : Int} {v w : Int} (h0 : 0 ≤ i) (h : i < l.length) (hw : w = gD 0 l i) : (l.set i.toNat v).set i.toNat w = l := by
 rw [List.set_set, hw, set_same h0 h]
section
variable {b : BoardT} (hb : BOk b) (hl : b.2.2.2.length ≤ 100000) {m : MvT} (hm : MoveOk b.1 b.2.1 m)
include hb hl hm
theorem undo_make (N : Nat) : Q40 N (makeB b m) = some (0, b) := by
 obtain ⟨r, p, key, d⟩ := b
 obtain ⟨hr, hp, hkey⟩ := hb
 dsimp only at hr hp hkey hl hm
 have hll := len_le hr hp
 have hlen := hp.len
 have h0 := hp.h0
 have h1 := hp.h1
 have hto := hm.to
 have hpi := hm.piece
 have hlast := hp.last
 have hc := cell_ok hp hto
 have hh := hand_ok hr hp
 have hd2 := hand2_ok hr hp hm
 have hL : ((d ++ [undoI (r, (p, (key, d))) m]).length : Int) = (d.length : Int) + 1 := by simp
 have hG : gD zU (d ++ [undoI (r, (p, (key, d))) m]) (d.length : Int) = undoI (r, (p, (key, d))) m := by rw [gD_nat (by simp)]; simp
 have hT : (d ++ [undoI (r, (p, (key, d))) m]).take (d.length : Int).toNat = d := by rw [Int.toNat_natCast]; simp
 have hcl : (cells2 p m).length = p.1.length := by
  unfold cells2
  rw [List.length_set]
  split
  ·rfl
  ·rw [List.length_set]
 unfold Q40 Q40.e
 unfold makeB
 dsimp only
 rw [hL, bif_f (eqI_f (by omega)), w64_id (x := (d.length : Int) + 1 - 1) (by omega) (by omega), show (d.length : Int) + 1 - 1 = (d.length : Int) by omega, chk_idx (by omega) (by omega), chk_idx' (by omega) (by omega), hT]
 simp only [hG]
 unfold doI undoI
 dsimp only
 rw [hcl]
 have hcells1 : m.1 < 0 → (cells2 p m).set m.2.1.toNat (gD 0 p.1 m.2.1) = p.1 := fun hs => by
  unfold cells2
  rw [if_pos hs]
  exact set_back hto.1 (by omega) rfl
 have hcells2 : ¬ m.1 < 0 → (((cells2 p m).set m.2.1.toNat (gD 0 p.1 m.2.1)).set m.1.toNat (gD 0 p.1 m.1)) = p.1 := fun hs => by
  have hsrc : 0 ≤ m.1 ∧ m.1 < r.2.1 * r.2.2.1 ∧ ownI (gD 0 p.1 m.1) = p.2.2.1 := by
   rcases hm.src with h | h
   ·omega
   ·exact h
  have hne : m.1 ≠ m.2.1 := fun e => hm.own (by rw [← e]; exact hsrc.2.2)
  have e1 : (p.1.set m.1.toNat 0).set m.2.1.toNat (gD 0 p.1 m.2.1) = p.1.set m.1.toNat 0 := by
   rw [List.set_comm _ _ (by omega), set_same hto.1 (by omega)]
  unfold cells2
  rw [if_neg hs, List.set_set, e1, List.set_set]
  exact set_same hsrc.1 (by omega)
 have hz : m.1 < 0 → gD 0 p.1 m.2.1 = 0 := fun hs => by
  rcases hm.src with h | h
  ·exact h.2.1
  ·omega
 have hA : (gD 0 p.1 m.2.1 ≠ 0 ∧ r.2.2.2.2.2.2.1 = true ∧ gD 0 (handT p) (kindI (gD 0 p.1 m.2.1)) < 1000) → ¬ m.1 < 0 ∧ (0 ≤ kindI (gD 0 p.1 m.2.1) ∧ kindI (gD 0 p.1 m.2.1) < (r.2.2.2.1).length) ∧ Q54 N (gD 0 p.1 m.2.1) = some (kindI (gD 0 p.1 m.2.1)) ∧
   w64 (gD 0 (hand2 r p m) (kindI (gD 0 p.1 m.2.1)) - 1) = gD 0 (handT p) (kindI (gD 0 p.1 m.2.1)) ∧ (hand2 r p m).set (kindI (gD 0 p.1 m.2.1)).toNat (gD 0 (handT p) (kindI (gD 0 p.1 m.2.1))) = handT p := fun ⟨k1, k2, k3⟩ => by
  have hs : ¬ m.1 < 0 := fun h => k1 (hz h)
  have hkk := kind_lt (k := (r.2.2.2.1).length) (show 1 ≤ gD 0 p.1 m.2.1 by omega) hc.2
  have hbk := gD_ok hh hkk.1 (by omega)
  have e : hand2 r p m = (handT p).set (kindI (gD 0 p.1 m.2.1)).toNat (gD 0 (handT p) (kindI (gD 0 p.1 m.2.1)) + 1) := by
   unfold hand2 hand1
   rw [if_neg hs, if_pos ⟨k1, k2⟩, if_neg (by omega)]
  have e2 : gD 0 (hand2 r p m) (kindI (gD 0 p.1 m.2.1)) = gD 0 (handT p) (kindI (gD 0 p.1 m.2.1)) + 1 := by
   rw [e]
   obtain ⟨k, hk⟩ : ∃ k : Nat, kindI (gD 0 p.1 m.2.1) = k := ⟨(kindI (gD 0 p.1 m.2.1)).toNat, by omega⟩
   rw [hk, Int.toNat_natCast, gD_nat (by rw [List.length_set]; omega), List.getElem_set_self]
  refine ⟨hs, hkk, kind_eq (by omega) (by omega), by rw [e2, w64_id (by omega) (by omega)]; omega, ?_⟩
  rw [e]
  exact set_back hkk.1 (by omega) rfl
 have hB : ¬ (gD 0 p.1 m.2.1 ≠ 0 ∧ r.2.2.2.2.2.2.1 = true ∧ gD 0 (handT p) (kindI (gD 0 p.1 m.2.1)) < 1000) → ¬ m.1 < 0 → hand2 r p m = handT p := fun hk hs => by
  unfold hand2 hand1
  rw [if_neg hs]
  by_cases h2 : gD 0 p.1 m.2.1 ≠ 0 ∧ r.2.2.2.2.2.2.1 = true
  ·have hkk := kind_lt (k := (r.2.2.2.1).length) (show 1 ≤ gD 0 p.1 m.2.1 by omega) hc.2
   have hbk := gD_ok hh hkk.1 (by omega)
   have : gD 0 (handT p) (kindI (gD 0 p.1 m.2.1)) = 1000 := by
    by_cases h3 : gD 0 (handT p) (kindI (gD 0 p.1 m.2.1)) < 1000
    ·exact absurd ⟨h2.1, h2.2, h3⟩ hk
    ·omega
   have hsm := set_same (l := handT p) hkk.1 (by omega)
   rw [this] at hsm
   rw [if_pos h2, if_pos (by omega), hsm]
  ·rw [if_neg h2]
 have hC : m.1 < 0 → w64 (gD 0 (hand2 r p m) m.2.2 + 1) = gD 0 (handT p) m.2.2 ∧ (hand2 r p m).set m.2.2.toNat (gD 0 (handT p) m.2.2) = handT p := fun hs => by
  have hbk := gD_ok hh hpi.1 (by omega)
  have e : hand2 r p m = (handT p).set m.2.2.toNat (gD 0 (handT p) m.2.2 - 1) := by
   unfold hand2 hand1
   rw [if_neg (fun h => h.1 (hz hs)), if_pos hs]
  have e2 : gD 0 (hand2 r p m) m.2.2 = gD 0 (handT p) m.2.2 - 1 := by
   rw [e]
   obtain ⟨k, hk⟩ : ∃ k : Nat, m.2.2 = k := ⟨m.2.2.toNat, by omega⟩
   rw [hk, Int.toNat_natCast, gD_nat (by rw [List.length_set]; omega), List.getElem_set_self]
  refine ⟨by rw [e2, w64_id (by omega) (by omega)]; omega, ?_⟩
  rw [e]
  exact set_back hpi.1 (by omega) rfl
 have hsrc : ¬ m.1 < 0 → 0 ≤ m.1 ∧ m.1 < r.2.1 * r.2.2.1 := fun hs => by
  rcases hm.src with h | h
  ·omega
  ·exact ⟨h.1, h.2.1⟩
 rw [w64_id (x := 1 - (1 - p.2.2.1)) (by omega) (by omega), show 1 - (1 - p.2.2.1) = p.2.2.1 by omega]
 unfold setH
 rcases hlast.1 with ht | ht
 ·have hTe : handT p = p.2.1.1 := by unfold handT; rw [if_pos ht]
  rw [hTe] at hA hB hC ⊢
  rw [if_pos ht, bif_t (eqI_t ht), chk_idx hto.1 (by omega)]
  dsimp only
  by_cases hk : gD 0 p.1 m.2.1 ≠ 0 ∧ r.2.2.2.2.2.2.1 = true ∧ gD 0 (p.2.1.1) (kindI (gD 0 p.1 m.2.1)) < 1000
  ·obtain ⟨a1, a2, a3, a4, a5⟩ := hA hk
   have := hsrc a1
   rw [bif_t (decide_eq_true hk), a3, ob, chk_idx a2.1 (by omega), chk_idx a2.1 (by omega), a4, a5, bif_f (ltI_f (by omega)), chk_idx this.1 (by rw [List.length_set, hcl]; omega), if_neg a1, hcells2 a1]
  ·rw [bif_f (decide_eq_false hk)]
   by_cases hs : m.1 < 0
   ·obtain ⟨c1, c2⟩ := hC hs
    rw [bif_t (ltI_t hs), chk_idx hpi.1 (by omega), chk_idx hpi.1 (by omega), c1, c2, hcells1 hs]
   ·have := hsrc hs
    rw [bif_f (ltI_f (by omega)), chk_idx this.1 (by rw [List.length_set, hcl]; omega), if_neg hs, hcells2 hs, hB hk hs]
 ·have h01 : ¬ p.2.2.1 = 0 := by omega
  have hTe : handT p = p.2.1.2 := by unfold handT; rw [if_neg h01]
  rw [hTe] at hA hB hC ⊢
  rw [if_neg h01, bif_f (eqI_f h01), bif_t (eqI_t ht), chk_idx hto.1 (by omega)]
  dsimp only
  by_cases hk : gD 0 p.1 m.2.1 ≠ 0 ∧ r.2.2.2.2.2.2.1 = true ∧ gD 0 (p.2.1.2) (kindI (gD 0 p.1 m.2.1)) < 1000
  ·obtain ⟨a1, a2, a3, a4, a5⟩ := hA hk
   have := hsrc a1
   rw [bif_t (decide_eq_true hk), a3, ob, chk_idx a2.1 (by omega), chk_idx a2.1 (by omega), a4, a5, bif_f (ltI_f (by omega)), chk_idx this.1 (by rw [List.length_set, hcl]; omega), if_neg a1, hcells2 a1]
  ·rw [bif_f (decide_eq_false hk)]
   by_cases hs : m.1 < 0
   ·obtain ⟨c1, c2⟩ := hC hs
    rw [bif_t (ltI_t hs), chk_idx hpi.1 (by omega), chk_idx hpi.1 (by omega), c1, c2, hcells1 hs]
   ·have := hsrc hs
    rw [bif_f (ltI_f (by omega)), chk_idx this.1 (by rw [List.length_set, hcl]; omega), if_neg hs, hcells2 hs, hB hk hs]
end
end Go.Proofs.Ytlfhchkhbecmbaa.Am
set_option linter.unusedVariables false
set_option linter.unusedSimpArgs false
set_option linter.unusedSectionVars false
namespace Go.Proofs.Ytlfhchkhbecmbaa.Am
open Go
def resV (r : RulesT) (p : PosT) : Int := resI r p (!(cand r p).isEmpty) (r.2.2.2.2.2.2.2.1)
theorem any_eq {r : RulesT} {p : PosT} {g : List MvT} (hg : IsGen r p g) : ltI 0 (g.length : Int) = !(cand r p).isEmpty := by
 cases hc : cand r p with
 | nil =>
  cases g with
  | nil => rfl
  | cons a g => have := (hg.mem a).1 (List.mem_cons_self ..); rw [hc] at this; cases this
 | cons a l =>
  cases g with
  | nil => have := (hg.mem a).2 (by rw [hc]; exact List.mem_cons_self ..); cases this
  | cons b g => rw [ltI_t (by simp)]; rfl
end Go.Proofs.Ytlfhchkhbecmbaa.Am
set_option linter.unusedVariables false
set_option linter.unusedSimpArgs false
set_option linter.unusedSectionVars false
namespace Go.Proofs.Ytlfhchkhbecmbaa.Am
open Go
def mx (a b : Int) : Int := bif ltI a b then b else a
theorem mx_eq (a b : Int) : (a < b ∧ mx a b = b) ∨ (b ≤ a ∧ mx a b = a) := by
 unfold mx
 by_cases h : a < b
 ·rw [bif_t (ltI_t h)]; exact Or.inl ⟨h, rfl⟩
 ·rw [bif_f (ltI_f (by omega))]; exact Or.inr ⟨by omega, rfl⟩
def foldMax (b : Int) (l : List Int) : Int := l.foldl mx b
theorem foldMax_spec : ∀ (l : List Int) (b : Int), b ≤ foldMax b l ∧ (∀ x ∈ l, x ≤ foldMax b l) ∧ (foldMax b l = b ∨ foldMax b l ∈ l)
 | [], b => ⟨Int.le_refl _, by simp, Or.inl rfl⟩
 | a :: l, b => by
  have ih := foldMax_spec l (mx b a)
  have hm := mx_eq b a
  have e : foldMax b (a :: l) = foldMax (mx b a) l := rfl
  rw [e]
  refine ⟨by omega, ?_, ?_⟩
  ·intro x hx
   rcases List.mem_cons.1 hx with rfl | hx
   ·omega
   ·exact ih.2.1 x hx
  ·rcases ih.2.2 with h | h
   ·rw [h]
    rcases hm with ⟨_, h2⟩ | ⟨_, h2⟩
    ·rw [h2]; exact Or.inr (List.mem_cons_self ..)
    ·exact Or.inl h2
   ·exact Or.inr (List.mem_cons_of_mem _ h)
theorem foldMax_ext {l l' : List Int} (b : Int) (h : ∀ x, x ∈ l ↔ x ∈ l') : foldMax b l = foldMax b l' := by
 have h1 := foldMax_spec l b
 have h2 := foldMax_spec l' b
 apply Int.le_antisymm
 ·rcases h1.2.2 with e | e
  ·rw [e]; exact h2.1
  ·exact h2.2.1 _ ((h _).1 e)
 ·rcases h2.2.2 with e | e
  ·rw [e]; exact h1.1
  ·exact h1.2.1 _ ((h _).2 e)
def near (n : Int) : Int := if 0 < n then n - 1 else if n < 0 then n + 1 else 0
theorem near_cases (n : Int) : (0 < n ∧ near n = n - 1) ∨ (n < 0 ∧ near n = n + 1) ∨ (n = 0 ∧ near n = 0) := by
 unfold near
 by_cases h : 0 < n
 ·rw [if_pos h]; exact Or.inl ⟨h, rfl⟩
 ·rw [if_neg h]
  by_cases h2 : n < 0
  ·rw [if_pos h2]; exact Or.inr (Or.inl ⟨h2, rfl⟩)
  ·rw [if_neg h2]; exact Or.inr (Or.inr ⟨by omega, rfl⟩)
def scoreV (x t : Int) : Int := if x = 1 + t then 1000 else if x = 2 - t then -1000 else 0
def val (r : RulesT) : Nat → PosT → Int
 | 0, p => if resV r p ≠ 0 then scoreV (resV r p) (p.2.2.1) else 0
 | d + 1, p => if resV r p ≠ 0 then scoreV (resV r p) (p.2.2.1) else foldMax (-1000) ((cand r p).map fun m => near (-(val r d (doI r p m))))
section
variable {r : RulesT} (hr : ROk r)
include hr
theorem cand_ne {p : PosT} (hp : POk r p) (h : resV r p = 0) : cand r p ≠ [] := by
 intro e
 have := (res_range hr hp (!(cand r p).isEmpty) (r.2.2.2.2.2.2.2.1)).2.2 h
 rw [e] at this
 cases this
theorem score_cases (x t : Int) : scoreV x t = 1000 ∨ scoreV x t = -1000 ∨ scoreV x t = 0 := by
 unfold scoreV
 split
 ·exact Or.inl rfl
 ·split
  ·exact Or.inr (Or.inl rfl)
  ·exact Or.inr (Or.inr rfl)
theorem val_over {p : PosT} (h : resV r p ≠ 0) : ∀ d, val r d p = scoreV (resV r p) (p.2.2.1)
 | 0 => by unfold val; rw [if_pos h]
 | d + 1 => by unfold val; rw [if_pos h]
theorem val_open {p : PosT} (h : resV r p = 0) (d : Nat) : val r (d + 1) p = foldMax (-1000) ((cand r p).map fun m => near (-(val r d (doI r p m)))) := by
 conv => lhs; unfold val
 rw [if_neg (by simp [h])]
theorem val_bound : ∀ (d : Nat), d ≤ 900 → ∀ {p : PosT}, POk r p → val r d p = 0 ∨ (1000 - (d : Int) ≤ val r d p ∧ val r d p ≤ 1000) ∨ (-1000 ≤ val r d p ∧ val r d p ≤ -(1000 - (d : Int)))
 | 0, _, p, hp => by
  unfold val
  split
  ·have := score_cases hr (resV r p) (p.2.2.1); omega
  ·exact Or.inl rfl
 | d + 1, hd, p, hp => by
  by_cases h : resV r p ≠ 0
  ·rw [val_over hr h]
   have := score_cases hr (resV r p) (p.2.2.1); omega
  ·have h : resV r p = 0 := by omega
   rw [val_open hr h]
   have hs := foldMax_spec ((cand r p).map fun m => near (-(val r d (doI r p m)))) (-1000)
   have hne := cand_ne hr hp h
   have each : ∀ m ∈ cand r p, near (-(val r d (doI r p m))) = 0 ∨ (1000 - ((d + 1 : Nat) : Int) ≤ near (-(val r d (doI r p m))) ∧ near (-(val r d (doI r p m))) ≤ 999) ∨ (-999 ≤ near (-(val r d (doI r p m))) ∧ near (-(val r d (doI r p m))) ≤ -(1000 - ((d + 1 : Nat) : Int))) := fun m hm => by
    have ih := val_bound d (by omega) (do_ok hr hp (cand_ok hr hp hm))
    have hn := near_cases (-(val r d (doI r p m)))
    omega
   rcases hs.2.2 with e | e
   ·exfalso
    cases hc : cand r p with
    | nil => exact hne hc
    | cons m l =>
     have := each m (by rw [hc]; exact List.mem_cons_self ..)
     have := hs.2.1 _ (List.mem_map.2 ⟨m, by rw [hc]; exact List.mem_cons_self .., rfl⟩)
     omega
   ·obtain ⟨m, hm, hme⟩ := List.mem_map.1 e
    have := each m hm
    rw [hme] at this
    omega
end
end Go.Proofs.Ytlfhchkhbecmbaa.Am
set_option linter.unusedVariables false
set_option linter.unusedSimpArgs false
set_option linter.unusedSectionVars false
namespace Go.Proofs.Ytlfhchkhbecmbaa.Am
open Go
section
variable {N : Nat} (hN : 200000000 ≤ N) {b : BoardT} (hb : BOk b)
include hN hb
theorem bresult_eq : Q15 N b = some (resV b.1 b.2.1) := by
 obtain ⟨g, hg, hgg⟩ := gen_ret hb.r hb.p hN
 unfold Q15 Q15.e
 rw [result_eq hb.r hb.p (by omega) hg, ob, any_eq hgg]
 rfl
theorem bmoves_ret : Ret (Q36 N b) fun l => (resV b.1 b.2.1 ≠ 0 → l = []) ∧ (resV b.1 b.2.1 = 0 → IsGen b.1 b.2.1 l) := by
 obtain ⟨g, hg, hgg⟩ := gen_ret hb.r hb.p hN
 unfold Q36 Q36.e
 rw [bresult_eq hN hb, ob]
 by_cases h : resV b.1 b.2.1 = 0
 ·rw [bif_f (by rw [eqI_t h]; rfl), hg, ob]
  exact Ret.ret ⟨fun h' => absurd h h', fun _ => hgg⟩
 ·rw [bif_t (by rw [eqI_f h]; rfl)]
  exact Ret.ret ⟨fun _ => rfl, fun h' => absurd h' h⟩
end
end Go.Proofs.Ytlfhchkhbecmbaa.Am
