/- Plain: keys of positions, and of the positions after moves. -/
import Derived.Test.YtpielijehhhobaaLawDof
import Derived.Test.YtpielijehhhobaaFnf1
set_option linter.unusedVariables false
set_option linter.unusedSimpArgs false
set_option linter.unusedSectionVars false
namespace Go.Proofs.Ytpielijehhhobaa.Am
open Go
abbrev U (x : Int) : Int := IntKind.wrap .u64 x
theorem U_eq (x : Int) : U x = x % 18446744073709551616 := by
 unfold U IntKind.wrap
 have e : (2 : Int) ^ IntKind.bits .u64 = 18446744073709551616 := by decide
 simp only [e]
 simp [IntKind.signed]
theorem U_add (a b : Int) : U (U a + b) = U (a + b) := by simp only [U_eq]; omega
def mixI (n : Int) : Int := (Q15 0 n).getD 0
theorem mix_eq (N : Nat) (n : Int) : Q15 N n = some (mixI n) := rfl
def turnK (t : Int) : Int := U (U t * mixI 3000)
theorem turn_eq (N : Nat) (t : Int) : Q76 N t = some (turnK t) := by
 unfold Q76 Q76.e
 rw [mix_eq]; rfl
def sqK (s c : Int) : Int := if c = 0 then 0 else mixI (16 * s + c)
theorem square_eq (N : Nat) {s c : Int} (hs : 0 ≤ s ∧ s ≤ 1000) (hc : 0 ≤ c ∧ c ≤ 1000) : Q77 N s c = some (sqK s c) := by
 unfold Q77 Q77.e sqK
 by_cases h : c = 0
 ·rw [bif_t (eqI_t h), if_pos h]
 ·rw [bif_f (eqI_f h), if_neg h, mix_eq, w64_id (x := 16 * s) (by omega) (by omega), w64_id (by omega) (by omega)]; rfl
def heldK (o k n : Int) : Int := U (U n * mixI (2000 + 8 * o + k))
theorem held_eq (N : Nat) {o k n : Int} (ho : 0 ≤ o ∧ o ≤ 1) (hk : 0 ≤ k ∧ k ≤ 100) : Q78 N o k n = some (heldK o k n) := by
 unfold Q78 Q78.e heldK
 rw [mix_eq, w64_id (x := 8 * o) (by omega) (by omega), w64_id (x := 2000 + 8 * o) (by omega) (by omega), w64_id (by omega) (by omega)]; rfl
def sumF (f : Int → Int → Int) : List Int → Nat → Int
 | [], _ => 0
 | c :: l, j => f j c + sumF f l (j + 1)
theorem sumF_set (f : Int → Int → Int) : ∀ (l : List Int) (i j : Nat) (v : Int) (h : i < l.length), sumF f (l.set i v) j = sumF f l j - f ((j + i : Nat) : Int) l[i] + f ((j + i : Nat) : Int) v
 | [], i, j, v, h => by simp at h
 | c :: l, 0, j, v, h => by simp only [List.set_cons_zero, sumF, List.getElem_cons_zero, Nat.add_zero]; omega
 | c :: l, i + 1, j, v, h => by
  have := sumF_set f l i (j + 1) v (by simpa using h)
  simp only [List.set_cons_succ, sumF, List.getElem_cons_succ]
  rw [show j + 1 + i = j + (i + 1) by omega] at this
  omega
theorem sumF_set' (f : Int → Int → Int) (l : List Int) (i v : Int) (h0 : 0 ≤ i) (h : i < l.length) : sumF f (l.set i.toNat v) 0 = sumF f l 0 - f i (gD 0 l i) + f i v := by
 obtain ⟨i, rfl⟩ : ∃ a : Nat, i = a := ⟨i.toNat, by omega⟩
 rw [Int.toNat_natCast, gD_nat (by omega), sumF_set f l i 0 v (by omega), Nat.zero_add]
def keyS (p : PosT) : Int := turnK (p.2.2.1) + sumF sqK p.1 0 + sumF (heldK 0) (p.2.1.1) 0 + sumF (heldK 1) (p.2.1.2) 0
section
variable (N : Nat) (p : PosT)
theorem of_l1_end : ∀ n, 1 ≤ n → ∀ k, Q48.l1 N p n k 2 = some k := by
 intro n hn k
 obtain ⟨n, rfl⟩ := nxt (n := n) (by omega)
 rw [Q48.l1_s, Q48.s1, bif_f (by rfl)]
theorem of_l2 (o : Int) (ho : 0 ≤ o ∧ o ≤ 1) (l : List Int) (hl : l.length ≤ 6) (B : Nat) (S : Int) (hB : ∀ n, B ≤ n → ∀ k, Q48.l1 N p n (U k) (w64 (o + 1)) = some (U (k + S))) : ∀ (m j n : Nat) (k : Int), j + m = l.length → B + m + 1 ≤ n → Q48.l2 N p n (U k) o o l (l.length : Int) (j : Int) = some (U (k + (sumF (heldK o) (l.drop j) j + S)))
 | 0, j, n, k, hm, hn => by
  obtain ⟨n, rfl⟩ := nxt (n := n) (by omega)
  rw [Q48.l2_s, Q48.s2, bif_f (ltI_f (by omega)), hB n (by omega), List.drop_of_length_le (by omega)]
  simp [sumF]
 | m + 1, j, n, k, hm, hn => by
  obtain ⟨n, rfl⟩ := nxt (n := n) (by omega)
  have hj : j < l.length := by omega
  rw [Q48.l2_s, Q48.s2, bif_t (ltI_t (by omega)), chk_of (idx_ok hj), gD_nat hj, held_eq N ho (by omega), Option.bind_some, w64_id (by omega) (by omega), show ((j : Int) + 1) = ((j + 1 : Nat) : Int) by omega]
  show Q48.l2 N p n (U (U k + heldK o j l[j])) o o l (l.length : Int) ((j + 1 : Nat) : Int) = _
  rw [U_add, of_l2 o ho l hl B S hB m (j + 1) n _ (by omega) (by omega), List.drop_eq_getElem_cons hj]
  simp only [sumF, Int.add_assoc]
theorem of_l1 (h0 : (p.2.1.1).length ≤ 6) (h1 : (p.2.1.2).length ≤ 6) (n : Nat) (hn : 30 ≤ n) (k : Int) : Q48.l1 N p n (U k) 0 = some (U (k + (sumF (heldK 0) (p.2.1.1) 0 + sumF (heldK 1) (p.2.1.2) 0))) := by
 have k1 : ∀ n, 9 ≤ n → ∀ k, Q48.l1 N p n (U k) (w64 (0 + 1)) = some (U (k + sumF (heldK 1) (p.2.1.2) 0)) := fun n hn k => by
  obtain ⟨n, rfl⟩ := nxt (n := n) (by omega)
  rw [show w64 ((0 : Int) + 1) = 1 by decide, Q48.l1_s, Q48.s1, bif_t (by rfl), bif_f (by rfl), bif_t (by rfl)]
  have := of_l2 N p 1 (by omega) (p.2.1.2) h1 1 0 (fun n hn k => by rw [show w64 ((1 : Int) + 1) = 2 by decide, of_l1_end N p n hn, Int.add_zero]) (p.2.1.2).length 0 n k (by omega) (by omega)
  rw [List.drop_zero, Int.add_zero] at this
  exact this
 obtain ⟨n, rfl⟩ := nxt (n := n) (by omega)
 rw [Q48.l1_s, Q48.s1, bif_t (by rfl), bif_t (by rfl)]
 have := of_l2 N p 0 (by omega) (p.2.1.1) h0 9 _ k1 (p.2.1.1).length 0 n k (by omega) (by omega)
 rw [List.drop_zero] at this
 exact this
theorem of_l0 (hl : p.1.length ≤ 64) (hc : ∀ c ∈ p.1, 0 ≤ c ∧ c ≤ 12) (S : Int) (hS : ∀ n, 30 ≤ n → ∀ k, Q48.l1 N p n (U k) 0 = some (U (k + S))) : ∀ (m j n : Nat) (k : Int), j + m = p.1.length → 31 + m ≤ n → Q48.l0 N p n (U k) (j : Int) = some (U (k + (sumF sqK (p.1.drop j) j + S)))
 | 0, j, n, k, hm, hn => by
  obtain ⟨n, rfl⟩ := nxt (n := n) (by omega)
  rw [Q48.l0_s, Q48.s0, bif_f (ltI_f (by omega)), hS n (by omega), List.drop_of_length_le (by omega)]
  simp [sumF]
 | m + 1, j, n, k, hm, hn => by
  obtain ⟨n, rfl⟩ := nxt (n := n) (by omega)
  have hj : j < p.1.length := by omega
  have hcj := hc p.1[j] (List.getElem_mem _)
  rw [Q48.l0_s, Q48.s0, bif_t (ltI_t (by omega)), chk_of (idx_ok hj), gD_nat hj, square_eq N (by omega) (by omega), Option.bind_some, w64_id (by omega) (by omega), show ((j : Int) + 1) = ((j + 1 : Nat) : Int) by omega]
  show Q48.l0 N p n (U (U k + sqK j p.1[j])) ((j + 1 : Nat) : Int) = _
  rw [U_add, of_l0 hl hc S hS m (j + 1) n _ (by omega) (by omega), List.drop_eq_getElem_cons hj]
  simp only [sumF, Int.add_assoc]
end
section
variable {r : RulesT} (hr : ROk r) {p : PosT} (hp : POk r p)
include hr hp
theorem of_eq {N : Nat} (hN : 1000 ≤ N) : Q48 N p = some (U (keyS p)) := by
 have hll := len_le hr hp
 have h0 := hp.h0
 have h1 := hp.h1
 have hcells := hp.cells
 unfold Q48 Q48.e
 rw [turn_eq, Option.bind_some]
 have := of_l0 N p hll.1 (fun c hc => by have := hcells c hc; omega) _ (fun n hn k => of_l1 N p (by omega) (by omega) n hn k) p.1.length 0 N (U (p.2.2.1) * mixI 3000) (by omega) (by omega)
 rw [List.drop_zero, show ((0 : Nat) : Int) = 0 from rfl] at this
 refine this.trans ?_
 unfold keyS turnK
 simp only [U_eq]
 congr 1
 omega
def nextI (r : RulesT) (p : PosT) (m : MvT) (k : Int) : Int :=
 U (k + turnK (1 - p.2.2.1) - turnK (p.2.2.1) - (if m.1 < 0 then heldK (p.2.2.1) m.2.2 1 else sqK m.1 (gD 0 p.1 m.1)) - sqK m.2.1 (gD 0 p.1 m.2.1) +
  (if gD 0 p.1 m.2.1 ≠ 0 ∧ r.2.2.2.2.2.2.1 = true ∧ gD 0 (handT p) (kindI (gD 0 p.1 m.2.1)) < 1000 then heldK (p.2.2.1) (kindI (gD 0 p.1 m.2.1)) 1 else 0) + sqK m.2.1 (2 * m.2.2 + p.2.2.1 + 1))
theorem next_eq (N : Nat) {m : MvT} (hm : MoveOk r p m) (k : Int) : Q79 N r p m k = some (nextI r p m k) := by
 have hll := len_le hr hp
 have hl := hp.len
 have h0 := hp.h0
 have h1 := hp.h1
 have hto := hm.to
 have hpi := hm.piece
 have hlast := hp.last.1
 have hcc := cell_ok hp hto
 have hcell : Q74 N m.2.2 p.2.2.1 = some (2 * m.2.2 + p.2.2.1 + 1) := by
  unfold Q74 Q74.e
  simp (disch := omega) only [w64_id]
 have hk : gD 0 p.1 m.2.1 ≠ 0 → Q63 N (gD 0 p.1 m.2.1) = some (kindI (gD 0 p.1 m.2.1)) ∧ 0 ≤ kindI (gD 0 p.1 m.2.1) ∧ kindI (gD 0 p.1 m.2.1) < (r.2.2.2.1).length := fun h => ⟨kind_eq (by omega) (by omega), kind_lt (by omega) hcc.2⟩
 unfold Q79 Q79.e nextI handT
 rw [w64_id (x := 1 - p.2.2.1) (by omega) (by omega), turn_eq, Option.bind_some, turn_eq, Option.bind_some]
 simp only [hcell, Option.bind_some, square_eq N (s := m.2.1) (c := 2 * m.2.2 + p.2.2.1 + 1) (by omega) (by omega), square_eq N (s := m.2.1) (c := gD 0 p.1 m.2.1) (by omega) (by omega)]
 by_cases hs : m.1 < 0
 ·have hz : gD 0 p.1 m.2.1 = 0 := by
   rcases hm.src with h | h
   ·exact h.2.1
   ·omega
  rw [bif_t (ltI_t hs), held_eq N (by omega) (by omega), Option.bind_some, chk_idx hto.1 (by omega), hz, bif_f (by rfl), if_pos hs, if_neg (by simp)]
  rw [show sqK m.2.1 0 = 0 by unfold sqK; rw [if_pos rfl]]
  congr 1
  show U (U (U (k + U (turnK (1 - p.2.2.1) - turnK p.2.2.1)) - heldK p.2.2.1 m.2.2 1) + sqK m.2.1 (2 * m.2.2 + p.2.2.1 + 1)) = _
  simp only [U_eq]
  omega
 ·have hsrc : 0 ≤ m.1 ∧ m.1 < r.2.1 * r.2.2.1 := by
   rcases hm.src with h | h
   ·omega
   ·exact ⟨h.1, h.2.1⟩
  have hcf := cell_ok hp hsrc
  rw [bif_f (ltI_f (by omega)), chk_idx hsrc.1 (by omega), square_eq N (by omega) (by omega), Option.bind_some, chk_idx hto.1 (by omega), if_neg hs]
  by_cases hz : gD 0 p.1 m.2.1 = 0
  ·rw [hz, bif_f (by rfl), if_neg (by simp)]
   rw [show sqK m.2.1 0 = 0 by unfold sqK; rw [if_pos rfl]]
   congr 1
   show U (U (U (k + U (turnK (1 - p.2.2.1) - turnK p.2.2.1)) - sqK m.1 (gD 0 p.1 m.1)) + sqK m.2.1 (2 * m.2.2 + p.2.2.1 + 1)) = _
   simp only [U_eq]
   omega
  ·obtain ⟨hk1, hk2, hk3⟩ := hk hz
   rw [bif_t (by rw [eqI_f hz]; rfl), hk1]
   simp only [Option.bind_some, if_pos (show gD 0 p.1 m.2.1 ≠ 0 from hz), true_and]
   by_cases hK : r.2.2.2.2.2.2.1 = true
   ·rw [bif_t hK]
    simp only [hK, true_and]
    rcases hlast with ht | ht
    ·rw [bif_t (eqI_t ht), chk_idx hk2 (by omega), held_eq N (by omega) (by omega), if_pos ht]
     by_cases h1 : gD 0 (p.2.1.1) (kindI (gD 0 p.1 m.2.1)) < 1000
     ·rw [bif_t (ltI_t h1), if_pos ⟨hz, h1⟩, Option.bind_some]
      congr 1
      show U (U (U (U (U (k + U (turnK (1 - p.2.2.1) - turnK p.2.2.1)) - sqK m.1 (gD 0 p.1 m.1)) - sqK m.2.1 (gD 0 p.1 m.2.1)) + heldK p.2.2.1 (kindI (gD 0 p.1 m.2.1)) 1) + sqK m.2.1 (2 * m.2.2 + p.2.2.1 + 1)) = _
      simp only [U_eq]
      omega
     ·rw [bif_f (ltI_f (by omega)), if_neg (fun h => h1 h.2)]
      congr 1
      show U (U (U (U (k + U (turnK (1 - p.2.2.1) - turnK p.2.2.1)) - sqK m.1 (gD 0 p.1 m.1)) - sqK m.2.1 (gD 0 p.1 m.2.1)) + sqK m.2.1 (2 * m.2.2 + p.2.2.1 + 1)) = _
      simp only [U_eq]
      omega
    ·rw [bif_f (eqI_f (by omega)), bif_t (eqI_t ht), chk_idx hk2 (by omega), held_eq N (by omega) (by omega), if_neg (show ¬ p.2.2.1 = 0 by omega)]
     by_cases h1 : gD 0 (p.2.1.2) (kindI (gD 0 p.1 m.2.1)) < 1000
     ·rw [bif_t (ltI_t h1), if_pos ⟨hz, h1⟩, Option.bind_some]
      congr 1
      show U (U (U (U (U (k + U (turnK (1 - p.2.2.1) - turnK p.2.2.1)) - sqK m.1 (gD 0 p.1 m.1)) - sqK m.2.1 (gD 0 p.1 m.2.1)) + heldK p.2.2.1 (kindI (gD 0 p.1 m.2.1)) 1) + sqK m.2.1 (2 * m.2.2 + p.2.2.1 + 1)) = _
      simp only [U_eq]
      omega
     ·rw [bif_f (ltI_f (by omega)), if_neg (fun h => h1 h.2)]
      congr 1
      show U (U (U (U (k + U (turnK (1 - p.2.2.1) - turnK p.2.2.1)) - sqK m.1 (gD 0 p.1 m.1)) - sqK m.2.1 (gD 0 p.1 m.2.1)) + sqK m.2.1 (2 * m.2.2 + p.2.2.1 + 1)) = _
      simp only [U_eq]
      omega
   ·rw [bif_f (by simpa using hK), if_neg (fun h => hK h.2.1)]
    congr 1
    show U (U (U (U (k + U (turnK (1 - p.2.2.1) - turnK p.2.2.1)) - sqK m.1 (gD 0 p.1 m.1)) - sqK m.2.1 (gD 0 p.1 m.2.1)) + sqK m.2.1 (2 * m.2.2 + p.2.2.1 + 1)) = _
    simp only [U_eq]
    omega
theorem held_add {o k n : Int} (hn : 0 ≤ n ∧ n ≤ 1000) : (heldK o k (n + 1)) % 18446744073709551616 = (heldK o k n + heldK o k 1) % 18446744073709551616 := by
 unfold heldK
 simp only [U_eq]
 rw [Int.emod_eq_of_lt (a := n + 1) (by omega) (by omega), Int.emod_eq_of_lt (a := n) (by omega) (by omega), Int.emod_eq_of_lt (a := 1) (by omega) (by omega), Int.add_mul, Int.one_mul]
 omega
theorem hand_sum {m : MvT} (hm : MoveOk r p m) (o : Int) : (sumF (heldK o) (hand2 r p m) 0) % 18446744073709551616 =
  (sumF (heldK o) (handT p) 0 - (if m.1 < 0 then heldK o m.2.2 1 else 0) + (if gD 0 p.1 m.2.1 ≠ 0 ∧ r.2.2.2.2.2.2.1 = true ∧ gD 0 (handT p) (kindI (gD 0 p.1 m.2.1)) < 1000 then heldK o (kindI (gD 0 p.1 m.2.1)) 1 else 0)) % 18446744073709551616 := by
 have hll := len_le hr hp
 have hto := hm.to
 have hpi := hm.piece
 have hh := hand_ok hr hp
 have hcc := cell_ok hp hto
 by_cases hs : m.1 < 0
 ·have hz : gD 0 p.1 m.2.1 = 0 ∧ 0 < gD 0 (handT p) m.2.2 := by
   rcases hm.src with h | h
   ·exact h.2
   ·omega
  have hb := gD_ok hh hpi.1 (by omega)
  have e2 : hand2 r p m = (handT p).set m.2.2.toNat (gD 0 (handT p) m.2.2 - 1) := by
   unfold hand2 hand1
   rw [if_neg (fun h => h.1 hz.1), if_pos hs]
  rw [e2, if_pos hs, if_neg (fun h => h.1 hz.1), sumF_set' _ _ _ _ hpi.1 (by omega)]
  have := held_add hr hp (o := o) (k := m.2.2) (n := gD 0 (handT p) m.2.2 - 1) (by omega)
  rw [show gD 0 (handT p) m.2.2 - 1 + 1 = gD 0 (handT p) m.2.2 by omega] at this
  omega
 ·rw [if_neg hs]
  by_cases hc : gD 0 p.1 m.2.1 ≠ 0 ∧ r.2.2.2.2.2.2.1 = true
  ·have hkk := kind_lt (k := (r.2.2.2.1).length) (show 1 ≤ gD 0 p.1 m.2.1 by omega) hcc.2
   have hb := gD_ok hh hkk.1 (by omega)
   by_cases h1 : gD 0 (handT p) (kindI (gD 0 p.1 m.2.1)) < 1000
   ·have e2 : hand2 r p m = (handT p).set (kindI (gD 0 p.1 m.2.1)).toNat (gD 0 (handT p) (kindI (gD 0 p.1 m.2.1)) + 1) := by
     unfold hand2 hand1
     rw [if_neg hs, if_pos hc, if_neg (by omega)]
    rw [e2, if_pos ⟨hc.1, hc.2, h1⟩, sumF_set' _ _ _ _ hkk.1 (by omega)]
    have := held_add hr hp (o := o) (k := kindI (gD 0 p.1 m.2.1)) hb
    omega
   ·have e2 : hand2 r p m = (handT p).set (kindI (gD 0 p.1 m.2.1)).toNat 1000 := by
     unfold hand2 hand1
     rw [if_neg hs, if_pos hc, if_pos (by omega)]
    rw [e2, if_neg (fun h => h1 h.2.2), sumF_set' _ _ _ _ hkk.1 (by omega), show gD 0 (handT p) (kindI (gD 0 p.1 m.2.1)) = 1000 by omega]
    omega
  ·have e2 : hand2 r p m = handT p := by
    unfold hand2 hand1
    rw [if_neg hc, if_neg hs]
   rw [e2, if_neg (fun h => hc ⟨h.1, h.2.1⟩)]
   omega
theorem key_do {m : MvT} (hm : MoveOk r p m) : U (keyS (doI r p m)) = nextI r p m (U (keyS p)) := by
 have hll := len_le hr hp
 have hl := hp.len
 have hto := hm.to
 have hpi := hm.piece
 have hlast := hp.last.1
 have hcc := cell_ok hp hto
 have hcells : sumF sqK (cells2 p m) 0 = sumF sqK p.1 0 - (if m.1 < 0 then 0 else sqK m.1 (gD 0 p.1 m.1)) - sqK m.2.1 (gD 0 p.1 m.2.1) + sqK m.2.1 (2 * m.2.2 + p.2.2.1 + 1) := by
  unfold cells2
  by_cases hs : m.1 < 0
  ·rw [if_pos hs, if_pos hs, sumF_set' _ _ _ _ hto.1 (by omega)]
   omega
  ·have hsrc : 0 ≤ m.1 ∧ m.1 < r.2.1 * r.2.2.1 ∧ ownI (gD 0 p.1 m.1) = p.2.2.1 := by
    rcases hm.src with h | h
    ·omega
    ·exact h
   have hne : m.1 ≠ m.2.1 := fun e => hm.own (by rw [← e]; exact hsrc.2.2)
   have hg : gD 0 (p.1.set m.1.toNat 0) m.2.1 = gD 0 p.1 m.2.1 := by
    obtain ⟨a, ha⟩ : ∃ a : Nat, m.1 = a := ⟨m.1.toNat, by omega⟩
    obtain ⟨b, hb⟩ : ∃ b : Nat, m.2.1 = b := ⟨m.2.1.toNat, by omega⟩
    rw [ha, hb, gD_nat (by rw [List.length_set]; omega), gD_nat (by omega), Int.toNat_natCast, List.getElem_set_ne (by omega)]
   rw [if_neg hs, if_neg hs, sumF_set' _ _ _ _ hto.1 (by rw [List.length_set]; omega), hg, sumF_set' _ _ _ _ hsrc.1 (by omega), show sqK m.1 0 = 0 by unfold sqK; rw [if_pos rfl]]
   omega
 have hh := hand_sum hr hp hm (p.2.2.1)
 unfold nextI keyS doI setH
 dsimp only
 rw [hcells]
 simp only [U_eq]
 rcases hlast with ht | ht
 ·have hT : handT p = p.2.1.1 := by unfold handT; rw [if_pos ht]
  rw [hT] at hh ⊢
  rw [if_pos ht]
  rw [ht] at hh ⊢
  dsimp only
  by_cases hs : m.1 < 0
  ·simp only [if_pos hs] at hh ⊢
   split at hh
   ·rename_i hx; rw [if_pos hx]; omega
   ·rename_i hx; rw [if_neg hx]; omega
  ·simp only [if_neg hs] at hh ⊢
   split at hh
   ·rename_i hx; rw [if_pos hx]; omega
   ·rename_i hx; rw [if_neg hx]; omega
 ·have h01 : ¬ p.2.2.1 = 0 := by omega
  have hT : handT p = p.2.1.2 := by unfold handT; rw [if_neg h01]
  rw [hT] at hh ⊢
  rw [if_neg h01]
  rw [ht] at hh ⊢
  dsimp only
  by_cases hs : m.1 < 0
  ·simp only [if_pos hs] at hh ⊢
   split at hh
   ·rename_i hx; rw [if_pos hx]; omega
   ·rename_i hx; rw [if_neg hx]; omega
  ·simp only [if_neg hs] at hh ⊢
   split at hh
   ·rename_i hx; rw [if_pos hx]; omega
   ·rename_i hx; rw [if_neg hx]; omega
end
end Go.Proofs.Ytpielijehhhobaa.Am
