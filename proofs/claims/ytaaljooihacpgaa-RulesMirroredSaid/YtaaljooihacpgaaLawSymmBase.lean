/- Plain: the symmetries of a board, at numbers. -/
import Derived.Test.YtaaljooihacpgaaLawFine
set_option linter.unusedVariables false
set_option linter.unusedSimpArgs false
namespace Go.Proofs.Ytaaljooihacpgaa.Am
open Go

def many (w h : Nat) : Nat := bif Nat.beq w h then 8 else 4
def bt1 (s k : Nat) : Bool := Nat.beq ((s >>> k) % 2) 1
/-- where a square goes -/
def img (w h s q : Nat) : Nat :=
  let x := q % w
  let y := q / w
  let x1 := bif bt1 s 2 then y else x
  let y1 := bif bt1 s 2 then x else y
  let x2 := bif bt1 s 0 then w - 1 - x1 else x1
  let y2 := bif bt1 s 1 then h - 1 - y1 else y1
  y2 * w + x2
def swapB (b : Nat) : Nat := (b / 4) * 4 + (b % 2) * 2 + (b / 2) % 2
def cmpS (a b : Nat) : Nat := bif Nat.ble 4 a then Nat.xor a (swapB b) else Nat.xor a b
def invS (a : Nat) : Nat := bif Nat.ble 4 a then swapB a else a

def boards (f : Nat → Nat → Bool) : Bool := (List.range 8).all fun i => (List.range 8).all fun j => f (i + 1) (j + 1)
theorem boards_at {f : Nat → Nat → Bool} (hf : boards f = true) {w h : Nat} (hb : 1 ≤ w ∧ w ≤ 8 ∧ 1 ≤ h ∧ h ≤ 8) : f w h = true := by
  have := List.all_eq_true.1 hf (w - 1) (List.mem_range.2 (by omega))
  have := List.all_eq_true.1 this (h - 1) (List.mem_range.2 (by omega))
  rw [show w - 1 + 1 = w by omega, show h - 1 + 1 = h by omega] at this
  exact this
def upto (n : Nat) (f : Nat → Bool) : Bool := (List.range n).all f
theorem upto_at {n : Nat} {f : Nat → Bool} (hf : upto n f = true) {i : Nat} (hi : i < n) : f i = true := List.all_eq_true.1 hf i (List.mem_range.2 hi)

theorem blt_lt {a b : Nat} (h : Nat.blt a b = true) : a < b := Nat.le_of_ble_eq_true h

theorem image_all : boards (fun w h => upto (many w h) fun s => upto (w * h) fun q => symm_image 1000 w h s q == some ((img w h s q : Nat) : Int)) = true := by decide +kernel
theorem check_all : boards (fun w h => upto (many w h) fun s => symm_check 1000 w h s == some 0) = true := by decide +kernel
theorem group_all : boards (fun w h => upto (many w h) fun a => Nat.blt (invS a) (many w h) && upto (many w h) fun b => Nat.blt (cmpS a b) (many w h) && upto (w * h) fun q => Nat.beq (img w h a (img w h b q)) (img w h (cmpS a b) q)) = true := by decide +kernel
theorem inv_all : boards (fun w h => upto (many w h) fun a => upto (w * h) fun q => Nat.beq (img w h (invS a) (img w h a q)) q && Nat.blt (img w h a q) (w * h)) = true := by decide +kernel

theorem check_bad {N : Nat} {w h : Int} (hb : ¬ (1 ≤ w ∧ w ≤ 8 ∧ 1 ≤ h ∧ h ≤ 8)) : symm_Check N w h = some 4 := by
  simp only [symm_Check, symm_Check.e, ltI, Bool.cond_decide]
  repeat' split
  all_goals first | rfl | omega
theorem check_good {N : Nat} {w h : Int} (hb : 1 ≤ w ∧ w ≤ 8 ∧ 1 ≤ h ∧ h ≤ 8) : symm_Check N w h = some 0 := by
  simp only [symm_Check, symm_Check.e, ltI, Bool.cond_decide]
  repeat' split
  all_goals first | rfl | omega
theorem many_eq {N : Nat} {w h : Nat} : symm_many N w h = some ((many w h : Nat) : Int) := by
  simp only [symm_many, symm_many.e, many]
  by_cases he : w = h
  · subst he
    rw [bif_t (eqI_t rfl), bif_t (Nat.beq_refl w)]; rfl
  · rw [bif_f (eqI_f (by omega)), bif_f (by
      cases hb : Nat.beq w h with
      | false => rfl
      | true => exact absurd (Nat.eq_of_beq_eq_true hb) he)]; rfl
/-- the board and the symmetry are good -/
structure Good (w h s : Int) : Prop where
  b : 1 ≤ w ∧ w ≤ 8 ∧ 1 ≤ h ∧ h ≤ 8
  s0 : 0 ≤ s
  s1 : s < (many w.toNat h.toNat : Nat)
theorem symm_check_iff {N : Nat} {w h s : Int} : ∃ e, symm_check N w h s = some e ∧ (e = 0 ↔ Good w h s) := by
  by_cases hb : 1 ≤ w ∧ w ≤ 8 ∧ 1 ≤ h ∧ h ≤ 8
  · have hw : ((w.toNat : Nat) : Int) = w := by omega
    have hh : ((h.toNat : Nat) : Int) = h := by omega
    have hm : symm_many N w h = some ((many w.toNat h.toNat : Nat) : Int) := by
      have := many_eq (N := N) (w := w.toNat) (h := h.toNat)
      rw [hw, hh] at this
      exact this
    simp only [symm_check, symm_check.e, check_good hb, hm, Option.bind]
    rw [bif_f (by rfl)]
    by_cases h0 : s < 0
    · rw [bif_t (ltI_t h0)]
      exact ⟨8, rfl, fun h => (by cases h), fun h => by have := h.s0; omega⟩
    · rw [bif_f (ltI_f (by omega))]
      by_cases h1 : s < (many w.toNat h.toNat : Nat)
      · rw [bif_f (leI_f h1)]
        exact ⟨0, rfl, fun _ => ⟨hb, by omega, h1⟩, fun _ => rfl⟩
      · rw [bif_t (leI_t (by omega))]
        exact ⟨8, rfl, fun h => (by cases h), fun h => absurd h.s1 h1⟩
  · simp only [symm_check, symm_check.e, check_bad hb, Option.bind]
    exact ⟨4, rfl, fun h => (by cases h), fun h => absurd h.b hb⟩
theorem symm_check_good {N : Nat} {w h s : Int} (hg : Good w h s) : symm_check N w h s = some 0 := by
  obtain ⟨e, h1, h2⟩ := symm_check_iff (N := N) (w := w) (h := h) (s := s)
  rw [h1, h2.2 hg]
theorem Good.nat {w h s : Int} (hg : Good w h s) : ∃ w' h' s' : Nat, w = w' ∧ h = h' ∧ s = s' ∧ 1 ≤ w' ∧ w' ≤ 8 ∧ 1 ≤ h' ∧ h' ≤ 8 ∧ s' < many w' h' := by
  obtain ⟨⟨h1, h2, h3, h4⟩, h5, h6⟩ := hg
  refine ⟨w.toNat, h.toNat, s.toNat, by omega, by omega, by omega, by omega, by omega, by omega, by omega, ?_⟩
  omega
theorem Good.of {w h s : Nat} (hb : 1 ≤ w ∧ w ≤ 8 ∧ 1 ≤ h ∧ h ≤ 8) (hs : s < many w h) : Good w h s := ⟨by omega, by omega, by simpa using hs⟩
theorem area_le {w h : Nat} (hb : 1 ≤ w ∧ w ≤ 8 ∧ 1 ≤ h ∧ h ≤ 8) : w * h ≤ 64 := Nat.le_trans (Nat.mul_le_mul hb.2.1 hb.2.2.2) (by decide)
theorem image_eq {w h s q : Nat} (hb : 1 ≤ w ∧ w ≤ 8 ∧ 1 ≤ h ∧ h ≤ 8) (hs : s < many w h) (hq : q < w * h) : symm_image 1000 w h s q = some ((img w h s q : Nat) : Int) := by
  have := upto_at (upto_at (boards_at image_all hb) hs) hq
  simpa using this
theorem inv_eq {w h a q : Nat} (hb : 1 ≤ w ∧ w ≤ 8 ∧ 1 ≤ h ∧ h ≤ 8) (hs : a < many w h) (hq : q < w * h) : img w h (invS a) (img w h a q) = q ∧ img w h a q < w * h := by
  have := upto_at (upto_at (boards_at inv_all hb) hs) hq
  simp only [Bool.and_eq_true] at this
  exact ⟨Nat.eq_of_beq_eq_true this.1, blt_lt this.2⟩
theorem group_eq {w h a b : Nat} (hb : 1 ≤ w ∧ w ≤ 8 ∧ 1 ≤ h ∧ h ≤ 8) (ha : a < many w h) (hbb : b < many w h) : invS a < many w h ∧ cmpS a b < many w h ∧ ∀ q, q < w * h → img w h a (img w h b q) = img w h (cmpS a b) q := by
  have := upto_at (boards_at group_all hb) ha
  simp only [Bool.and_eq_true] at this
  obtain ⟨h1, h2⟩ := this
  have := upto_at h2 hbb
  simp only [Bool.and_eq_true] at this
  exact ⟨blt_lt h1, blt_lt this.1, fun q hq => Nat.eq_of_beq_eq_true (upto_at this.2 hq)⟩
theorem map_good {w h s q : Nat} (hb : 1 ≤ w ∧ w ≤ 8 ∧ 1 ≤ h ∧ h ≤ 8) (hs : s < many w h) (hq : q < w * h) : symm_Map 1000 w h s q = some (((img w h s q : Nat) : Int), 0) := by
  have ha := area_le hb
  have hc : (w : Int) * (h : Int) = ((w * h : Nat) : Int) := by simp
  simp only [symm_Map, symm_Map.e, symm_check_good (Good.of hb hs), Option.bind]
  rw [bif_f (by rfl), bif_f (ltI_f (by omega)), hc, w64_id (by omega) (by omega), bif_f (leI_f (by omega)), image_eq hb hs hq]
theorem map_out {w h s : Nat} {q : Int} (hb : 1 ≤ w ∧ w ≤ 8 ∧ 1 ≤ h ∧ h ≤ 8) (hs : s < many w h) (hq : ¬ (0 ≤ q ∧ q < (w * h : Nat))) : symm_Map 1000 w h s q = some (0, 4) := by
  have ha := area_le hb
  have hc : (w : Int) * (h : Int) = ((w * h : Nat) : Int) := by simp
  simp only [symm_Map, symm_Map.e, symm_check_good (Good.of hb hs), Option.bind]
  rw [bif_f (by rfl)]
  by_cases h0 : q < 0
  · rw [bif_t (ltI_t h0)]
  · rw [bif_f (ltI_f (by omega)), hc, w64_id (by omega) (by omega), bif_t (leI_t (by omega))]
end Go.Proofs.Ytaaljooihacpgaa.Am
