/- Plain: the game that rules make: values of positions to a depth. -/
import Derived.Test.YtpielijehhhobaaLawRes0r
set_option linter.unusedVariables false
set_option linter.unusedSimpArgs false
set_option linter.unusedSectionVars false
namespace Go.Proofs.Ytpielijehhhobaa.Am
open Go
def mx (a b : Int) : Int := bif ltI a b then b else a
theorem mx_eq (a b : Int) : (a < b ∧ mx a b = b) ∨ (b ≤ a ∧ mx a b = a) := by
 unfold mx
 by_cases h : a < b
 ·rw [bif_t (ltI_t h)]; exact Or.inl ⟨h, rfl⟩
 ·rw [bif_f (ltI_f (by omega))]; exact Or.inr ⟨by omega, rfl⟩
def foldMax (b : Int) (l : List Int) : Int := l.foldl mx b
theorem foldMax_spec : ∀ (l : List Int) (b : Int), b ≤ foldMax b l ∧ (∀ x ∈ l, x ≤ foldMax b l) ∧ (foldMax b l = b ∨ foldMax b l ∈ l)
 | [], b => ⟨Int.le_refl _, by simp, Or.inl rfl⟩
 | a :: l, b => by
  have ih := foldMax_spec l (mx b a)
  have hm := mx_eq b a
  have e : foldMax b (a :: l) = foldMax (mx b a) l := rfl
  rw [e]
  refine ⟨by omega, ?_, ?_⟩
  ·intro x hx
   rcases List.mem_cons.1 hx with rfl | hx
   ·omega
   ·exact ih.2.1 x hx
  ·rcases ih.2.2 with h | h
   ·rw [h]
    rcases hm with ⟨_, h2⟩ | ⟨_, h2⟩
    ·rw [h2]; exact Or.inr (List.mem_cons_self ..)
    ·exact Or.inl h2
   ·exact Or.inr (List.mem_cons_of_mem _ h)
theorem foldMax_ext {l l' : List Int} (b : Int) (h : ∀ x, x ∈ l ↔ x ∈ l') : foldMax b l = foldMax b l' := by
 have h1 := foldMax_spec l b
 have h2 := foldMax_spec l' b
 apply Int.le_antisymm
 ·rcases h1.2.2 with e | e
  ·rw [e]; exact h2.1
  ·exact h2.2.1 _ ((h _).1 e)
 ·rcases h2.2.2 with e | e
  ·rw [e]; exact h1.1
  ·exact h1.2.1 _ ((h _).2 e)
def near (n : Int) : Int := if 0 < n then n - 1 else if n < 0 then n + 1 else 0
theorem near_cases (n : Int) : (0 < n ∧ near n = n - 1) ∨ (n < 0 ∧ near n = n + 1) ∨ (n = 0 ∧ near n = 0) := by
 unfold near
 by_cases h : 0 < n
 ·rw [if_pos h]; exact Or.inl ⟨h, rfl⟩
 ·rw [if_neg h]
  by_cases h2 : n < 0
  ·rw [if_pos h2]; exact Or.inr (Or.inl ⟨h2, rfl⟩)
  ·rw [if_neg h2]; exact Or.inr (Or.inr ⟨by omega, rfl⟩)
def scoreV (x t : Int) : Int := if x = 1 + t then 1000 else if x = 2 - t then -1000 else 0
def val (r : RulesT) : Nat → PosT → Int
 | 0, p => if resV r p ≠ 0 then scoreV (resV r p) (p.2.2.1) else 0
 | d + 1, p => if resV r p ≠ 0 then scoreV (resV r p) (p.2.2.1) else foldMax (-1000) ((cand r p).map fun m => near (-(val r d (doI r p m))))
section
variable {r : RulesT} (hr : ROk r)
include hr
theorem cand_ne {p : PosT} (hp : POk r p) (h : resV r p = 0) : cand r p ≠ [] := by
 intro e
 have := (res_range hr hp (!(cand r p).isEmpty) (r.2.2.2.2.2.2.2.1)).2.2 h
 rw [e] at this
 cases this
theorem score_cases (x t : Int) : scoreV x t = 1000 ∨ scoreV x t = -1000 ∨ scoreV x t = 0 := by
 unfold scoreV
 split
 ·exact Or.inl rfl
 ·split
  ·exact Or.inr (Or.inl rfl)
  ·exact Or.inr (Or.inr rfl)
theorem val_over {p : PosT} (h : resV r p ≠ 0) : ∀ d, val r d p = scoreV (resV r p) (p.2.2.1)
 | 0 => by unfold val; rw [if_pos h]
 | d + 1 => by unfold val; rw [if_pos h]
theorem val_open {p : PosT} (h : resV r p = 0) (d : Nat) : val r (d + 1) p = foldMax (-1000) ((cand r p).map fun m => near (-(val r d (doI r p m)))) := by
 conv => lhs; unfold val
 rw [if_neg (by simp [h])]
theorem val_bound : ∀ (d : Nat), d ≤ 900 → ∀ {p : PosT}, POk r p → val r d p = 0 ∨ (1000 - (d : Int) ≤ val r d p ∧ val r d p ≤ 1000) ∨ (-1000 ≤ val r d p ∧ val r d p ≤ -(1000 - (d : Int)))
 | 0, _, p, hp => by
  unfold val
  split
  ·have := score_cases hr (resV r p) (p.2.2.1); omega
  ·exact Or.inl rfl
 | d + 1, hd, p, hp => by
  by_cases h : resV r p ≠ 0
  ·rw [val_over hr h]
   have := score_cases hr (resV r p) (p.2.2.1); omega
  ·have h : resV r p = 0 := by omega
   rw [val_open hr h]
   have hs := foldMax_spec ((cand r p).map fun m => near (-(val r d (doI r p m)))) (-1000)
   have hne := cand_ne hr hp h
   have each : ∀ m ∈ cand r p, near (-(val r d (doI r p m))) = 0 ∨ (1000 - ((d + 1 : Nat) : Int) ≤ near (-(val r d (doI r p m))) ∧ near (-(val r d (doI r p m))) ≤ 999) ∨ (-999 ≤ near (-(val r d (doI r p m))) ∧ near (-(val r d (doI r p m))) ≤ -(1000 - ((d + 1 : Nat) : Int))) := fun m hm => by
    have ih := val_bound d (by omega) (do_ok hr hp (cand_ok hr hp hm))
    have hn := near_cases (-(val r d (doI r p m)))
    omega
   rcases hs.2.2 with e | e
   ·exfalso
    cases hc : cand r p with
    | nil => exact hne hc
    | cons m l =>
     have := each m (by rw [hc]; exact List.mem_cons_self ..)
     have := hs.2.1 _ (List.mem_map.2 ⟨m, by rw [hc]; exact List.mem_cons_self .., rfl⟩)
     omega
   ·obtain ⟨m, hm, hme⟩ := List.mem_map.1 e
    have := each m hm
    rw [hme] at this
    omega
theorem val_next : ∀ (d : Nat), d ≤ 800 → ∀ {p : PosT}, POk r p → (val r d p ≠ 0 → val r (d + 1) p = val r d p) ∧ (val r d p = 0 → -(1000 - ((d + 1 : Nat) : Int)) ≤ val r (d + 1) p ∧ val r (d + 1) p ≤ 1000 - ((d + 1 : Nat) : Int))
 | d, hd, p, hp => by
  by_cases h : resV r p ≠ 0
  ·rw [val_over hr h, val_over hr h]
   exact ⟨fun _ => rfl, fun h0 => by rw [h0]; omega⟩
  ·have h : resV r p = 0 := by omega
   have hs1 := foldMax_spec ((cand r p).map fun m => near (-(val r d (doI r p m)))) (-1000)
   have hne := cand_ne hr hp h
   rw [val_open hr h d]
   cases d with
   | zero =>
    have h0 : val r 0 p = 0 := by unfold val; rw [if_neg (by simp [h])]
    refine ⟨fun h1 => absurd h0 h1, fun _ => ?_⟩
    have each : ∀ m ∈ cand r p, -999 ≤ near (-(val r 0 (doI r p m))) ∧ near (-(val r 0 (doI r p m))) ≤ 999 := fun m hm => by
     have ih := val_bound hr 0 (by omega) (do_ok hr hp (cand_ok hr hp hm))
     have hn := near_cases (-(val r 0 (doI r p m)))
     omega
    rcases hs1.2.2 with e | e
    ·cases hc : cand r p with
     | nil => exact absurd hc hne
     | cons m l =>
      have := each m (by rw [hc]; exact List.mem_cons_self ..)
      have := hs1.2.1 _ (List.mem_map.2 ⟨m, by rw [hc]; exact List.mem_cons_self .., rfl⟩)
      omega
    ·obtain ⟨m, hm, hme⟩ := List.mem_map.1 e
     have := each m hm
     rw [hme] at this
     omega
   | succ d =>
    have hs0 := foldMax_spec ((cand r p).map fun m => near (-(val r d (doI r p m)))) (-1000)
    rw [val_open hr h d]
    have ihm : ∀ m ∈ cand r p, (val r d (doI r p m) ≠ 0 → val r (d + 1) (doI r p m) = val r d (doI r p m)) ∧ (val r d (doI r p m) = 0 → -(1000 - ((d + 1 : Nat) : Int)) ≤ val r (d + 1) (doI r p m) ∧ val r (d + 1) (doI r p m) ≤ 1000 - ((d + 1 : Nat) : Int)) := fun m hm => val_next d (by omega) (do_ok hr hp (cand_ok hr hp hm))
    have bnd : ∀ m ∈ cand r p, val r d (doI r p m) = 0 ∨ (1000 - (d : Int) ≤ val r d (doI r p m) ∧ val r d (doI r p m) ≤ 1000) ∨ (-1000 ≤ val r d (doI r p m) ∧ val r d (doI r p m) ≤ -(1000 - (d : Int))) := fun m hm => val_bound hr d (by omega) (do_ok hr hp (cand_ok hr hp hm))
    generalize hV0 : foldMax (-1000) ((cand r p).map fun m => near (-(val r d (doI r p m)))) = V0 at *
    generalize hV1 : foldMax (-1000) ((cand r p).map fun m => near (-(val r (d + 1) (doI r p m)))) = V1 at *
    have ub0 : ∀ m ∈ cand r p, near (-(val r d (doI r p m))) ≤ V0 := fun m hm => hs0.2.1 _ (List.mem_map.2 ⟨m, hm, rfl⟩)
    have ub1 : ∀ m ∈ cand r p, near (-(val r (d + 1) (doI r p m))) ≤ V1 := fun m hm => hs1.2.1 _ (List.mem_map.2 ⟨m, hm, rfl⟩)
    obtain ⟨m0, hm0⟩ : ∃ m, m ∈ cand r p := by
     cases hc : cand r p with
     | nil => exact absurd hc hne
     | cons m l => exact ⟨m, List.mem_cons_self ..⟩
    have at0 : ∃ m ∈ cand r p, near (-(val r d (doI r p m))) = V0 := by
     rcases hs0.2.2 with e | e
     ·exfalso
      have := ub0 m0 hm0
      have := bnd m0 hm0
      have := near_cases (-(val r d (doI r p m0)))
      omega
     ·obtain ⟨m, hm, hme⟩ := List.mem_map.1 e
      exact ⟨m, hm, hme⟩
    have at1 : ∃ m ∈ cand r p, near (-(val r (d + 1) (doI r p m))) = V1 := by
     rcases hs1.2.2 with e | e
     ·exfalso
      have := ub1 m0 hm0
      have := bnd m0 hm0
      have := ihm m0 hm0
      have := near_cases (-(val r (d + 1) (doI r p m0)))
      omega
     ·obtain ⟨m, hm, hme⟩ := List.mem_map.1 e
      exact ⟨m, hm, hme⟩
    obtain ⟨a, ha, hae⟩ := at0
    obtain ⟨b, hb, hbe⟩ := at1
    have a1 := bnd a ha
    have a2 := ihm a ha
    have a3 := near_cases (-(val r d (doI r p a)))
    have a4 := near_cases (-(val r (d + 1) (doI r p a)))
    have a5 := ub1 a ha
    have b1 := bnd b hb
    have b2 := ihm b hb
    have b3 := near_cases (-(val r d (doI r p b)))
    have b4 := near_cases (-(val r (d + 1) (doI r p b)))
    have b5 := ub0 b hb
    have cast1 : ((d + 1 : Nat) : Int) = (d : Int) + 1 := by omega
    have cast2 : ((d + 1 + 1 : Nat) : Int) = (d : Int) + 2 := by omega
    rw [cast1] at a2 b2
    rw [cast2]
    generalize val r (d + 1) (doI r p a) = xa' at *
    generalize val r d (doI r p a) = xa at *
    generalize val r (d + 1) (doI r p b) = xb' at *
    generalize val r d (doI r p b) = xb at *
    clear hs0 hs1 ub0 ub1 ihm bnd hV0 hV1
    constructor
    ·intro h0
     by_cases ea : xa = 0
     ·omega
     ·have := a2.1 ea
      by_cases eb : xb = 0
      ·have := b2.2 eb
       omega
      ·have := b2.1 eb
       omega
    ·intro h0
     by_cases ea : xa = 0
     ·have := a2.2 ea
      by_cases eb : xb = 0
      ·have := b2.2 eb
       omega
      ·have := b2.1 eb
       omega
     ·have := a2.1 ea
      omega
theorem val_deeper (k : Nat) : ∀ (d : Nat), d + k ≤ 800 → ∀ {p : PosT}, POk r p → val r d p ≠ 0 → val r (d + k) p = val r d p := by
 induction k with
 | zero => intro d _ p _ _; rfl
 | succ k ih =>
  intro d hd p hp h
  have h1 := ih d (by omega) hp h
  have h2 := (val_next hr (d + k) (by omega) hp).1 (by rw [h1]; exact h)
  rw [show d + (k + 1) = d + k + 1 by omega, h2, h1]
end
end Go.Proofs.Ytpielijehhhobaa.Am
