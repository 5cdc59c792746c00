/- Plain: no error occurred. -/
import Derived.Test.YtpielijehhhobaaFnr1
import Derived.Test.YtpielijehhhobaaAm16
set_option linter.unusedVariables false
set_option linter.unusedSimpArgs false
namespace Go.Proofs.Ytpielijehhhobaa.Am
open Go
theorem index_loop (N : Nat) (s : List Int) (hs : s.length < 4611686018427387904) : ∀ (k j n : Nat), j + k = s.length → k < n →
  ∃ r, Q73.l0 N s n (j : Int) = some r ∧ (0 ≤ r ↔ ∃ x ∈ s.drop j, x ≠ 0)
 | 0, j, n + 1, hk, hn => by
  refine ⟨-1, ?_, ?_⟩
  ·simp only [Q73.l0_s, Q73.s0]
   rw [bif_f (ltI_f (by omega))]
  ·have : s.drop j = [] := by rw [List.drop_eq_nil_iff]; omega
   simp [this]
 | k + 1, j, n + 1, hk, hn => by
  have hj : j < s.length := by omega
  have hd : s.drop j = s[j] :: s.drop (j + 1) := List.drop_eq_getElem_cons hj
  simp only [Q73.l0_s, Q73.s0, Q44, Q44.e, Option.bind]
  rw [bif_t (ltI_t (by omega)), chk_of (idx_ok hj), gD_nat hj]
  by_cases h0 : s[j] = 0
  ·rw [bif_f (by simp [eqI, h0])]
   obtain ⟨r, h1, h2⟩ := index_loop N s hs k (j + 1) n (by omega) (by omega)
   rw [w64_id (by omega) (by omega)]
   refine ⟨r, by exact_mod_cast h1, ?_⟩
   rw [h2, hd]
   simp [h0]
  ·rw [bif_t (by simp [eqI, h0])]
   refine ⟨_, rfl, ?_⟩
   exact ⟨fun _ => ⟨s[j], by rw [hd]; exact List.mem_cons_self .., h0⟩, fun _ => by omega⟩
theorem fine_eq {N : Nat} {l : List Int} (hs : l.length < 4611686018427387904) (hN : l.length < N) : Q21 N l = some (decide (∀ x ∈ l, x = 0)) := by
 obtain ⟨r, h1, h2⟩ := index_loop N l hs l.length 0 N (by omega) hN
 simp only [Q21, Q21.e, Q43, Q43.e, Q73, Q73.e]
 have h1' : Q73.l0 N l N 0 = some r := by exact_mod_cast h1
 simp only [h1', Option.bind, Option.some.injEq]
 rw [List.drop_zero] at h2
 by_cases h : ∀ x ∈ l, x = 0
 ·have : ¬ 0 ≤ r := fun h3 => by obtain ⟨x, hx, h4⟩ := h2.1 h3; exact h4 (h x hx)
  rw [leI_f (by omega), decide_eq_true h]; rfl
 ·have : 0 ≤ r := h2.2 (by
   by_cases h5 : ∃ x ∈ l, x ≠ 0
   ·exact h5
   ·exact absurd (fun x hx => by by_cases h6 : x = 0; exact h6; exact absurd ⟨x, hx, h6⟩ h5) h)
  rw [leI_t this, decide_eq_false h]; rfl
end Go.Proofs.Ytpielijehhhobaa.Am
