/- Plain: is a move in a list of moves? -/
import Derived.Test.YtpielijehhhobaaLawDof
set_option linter.unusedVariables false
set_option linter.unusedSimpArgs false
set_option linter.unusedSectionVars false
namespace Go.Proofs.Ytpielijehhhobaa.Am
open Go
theorem index_l0 (N : Nat) (l : List MvT) (v : MvT) (hl : l.length ≤ 100000) : ∀ (k j n : Nat), j + k = l.length → k < n → Ret (Q86.l0 N l v n (j : Int)) fun i => 0 ≤ i ↔ v ∈ l.drop j
 | 0, j, n, hk, hn => by
  obtain ⟨n, rfl⟩ := nxt (n := n) (by omega)
  rw [Q86.l0_s, Q86.s0, bif_f (ltI_f (by omega)), List.drop_of_length_le (by omega)]
  exact Ret.ret (by simp)
 | k + 1, j, n, hk, hn => by
  obtain ⟨n, rfl⟩ := nxt (n := n) (by omega)
  have hj : j < l.length := by omega
  have ih := index_l0 N l v hl k (j + 1) n (by omega) (by omega)
  rw [Q86.l0_s, Q86.s0, bif_t (ltI_t (by omega)), chk_of (idx_ok hj), gD_nat hj, mv_eq, w64_id (by omega) (by omega), show ((j : Int) + 1) = ((j + 1 : Nat) : Int) by omega, List.drop_eq_getElem_cons hj, List.mem_cons]
  by_cases h : v = l[j]
  ·rw [bif_t (by simpa using h)]
   exact Ret.ret ⟨fun _ => Or.inl h, fun _ => by omega⟩
  ·rw [bif_f (by simpa using h)]
   exact ih.mono fun i hi => hi.trans ⟨Or.inr, fun h' => h'.resolve_left h⟩
theorem contains_eq {N : Nat} (l : List MvT) (v : MvT) (hl : l.length ≤ 100000) (hN : 200000 ≤ N) : Q60 N l v = some (decide (v ∈ l)) := by
 unfold Q60 Q60.e Q86 Q86.e
 obtain ⟨i, h1, h2⟩ := index_l0 N l v hl l.length 0 N (by omega) (by omega)
 rw [List.drop_zero] at h2
 rw [show ((0 : Nat) : Int) = 0 from rfl] at h1
 rw [h1, Option.bind_some]
 by_cases h : v ∈ l
 ·rw [leI_t (h2.2 h), decide_eq_true h]
 ·rw [leI_f (by have := mt h2.1 h; omega), decide_eq_false h]
end Go.Proofs.Ytpielijehhhobaa.Am
