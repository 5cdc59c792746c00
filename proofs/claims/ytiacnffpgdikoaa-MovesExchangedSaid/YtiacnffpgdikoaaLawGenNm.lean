/- Plain: the moves of a position come in order, and none twice. -/
import Derived.Test.YtiacnffpgdikoaaLawSortDm
import Derived.Test.YtiacnffpgdikoaaLawGenm
set_option linter.unusedVariables false
set_option linter.unusedSimpArgs false
set_option linter.unusedSectionVars false
namespace Go.Proofs.Ytiacnffpgdikoaa.Am
open Go

theorem Sd.pairwise {l : List MvT} (h : Sd 0 (l.length : Int) l) : l.Pairwise leM := by
  rw [List.pairwise_iff_getElem]
  intro i j hi hj hij
  have := h (i : Int) (j : Int) (by omega) (by omega) (by omega)
  rwa [gD_nat hi, gD_nat hj] at this
theorem dedA_sub : ∀ l : List MvT, (dedA l).Sublist l
  | [] => List.Sublist.refl _
  | [a] => List.Sublist.refl _
  | a :: b :: l => by
    have ih := dedA_sub (b :: l)
    unfold dedA
    by_cases h : a = b
    · rw [if_pos h]; exact ih.cons a
    · rw [if_neg h]; exact ih.cons_cons a
theorem dedA_nodup : ∀ l : List MvT, l.Pairwise leM → (dedA l).Nodup
  | [], _ => List.nodup_nil
  | [a], _ => by simp [dedA]
  | a :: b :: l, h => by
    have h1 := List.pairwise_cons.1 h
    have ih := dedA_nodup (b :: l) h1.2
    unfold dedA
    by_cases e : a = b
    · rw [if_pos e]; exact ih
    · rw [if_neg e]
      refine List.nodup_cons.2 ⟨fun hm => ?_, ih⟩
      have hm : a ∈ b :: l := (mem_dedA _).1 hm
      rcases List.mem_cons.1 hm with e2 | hm
      · exact e e2
      · exact e (leM.anti (h1.1 b (List.mem_cons_self ..)) ((List.pairwise_cons.1 h1.2).1 a hm))
section
variable {r : RulesT} (hr : ROk r) {p : PosT} (hp : POk r p)
include hr hp
theorem gen_nodup {N : Nat} (hN : 200000000 ≤ N) : Ret (moves_Gen N r p) fun l => IsGen r p l ∧ l.Nodup ∧ l.Pairwise leM := by
  have hcl := cand_len hr hp
  rw [gen_fin hr hp (by omega)]
  unfold finG
  refine Ret.bnd (sortS hN (cand r p) hcl) fun s hs => ?_
  obtain ⟨hs, hS⟩ := hs
  have hl := hs.length_eq
  rw [compact_eq N s (by omega) (by omega)]
  rw [← hl] at hS
  exact Ret.ret ⟨⟨fun m => (mem_dedA s).trans hs.mem_iff, dedA_apart s, Nat.le_trans (dedA_len s) (by omega)⟩, dedA_nodup s hS.pairwise, hS.pairwise.sublist (dedA_sub s)⟩
end
end Go.Proofs.Ytiacnffpgdikoaa.Am
