/- Plain: the moves of a board are those of its position, whatever the fuel. -/
import Derived.Test.YtpielijehhhobaaLawMoves0e
import Derived.Test.YtpielijehhhobaaLawMonoe
import Derived.Test.YtpielijehhhobaaLawGamee
set_option linter.unusedVariables false
set_option linter.unusedSimpArgs false
set_option linter.unusedSectionVars false
namespace Go.Proofs.Ytpielijehhhobaa.Am
open Go
theorem gen_same {r : RulesT} {p : PosT} (hr : ROk r) (hp : POk r p) {N : Nat} (hN : 200000000 ≤ N) : Q38 N r p = Q38 200000000 r p := by
 obtain ⟨l, hl, _⟩ := gen_ret hr hp (N := 200000000) (Nat.le_refl _)
 rw [hl, Q38_m hN r p l hl]
def mvP (r : RulesT) (p : PosT) : List MvT := if resV r p = 0 then (Q38 200000000 r p).getD [] else []
theorem mvP_spec {r : RulesT} {p : PosT} (hr : ROk r) (hp : POk r p) : (mvP r p).length ≤ 8192 ∧ ∀ m ∈ mvP r p, MoveOk r p m ∧ m ∈ cand r p := by
 unfold mvP
 split
 ·obtain ⟨l, hl, hg⟩ := gen_ret hr hp (N := 200000000) (Nat.le_refl _)
  rw [hl]
  exact ⟨hg.len, fun m hm => ⟨cand_ok hr hp ((hg.mem m).1 hm), (hg.mem m).1 hm⟩⟩
 ·exact ⟨by simp, fun m hm => by cases hm⟩
theorem mvP_ne {r : RulesT} {p : PosT} (hr : ROk r) (hp : POk r p) (h : resV r p = 0) : mvP r p ≠ [] := by
 have hc := cand_ne hr hp h
 unfold mvP
 rw [if_pos h]
 obtain ⟨l, hl, hg⟩ := gen_ret hr hp (N := 200000000) (Nat.le_refl _)
 rw [hl]
 intro e
 have e : l = [] := e
 cases hcl : cand r p with
 | nil => exact hc hcl
 | cons m c =>
  have := (hg.mem m).2 (by rw [hcl]; exact List.mem_cons_self ..)
  rw [e] at this
  cases this
theorem bmoves_mvP {N : Nat} (hN : 200000000 ≤ N) {b : BoardT} (hb : BOk b) : Q34 N b = some (mvP b.1 b.2.1) := by
 unfold Q34 Q34.e mvP
 rw [bresult_eq hN hb, Option.bind_some]
 by_cases h : resV b.1 b.2.1 = 0
 ·obtain ⟨l, hl, hg⟩ := gen_ret hb.r hb.p (N := 200000000) (Nat.le_refl _)
  rw [bif_f (by rw [eqI_t h]; rfl), if_pos h, gen_same hb.r hb.p hN, hl]
  rfl
 ·rw [bif_t (by rw [eqI_f h]; rfl), if_neg h]
end Go.Proofs.Ytpielijehhhobaa.Am
