/- slices.Delete and slices.Insert at rows of moves, by hand. By an AI agent. -/
import Derived.Test.YtlfhchkhbecmbaaAm25
import Derived.Maps.AppendAt
set_option linter.unusedVariables false
set_option linter.unusedSimpArgs false
namespace Go.Proofs.Ytlfhchkhbecmbaa
open Go Go.RowKit Go.Shelf Go.Lib Go.Proofs
theorem move_more : ∃ i0 : TypeInfo, ∃ z : Value, Try.prog.info? 31 = some i0 ∧ i0.size = 3 ∧ i0.zero = some z ∧ z.cells.size = 3 ∧ i0.bytes = 24 ∧ (∀ v ∈ z.cells.toList, v.oneCell' = true) := by
 have h : (Try.prog.info? 31).map (fun i => (i.size, i.bytes, i.zero)) = some (3, 24, some (.agg #[.int .i64 0, .int .i64 0, .int .i64 0])) := by kernel_rfl
 cases hi : Try.prog.info? 31 with
 | none => rw [hi] at h; cases h
 | some i0 =>
  rw [hi] at h
  simp only [Option.map_some, Option.some.injEq, Prod.mk.injEq] at h
  refine ⟨i0, _, rfl, h.1, h.2.2, rfl, h.2.1, ?_⟩
  intro v hv
  have : v = .int .i64 0 := by simpa [Value.cells] using hv
  subst this
  rfl
set_option maxHeartbeats 4000000
set_option maxRecDepth 100000
theorem ins_empty (s : Value) (vb vc : Nat) (vs : List Value) (w : World) (hown : w.ownsRow 0 31 3 s 0 []) (hvl : vs.length = 3)
  (hvs : ∀ j v, vs[j]? = some v → w.cell? ⟨vb, j, none⟩ = some v) (h1v : ∀ v ∈ vs, v.oneCell' = true) :
  Calls Try.prog 34 #[s, .int .i64 0, .slice (some ⟨vb, 0, none⟩) 1 vc] w fun e w' =>
   ∃ v', e = .returned v' ∧ w'.ownsRow 0 31 3 v' 1 vs ∧ w.grownBy w' s.ownBlock ∧ (v'.ownBlock = s.ownBlock ∨ v'.ownBlock = some w.heap.size) := by
 have mixed : Try.prog.follows .mixedOrders = true := Checked.mixed Try.checked
 have t83 : Try.prog.underlying 83 = some (.slice 31) := by kernel_rfl
 obtain ⟨i0, z, hi0, hz0, hzz, hzc, hby, hz1⟩ := move_more
 obtain ⟨v', w', hrun, ho, hg, _, hnb⟩ := run_append_own_at (P := Try.prog) w 0 83 0 31 i0 z 3 24 t83 hi0 hzz hz0 hby hzc (by decide) s 0 [] hown ⟨vb, 0, none⟩ 1 vc vs (by rw [hvl]) (fun j u hj => by rw [Addr.add_lit]; simpa using hvs j u hj) h1v (by unfold maxLen; omega) (by decide) (Nat.zero_le _)
 have hr : ∀ ty, (Builtin.append_ #[83, 83] ty #[s, .slice (some ⟨vb, 0, none⟩) 1 vc]).run Try.prog w = .ok v' w' := fun ty => hrun
 rcases hown.2 with ⟨rfl, _⟩ | ⟨g, cap, cur, rfl, _, hgg, hcap, hmax, _, _⟩
 ·go_enter Try.func34, Try.ntmps34
  go_wp2_with (at_builtin; refine Lib.wpList_append_run _ rfl _ _ _ _ rfl _ _ rfl rfl _ _ (hr _) ?_)
  go_ret
  exact ⟨v', rfl, by simpa using ho, hg, hnb⟩
 ·have hc63 : cap ≤ 9223372036854775807 := by unfold maxLen at hmax; omega
  go_enter Try.func34, Try.ntmps34
  go_wp2_with (at_builtin; refine Lib.wpList_append_run _ rfl _ _ _ _ rfl _ _ rfl rfl _ _ (hr _) ?_)
  all_goals (go_ret; exact ⟨v', rfl, by simpa using ho, hg, hnb⟩)
end Go.Proofs.Ytlfhchkhbecmbaa
