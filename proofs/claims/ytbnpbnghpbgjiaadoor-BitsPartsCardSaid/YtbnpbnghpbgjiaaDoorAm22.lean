/- What a row's condition on the table of the last bits gives the machine; and that the program's start meets it. -/
import Derived.Test.YtbnpbnghpbgjiaaDoorAm15
import Derived.Test.YtbnpbnghpbgjiaaDoorRows
import Derived.ProofKit
import Derived.LaidMore
import Derived.OpenShut
import Derived.MakeChecks
set_option linter.unusedVariables false
set_option linter.unusedSimpArgs false
namespace Go.Proofs.YtbnpbnghpbgjiaaDoor.Am
open Go Go.ChangeShapes Go.WideShapes Go.ChangeAt Go.RowKit

abbrev laidL : List (String × DataW Unit) := [("math/bits.deBruijn64tab", Rows.laid_math_bits_deBruijn64tab)]
theorem gTab : Tryd.prog.globalNamed "math/bits.deBruijn64tab" = some 0 := by kernel_rfl
theorem tTab : (Tryd.prog.globals[0]?).map (·.type) = some 51 := by kernel_rfl
theorem laid_eq : (Rows.laid_math_bits_deBruijn64tab : DataW Unit) = .agg (deB.map fun v => .lit (.int .u8 v)) := by kernel_rfl
theorem repV_RT {w : World} {F : Nat → Prop} : ∀ l : List Int, RT w F (repT l) (repV l) (l.map (Value.int .u8))
  | [] => rfl
  | a :: l => ⟨[.int .u8 a], l.map (Value.int .u8), rfl, rfl, repV_RT l⟩
theorem glob_of_laid {W : World} (h : laidMetH Tryd.prog laidL W) : Glob W fun b => b < W.heap.size := by
  rw [MakeChecks.laidMetH_plain _ _ _ (by kernel_rfl)] at h
  obtain ⟨ps, ⟨g0, t0, cs0, f0, p0, q0, hg0, ht0, hv0, hd0, _, _⟩, _, _⟩ := h
  obtain rfl := Option.some.inj (gTab.symm.trans hg0)
  obtain rfl := Option.some.inj (tTab.symm.trans ht0)
  have hu : Tryd.prog.underlying 51 = some (.array 64 5) := by kernel_rfl
  have hu5 : Tryd.prog.underlying 5 = some (.int .u8) := by kernel_rfl
  obtain ⟨xs, m1, rfl, hx1, hlen, hn3, hel⟩ := DataW.trod_array hu hd0
  have c5 : Tryd.prog.cellsOf 5 = 1 := by kernel_rfl
  simp only [Prod.mk.injEq] at hx1
  rw [laid_eq] at hx1
  have hx2 : deB.map (fun v => (.lit (.int .u8 v) : DataW Unit)) = xs.map (·.1) := by
    have := hx1.1
    injection this
  have hcell : ∀ i : Nat, i < 64 → W.cell? ⟨0, i, none⟩ = some (.int .u8 (deB.getD i 0)) := by
    intro i hi
    have h1 := hel i hi
    rw [c5] at h1
    have hix : i < xs.length := by omega
    rw [List.getElem?_eq_getElem hix] at h1
    obtain ⟨k, e1, e2, _⟩ := DataW.trod_int hu5 h1
    have h2 : (deB.map (fun v => (.lit (.int .u8 v) : DataW Unit)))[i]? = (xs.map (·.1))[i]? := by rw [hx2]
    have hde : deB[i]? = some (deB.getD i 0) := by rw [List.getD_eq_getElem?_getD, List.getElem?_eq_getElem (show i < deB.length by simpa [deB] using hi)]; rfl
    rw [List.getElem?_map, List.getElem?_map, List.getElem?_eq_getElem hix, hde] at h2
    have h3 : (.lit (.int .u8 (deB.getD i 0)) : DataW Unit) = (xs[i]'hix).1 := Option.some.inj h2
    rw [e2] at h3
    have h4 : deB.getD i 0 = k := by
      injection h3 with h3
      injection h3
    have h5 := World.var?_cell hg0 hv0 i
    rw [h5]
    have h6 : cs0.toList[i]? = some (.int .u8 k) := by
      have := congrArg (fun l => l[0]?) e1
      simpa [List.getElem?_take, List.getElem?_drop] using this
    rw [← Array.getElem?_toList, h6, h4]
  intro h p hp
  match h, hp with
  | 0, hp =>
    have hp : p = ⟨repT deB, repV deB⟩ := (Option.some.inj hp).symm
    subst hp
    refine ⟨?_, _, repV_RT deB, fun j v hj => ?_⟩
    · have := hcell 0 (by decide)
      show 0 < W.heap.size
      apply Nat.lt_of_not_le
      intro hle
      have hz : W.heap[0]? = none := Array.getElem?_eq_none hle
      simp [World.cell?, hz] at this
    · have hj2 : j < 64 := by
        have := (List.getElem?_eq_some_iff.1 hj).1
        simpa [deB] using this
      rw [show (⟨0, 0, none⟩ : Addr).add j = ⟨0, j, none⟩ from by unfold Addr.add; split <;> simp_all, hcell j hj2]
      have hde : deB[j]? = some (deB.getD j 0) := by rw [List.getD_eq_getElem?_getD, List.getElem?_eq_getElem (show j < deB.length by simpa [deB] using hj2)]; rfl
      rw [List.getElem?_map, hde] at hj
      exact hj
  | n + 1, hp => cases hp
theorem door_met (os : Os) (args : Array Value) : laidMetH Tryd.prog laidL ((World.doorLaid Tryd.prog 400 os).forCall (fun _ _ => 0) ⟨#[], args, []⟩).memory :=
  laidMetH_of_parts3 (fuel := 8) (laidMet_of_run' 8 (by kernel_rfl) (by kernel_rfl)) (by kernel_rfl) (by kernel_rfl)
end Go.Proofs.YtbnpbnghpbgjiaaDoor.Am
