/- The law NimsumSplits of the given program holds: at every input that its statement lets in it says true, and leaves its arguments as they were. The row, out of the plain law and the printed tie. -/
import Derived.Test.YtbnpbnghpbgjiaaLawNimsumSplitss
import Derived.Test.YtbnpbnghpbgjiaaEvs1
import Derived.Test.YtbnpbnghpbgjiaaAm15
import Derived.Test.YtbnpbnghpbgjiaaRows
import Derived.WalkKit
import Derived.ProofKit
import Derived.OpenShut
import Derived.ShutString
import Derived.ChangeOld
import Derived.Below
import Derived.SizedLaws
import Derived.Carry
set_option linter.unusedVariables false
set_option linter.unusedSimpArgs false
namespace Go.Proofs.Ytbnpbnghpbgjiaa.nimsumSplits
open Go.ChangeShapes Go.WideShapes Go.ChangeAt Go.RowKit
open Go.Proofs.Ytbnpbnghpbgjiaa.Am (tb tb_ok ArgsR law_calls trodAll_below)
theorem own : ownKnob Try.prog.godebug = none := by kernel_rfl
theorem laidOut : laidOutB Try.prog = true := by kernel_rfl
set_option maxRecDepth 100000 in
theorem lifted (os : Os) (started : os.Started) (H : Type) (enc : TypeId × Value → H) :
    ReturnsInHanded {} Try.checked os 7 .any (Rows.nimsumSplitsSpec.pre6 enc Try.prog Try.f7 Rows.nimsumSplitsRow.domain false) (Rows.nimsumSplitsSpec.post enc Try.prog Try.f7 false true false false) := by
  refine returnsInHanded_of_change_sized (C := Try.checked) own started (by kernel_rfl) Try.func7
    (ChangeSpec.witness6 (enc := enc) (C := Try.checked) false ⟨#[], #[.slice none 0 0], []⟩ 8 (by kernel_rfl) (by kernel_rfl) (by kernel_rfl) (by kernel_rfl)) ?_
  intro W base args ds gs before hval0 hW hcnd hsz0 _
  have hval : ∀ (j : Nat) t v, Try.f7.params[j]? = some t → args[j]? = some v → Value.okWide Try.prog W .any base t v := hval0
  have hW' := hW
  obtain ⟨p, q, hA0, hV, rfl, hfz, hnd⟩ := hW
  have hA : DataW.TrodAll enc Try.prog W 0 (fun _ => true) true Try.f7.params.toList args.toList ds p := hA0
  have hA1 := hA
  rw [Try.params7] at hA hval
  obtain ⟨v0, vs0, d0, ds0, p0, q0, hargs, rfl, hp0, h0, r0⟩ := trodAll_cons hA
  obtain ⟨rfl, rfl, hpn⟩ := trodAll_nil r0
  obtain rfl : args = #[v0] := by cases args; simp_all
  obtain ⟨rfl, rfl⟩ := trodVars_none hV
  have hR : ArgsR W Am.gamehallkeep1_NimsumSplits.as (#[v0] : Array Value).toList := (ArgsR.of tb_ok (n := 12) (T := 46) (by kernel_rfl) (by kernel_rfl) (hval 0 46 v0 rfl rfl) h0 (by kernel_rfl) ArgsR.nil)
  obtain ⟨N0, hN0⟩ : ∃ N : Nat, ∀ x : (Am.argH Am.gamehallkeep1_NimsumSplits.as).den, Am.WfA Am.gamehallkeep1_NimsumSplits.as x → Am.gamehallkeep1_NimsumSplits N x.1 = some true := ⟨300000000, fun x h => Am.nimsumSplits_at x.1 fun y hy => (h.1.2 y hy).1⟩
  refine (law_calls (F := fun N => (Am.gamehallkeep1_NimsumSplits.D N).f) (Am.gamehallkeep1_NimsumSplits.ok) (fun x h => ⟨N0, hN0 x h⟩) hR).mono fun e W' he => ?_
  obtain ⟨he, bel⟩ := he
  subst he
  have hlt : ∀ x ∈ p, x.block < W.heap.size := DataW.TrodAll.lt hA1
  have hB := trodAll_below laidOut bel (Ts := Try.f7.params.toList) (by kernel_rfl) hA1 hlt
  exact ⟨_, rfl, _, _, _, [], _, [], hW', trodAll_mk1 (shut_bool Try.underlying4 _), hB, rfl, bel.frame _, fun h => by cases h⟩
theorem over : Rows.nimsumSplitsRow.holds Try.pinned (OpenSpec.ofChange Rows.nimsumSplitsSpec) :=
  OpenClaim.holds_of_wide 7 Try.f7 rfl rfl rfl rfl rfl rfl rfl ⟨rfl, rfl, rfl, rfl, rfl⟩ rfl rfl rfl rfl rfl (by kernel_rfl) Try.func7 (by kernel_rfl)
    (of_decide_eq_true (by kernel_rfl)) (by unfold Func.isWrapper; first | (rw [if_pos (by decide +kernel)]; kernel_rfl) | (rw [if_neg (by decide +kernel)]; exact ⟨rfl, rfl⟩))
    (fun os started H enc _ => lifted os started H enc)
theorem proved : Rows.NimsumSplitsSaid := over
#print axioms proved
end Go.Proofs.Ytbnpbnghpbgjiaa.nimsumSplits
namespace Go.Proofs.Ytbnpbnghpbgjiaa
/-- The row, under a short name, for the claim. -/
theorem nimsumSplits_holds : Rows.NimsumSplitsSaid := nimsumSplits.proved
end Go.Proofs.Ytbnpbnghpbgjiaa
