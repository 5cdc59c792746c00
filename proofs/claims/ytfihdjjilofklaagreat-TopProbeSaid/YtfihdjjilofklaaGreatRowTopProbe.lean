/- The law TopProbe of the given program holds: at every input that its statement lets in it says true, and leaves its arguments as they were. The row, out of the plain law and the printed tie. -/
import Derived.Test.YtfihdjjilofklaaGreatLawTopProbep
import Derived.Test.YtfihdjjilofklaaGreatEvp4
import Derived.Test.YtfihdjjilofklaaGreatAm15
import Derived.Test.YtfihdjjilofklaaGreatRows
import Derived.WalkKit
import Derived.ProofKit
import Derived.OpenShut
import Derived.ShutString
import Derived.ChangeOld
import Derived.Below
import Derived.SizedLaws
import Derived.Carry
set_option linter.unusedVariables false
set_option linter.unusedSimpArgs false
namespace Go.Proofs.YtfihdjjilofklaaGreat.topProbe
open Go.ChangeShapes Go.WideShapes Go.ChangeAt Go.RowKit
open Go.Proofs.YtfihdjjilofklaaGreat.Am (tb tb_ok ArgsR law_calls trodAll_below)
theorem own : ownKnob Tryz.prog.godebug = none := by kernel_rfl
theorem laidOut : laidOutB Tryz.prog = true := by kernel_rfl
set_option maxRecDepth 100000 in
theorem lifted (os : Os) (started : os.Started) (H : Type) (enc : TypeId × Value → H) :
  ReturnsInHanded {} Tryz.checked os 3 .any (Rows.topProbeSpec.pre6 enc Tryz.prog Tryz.f3 Rows.topProbeRow.domain false) (Rows.topProbeSpec.post enc Tryz.prog Tryz.f3 false true false false) := by
 refine returnsInHanded_of_change_sized (C := Tryz.checked) own started (by kernel_rfl) Tryz.func3
  (ChangeSpec.witness6 (enc := enc) (C := Tryz.checked) false ⟨#[], #[.agg #[.string ByteArray.empty, .int .i64 0, .int .i64 0, .slice none 0 0, .slice none 0 0, .bool false, .bool false, .slice none 0 0, .int .i64 0, .int .i64 0, .int .i64 0]], []⟩ 8 (by kernel_rfl) (by kernel_rfl) (by kernel_rfl) (by kernel_rfl)) ?_
 intro W base args ds gs before hval0 hW hcnd hsz0 _
 have hval : ∀ (j : Nat) t v, Tryz.f3.params[j]? = some t → args[j]? = some v → Value.okWide Tryz.prog W .any base t v := hval0
 have hW' := hW
 obtain ⟨p, q, hA0, hV, rfl, hfz, hnd⟩ := hW
 have hA : DataW.TrodAll enc Tryz.prog W 0 (fun _ => true) true Tryz.f3.params.toList args.toList ds p := hA0
 have hA1 := hA
 rw [Tryz.params3] at hA hval
 obtain ⟨v0, vs0, d0, ds0, p0, q0, hargs, rfl, hp0, h0, r0⟩ := trodAll_cons hA
 obtain ⟨rfl, rfl, hpn⟩ := trodAll_nil r0
 obtain rfl : args = #[v0] := by cases args; simp_all
 obtain ⟨rfl, rfl⟩ := trodVars_none hV
 have hR : ArgsR W Am.Q3.as (#[v0] : Array Value).toList := (ArgsR.of tb_ok (n := 12) (T := 26) (by kernel_rfl) (by kernel_rfl) (hval 0 26 v0 rfl rfl) h0 (by kernel_rfl) ArgsR.nil)
 obtain ⟨N0, hN0⟩ : ∃ N : Nat, ∀ x : (Am.argH Am.Q3.as).den, Am.Q3 N x.1 = some true := ⟨300000000, fun x => Am.topProbe_at x.1⟩
 refine (law_calls (F := fun N => (Am.Q3.D N).f) (Am.Q3.ok) (fun x _ => ⟨N0, hN0 x⟩) (fun i p h => by cases h) hR).mono fun e W' he => ?_
 obtain ⟨he, bel⟩ := he
 subst he
 have hlt : ∀ x ∈ p, x.block < W.heap.size := DataW.TrodAll.lt hA1
 have hB := trodAll_below laidOut bel (Ts := Tryz.f3.params.toList) (by kernel_rfl) hA1 hlt
 exact ⟨_, rfl, _, _, _, [], _, [], hW', trodAll_mk1 (shut_bool Tryz.underlying4 _), hB, rfl, bel.frame _, fun h => by cases h⟩
theorem over : Rows.topProbeRow.holds Tryz.pinned (OpenSpec.ofChange Rows.topProbeSpec) :=
 OpenClaim.holds_of_wide 3 Tryz.f3 rfl rfl rfl rfl rfl rfl rfl ⟨rfl, rfl, rfl, rfl, rfl⟩ rfl rfl rfl rfl rfl (by kernel_rfl) Tryz.func3 (by kernel_rfl)
  (of_decide_eq_true (by kernel_rfl)) (by unfold Func.isWrapper; first | (rw [if_pos (by decide +kernel)]; kernel_rfl) | (rw [if_neg (by decide +kernel)]; exact ⟨rfl, rfl⟩))
  (fun os started H enc _ => lifted os started H enc)
theorem proved : Rows.TopProbeSaid := over
#print axioms proved
end Go.Proofs.YtfihdjjilofklaaGreat.topProbe
namespace Go.Proofs.YtfihdjjilofklaaGreat
theorem topProbe_holds : Rows.TopProbeSaid := topProbe.proved
end Go.Proofs.YtfihdjjilofklaaGreat
