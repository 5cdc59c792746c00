/- The law DeepenAgrees of the given program holds: at every input that its statement lets in it says true, and leaves its arguments as they were. The row, out of the plain law and the printed tie. -/
import Derived.Test.YtlfhchkhbecmbaaLawDeepenAgreesd
import Derived.Test.YtlfhchkhbecmbaaEvd2
import Derived.Test.YtlfhchkhbecmbaaAm15
import Derived.Test.YtlfhchkhbecmbaaRows
import Derived.WalkKit
import Derived.ProofKit
import Derived.OpenShut
import Derived.ShutString
import Derived.ChangeOld
import Derived.Below
import Derived.SizedLaws
import Derived.Carry
set_option linter.unusedVariables false
set_option linter.unusedSimpArgs false
namespace Go.Proofs.Ytlfhchkhbecmbaa.deepenAgrees
open Go.ChangeShapes Go.WideShapes Go.ChangeAt Go.RowKit
open Go.Proofs.Ytlfhchkhbecmbaa.Am (tb tb_ok ArgsR law_calls trodAll_below)
theorem own : ownKnob Try.prog.godebug = none := by kernel_rfl
theorem laidOut : laidOutB Try.prog = true := by kernel_rfl
set_option maxRecDepth 100000 in
theorem lifted (os : Os) (started : os.Started) (H : Type) (enc : TypeId × Value → H) :
  ReturnsInHanded {} Try.checked os 3 .any (Rows.deepenAgreesSpec.pre6 enc Try.prog Try.f3 Rows.deepenAgreesRow.domain false) (Rows.deepenAgreesSpec.post enc Try.prog Try.f3 false true false false) := by
 refine returnsInHanded_of_change_sized (C := Try.checked) own started (by kernel_rfl) Try.func3
  (ChangeSpec.witness6 (enc := enc) (C := Try.checked) false ⟨#[], #[.agg #[.string ByteArray.empty, .int .i64 0, .int .i64 0, .slice none 0 0, .slice none 0 0, .bool false, .bool false, .slice none 0 0, .int .i64 0, .int .i64 0, .int .i64 0], .agg #[.slice none 0 0, .slice none 0 0, .slice none 0 0, .int .i64 0, .int .i64 0], .int .i64 0, .int .i64 0], []⟩ 8 (by kernel_rfl) (by kernel_rfl) (by kernel_rfl) (by kernel_rfl)) ?_
 intro W base args ds gs before hval0 hW hcnd hsz0 _
 have hval : ∀ (j : Nat) t v, Try.f3.params[j]? = some t → args[j]? = some v → Value.okWide Try.prog W .any base t v := hval0
 have hW' := hW
 obtain ⟨p, q, hA0, hV, rfl, hfz, hnd⟩ := hW
 have hA : DataW.TrodAll enc Try.prog W 0 (fun _ => true) true Try.f3.params.toList args.toList ds p := hA0
 have hA1 := hA
 rw [Try.params3] at hA hval
 obtain ⟨v0, vs0, d0, ds0, p0, q0, hargs, rfl, hp0, h0, r0⟩ := trodAll_cons hA
 obtain ⟨v1, vs1, d1, ds1, p1, q1, rfl, rfl, hp1, h1, r1⟩ := trodAll_cons r0
 obtain ⟨v2, vs2, d2, ds2, p2, q2, rfl, rfl, hp2, h2, r2⟩ := trodAll_cons r1
 obtain ⟨v3, vs3, d3, ds3, p3, q3, rfl, rfl, hp3, h3, r3⟩ := trodAll_cons r2
 obtain ⟨rfl, rfl, hpn⟩ := trodAll_nil r3
 obtain rfl : args = #[v0, v1, v2, v3] := by cases args; simp_all
 obtain ⟨rfl, rfl⟩ := trodVars_none hV
 have hR : ArgsR W Am.Q3.as (#[v0, v1, v2, v3] : Array Value).toList := (ArgsR.of tb_ok (n := 12) (T := 26) (by kernel_rfl) (by kernel_rfl) (hval 0 26 v0 rfl rfl) h0 (by kernel_rfl) (ArgsR.of tb_ok (n := 12) (T := 29) (by kernel_rfl) (by kernel_rfl) (hval 1 29 v1 rfl rfl) h1 (by kernel_rfl) (ArgsR.of tb_ok (n := 12) (T := 3) (by kernel_rfl) (by kernel_rfl) (hval 2 3 v2 rfl rfl) h2 (by kernel_rfl) (ArgsR.of tb_ok (n := 12) (T := 3) (by kernel_rfl) (by kernel_rfl) (hval 3 3 v3 rfl rfl) h3 (by kernel_rfl) ArgsR.nil))))
 obtain ⟨N0, hN0⟩ : ∃ N : Nat, ∀ x : (Am.argH Am.Q3.as).den, Am.Q3 N x.1 x.2.1 x.2.2.1 x.2.2.2.1 = some true := ⟨300000000, fun x => Am.deepenAgrees_at x.1 x.2.1 x.2.2.1 x.2.2.2.1⟩
 refine (law_calls (F := fun N => (Am.Q3.D N).f) (Am.Q3.ok) (fun x _ => ⟨N0, hN0 x⟩) (fun i p h => by cases h) hR).mono fun e W' he => ?_
 obtain ⟨he, bel⟩ := he
 subst he
 have hlt : ∀ x ∈ p, x.block < W.heap.size := DataW.TrodAll.lt hA1
 have hB := trodAll_below laidOut bel (Ts := Try.f3.params.toList) (by kernel_rfl) hA1 hlt
 exact ⟨_, rfl, _, _, _, [], _, [], hW', trodAll_mk1 (shut_bool Try.underlying4 _), hB, rfl, bel.frame _, fun h => by cases h⟩
theorem over : Rows.deepenAgreesRow.holds Try.pinned (OpenSpec.ofChange Rows.deepenAgreesSpec) :=
 OpenClaim.holds_of_wide 3 Try.f3 rfl rfl rfl rfl rfl rfl rfl ⟨rfl, rfl, rfl, rfl, rfl⟩ rfl rfl rfl rfl rfl (by kernel_rfl) Try.func3 (by kernel_rfl)
  (of_decide_eq_true (by kernel_rfl)) (by unfold Func.isWrapper; first | (rw [if_pos (by decide +kernel)]; kernel_rfl) | (rw [if_neg (by decide +kernel)]; exact ⟨rfl, rfl⟩))
  (fun os started H enc _ => lifted os started H enc)
theorem proved : Rows.DeepenAgreesSaid := over
#print axioms proved
end Go.Proofs.Ytlfhchkhbecmbaa.deepenAgrees
namespace Go.Proofs.Ytlfhchkhbecmbaa
theorem deepenAgrees_holds : Rows.DeepenAgreesSaid := deepenAgrees.proved
end Go.Proofs.Ytlfhchkhbecmbaa
