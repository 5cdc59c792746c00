/- The law StoreScores of the given program holds: at every input that its statement lets in it says true, and leaves its arguments as they were. The row, out of the plain law and the printed tie. -/
import Derived.Test.YtnckilklmkpooaaGreatLawStoreScoresz
import Derived.Test.YtnckilklmkpooaaGreatEvz3
import Derived.Test.YtnckilklmkpooaaGreatAm15
import Derived.Test.YtnckilklmkpooaaGreatRows
import Derived.WalkKit
import Derived.ProofKit
import Derived.OpenShut
import Derived.ShutString
import Derived.ChangeOld
import Derived.Below
import Derived.SizedLaws
import Derived.Carry
set_option linter.unusedVariables false
set_option linter.unusedSimpArgs false
namespace Go.Proofs.YtnckilklmkpooaaGreat.storeScores
open Go.ChangeShapes Go.WideShapes Go.ChangeAt Go.RowKit
open Go.Proofs.YtnckilklmkpooaaGreat.Am (tb tb_ok ArgsR law_calls trodAll_below)
theorem own : ownKnob Tryz.prog.godebug = none := by kernel_rfl
theorem laidOut : laidOutB Tryz.prog = true := by kernel_rfl
set_option maxRecDepth 100000 in
theorem lifted (os : Os) (started : os.Started) (H : Type) (enc : TypeId × Value → H) :
    ReturnsInHanded {} Tryz.checked os 3 .any (Rows.storeScoresSpec.pre6 enc Tryz.prog Tryz.f3 Rows.storeScoresRow.domain false) (Rows.storeScoresSpec.post enc Tryz.prog Tryz.f3 false true false false) := by
  refine returnsInHanded_of_change_sized (C := Tryz.checked) own started (by kernel_rfl) Tryz.func3
    (ChangeSpec.witness6 (enc := enc) (C := Tryz.checked) false ⟨#[], #[.agg #[.string ByteArray.empty, .int .i64 0, .int .i64 0, .slice none 0 0, .slice none 0 0, .bool false, .bool false, .slice none 0 0, .int .i64 0, .int .i64 0, .int .i64 0], .agg #[.slice none 0 0, .slice none 0 0, .slice none 0 0, .int .i64 0, .int .i64 0], .int .i64 0, .int .i64 0, .slice none 0 0], []⟩ 8 (by kernel_rfl) (by kernel_rfl) (by kernel_rfl) (by kernel_rfl)) ?_
  intro W base args ds gs before hval0 hW hcnd hsz0 _
  have hval : ∀ (j : Nat) t v, Tryz.f3.params[j]? = some t → args[j]? = some v → Value.okWide Tryz.prog W .any base t v := hval0
  have hW' := hW
  obtain ⟨p, q, hA0, hV, rfl, hfz, hnd⟩ := hW
  have hA : DataW.TrodAll enc Tryz.prog W 0 (fun _ => true) true Tryz.f3.params.toList args.toList ds p := hA0
  have hA1 := hA
  rw [Tryz.params3] at hA hval
  obtain ⟨v0, vs0, d0, ds0, p0, q0, hargs, rfl, hp0, h0, r0⟩ := trodAll_cons hA
  obtain ⟨v1, vs1, d1, ds1, p1, q1, rfl, rfl, hp1, h1, r1⟩ := trodAll_cons r0
  obtain ⟨v2, vs2, d2, ds2, p2, q2, rfl, rfl, hp2, h2, r2⟩ := trodAll_cons r1
  obtain ⟨v3, vs3, d3, ds3, p3, q3, rfl, rfl, hp3, h3, r3⟩ := trodAll_cons r2
  obtain ⟨v4, vs4, d4, ds4, p4, q4, rfl, rfl, hp4, h4, r4⟩ := trodAll_cons r3
  obtain ⟨rfl, rfl, hpn⟩ := trodAll_nil r4
  obtain rfl : args = #[v0, v1, v2, v3, v4] := by cases args; simp_all
  obtain ⟨rfl, rfl⟩ := trodVars_none hV
  have hR : ArgsR W Am.gamehallkeep1_StoreScores.as (#[v0, v1, v2, v3, v4] : Array Value).toList := (ArgsR.of tb_ok (n := 12) (T := 26) (by kernel_rfl) (by kernel_rfl) (hval 0 26 v0 rfl rfl) h0 (by kernel_rfl) (ArgsR.of tb_ok (n := 12) (T := 29) (by kernel_rfl) (by kernel_rfl) (hval 1 29 v1 rfl rfl) h1 (by kernel_rfl) (ArgsR.of tb_ok (n := 12) (T := 3) (by kernel_rfl) (by kernel_rfl) (hval 2 3 v2 rfl rfl) h2 (by kernel_rfl) (ArgsR.of tb_ok (n := 12) (T := 3) (by kernel_rfl) (by kernel_rfl) (hval 3 3 v3 rfl rfl) h3 (by kernel_rfl) (ArgsR.of tb_ok (n := 12) (T := 23) (by kernel_rfl) (by kernel_rfl) (hval 4 23 v4 rfl rfl) h4 (by kernel_rfl) ArgsR.nil)))))
  refine (law_calls (F := fun N => (Am.gamehallkeep1_StoreScores.D N).f) (Am.gamehallkeep1_StoreScores.ok) (fun x _ => ⟨300000000, Am.storeScores_at x.1 x.2.1 x.2.2.1 x.2.2.2.1 x.2.2.2.2.1⟩) hR).mono fun e W' he => ?_
  obtain ⟨he, bel⟩ := he
  subst he
  have hlt : ∀ x ∈ p, x.block < W.heap.size := DataW.TrodAll.lt hA1
  have hB := trodAll_below laidOut bel (Ts := Tryz.f3.params.toList) (by kernel_rfl) hA1 hlt
  exact ⟨_, rfl, _, _, _, [], _, [], hW', trodAll_mk1 (shut_bool Tryz.underlying4 _), hB, rfl, bel.frame _, fun h => by cases h⟩
theorem over : Rows.storeScoresRow.holds Tryz.pinned (OpenSpec.ofChange Rows.storeScoresSpec) :=
  OpenClaim.holds_of_wide 3 Tryz.f3 rfl rfl rfl rfl rfl rfl rfl ⟨rfl, rfl, rfl, rfl, rfl⟩ rfl rfl rfl rfl rfl (by kernel_rfl) Tryz.func3 (by kernel_rfl)
    (of_decide_eq_true (by kernel_rfl)) (by unfold Func.isWrapper; first | (rw [if_pos (by decide +kernel)]; kernel_rfl) | (rw [if_neg (by decide +kernel)]; exact ⟨rfl, rfl⟩))
    (fun os started H enc _ => lifted os started H enc)
theorem proved : Rows.StoreScoresSaid := over
#print axioms proved
end Go.Proofs.YtnckilklmkpooaaGreat.storeScores
namespace Go.Proofs.YtnckilklmkpooaaGreat
/-- The row, under a short name, for the claim. -/
theorem storeScores_holds : Rows.StoreScoresSaid := storeScores.proved
end Go.Proofs.YtnckilklmkpooaaGreat
