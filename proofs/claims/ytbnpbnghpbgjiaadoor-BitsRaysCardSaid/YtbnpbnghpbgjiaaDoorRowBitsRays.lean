/- The law BitsRays of the given program holds: at every input that its statement lets in it says true, and leaves its arguments as they were; the table of the last bits holds what the program's text lays. The row, and the card that ties it to the text. -/
import Derived.Test.YtbnpbnghpbgjiaaDoorLawBitsRays
import Derived.Test.YtbnpbnghpbgjiaaDoorEv
import Derived.Test.YtbnpbnghpbgjiaaDoorAm22
import Derived.Test.YtbnpbnghpbgjiaaDoorRows
import Derived.Test.YtbnpbnghpbgjiaaDoorTie
import Derived.Test.YtbnpbnghpbgjiaaDoorCards
import Derived.WalkKit
import Derived.ProofKit
import Derived.OpenShut
import Derived.ShutString
import Derived.ChangeOld
import Derived.Below
import Derived.SizedLaws
import Derived.Carry
import Derived.LaidMore
import Derived.Stop.Joined
import Derived.SevenTiedAt
set_option linter.unusedVariables false
set_option linter.unusedSimpArgs false
namespace Go.Proofs.YtbnpbnghpbgjiaaDoor.bitsRays
open Go.ChangeShapes Go.WideShapes Go.ChangeAt Go.RowKit
open Go.Proofs.YtbnpbnghpbgjiaaDoor.Am (tb tb_ok ArgsR law_calls trodAll_below laidL door_met glob_of_laid)
theorem own : ownKnob Tryd.prog.godebug = none := by kernel_rfl
theorem laidOut : laidOutB Tryd.prog = true := by kernel_rfl
set_option maxRecDepth 100000 in
theorem lifted (os : Os) (started : os.Started) (H : Type) (enc : TypeId × Value → H) :
    ReturnsInHanded {} Tryd.checked os 6 .any (fun w args => (Rows.bitsRaysSpec.pre enc Tryd.prog Tryd.f6 [] false w args ∧ laidMetH Tryd.prog laidL w) ∧ sizedMet enc Tryd.prog Tryd.f6 (OpenSpec.ofChange Rows.bitsRaysSpec) false w args) (Rows.bitsRaysSpec.post enc Tryd.prog Tryd.f6 false true false false) := by
  refine returnsInHanded_of_change_and (C := Tryd.checked) (X := fun w _ => laidMetH Tryd.prog laidL w) (fun _ _ _ hh h => h.of_heap hh) own started (by kernel_rfl) Tryd.func6
    (ChangeSpec.witness_shaped (enc := enc) (C := Tryd.checked) (os := os) (X := fun w _ => laidMetH Tryd.prog laidL w) false (World.doorLaid Tryd.prog 400 os) #[.int .i64 0, .int .i64 0, .int .i64 0, .int .u64 0, .int .u64 0] 8 rfl (World.shaped_of_RefB (by kernel_rfl) (by kernel_rfl)) (by kernel_rfl) (by kernel_rfl) (by kernel_rfl) (door_met os _)) ?_
  intro W base args ds gs before hval0 hW hcnd hsz0 hL _
  have hval : ∀ (j : Nat) t v, Tryd.f6.params[j]? = some t → args[j]? = some v → Value.okWide Tryd.prog W .any base t v := hval0
  have hW' := hW
  obtain ⟨p, q, hA0, hV, rfl, hfz, hnd⟩ := hW
  have hA : DataW.TrodAll enc Tryd.prog W 0 (fun _ => true) true Tryd.f6.params.toList args.toList ds p := hA0
  have hA1 := hA
  rw [Tryd.params6] at hA hval
  obtain ⟨v0, vs0, d0, ds0, p0, q0, hargs, rfl, hp0, h0, r0⟩ := trodAll_cons hA
  obtain ⟨v1, vs1, d1, ds1, p1, q1, rfl, rfl, hp1, h1, r1⟩ := trodAll_cons r0
  obtain ⟨v2, vs2, d2, ds2, p2, q2, rfl, rfl, hp2, h2, r2⟩ := trodAll_cons r1
  obtain ⟨v3, vs3, d3, ds3, p3, q3, rfl, rfl, hp3, h3, r3⟩ := trodAll_cons r2
  obtain ⟨v4, vs4, d4, ds4, p4, q4, rfl, rfl, hp4, h4, r4⟩ := trodAll_cons r3
  obtain ⟨rfl, rfl, hpn⟩ := trodAll_nil r4
  obtain rfl : args = #[v0, v1, v2, v3, v4] := by cases args; simp_all
  obtain ⟨rfl, rfl⟩ := trodVars_none hV
  have hR : ArgsR W Am.gamehallkeep1_BitsRays.as (#[v0, v1, v2, v3, v4] : Array Value).toList := (ArgsR.of tb_ok (n := 12) (T := 3) (by kernel_rfl) (by kernel_rfl) (hval 0 3 v0 rfl rfl) h0 (by kernel_rfl) (ArgsR.of tb_ok (n := 12) (T := 3) (by kernel_rfl) (by kernel_rfl) (hval 1 3 v1 rfl rfl) h1 (by kernel_rfl) (ArgsR.of tb_ok (n := 12) (T := 3) (by kernel_rfl) (by kernel_rfl) (hval 2 3 v2 rfl rfl) h2 (by kernel_rfl) (ArgsR.of tb_ok (n := 12) (T := 22) (by kernel_rfl) (by kernel_rfl) (hval 3 22 v3 rfl rfl) h3 (by kernel_rfl) (ArgsR.of tb_ok (n := 12) (T := 22) (by kernel_rfl) (by kernel_rfl) (hval 4 22 v4 rfl rfl) h4 (by kernel_rfl) ArgsR.nil)))))
  obtain ⟨N0, hN0⟩ : ∃ N : Nat, ∀ x : (Am.argH Am.gamehallkeep1_BitsRays.as).den, Am.WfA Am.gamehallkeep1_BitsRays.as x → Am.gamehallkeep1_BitsRays N x.1 x.2.1 x.2.2.1 x.2.2.2.1 x.2.2.2.2.1 = some true := ⟨300000000, fun x h => Am.bitsRays_at x.1 x.2.1 x.2.2.1 x.2.2.2.1 x.2.2.2.2.1 h.2.2.2.1.1 h.2.2.2.1.2 h.2.2.2.2.1.1 h.2.2.2.2.1.2⟩
  refine (law_calls (F := fun N => (Am.gamehallkeep1_BitsRays.D N).f) (Am.gamehallkeep1_BitsRays.ok) (fun x h => ⟨N0, hN0 x h⟩) (glob_of_laid hL) hR).mono fun e W' he => ?_
  obtain ⟨he, bel⟩ := he
  subst he
  have hlt : ∀ x ∈ p, x.block < W.heap.size := DataW.TrodAll.lt hA1
  have hB := trodAll_below laidOut bel (Ts := Tryd.f6.params.toList) (by kernel_rfl) hA1 hlt
  exact ⟨_, rfl, _, _, _, [], _, [], hW', trodAll_mk1 (shut_bool Tryd.underlying4 _), hB, rfl, bel.frame _, fun h => by cases h⟩
theorem over : Rows.bitsRaysRow.holds Tryd.pinned (OpenSpec.ofChange Rows.bitsRaysSpec) :=
  OpenClaim.holds_of_wide 6 Tryd.f6 rfl rfl rfl rfl rfl rfl rfl ⟨rfl, rfl, rfl, rfl, rfl⟩ rfl rfl rfl rfl rfl (by kernel_rfl) Tryd.func6 (by kernel_rfl)
    (of_decide_eq_true (by kernel_rfl)) (by unfold Func.isWrapper; first | (rw [if_pos (by decide +kernel)]; kernel_rfl) | (rw [if_neg (by decide +kernel)]; exact ⟨rfl, rfl⟩))
    (fun os started H enc _ => lifted os started H enc)
theorem card_holds : Claim7.holds Tryd.pinned (.plain (OpenSpec.ofChange Rows.bitsRaysSpec)) Rows.bitsRaysCard :=
  Claim7.holds_tied_plain_at .later [] [.data] true (true, "24c25c2cf188f1cd14660c3ab8083c9022a69b6ee275aa3240e0d14a61497606") false
    over (fun _ h => by cases h) (by kernel_rfl) (fun _ h => by cases h) bitsRays_row_tie rfl ⟨rfl, rfl⟩ (by kernel_rfl) rfl
    (fun f fn hf hfn => by
      obtain rfl : f = 6 := Option.some.inj ((show Tryd.prog.funcNamed "gamehall/gamehallkeep1.BitsRays" = some 6 by kernel_rfl).symm.trans hf) |>.symm
      obtain rfl : fn = Tryd.f6 := (Option.some.inj (Tryd.func6.symm.trans hfn)).symm
      exact ⟨by kernel_rfl, fun j t ht => by
        rw [Tryd.params6] at ht
        have hm : t ∈ [3, 3, 3, 22, 22] := by simpa using Array.mem_of_getElem? ht
        have hall : ([3, 3, 3, 22, 22].all fun u => !Tryd.prog.wantsStandIn u) = true := by kernel_rfl
        exact (show Tryd.prog.wantsStandIn t = false by simpa using List.all_eq_true.1 hall t hm)⟩)
    (by kernel_rfl)
theorem proved : Rows.BitsRaysCardSaid := card_holds
#print axioms proved
end Go.Proofs.YtbnpbnghpbgjiaaDoor.bitsRays
namespace Go.Proofs.YtbnpbnghpbgjiaaDoor
/-- The card, under a short name, for the claim. -/
theorem bitsRays_holds : Rows.BitsRaysCardSaid := bitsRays.proved
end Go.Proofs.YtbnpbnghpbgjiaaDoor
