/- The law BitsParts of the given program holds: at every input that its statement lets in it says true, and leaves its arguments as they were; the table of the last bits holds what the program's text lays. The row, and the card that ties it to the text. -/
import Derived.Test.YtbnpbnghpbgjiaaDoorLawBitsParts
import Derived.Test.YtbnpbnghpbgjiaaDoorEv
import Derived.Test.YtbnpbnghpbgjiaaDoorAm22
import Derived.Test.YtbnpbnghpbgjiaaDoorRows
import Derived.Test.YtbnpbnghpbgjiaaDoorTie
import Derived.Test.YtbnpbnghpbgjiaaDoorCards
import Derived.WalkKit
import Derived.ProofKit
import Derived.OpenShut
import Derived.ShutString
import Derived.ChangeOld
import Derived.Below
import Derived.SizedLaws
import Derived.Carry
import Derived.LaidMore
import Derived.Stop.Joined
import Derived.SevenTiedAt
set_option linter.unusedVariables false
set_option linter.unusedSimpArgs false
namespace Go.Proofs.YtbnpbnghpbgjiaaDoor.bitsParts
open Go.ChangeShapes Go.WideShapes Go.ChangeAt Go.RowKit
open Go.Proofs.YtbnpbnghpbgjiaaDoor.Am (tb tb_ok ArgsR law_calls trodAll_below laidL door_met glob_of_laid)
theorem own : ownKnob Tryd.prog.godebug = none := by kernel_rfl
theorem laidOut : laidOutB Tryd.prog = true := by kernel_rfl
set_option maxRecDepth 100000 in
theorem lifted (os : Os) (started : os.Started) (H : Type) (enc : TypeId × Value → H) :
    ReturnsInHanded {} Tryd.checked os 7 .any (fun w args => (Rows.bitsPartsSpec.pre enc Tryd.prog Tryd.f7 [] false w args ∧ laidMetH Tryd.prog laidL w) ∧ sizedMet enc Tryd.prog Tryd.f7 (OpenSpec.ofChange Rows.bitsPartsSpec) false w args) (Rows.bitsPartsSpec.post enc Tryd.prog Tryd.f7 false true false false) := by
  refine returnsInHanded_of_change_and (C := Tryd.checked) (X := fun w _ => laidMetH Tryd.prog laidL w) (fun _ _ _ hh h => h.of_heap hh) own started (by kernel_rfl) Tryd.func7
    (ChangeSpec.witness_shaped (enc := enc) (C := Tryd.checked) (os := os) (X := fun w _ => laidMetH Tryd.prog laidL w) false (World.doorLaid Tryd.prog 400 os) #[.int .u64 0, .int .i64 0] 8 rfl (World.shaped_of_RefB (by kernel_rfl) (by kernel_rfl)) (by kernel_rfl) (by kernel_rfl) (by kernel_rfl) (door_met os _)) ?_
  intro W base args ds gs before hval0 hW hcnd hsz0 hL _
  have hval : ∀ (j : Nat) t v, Tryd.f7.params[j]? = some t → args[j]? = some v → Value.okWide Tryd.prog W .any base t v := hval0
  have hW' := hW
  obtain ⟨p, q, hA0, hV, rfl, hfz, hnd⟩ := hW
  have hA : DataW.TrodAll enc Tryd.prog W 0 (fun _ => true) true Tryd.f7.params.toList args.toList ds p := hA0
  have hA1 := hA
  rw [Tryd.params7] at hA hval
  obtain ⟨v0, vs0, d0, ds0, p0, q0, hargs, rfl, hp0, h0, r0⟩ := trodAll_cons hA
  obtain ⟨v1, vs1, d1, ds1, p1, q1, rfl, rfl, hp1, h1, r1⟩ := trodAll_cons r0
  obtain ⟨rfl, rfl, hpn⟩ := trodAll_nil r1
  obtain rfl : args = #[v0, v1] := by cases args; simp_all
  obtain ⟨rfl, rfl⟩ := trodVars_none hV
  have hR : ArgsR W Am.gamehallkeep1_BitsParts.as (#[v0, v1] : Array Value).toList := (ArgsR.of tb_ok (n := 12) (T := 22) (by kernel_rfl) (by kernel_rfl) (hval 0 22 v0 rfl rfl) h0 (by kernel_rfl) (ArgsR.of tb_ok (n := 12) (T := 3) (by kernel_rfl) (by kernel_rfl) (hval 1 3 v1 rfl rfl) h1 (by kernel_rfl) ArgsR.nil))
  obtain ⟨N0, hN0⟩ : ∃ N : Nat, ∀ x : (Am.argH Am.gamehallkeep1_BitsParts.as).den, Am.WfA Am.gamehallkeep1_BitsParts.as x → Am.gamehallkeep1_BitsParts N x.1 x.2.1 = some true := ⟨300000000, fun x h => Am.bitsParts_at x.1 x.2.1 h.1.1 h.1.2⟩
  refine (law_calls (F := fun N => (Am.gamehallkeep1_BitsParts.D N).f) (Am.gamehallkeep1_BitsParts.ok) (fun x h => ⟨N0, hN0 x h⟩) (glob_of_laid hL) hR).mono fun e W' he => ?_
  obtain ⟨he, bel⟩ := he
  subst he
  have hlt : ∀ x ∈ p, x.block < W.heap.size := DataW.TrodAll.lt hA1
  have hB := trodAll_below laidOut bel (Ts := Tryd.f7.params.toList) (by kernel_rfl) hA1 hlt
  exact ⟨_, rfl, _, _, _, [], _, [], hW', trodAll_mk1 (shut_bool Tryd.underlying4 _), hB, rfl, bel.frame _, fun h => by cases h⟩
theorem over : Rows.bitsPartsRow.holds Tryd.pinned (OpenSpec.ofChange Rows.bitsPartsSpec) :=
  OpenClaim.holds_of_wide 7 Tryd.f7 rfl rfl rfl rfl rfl rfl rfl ⟨rfl, rfl, rfl, rfl, rfl⟩ rfl rfl rfl rfl rfl (by kernel_rfl) Tryd.func7 (by kernel_rfl)
    (of_decide_eq_true (by kernel_rfl)) (by unfold Func.isWrapper; first | (rw [if_pos (by decide +kernel)]; kernel_rfl) | (rw [if_neg (by decide +kernel)]; exact ⟨rfl, rfl⟩))
    (fun os started H enc _ => lifted os started H enc)
theorem card_holds : Claim7.holds Tryd.pinned (.plain (OpenSpec.ofChange Rows.bitsPartsSpec)) Rows.bitsPartsCard :=
  Claim7.holds_tied_plain_at .later [] [.data] true (true, "24c25c2cf188f1cd14660c3ab8083c9022a69b6ee275aa3240e0d14a61497606") false
    over (fun _ h => by cases h) (by kernel_rfl) (fun _ h => by cases h) bitsParts_row_tie rfl ⟨rfl, rfl⟩ (by kernel_rfl) rfl
    (fun f fn hf hfn => by
      obtain rfl : f = 7 := Option.some.inj ((show Tryd.prog.funcNamed "gamehall/gamehallkeep1.BitsParts" = some 7 by kernel_rfl).symm.trans hf) |>.symm
      obtain rfl : fn = Tryd.f7 := (Option.some.inj (Tryd.func7.symm.trans hfn)).symm
      exact ⟨by kernel_rfl, fun j t ht => by
        rw [Tryd.params7] at ht
        have hm : t ∈ [22, 3] := by simpa using Array.mem_of_getElem? ht
        have hall : ([22, 3].all fun u => !Tryd.prog.wantsStandIn u) = true := by kernel_rfl
        exact (show Tryd.prog.wantsStandIn t = false by simpa using List.all_eq_true.1 hall t hm)⟩)
    (by kernel_rfl)
theorem proved : Rows.BitsPartsCardSaid := card_holds
#print axioms proved
end Go.Proofs.YtbnpbnghpbgjiaaDoor.bitsParts
namespace Go.Proofs.YtbnpbnghpbgjiaaDoor
/-- The card, under a short name, for the claim. -/
theorem bitsParts_holds : Rows.BitsPartsCardSaid := bitsParts.proved
end Go.Proofs.YtbnpbnghpbgjiaaDoor
