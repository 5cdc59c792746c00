/-
  No cell of these rows narrows 'for every input' (looked for: loops, veiled, ifaces, maps, wideKeys, modest, calm, conditions, laid).
  DERIVED. THE GIVEN ROWS OF THIS SEAT. 6 by the template 'for every input the law returns true; each argument reads behind the call as it read before'; 0 by the template 'total and deterministic' (their statements: YtpielijehhhobaaTotals.lean).
  GIVEN WITH THE SEED: the statements are not yours to turn. If you find one false, say at which input.
  Laid BY PROGRAM, IN A SANDBOX (cutbox-rows.mjs): the forced cells as the released guide's own fill.sh prints them over the translation d2601147ba7c974f… (all of the seat's roots in one cut). By AI agents, Wed Nov 11 2026. No macro, syntax, notation, axiom, sorry.
-/
import Derived.Test.YtpielijehhhobaaChecked
import GoSem.Claim
import GoSem.ClaimJoined
import GoSem.ClaimMapViews
import Derived.JoinedTies
import Derived.KernelRfl
namespace Go.Proofs.Ytpielijehhhobaa
/- THE CELL 'sum', in the pinned program and in every row, IS THE sha256 OF THE DUMP (.gsa) THAT YtpielijehhhobaaProg.lean LOADS. Nothing in Lean hashes anything: it is a label: what it is worth is what the hold of that sum in a sandbox is worth. -/
noncomputable def Try.pinned : Pinned := { name := "ytpielijehhhobaa", sum := "d2601147ba7c974f7101b3c5f58f6fb322137536272958332d66490e480ea7a5", checked := Try.checked }
namespace Rows
def none {H : Type} : Left H := { results := [], args := [] }

/-- 'gamehallkeep1.ProofnumBudget': WHATEVER THE INPUT: true; the input reads as it did. -/
def proofnumBudgetSpec : ChangeSpec := { name := "proofnumBudget", fn := fun _ => fun
  | [d1, d2, d3, d4] => { results := [.lit (.bool true)], args := [d1, d2, d3, d4] }
  | _ => none }
def proofnumBudgetRow : OpenClaim := { program := "ytpielijehhhobaa", sum := "d2601147ba7c974f7101b3c5f58f6fb322137536272958332d66490e480ea7a5", func := "gamehall/gamehallkeep1.ProofnumBudget", spec := "proofnumBudget", unfollowed := true, recurses := true, apart := false }
def ProofnumBudgetSaid : Prop := proofnumBudgetRow.holds Try.pinned (OpenSpec.ofChange proofnumBudgetSpec)

/-- ITS FALSE NEIGHBOUR: 'it returns false'. Refute it at one input. -/
def proofnumBudgetWrong : ChangeSpec := { name := "proofnumBudget", fn := fun _ => fun
  | [d1, d2, d3, d4] => { results := [.lit (.bool false)], args := [d1, d2, d3, d4] }
  | _ => none }
def ProofnumBudgetWrongFalsely : Prop := proofnumBudgetRow.holds Try.pinned (OpenSpec.ofChange proofnumBudgetWrong)

/-- 'gamehallkeep1.WalkPrefix': WHATEVER THE INPUT: true; the input reads as it did. -/
def walkPrefixSpec : ChangeSpec := { name := "walkPrefix", fn := fun _ => fun
  | [d1, d2, d3, d4, d5] => { results := [.lit (.bool true)], args := [d1, d2, d3, d4, d5] }
  | _ => none }
def walkPrefixRow : OpenClaim := { program := "ytpielijehhhobaa", sum := "d2601147ba7c974f7101b3c5f58f6fb322137536272958332d66490e480ea7a5", func := "gamehall/gamehallkeep1.WalkPrefix", spec := "walkPrefix", unfollowed := true, recurses := true, apart := false }
def WalkPrefixSaid : Prop := walkPrefixRow.holds Try.pinned (OpenSpec.ofChange walkPrefixSpec)

/-- ITS FALSE NEIGHBOUR: 'it returns false'. Refute it at one input. -/
def walkPrefixWrong : ChangeSpec := { name := "walkPrefix", fn := fun _ => fun
  | [d1, d2, d3, d4, d5] => { results := [.lit (.bool false)], args := [d1, d2, d3, d4, d5] }
  | _ => none }
def WalkPrefixWrongFalsely : Prop := walkPrefixRow.holds Try.pinned (OpenSpec.ofChange walkPrefixWrong)

/-- 'gamehallkeep1.WalkDraws': WHATEVER THE INPUT: true; the input reads as it did. -/
def walkDrawsSpec : ChangeSpec := { name := "walkDraws", fn := fun _ => fun
  | [d1, d2] => { results := [.lit (.bool true)], args := [d1, d2] }
  | _ => none }
def walkDrawsRow : OpenClaim := { program := "ytpielijehhhobaa", sum := "d2601147ba7c974f7101b3c5f58f6fb322137536272958332d66490e480ea7a5", func := "gamehall/gamehallkeep1.WalkDraws", spec := "walkDraws", unfollowed := true, recurses := true, apart := false }
def WalkDrawsSaid : Prop := walkDrawsRow.holds Try.pinned (OpenSpec.ofChange walkDrawsSpec)

/-- ITS FALSE NEIGHBOUR: 'it returns false'. Refute it at one input. -/
def walkDrawsWrong : ChangeSpec := { name := "walkDraws", fn := fun _ => fun
  | [d1, d2] => { results := [.lit (.bool false)], args := [d1, d2] }
  | _ => none }
def WalkDrawsWrongFalsely : Prop := walkDrawsRow.holds Try.pinned (OpenSpec.ofChange walkDrawsWrong)

/-- 'gamehallkeep1.WalkAdds': WHATEVER THE INPUT: true; the input reads as it did. -/
def walkAddsSpec : ChangeSpec := { name := "walkAdds", fn := fun _ => fun
  | [d1, d2, d3, d4] => { results := [.lit (.bool true)], args := [d1, d2, d3, d4] }
  | _ => none }
def walkAddsRow : OpenClaim := { program := "ytpielijehhhobaa", sum := "d2601147ba7c974f7101b3c5f58f6fb322137536272958332d66490e480ea7a5", func := "gamehall/gamehallkeep1.WalkAdds", spec := "walkAdds", unfollowed := true, recurses := true, apart := false }
def WalkAddsSaid : Prop := walkAddsRow.holds Try.pinned (OpenSpec.ofChange walkAddsSpec)

/-- ITS FALSE NEIGHBOUR: 'it returns false'. Refute it at one input. -/
def walkAddsWrong : ChangeSpec := { name := "walkAdds", fn := fun _ => fun
  | [d1, d2, d3, d4] => { results := [.lit (.bool false)], args := [d1, d2, d3, d4] }
  | _ => none }
def WalkAddsWrongFalsely : Prop := walkAddsRow.holds Try.pinned (OpenSpec.ofChange walkAddsWrong)

/-- 'gamehallkeep1.ProofnumRight': WHATEVER THE INPUT: true; the input reads as it did. -/
def proofnumRightSpec : ChangeSpec := { name := "proofnumRight", fn := fun _ => fun
  | [d1, d2, d3, d4] => { results := [.lit (.bool true)], args := [d1, d2, d3, d4] }
  | _ => none }
def proofnumRightRow : OpenClaim := { program := "ytpielijehhhobaa", sum := "d2601147ba7c974f7101b3c5f58f6fb322137536272958332d66490e480ea7a5", func := "gamehall/gamehallkeep1.ProofnumRight", spec := "proofnumRight", unfollowed := true, recurses := true, apart := false }
def ProofnumRightSaid : Prop := proofnumRightRow.holds Try.pinned (OpenSpec.ofChange proofnumRightSpec)

/-- ITS FALSE NEIGHBOUR: 'it returns false'. Refute it at one input. -/
def proofnumRightWrong : ChangeSpec := { name := "proofnumRight", fn := fun _ => fun
  | [d1, d2, d3, d4] => { results := [.lit (.bool false)], args := [d1, d2, d3, d4] }
  | _ => none }
def ProofnumRightWrongFalsely : Prop := proofnumRightRow.holds Try.pinned (OpenSpec.ofChange proofnumRightWrong)

/-- 'gamehallkeep1.ProofnumFirst': WHATEVER THE INPUT: true; the input reads as it did. -/
def proofnumFirstSpec : ChangeSpec := { name := "proofnumFirst", fn := fun _ => fun
  | [d1, d2, d3, d4] => { results := [.lit (.bool true)], args := [d1, d2, d3, d4] }
  | _ => none }
def proofnumFirstRow : OpenClaim := { program := "ytpielijehhhobaa", sum := "d2601147ba7c974f7101b3c5f58f6fb322137536272958332d66490e480ea7a5", func := "gamehall/gamehallkeep1.ProofnumFirst", spec := "proofnumFirst", unfollowed := true, recurses := true, apart := false }
def ProofnumFirstSaid : Prop := proofnumFirstRow.holds Try.pinned (OpenSpec.ofChange proofnumFirstSpec)

/-- ITS FALSE NEIGHBOUR: 'it returns false'. Refute it at one input. -/
def proofnumFirstWrong : ChangeSpec := { name := "proofnumFirst", fn := fun _ => fun
  | [d1, d2, d3, d4] => { results := [.lit (.bool false)], args := [d1, d2, d3, d4] }
  | _ => none }
def ProofnumFirstWrongFalsely : Prop := proofnumFirstRow.holds Try.pinned (OpenSpec.ofChange proofnumFirstWrong)

/- THE SECOND FORM. 'bulk': how many values and letters a reading holds, each counted each time it is reached (what is shared counts as often as it is met; a slice's spare places count too). A statement '..UptoSaid' is the law's where the arguments, and the package variables that the reading takes, are together of bulk at most 1048576: NARROWER than '..Said'. Prove '..Said' where nothing that the law and all that it calls make is longer than what came in: it says more and counts as full. Else prove '..UptoSaid'. A law counts once. -/
mutual
def uptoBulk {H : Type} : DataW H → Nat
  | .lit (.string bytes) => bytes.length + 1
  | .lit _ => 1
  | .nil => 1
  | .ptr d => uptoBulk d + 1
  | .slice elems spare => uptoBulkAll elems + uptoBulkAll spare + 1
  | .agg parts => uptoBulkAll parts + 1
  | .iface _ d => uptoBulk d + 1
  | .map entries => uptoBulkEntries entries + 1
  | .held _ => 1
def uptoBulkAll {H : Type} : List (DataW H) → Nat
  | [] => 0
  | d :: r => uptoBulk d + uptoBulkAll r
def uptoBulkEntries {H : Type} : List (Lit × DataW H) → Nat
  | [] => 0
  | x :: r => uptoBulkEntry x + uptoBulkEntries r
def uptoBulkEntry {H : Type} : Lit × DataW H → Nat
  | (.string bytes, d) => bytes.length + uptoBulk d + 1
  | (_, d) => uptoBulk d + 1
 end
def uptoSmall : (H : Type) → List (DataW H) → Bool := fun _ ds => decide (uptoBulkAll ds ≤ 1048576)
def OpenSpec.upto (s : _root_.Go.ChangeSpec) : _root_.Go.OpenSpec := { _root_.Go.OpenSpec.ofChange s with cond := some uptoSmall }

/-- 'gamehallkeep1.ProofnumBudget', WHERE WHAT IT READS IS OF BULK AT MOST 1048576: true; the input reads as it did. -/
def proofnumBudgetUptoRow : OpenClaim := { program := "ytpielijehhhobaa", sum := "d2601147ba7c974f7101b3c5f58f6fb322137536272958332d66490e480ea7a5", func := "gamehall/gamehallkeep1.ProofnumBudget", spec := "proofnumBudget", unfollowed := true, recurses := true, apart := false, narrowed := true }
def ProofnumBudgetUptoSaid : Prop := proofnumBudgetUptoRow.holds Try.pinned (OpenSpec.upto proofnumBudgetSpec)

/-- 'gamehallkeep1.WalkPrefix', WHERE WHAT IT READS IS OF BULK AT MOST 1048576: true; the input reads as it did. -/
def walkPrefixUptoRow : OpenClaim := { program := "ytpielijehhhobaa", sum := "d2601147ba7c974f7101b3c5f58f6fb322137536272958332d66490e480ea7a5", func := "gamehall/gamehallkeep1.WalkPrefix", spec := "walkPrefix", unfollowed := true, recurses := true, apart := false, narrowed := true }
def WalkPrefixUptoSaid : Prop := walkPrefixUptoRow.holds Try.pinned (OpenSpec.upto walkPrefixSpec)

/-- 'gamehallkeep1.WalkDraws', WHERE WHAT IT READS IS OF BULK AT MOST 1048576: true; the input reads as it did. -/
def walkDrawsUptoRow : OpenClaim := { program := "ytpielijehhhobaa", sum := "d2601147ba7c974f7101b3c5f58f6fb322137536272958332d66490e480ea7a5", func := "gamehall/gamehallkeep1.WalkDraws", spec := "walkDraws", unfollowed := true, recurses := true, apart := false, narrowed := true }
def WalkDrawsUptoSaid : Prop := walkDrawsUptoRow.holds Try.pinned (OpenSpec.upto walkDrawsSpec)

/-- 'gamehallkeep1.WalkAdds', WHERE WHAT IT READS IS OF BULK AT MOST 1048576: true; the input reads as it did. -/
def walkAddsUptoRow : OpenClaim := { program := "ytpielijehhhobaa", sum := "d2601147ba7c974f7101b3c5f58f6fb322137536272958332d66490e480ea7a5", func := "gamehall/gamehallkeep1.WalkAdds", spec := "walkAdds", unfollowed := true, recurses := true, apart := false, narrowed := true }
def WalkAddsUptoSaid : Prop := walkAddsUptoRow.holds Try.pinned (OpenSpec.upto walkAddsSpec)

/-- 'gamehallkeep1.ProofnumRight', WHERE WHAT IT READS IS OF BULK AT MOST 1048576: true; the input reads as it did. -/
def proofnumRightUptoRow : OpenClaim := { program := "ytpielijehhhobaa", sum := "d2601147ba7c974f7101b3c5f58f6fb322137536272958332d66490e480ea7a5", func := "gamehall/gamehallkeep1.ProofnumRight", spec := "proofnumRight", unfollowed := true, recurses := true, apart := false, narrowed := true }
def ProofnumRightUptoSaid : Prop := proofnumRightUptoRow.holds Try.pinned (OpenSpec.upto proofnumRightSpec)

/-- 'gamehallkeep1.ProofnumFirst', WHERE WHAT IT READS IS OF BULK AT MOST 1048576: true; the input reads as it did. -/
def proofnumFirstUptoRow : OpenClaim := { program := "ytpielijehhhobaa", sum := "d2601147ba7c974f7101b3c5f58f6fb322137536272958332d66490e480ea7a5", func := "gamehall/gamehallkeep1.ProofnumFirst", spec := "proofnumFirst", unfollowed := true, recurses := true, apart := false, narrowed := true }
def ProofnumFirstUptoSaid : Prop := proofnumFirstUptoRow.holds Try.pinned (OpenSpec.upto proofnumFirstSpec)

end Rows
end Go.Proofs.Ytpielijehhhobaa
