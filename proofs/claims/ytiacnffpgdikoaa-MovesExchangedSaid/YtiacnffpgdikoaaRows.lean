/-
  No cell of these rows narrows 'for every input' (looked for: loops, veiled, ifaces, maps, wideKeys, modest, calm, conditions, laid).
  DERIVED. THE GIVEN ROWS OF THIS SEAT. 4 by the template 'for every input the law returns true; each argument reads behind the call as it read before'; 0 by the template 'total and deterministic' (their statements: YtiacnffpgdikoaaTotals.lean).
  GIVEN WITH THE SEED: the statements are not yours to turn. If you find one false, say at which input.
  Laid BY PROGRAM, IN A SANDBOX (cutbox-rows.mjs): the forced cells as the released guide's own fill.sh prints them over the translation 16bbdc95cd2409a8… (all of the seat's roots in one cut). By AI agents, Wed Nov 11 2026. No macro, syntax, notation, axiom, sorry.
-/
import Derived.Test.YtiacnffpgdikoaaChecked
import GoSem.Claim
import GoSem.ClaimJoined
import GoSem.ClaimMapViews
import Derived.JoinedTies
import Derived.KernelRfl
namespace Go.Proofs.Ytiacnffpgdikoaa
/- THE CELL 'sum', in the pinned program and in every row, IS THE sha256 OF THE DUMP (.gsa) THAT YtiacnffpgdikoaaProg.lean LOADS. Nothing in Lean hashes anything: it is a label: what it is worth is what the hold of that sum in a sandbox is worth. -/
noncomputable def Try.pinned : Pinned := { name := "ytiacnffpgdikoaa", sum := "16bbdc95cd2409a8f6b3596e3f58886071480f785999219b9bacd4993d1e84ea", checked := Try.checked }
namespace Rows
def none {H : Type} : Left H := { results := [], args := [] }

/-- 'gamehallkeep1.MovesExchanged': WHATEVER THE INPUT: true; the input reads as it did. -/
def movesExchangedSpec : ChangeSpec := { name := "movesExchanged", fn := fun _ => fun
  | [d1, d2] => { results := [.lit (.bool true)], args := [d1, d2] }
  | _ => none }
def movesExchangedRow : OpenClaim := { program := "ytiacnffpgdikoaa", sum := "16bbdc95cd2409a8f6b3596e3f58886071480f785999219b9bacd4993d1e84ea", func := "gamehall/gamehallkeep1.MovesExchanged", spec := "movesExchanged", unfollowed := true, recurses := true, apart := false }
def MovesExchangedSaid : Prop := movesExchangedRow.holds Try.pinned (OpenSpec.ofChange movesExchangedSpec)

/-- ITS FALSE NEIGHBOUR: 'it returns false'. Refute it at one input. -/
def movesExchangedWrong : ChangeSpec := { name := "movesExchanged", fn := fun _ => fun
  | [d1, d2] => { results := [.lit (.bool false)], args := [d1, d2] }
  | _ => none }
def MovesExchangedWrongFalsely : Prop := movesExchangedRow.holds Try.pinned (OpenSpec.ofChange movesExchangedWrong)

/-- 'gamehallkeep1.PlainReplays': WHATEVER THE INPUT: true; the input reads as it did. -/
def plainReplaysSpec : ChangeSpec := { name := "plainReplays", fn := fun _ => fun
  | [d1, d2] => { results := [.lit (.bool true)], args := [d1, d2] }
  | _ => none }
def plainReplaysRow : OpenClaim := { program := "ytiacnffpgdikoaa", sum := "16bbdc95cd2409a8f6b3596e3f58886071480f785999219b9bacd4993d1e84ea", func := "gamehall/gamehallkeep1.PlainReplays", spec := "plainReplays", unfollowed := true, recurses := true, apart := false }
def PlainReplaysSaid : Prop := plainReplaysRow.holds Try.pinned (OpenSpec.ofChange plainReplaysSpec)

/-- ITS FALSE NEIGHBOUR: 'it returns false'. Refute it at one input. -/
def plainReplaysWrong : ChangeSpec := { name := "plainReplays", fn := fun _ => fun
  | [d1, d2] => { results := [.lit (.bool false)], args := [d1, d2] }
  | _ => none }
def PlainReplaysWrongFalsely : Prop := plainReplaysRow.holds Try.pinned (OpenSpec.ofChange plainReplaysWrong)

/-- 'gamehallkeep1.PlainRepeats': WHATEVER THE INPUT: true; the input reads as it did. -/
def plainRepeatsSpec : ChangeSpec := { name := "plainRepeats", fn := fun _ => fun
  | [d1, d2] => { results := [.lit (.bool true)], args := [d1, d2] }
  | _ => none }
def plainRepeatsRow : OpenClaim := { program := "ytiacnffpgdikoaa", sum := "16bbdc95cd2409a8f6b3596e3f58886071480f785999219b9bacd4993d1e84ea", func := "gamehall/gamehallkeep1.PlainRepeats", spec := "plainRepeats", unfollowed := true, recurses := true, apart := false }
def PlainRepeatsSaid : Prop := plainRepeatsRow.holds Try.pinned (OpenSpec.ofChange plainRepeatsSpec)

/-- ITS FALSE NEIGHBOUR: 'it returns false'. Refute it at one input. -/
def plainRepeatsWrong : ChangeSpec := { name := "plainRepeats", fn := fun _ => fun
  | [d1, d2] => { results := [.lit (.bool false)], args := [d1, d2] }
  | _ => none }
def PlainRepeatsWrongFalsely : Prop := plainRepeatsRow.holds Try.pinned (OpenSpec.ofChange plainRepeatsWrong)

/-- 'gamehallkeep1.MinimaxLines': WHATEVER THE INPUT: true; the input reads as it did. -/
def minimaxLinesSpec : ChangeSpec := { name := "minimaxLines", fn := fun _ => fun
  | [d1, d2, d3] => { results := [.lit (.bool true)], args := [d1, d2, d3] }
  | _ => none }
def minimaxLinesRow : OpenClaim := { program := "ytiacnffpgdikoaa", sum := "16bbdc95cd2409a8f6b3596e3f58886071480f785999219b9bacd4993d1e84ea", func := "gamehall/gamehallkeep1.MinimaxLines", spec := "minimaxLines", unfollowed := true, recurses := true, apart := false }
def MinimaxLinesSaid : Prop := minimaxLinesRow.holds Try.pinned (OpenSpec.ofChange minimaxLinesSpec)

/-- ITS FALSE NEIGHBOUR: 'it returns false'. Refute it at one input. -/
def minimaxLinesWrong : ChangeSpec := { name := "minimaxLines", fn := fun _ => fun
  | [d1, d2, d3] => { results := [.lit (.bool false)], args := [d1, d2, d3] }
  | _ => none }
def MinimaxLinesWrongFalsely : Prop := minimaxLinesRow.holds Try.pinned (OpenSpec.ofChange minimaxLinesWrong)

/- THE SECOND FORM. 'bulk': how many values and letters a reading holds, each counted each time it is reached (what is shared counts as often as it is met; a slice's spare places count too). A statement '..UptoSaid' is the law's where the arguments, and the package variables that the reading takes, are together of bulk at most 1048576: NARROWER than '..Said'. Prove '..Said' where nothing that the law and all that it calls make is longer than what came in: it says more and counts as full. Else prove '..UptoSaid'. A law counts once. -/
mutual
def uptoBulk {H : Type} : DataW H → Nat
  | .lit (.string bytes) => bytes.length + 1
  | .lit _ => 1
  | .nil => 1
  | .ptr d => uptoBulk d + 1
  | .slice elems spare => uptoBulkAll elems + uptoBulkAll spare + 1
  | .agg parts => uptoBulkAll parts + 1
  | .iface _ d => uptoBulk d + 1
  | .map entries => uptoBulkEntries entries + 1
  | .held _ => 1
def uptoBulkAll {H : Type} : List (DataW H) → Nat
  | [] => 0
  | d :: r => uptoBulk d + uptoBulkAll r
def uptoBulkEntries {H : Type} : List (Lit × DataW H) → Nat
  | [] => 0
  | x :: r => uptoBulkEntry x + uptoBulkEntries r
def uptoBulkEntry {H : Type} : Lit × DataW H → Nat
  | (.string bytes, d) => bytes.length + uptoBulk d + 1
  | (_, d) => uptoBulk d + 1
 end
def uptoSmall : (H : Type) → List (DataW H) → Bool := fun _ ds => decide (uptoBulkAll ds ≤ 1048576)
def OpenSpec.upto (s : _root_.Go.ChangeSpec) : _root_.Go.OpenSpec := { _root_.Go.OpenSpec.ofChange s with cond := some uptoSmall }

/-- 'gamehallkeep1.MovesExchanged', WHERE WHAT IT READS IS OF BULK AT MOST 1048576: true; the input reads as it did. -/
def movesExchangedUptoRow : OpenClaim := { program := "ytiacnffpgdikoaa", sum := "16bbdc95cd2409a8f6b3596e3f58886071480f785999219b9bacd4993d1e84ea", func := "gamehall/gamehallkeep1.MovesExchanged", spec := "movesExchanged", unfollowed := true, recurses := true, apart := false, narrowed := true }
def MovesExchangedUptoSaid : Prop := movesExchangedUptoRow.holds Try.pinned (OpenSpec.upto movesExchangedSpec)

/-- 'gamehallkeep1.PlainReplays', WHERE WHAT IT READS IS OF BULK AT MOST 1048576: true; the input reads as it did. -/
def plainReplaysUptoRow : OpenClaim := { program := "ytiacnffpgdikoaa", sum := "16bbdc95cd2409a8f6b3596e3f58886071480f785999219b9bacd4993d1e84ea", func := "gamehall/gamehallkeep1.PlainReplays", spec := "plainReplays", unfollowed := true, recurses := true, apart := false, narrowed := true }
def PlainReplaysUptoSaid : Prop := plainReplaysUptoRow.holds Try.pinned (OpenSpec.upto plainReplaysSpec)

/-- 'gamehallkeep1.PlainRepeats', WHERE WHAT IT READS IS OF BULK AT MOST 1048576: true; the input reads as it did. -/
def plainRepeatsUptoRow : OpenClaim := { program := "ytiacnffpgdikoaa", sum := "16bbdc95cd2409a8f6b3596e3f58886071480f785999219b9bacd4993d1e84ea", func := "gamehall/gamehallkeep1.PlainRepeats", spec := "plainRepeats", unfollowed := true, recurses := true, apart := false, narrowed := true }
def PlainRepeatsUptoSaid : Prop := plainRepeatsUptoRow.holds Try.pinned (OpenSpec.upto plainRepeatsSpec)

/-- 'gamehallkeep1.MinimaxLines', WHERE WHAT IT READS IS OF BULK AT MOST 1048576: true; the input reads as it did. -/
def minimaxLinesUptoRow : OpenClaim := { program := "ytiacnffpgdikoaa", sum := "16bbdc95cd2409a8f6b3596e3f58886071480f785999219b9bacd4993d1e84ea", func := "gamehall/gamehallkeep1.MinimaxLines", spec := "minimaxLines", unfollowed := true, recurses := true, apart := false, narrowed := true }
def MinimaxLinesUptoSaid : Prop := minimaxLinesUptoRow.holds Try.pinned (OpenSpec.upto minimaxLinesSpec)

end Rows
end Go.Proofs.Ytiacnffpgdikoaa
