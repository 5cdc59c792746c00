/-
  No cell of these rows narrows 'for every input' (looked for: loops, veiled, ifaces, maps, wideKeys, modest, calm, conditions, laid).
  DERIVED. THE GIVEN ROWS OF THIS SEAT. 12 by the template 'for every input the law returns true; each argument reads behind the call as it read before'; 0 by the template 'total and deterministic' (their statements: YtjmcjiklfhmdlaaTotals.lean).
  GIVEN WITH THE SEED: the statements are not yours to turn. If you find one false, say at which input.
  Laid BY PROGRAM, IN A SANDBOX (cutbox-rows.mjs): the forced cells as the released guide's own fill.sh prints them over the translation 01650a6dfb0c02d6… (all of the seat's roots in one cut). By AI agents, Wed Nov 11 2026. No macro, syntax, notation, axiom, sorry.
-/
import Derived.Test.YtjmcjiklfhmdlaaChecked
import GoSem.Claim
import GoSem.ClaimJoined
import GoSem.ClaimMapViews
import Derived.JoinedTies
import Derived.KernelRfl
namespace Go.Proofs.Ytjmcjiklfhmdlaa
/- THE CELL 'sum', in the pinned program and in every row, IS THE sha256 OF THE DUMP (.gsa) THAT YtjmcjiklfhmdlaaProg.lean LOADS. Nothing in Lean hashes anything: it is a label: what it is worth is what the hold of that sum in a sandbox is worth. -/
noncomputable def Try.pinned : Pinned := { name := "ytjmcjiklfhmdlaa", sum := "01650a6dfb0c02d647c9d26e7864fdf92090720fdd2e84d94307c64b888286d7", checked := Try.checked }
namespace Rows
def none {H : Type} : Left H := { results := [], args := [] }

/-- 'gamehallkeep1.NimsumWins': WHATEVER THE INPUT: true; the input reads as it did. -/
def nimsumWinsSpec : ChangeSpec := { name := "nimsumWins", fn := fun _ => fun
  | [d1, d2] => { results := [.lit (.bool true)], args := [d1, d2] }
  | _ => none }
def nimsumWinsRow : OpenClaim := { program := "ytjmcjiklfhmdlaa", sum := "01650a6dfb0c02d647c9d26e7864fdf92090720fdd2e84d94307c64b888286d7", func := "gamehall/gamehallkeep1.NimsumWins", spec := "nimsumWins", unfollowed := true, recurses := true, apart := false }
def NimsumWinsSaid : Prop := nimsumWinsRow.holds Try.pinned (OpenSpec.ofChange nimsumWinsSpec)

/-- ITS FALSE NEIGHBOUR: 'it returns false'. Refute it at one input. -/
def nimsumWinsWrong : ChangeSpec := { name := "nimsumWins", fn := fun _ => fun
  | [d1, d2] => { results := [.lit (.bool false)], args := [d1, d2] }
  | _ => none }
def NimsumWinsWrongFalsely : Prop := nimsumWinsRow.holds Try.pinned (OpenSpec.ofChange nimsumWinsWrong)

/-- 'gamehallkeep1.PlaceOther': WHATEVER THE INPUT: true; the input reads as it did. -/
def placeOtherSpec : ChangeSpec := { name := "placeOther", fn := fun _ => fun
  | [d1, d2] => { results := [.lit (.bool true)], args := [d1, d2] }
  | _ => none }
def placeOtherRow : OpenClaim := { program := "ytjmcjiklfhmdlaa", sum := "01650a6dfb0c02d647c9d26e7864fdf92090720fdd2e84d94307c64b888286d7", func := "gamehall/gamehallkeep1.PlaceOther", spec := "placeOther", unfollowed := true, recurses := true, apart := false }
def PlaceOtherSaid : Prop := placeOtherRow.holds Try.pinned (OpenSpec.ofChange placeOtherSpec)

/-- ITS FALSE NEIGHBOUR: 'it returns false'. Refute it at one input. -/
def placeOtherWrong : ChangeSpec := { name := "placeOther", fn := fun _ => fun
  | [d1, d2] => { results := [.lit (.bool false)], args := [d1, d2] }
  | _ => none }
def PlaceOtherWrongFalsely : Prop := placeOtherRow.holds Try.pinned (OpenSpec.ofChange placeOtherWrong)

/-- 'gamehallkeep1.SymmOrbits': WHATEVER THE INPUT: true; the input reads as it did. -/
def symmOrbitsSpec : ChangeSpec := { name := "symmOrbits", fn := fun _ => fun
  | [d1, d2, d3, d4] => { results := [.lit (.bool true)], args := [d1, d2, d3, d4] }
  | _ => none }
def symmOrbitsRow : OpenClaim := { program := "ytjmcjiklfhmdlaa", sum := "01650a6dfb0c02d647c9d26e7864fdf92090720fdd2e84d94307c64b888286d7", func := "gamehall/gamehallkeep1.SymmOrbits", spec := "symmOrbits", unfollowed := true, recurses := true, apart := false }
def SymmOrbitsSaid : Prop := symmOrbitsRow.holds Try.pinned (OpenSpec.ofChange symmOrbitsSpec)

/-- ITS FALSE NEIGHBOUR: 'it returns false'. Refute it at one input. -/
def symmOrbitsWrong : ChangeSpec := { name := "symmOrbits", fn := fun _ => fun
  | [d1, d2, d3, d4] => { results := [.lit (.bool false)], args := [d1, d2, d3, d4] }
  | _ => none }
def SymmOrbitsWrongFalsely : Prop := symmOrbitsRow.holds Try.pinned (OpenSpec.ofChange symmOrbitsWrong)

/-- 'gamehallkeep1.NimsumSplits': WHATEVER THE INPUT: true; the input reads as it did. -/
def nimsumSplitsSpec : ChangeSpec := { name := "nimsumSplits", fn := fun _ => fun
  | [d] => { results := [.lit (.bool true)], args := [d] }
  | _ => none }
def nimsumSplitsRow : OpenClaim := { program := "ytjmcjiklfhmdlaa", sum := "01650a6dfb0c02d647c9d26e7864fdf92090720fdd2e84d94307c64b888286d7", func := "gamehall/gamehallkeep1.NimsumSplits", spec := "nimsumSplits", unfollowed := true, recurses := true, apart := false }
def NimsumSplitsSaid : Prop := nimsumSplitsRow.holds Try.pinned (OpenSpec.ofChange nimsumSplitsSpec)

/-- ITS FALSE NEIGHBOUR: 'it returns false'. Refute it at one input. -/
def nimsumSplitsWrong : ChangeSpec := { name := "nimsumSplits", fn := fun _ => fun
  | [d] => { results := [.lit (.bool false)], args := [d] }
  | _ => none }
def NimsumSplitsWrongFalsely : Prop := nimsumSplitsRow.holds Try.pinned (OpenSpec.ofChange nimsumSplitsWrong)

/-- 'gamehallkeep1.ZobQuiet': WHATEVER THE INPUT: true; the input reads as it did. -/
def zobQuietSpec : ChangeSpec := { name := "zobQuiet", fn := fun _ => fun
  | [d1, d2] => { results := [.lit (.bool true)], args := [d1, d2] }
  | _ => none }
def zobQuietRow : OpenClaim := { program := "ytjmcjiklfhmdlaa", sum := "01650a6dfb0c02d647c9d26e7864fdf92090720fdd2e84d94307c64b888286d7", func := "gamehall/gamehallkeep1.ZobQuiet", spec := "zobQuiet", unfollowed := true, recurses := true, apart := false }
def ZobQuietSaid : Prop := zobQuietRow.holds Try.pinned (OpenSpec.ofChange zobQuietSpec)

/-- ITS FALSE NEIGHBOUR: 'it returns false'. Refute it at one input. -/
def zobQuietWrong : ChangeSpec := { name := "zobQuiet", fn := fun _ => fun
  | [d1, d2] => { results := [.lit (.bool false)], args := [d1, d2] }
  | _ => none }
def ZobQuietWrongFalsely : Prop := zobQuietRow.holds Try.pinned (OpenSpec.ofChange zobQuietWrong)

/-- 'gamehallkeep1.MovesValid': WHATEVER THE INPUT: true; the input reads as it did. -/
def movesValidSpec : ChangeSpec := { name := "movesValid", fn := fun _ => fun
  | [d1, d2, d3] => { results := [.lit (.bool true)], args := [d1, d2, d3] }
  | _ => none }
def movesValidRow : OpenClaim := { program := "ytjmcjiklfhmdlaa", sum := "01650a6dfb0c02d647c9d26e7864fdf92090720fdd2e84d94307c64b888286d7", func := "gamehall/gamehallkeep1.MovesValid", spec := "movesValid", unfollowed := true, recurses := true, apart := false }
def MovesValidSaid : Prop := movesValidRow.holds Try.pinned (OpenSpec.ofChange movesValidSpec)

/-- ITS FALSE NEIGHBOUR: 'it returns false'. Refute it at one input. -/
def movesValidWrong : ChangeSpec := { name := "movesValid", fn := fun _ => fun
  | [d1, d2, d3] => { results := [.lit (.bool false)], args := [d1, d2, d3] }
  | _ => none }
def MovesValidWrongFalsely : Prop := movesValidRow.holds Try.pinned (OpenSpec.ofChange movesValidWrong)

/-- 'gamehallkeep1.MovesPieces': WHATEVER THE INPUT: true; the input reads as it did. -/
def movesPiecesSpec : ChangeSpec := { name := "movesPieces", fn := fun _ => fun
  | [d1, d2] => { results := [.lit (.bool true)], args := [d1, d2] }
  | _ => none }
def movesPiecesRow : OpenClaim := { program := "ytjmcjiklfhmdlaa", sum := "01650a6dfb0c02d647c9d26e7864fdf92090720fdd2e84d94307c64b888286d7", func := "gamehall/gamehallkeep1.MovesPieces", spec := "movesPieces", unfollowed := true, recurses := true, apart := false }
def MovesPiecesSaid : Prop := movesPiecesRow.holds Try.pinned (OpenSpec.ofChange movesPiecesSpec)

/-- ITS FALSE NEIGHBOUR: 'it returns false'. Refute it at one input. -/
def movesPiecesWrong : ChangeSpec := { name := "movesPieces", fn := fun _ => fun
  | [d1, d2] => { results := [.lit (.bool false)], args := [d1, d2] }
  | _ => none }
def MovesPiecesWrongFalsely : Prop := movesPiecesRow.holds Try.pinned (OpenSpec.ofChange movesPiecesWrong)

/-- 'gamehallkeep1.EndsExchanged': WHATEVER THE INPUT: true; the input reads as it did. -/
def endsExchangedSpec : ChangeSpec := { name := "endsExchanged", fn := fun _ => fun
  | [d1, d2] => { results := [.lit (.bool true)], args := [d1, d2] }
  | _ => none }
def endsExchangedRow : OpenClaim := { program := "ytjmcjiklfhmdlaa", sum := "01650a6dfb0c02d647c9d26e7864fdf92090720fdd2e84d94307c64b888286d7", func := "gamehall/gamehallkeep1.EndsExchanged", spec := "endsExchanged", unfollowed := true, recurses := true, apart := false }
def EndsExchangedSaid : Prop := endsExchangedRow.holds Try.pinned (OpenSpec.ofChange endsExchangedSpec)

/-- ITS FALSE NEIGHBOUR: 'it returns false'. Refute it at one input. -/
def endsExchangedWrong : ChangeSpec := { name := "endsExchanged", fn := fun _ => fun
  | [d1, d2] => { results := [.lit (.bool false)], args := [d1, d2] }
  | _ => none }
def EndsExchangedWrongFalsely : Prop := endsExchangedRow.holds Try.pinned (OpenSpec.ofChange endsExchangedWrong)

/-- 'gamehallkeep1.MovesExchanged': WHATEVER THE INPUT: true; the input reads as it did. -/
def movesExchangedSpec : ChangeSpec := { name := "movesExchanged", fn := fun _ => fun
  | [d1, d2] => { results := [.lit (.bool true)], args := [d1, d2] }
  | _ => none }
def movesExchangedRow : OpenClaim := { program := "ytjmcjiklfhmdlaa", sum := "01650a6dfb0c02d647c9d26e7864fdf92090720fdd2e84d94307c64b888286d7", func := "gamehall/gamehallkeep1.MovesExchanged", spec := "movesExchanged", unfollowed := true, recurses := true, apart := false }
def MovesExchangedSaid : Prop := movesExchangedRow.holds Try.pinned (OpenSpec.ofChange movesExchangedSpec)

/-- ITS FALSE NEIGHBOUR: 'it returns false'. Refute it at one input. -/
def movesExchangedWrong : ChangeSpec := { name := "movesExchanged", fn := fun _ => fun
  | [d1, d2] => { results := [.lit (.bool false)], args := [d1, d2] }
  | _ => none }
def MovesExchangedWrongFalsely : Prop := movesExchangedRow.holds Try.pinned (OpenSpec.ofChange movesExchangedWrong)

/-- 'gamehallkeep1.ZobChanges': WHATEVER THE INPUT: true; the input reads as it did. -/
def zobChangesSpec : ChangeSpec := { name := "zobChanges", fn := fun _ => fun
  | [d1, d2, d3] => { results := [.lit (.bool true)], args := [d1, d2, d3] }
  | _ => none }
def zobChangesRow : OpenClaim := { program := "ytjmcjiklfhmdlaa", sum := "01650a6dfb0c02d647c9d26e7864fdf92090720fdd2e84d94307c64b888286d7", func := "gamehall/gamehallkeep1.ZobChanges", spec := "zobChanges", unfollowed := true, recurses := true, apart := false }
def ZobChangesSaid : Prop := zobChangesRow.holds Try.pinned (OpenSpec.ofChange zobChangesSpec)

/-- ITS FALSE NEIGHBOUR: 'it returns false'. Refute it at one input. -/
def zobChangesWrong : ChangeSpec := { name := "zobChanges", fn := fun _ => fun
  | [d1, d2, d3] => { results := [.lit (.bool false)], args := [d1, d2, d3] }
  | _ => none }
def ZobChangesWrongFalsely : Prop := zobChangesRow.holds Try.pinned (OpenSpec.ofChange zobChangesWrong)

/-- 'gamehallkeep1.EndsOpen': WHATEVER THE INPUT: true; the input reads as it did. -/
def endsOpenSpec : ChangeSpec := { name := "endsOpen", fn := fun _ => fun
  | [d1, d2] => { results := [.lit (.bool true)], args := [d1, d2] }
  | _ => none }
def endsOpenRow : OpenClaim := { program := "ytjmcjiklfhmdlaa", sum := "01650a6dfb0c02d647c9d26e7864fdf92090720fdd2e84d94307c64b888286d7", func := "gamehall/gamehallkeep1.EndsOpen", spec := "endsOpen", unfollowed := true, recurses := true, apart := false }
def EndsOpenSaid : Prop := endsOpenRow.holds Try.pinned (OpenSpec.ofChange endsOpenSpec)

/-- ITS FALSE NEIGHBOUR: 'it returns false'. Refute it at one input. -/
def endsOpenWrong : ChangeSpec := { name := "endsOpen", fn := fun _ => fun
  | [d1, d2] => { results := [.lit (.bool false)], args := [d1, d2] }
  | _ => none }
def EndsOpenWrongFalsely : Prop := endsOpenRow.holds Try.pinned (OpenSpec.ofChange endsOpenWrong)

/-- 'gamehallkeep1.BoardBack': WHATEVER THE INPUT: true; the input reads as it did. -/
def boardBackSpec : ChangeSpec := { name := "boardBack", fn := fun _ => fun
  | [d1, d2, d3] => { results := [.lit (.bool true)], args := [d1, d2, d3] }
  | _ => none }
def boardBackRow : OpenClaim := { program := "ytjmcjiklfhmdlaa", sum := "01650a6dfb0c02d647c9d26e7864fdf92090720fdd2e84d94307c64b888286d7", func := "gamehall/gamehallkeep1.BoardBack", spec := "boardBack", unfollowed := true, recurses := true, apart := false }
def BoardBackSaid : Prop := boardBackRow.holds Try.pinned (OpenSpec.ofChange boardBackSpec)

/-- ITS FALSE NEIGHBOUR: 'it returns false'. Refute it at one input. -/
def boardBackWrong : ChangeSpec := { name := "boardBack", fn := fun _ => fun
  | [d1, d2, d3] => { results := [.lit (.bool false)], args := [d1, d2, d3] }
  | _ => none }
def BoardBackWrongFalsely : Prop := boardBackRow.holds Try.pinned (OpenSpec.ofChange boardBackWrong)

/- THE SECOND FORM. 'bulk': how many values and letters a reading holds, each counted each time it is reached (what is shared counts as often as it is met; a slice's spare places count too). A statement '..UptoSaid' is the law's where the arguments, and the package variables that the reading takes, are together of bulk at most 1048576: NARROWER than '..Said'. Prove '..Said' where nothing that the law and all that it calls make is longer than what came in: it says more and counts as full. Else prove '..UptoSaid'. A law counts once. -/
mutual
def uptoBulk {H : Type} : DataW H → Nat
  | .lit (.string bytes) => bytes.length + 1
  | .lit _ => 1
  | .nil => 1
  | .ptr d => uptoBulk d + 1
  | .slice elems spare => uptoBulkAll elems + uptoBulkAll spare + 1
  | .agg parts => uptoBulkAll parts + 1
  | .iface _ d => uptoBulk d + 1
  | .map entries => uptoBulkEntries entries + 1
  | .held _ => 1
def uptoBulkAll {H : Type} : List (DataW H) → Nat
  | [] => 0
  | d :: r => uptoBulk d + uptoBulkAll r
def uptoBulkEntries {H : Type} : List (Lit × DataW H) → Nat
  | [] => 0
  | x :: r => uptoBulkEntry x + uptoBulkEntries r
def uptoBulkEntry {H : Type} : Lit × DataW H → Nat
  | (.string bytes, d) => bytes.length + uptoBulk d + 1
  | (_, d) => uptoBulk d + 1
 end
def uptoSmall : (H : Type) → List (DataW H) → Bool := fun _ ds => decide (uptoBulkAll ds ≤ 1048576)
def OpenSpec.upto (s : _root_.Go.ChangeSpec) : _root_.Go.OpenSpec := { _root_.Go.OpenSpec.ofChange s with cond := some uptoSmall }

/-- 'gamehallkeep1.NimsumWins', WHERE WHAT IT READS IS OF BULK AT MOST 1048576: true; the input reads as it did. -/
def nimsumWinsUptoRow : OpenClaim := { program := "ytjmcjiklfhmdlaa", sum := "01650a6dfb0c02d647c9d26e7864fdf92090720fdd2e84d94307c64b888286d7", func := "gamehall/gamehallkeep1.NimsumWins", spec := "nimsumWins", unfollowed := true, recurses := true, apart := false, narrowed := true }
def NimsumWinsUptoSaid : Prop := nimsumWinsUptoRow.holds Try.pinned (OpenSpec.upto nimsumWinsSpec)

/-- 'gamehallkeep1.PlaceOther', WHERE WHAT IT READS IS OF BULK AT MOST 1048576: true; the input reads as it did. -/
def placeOtherUptoRow : OpenClaim := { program := "ytjmcjiklfhmdlaa", sum := "01650a6dfb0c02d647c9d26e7864fdf92090720fdd2e84d94307c64b888286d7", func := "gamehall/gamehallkeep1.PlaceOther", spec := "placeOther", unfollowed := true, recurses := true, apart := false, narrowed := true }
def PlaceOtherUptoSaid : Prop := placeOtherUptoRow.holds Try.pinned (OpenSpec.upto placeOtherSpec)

/-- 'gamehallkeep1.SymmOrbits', WHERE WHAT IT READS IS OF BULK AT MOST 1048576: true; the input reads as it did. -/
def symmOrbitsUptoRow : OpenClaim := { program := "ytjmcjiklfhmdlaa", sum := "01650a6dfb0c02d647c9d26e7864fdf92090720fdd2e84d94307c64b888286d7", func := "gamehall/gamehallkeep1.SymmOrbits", spec := "symmOrbits", unfollowed := true, recurses := true, apart := false, narrowed := true }
def SymmOrbitsUptoSaid : Prop := symmOrbitsUptoRow.holds Try.pinned (OpenSpec.upto symmOrbitsSpec)

/-- 'gamehallkeep1.NimsumSplits', WHERE WHAT IT READS IS OF BULK AT MOST 1048576: true; the input reads as it did. -/
def nimsumSplitsUptoRow : OpenClaim := { program := "ytjmcjiklfhmdlaa", sum := "01650a6dfb0c02d647c9d26e7864fdf92090720fdd2e84d94307c64b888286d7", func := "gamehall/gamehallkeep1.NimsumSplits", spec := "nimsumSplits", unfollowed := true, recurses := true, apart := false, narrowed := true }
def NimsumSplitsUptoSaid : Prop := nimsumSplitsUptoRow.holds Try.pinned (OpenSpec.upto nimsumSplitsSpec)

/-- 'gamehallkeep1.ZobQuiet', WHERE WHAT IT READS IS OF BULK AT MOST 1048576: true; the input reads as it did. -/
def zobQuietUptoRow : OpenClaim := { program := "ytjmcjiklfhmdlaa", sum := "01650a6dfb0c02d647c9d26e7864fdf92090720fdd2e84d94307c64b888286d7", func := "gamehall/gamehallkeep1.ZobQuiet", spec := "zobQuiet", unfollowed := true, recurses := true, apart := false, narrowed := true }
def ZobQuietUptoSaid : Prop := zobQuietUptoRow.holds Try.pinned (OpenSpec.upto zobQuietSpec)

/-- 'gamehallkeep1.MovesValid', WHERE WHAT IT READS IS OF BULK AT MOST 1048576: true; the input reads as it did. -/
def movesValidUptoRow : OpenClaim := { program := "ytjmcjiklfhmdlaa", sum := "01650a6dfb0c02d647c9d26e7864fdf92090720fdd2e84d94307c64b888286d7", func := "gamehall/gamehallkeep1.MovesValid", spec := "movesValid", unfollowed := true, recurses := true, apart := false, narrowed := true }
def MovesValidUptoSaid : Prop := movesValidUptoRow.holds Try.pinned (OpenSpec.upto movesValidSpec)

/-- 'gamehallkeep1.MovesPieces', WHERE WHAT IT READS IS OF BULK AT MOST 1048576: true; the input reads as it did. -/
def movesPiecesUptoRow : OpenClaim := { program := "ytjmcjiklfhmdlaa", sum := "01650a6dfb0c02d647c9d26e7864fdf92090720fdd2e84d94307c64b888286d7", func := "gamehall/gamehallkeep1.MovesPieces", spec := "movesPieces", unfollowed := true, recurses := true, apart := false, narrowed := true }
def MovesPiecesUptoSaid : Prop := movesPiecesUptoRow.holds Try.pinned (OpenSpec.upto movesPiecesSpec)

/-- 'gamehallkeep1.EndsExchanged', WHERE WHAT IT READS IS OF BULK AT MOST 1048576: true; the input reads as it did. -/
def endsExchangedUptoRow : OpenClaim := { program := "ytjmcjiklfhmdlaa", sum := "01650a6dfb0c02d647c9d26e7864fdf92090720fdd2e84d94307c64b888286d7", func := "gamehall/gamehallkeep1.EndsExchanged", spec := "endsExchanged", unfollowed := true, recurses := true, apart := false, narrowed := true }
def EndsExchangedUptoSaid : Prop := endsExchangedUptoRow.holds Try.pinned (OpenSpec.upto endsExchangedSpec)

/-- 'gamehallkeep1.MovesExchanged', WHERE WHAT IT READS IS OF BULK AT MOST 1048576: true; the input reads as it did. -/
def movesExchangedUptoRow : OpenClaim := { program := "ytjmcjiklfhmdlaa", sum := "01650a6dfb0c02d647c9d26e7864fdf92090720fdd2e84d94307c64b888286d7", func := "gamehall/gamehallkeep1.MovesExchanged", spec := "movesExchanged", unfollowed := true, recurses := true, apart := false, narrowed := true }
def MovesExchangedUptoSaid : Prop := movesExchangedUptoRow.holds Try.pinned (OpenSpec.upto movesExchangedSpec)

/-- 'gamehallkeep1.ZobChanges', WHERE WHAT IT READS IS OF BULK AT MOST 1048576: true; the input reads as it did. -/
def zobChangesUptoRow : OpenClaim := { program := "ytjmcjiklfhmdlaa", sum := "01650a6dfb0c02d647c9d26e7864fdf92090720fdd2e84d94307c64b888286d7", func := "gamehall/gamehallkeep1.ZobChanges", spec := "zobChanges", unfollowed := true, recurses := true, apart := false, narrowed := true }
def ZobChangesUptoSaid : Prop := zobChangesUptoRow.holds Try.pinned (OpenSpec.upto zobChangesSpec)

/-- 'gamehallkeep1.EndsOpen', WHERE WHAT IT READS IS OF BULK AT MOST 1048576: true; the input reads as it did. -/
def endsOpenUptoRow : OpenClaim := { program := "ytjmcjiklfhmdlaa", sum := "01650a6dfb0c02d647c9d26e7864fdf92090720fdd2e84d94307c64b888286d7", func := "gamehall/gamehallkeep1.EndsOpen", spec := "endsOpen", unfollowed := true, recurses := true, apart := false, narrowed := true }
def EndsOpenUptoSaid : Prop := endsOpenUptoRow.holds Try.pinned (OpenSpec.upto endsOpenSpec)

/-- 'gamehallkeep1.BoardBack', WHERE WHAT IT READS IS OF BULK AT MOST 1048576: true; the input reads as it did. -/
def boardBackUptoRow : OpenClaim := { program := "ytjmcjiklfhmdlaa", sum := "01650a6dfb0c02d647c9d26e7864fdf92090720fdd2e84d94307c64b888286d7", func := "gamehall/gamehallkeep1.BoardBack", spec := "boardBack", unfollowed := true, recurses := true, apart := false, narrowed := true }
def BoardBackUptoSaid : Prop := boardBackUptoRow.holds Try.pinned (OpenSpec.upto boardBackSpec)

end Rows
end Go.Proofs.Ytjmcjiklfhmdlaa
