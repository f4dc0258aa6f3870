/-
  No cell of these rows narrows 'for every input' (looked for: loops, veiled, ifaces, maps, wideKeys, modest, calm, conditions, laid).
  DERIVED. THE GIVEN ROWS OF THIS SEAT. 12 by the template 'for every input the law returns true; each argument reads behind the call as it read before'; 0 by the template 'total and deterministic' (their statements: YtinjdlnikhcbfaaTotals.lean).
  GIVEN WITH THE SEED: the statements are not yours to turn. If you find one false, say at which input.
  Laid BY PROGRAM, IN A SANDBOX (cutbox-rows.mjs): the forced cells as the released guide's own fill.sh prints them over the translation 8a86883594a03512… (all of the seat's roots in one cut). By AI agents, Wed Nov 11 2026. No macro, syntax, notation, axiom, sorry.
-/
import Derived.Test.YtinjdlnikhcbfaaChecked
import GoSem.Claim
import GoSem.ClaimJoined
import GoSem.ClaimMapViews
import Derived.JoinedTies
import Derived.KernelRfl
namespace Go.Proofs.Ytinjdlnikhcbfaa
/- THE CELL 'sum', in the pinned program and in every row, IS THE sha256 OF THE DUMP (.gsa) THAT YtinjdlnikhcbfaaProg.lean LOADS. Nothing in Lean hashes anything: it is a label: what it is worth is what the hold of that sum in a sandbox is worth. -/
noncomputable def Try.pinned : Pinned := { name := "ytinjdlnikhcbfaa", sum := "8a86883594a03512c2ea18b22df5ae42b7aeafc59fe8cc324317b7fb7cd8e565", checked := Try.checked }
namespace Rows
def none {H : Type} : Left H := { results := [], args := [] }

/-- 'garmentlaw38.SpreadLays': WHATEVER THE INPUT: true; the input reads as it did. -/
def spreadLaysSpec : ChangeSpec := { name := "spreadLays", fn := fun _ => fun
  | [d] => { results := [.lit (.bool true)], args := [d] }
  | _ => none }
def spreadLaysRow : OpenClaim := { program := "ytinjdlnikhcbfaa", sum := "8a86883594a03512c2ea18b22df5ae42b7aeafc59fe8cc324317b7fb7cd8e565", func := "garment/garmentlaw38.SpreadLays", spec := "spreadLays", unfollowed := true, recurses := true, apart := false }
def SpreadLaysSaid : Prop := spreadLaysRow.holds Try.pinned (OpenSpec.ofChange spreadLaysSpec)

/-- ITS FALSE NEIGHBOUR: 'it returns false'. Refute it at one input. -/
def spreadLaysWrong : ChangeSpec := { name := "spreadLays", fn := fun _ => fun
  | [d] => { results := [.lit (.bool false)], args := [d] }
  | _ => none }
def SpreadLaysWrongFalsely : Prop := spreadLaysRow.holds Try.pinned (OpenSpec.ofChange spreadLaysWrong)

/-- 'garmentlaw38.SpreadChecks': WHATEVER THE INPUT: true; the input reads as it did. -/
def spreadChecksSpec : ChangeSpec := { name := "spreadChecks", fn := fun _ => fun
  | [d1, d2] => { results := [.lit (.bool true)], args := [d1, d2] }
  | _ => none }
def spreadChecksRow : OpenClaim := { program := "ytinjdlnikhcbfaa", sum := "8a86883594a03512c2ea18b22df5ae42b7aeafc59fe8cc324317b7fb7cd8e565", func := "garment/garmentlaw38.SpreadChecks", spec := "spreadChecks", unfollowed := true, recurses := true, apart := false }
def SpreadChecksSaid : Prop := spreadChecksRow.holds Try.pinned (OpenSpec.ofChange spreadChecksSpec)

/-- ITS FALSE NEIGHBOUR: 'it returns false'. Refute it at one input. -/
def spreadChecksWrong : ChangeSpec := { name := "spreadChecks", fn := fun _ => fun
  | [d1, d2] => { results := [.lit (.bool false)], args := [d1, d2] }
  | _ => none }
def SpreadChecksWrongFalsely : Prop := spreadChecksRow.holds Try.pinned (OpenSpec.ofChange spreadChecksWrong)

/-- 'garmentlaw38.SpreadOnce': WHATEVER THE INPUT: true; the input reads as it did. -/
def spreadOnceSpec : ChangeSpec := { name := "spreadOnce", fn := fun _ => fun
  | [d] => { results := [.lit (.bool true)], args := [d] }
  | _ => none }
def spreadOnceRow : OpenClaim := { program := "ytinjdlnikhcbfaa", sum := "8a86883594a03512c2ea18b22df5ae42b7aeafc59fe8cc324317b7fb7cd8e565", func := "garment/garmentlaw38.SpreadOnce", spec := "spreadOnce", unfollowed := true, recurses := true, apart := false }
def SpreadOnceSaid : Prop := spreadOnceRow.holds Try.pinned (OpenSpec.ofChange spreadOnceSpec)

/-- ITS FALSE NEIGHBOUR: 'it returns false'. Refute it at one input. -/
def spreadOnceWrong : ChangeSpec := { name := "spreadOnce", fn := fun _ => fun
  | [d] => { results := [.lit (.bool false)], args := [d] }
  | _ => none }
def SpreadOnceWrongFalsely : Prop := spreadOnceRow.holds Try.pinned (OpenSpec.ofChange spreadOnceWrong)

/-- 'garmentlaw38.SpreadWhole': WHATEVER THE INPUT: true; the input reads as it did. -/
def spreadWholeSpec : ChangeSpec := { name := "spreadWhole", fn := fun _ => fun
  | [d] => { results := [.lit (.bool true)], args := [d] }
  | _ => none }
def spreadWholeRow : OpenClaim := { program := "ytinjdlnikhcbfaa", sum := "8a86883594a03512c2ea18b22df5ae42b7aeafc59fe8cc324317b7fb7cd8e565", func := "garment/garmentlaw38.SpreadWhole", spec := "spreadWhole", unfollowed := true, recurses := true, apart := false }
def SpreadWholeSaid : Prop := spreadWholeRow.holds Try.pinned (OpenSpec.ofChange spreadWholeSpec)

/-- ITS FALSE NEIGHBOUR: 'it returns false'. Refute it at one input. -/
def spreadWholeWrong : ChangeSpec := { name := "spreadWhole", fn := fun _ => fun
  | [d] => { results := [.lit (.bool false)], args := [d] }
  | _ => none }
def SpreadWholeWrongFalsely : Prop := spreadWholeRow.holds Try.pinned (OpenSpec.ofChange spreadWholeWrong)

/-- 'garmentlaw38.SpreadSplices': WHATEVER THE INPUT: true; the input reads as it did. -/
def spreadSplicesSpec : ChangeSpec := { name := "spreadSplices", fn := fun _ => fun
  | [d] => { results := [.lit (.bool true)], args := [d] }
  | _ => none }
def spreadSplicesRow : OpenClaim := { program := "ytinjdlnikhcbfaa", sum := "8a86883594a03512c2ea18b22df5ae42b7aeafc59fe8cc324317b7fb7cd8e565", func := "garment/garmentlaw38.SpreadSplices", spec := "spreadSplices", unfollowed := true, recurses := true, apart := false }
def SpreadSplicesSaid : Prop := spreadSplicesRow.holds Try.pinned (OpenSpec.ofChange spreadSplicesSpec)

/-- ITS FALSE NEIGHBOUR: 'it returns false'. Refute it at one input. -/
def spreadSplicesWrong : ChangeSpec := { name := "spreadSplices", fn := fun _ => fun
  | [d] => { results := [.lit (.bool false)], args := [d] }
  | _ => none }
def SpreadSplicesWrongFalsely : Prop := spreadSplicesRow.holds Try.pinned (OpenSpec.ofChange spreadSplicesWrong)

/-- 'garmentlaw38.SpreadBegins': WHATEVER THE INPUT: true; the input reads as it did. -/
def spreadBeginsSpec : ChangeSpec := { name := "spreadBegins", fn := fun _ => fun
  | [d1, d2, d3] => { results := [.lit (.bool true)], args := [d1, d2, d3] }
  | _ => none }
def spreadBeginsRow : OpenClaim := { program := "ytinjdlnikhcbfaa", sum := "8a86883594a03512c2ea18b22df5ae42b7aeafc59fe8cc324317b7fb7cd8e565", func := "garment/garmentlaw38.SpreadBegins", spec := "spreadBegins", unfollowed := true, recurses := true, apart := false }
def SpreadBeginsSaid : Prop := spreadBeginsRow.holds Try.pinned (OpenSpec.ofChange spreadBeginsSpec)

/-- ITS FALSE NEIGHBOUR: 'it returns false'. Refute it at one input. -/
def spreadBeginsWrong : ChangeSpec := { name := "spreadBegins", fn := fun _ => fun
  | [d1, d2, d3] => { results := [.lit (.bool false)], args := [d1, d2, d3] }
  | _ => none }
def SpreadBeginsWrongFalsely : Prop := spreadBeginsRow.holds Try.pinned (OpenSpec.ofChange spreadBeginsWrong)

/-- 'garmentlaw38.SpreadEnough': WHATEVER THE INPUT: true; the input reads as it did. -/
def spreadEnoughSpec : ChangeSpec := { name := "spreadEnough", fn := fun _ => fun
  | [d] => { results := [.lit (.bool true)], args := [d] }
  | _ => none }
def spreadEnoughRow : OpenClaim := { program := "ytinjdlnikhcbfaa", sum := "8a86883594a03512c2ea18b22df5ae42b7aeafc59fe8cc324317b7fb7cd8e565", func := "garment/garmentlaw38.SpreadEnough", spec := "spreadEnough", unfollowed := true, recurses := true, apart := false }
def SpreadEnoughSaid : Prop := spreadEnoughRow.holds Try.pinned (OpenSpec.ofChange spreadEnoughSpec)

/-- ITS FALSE NEIGHBOUR: 'it returns false'. Refute it at one input. -/
def spreadEnoughWrong : ChangeSpec := { name := "spreadEnough", fn := fun _ => fun
  | [d] => { results := [.lit (.bool false)], args := [d] }
  | _ => none }
def SpreadEnoughWrongFalsely : Prop := spreadEnoughRow.holds Try.pinned (OpenSpec.ofChange spreadEnoughWrong)

/-- 'garmentlaw38.SpreadChanges': WHATEVER THE INPUT: true; the input reads as it did. -/
def spreadChangesSpec : ChangeSpec := { name := "spreadChanges", fn := fun _ => fun
  | [d1, d2] => { results := [.lit (.bool true)], args := [d1, d2] }
  | _ => none }
def spreadChangesRow : OpenClaim := { program := "ytinjdlnikhcbfaa", sum := "8a86883594a03512c2ea18b22df5ae42b7aeafc59fe8cc324317b7fb7cd8e565", func := "garment/garmentlaw38.SpreadChanges", spec := "spreadChanges", unfollowed := true, recurses := true, apart := false }
def SpreadChangesSaid : Prop := spreadChangesRow.holds Try.pinned (OpenSpec.ofChange spreadChangesSpec)

/-- ITS FALSE NEIGHBOUR: 'it returns false'. Refute it at one input. -/
def spreadChangesWrong : ChangeSpec := { name := "spreadChanges", fn := fun _ => fun
  | [d1, d2] => { results := [.lit (.bool false)], args := [d1, d2] }
  | _ => none }
def SpreadChangesWrongFalsely : Prop := spreadChangesRow.holds Try.pinned (OpenSpec.ofChange spreadChangesWrong)

/-- 'garmentlaw39.DamageCarried': WHATEVER THE INPUT: true; the input reads as it did. -/
def damageCarriedSpec : ChangeSpec := { name := "damageCarried", fn := fun _ => fun
  | [d1, d2, d3, d4] => { results := [.lit (.bool true)], args := [d1, d2, d3, d4] }
  | _ => none }
def damageCarriedRow : OpenClaim := { program := "ytinjdlnikhcbfaa", sum := "8a86883594a03512c2ea18b22df5ae42b7aeafc59fe8cc324317b7fb7cd8e565", func := "garment/garmentlaw39.DamageCarried", spec := "damageCarried", unfollowed := true, recurses := true, apart := false }
def DamageCarriedSaid : Prop := damageCarriedRow.holds Try.pinned (OpenSpec.ofChange damageCarriedSpec)

/-- ITS FALSE NEIGHBOUR: 'it returns false'. Refute it at one input. -/
def damageCarriedWrong : ChangeSpec := { name := "damageCarried", fn := fun _ => fun
  | [d1, d2, d3, d4] => { results := [.lit (.bool false)], args := [d1, d2, d3, d4] }
  | _ => none }
def DamageCarriedWrongFalsely : Prop := damageCarriedRow.holds Try.pinned (OpenSpec.ofChange damageCarriedWrong)

/-- 'garmentlaw30.PlaceMoves': WHATEVER THE INPUT: true; the input reads as it did. -/
def placeMovesSpec : ChangeSpec := { name := "placeMoves", fn := fun _ => fun
  | [d1, d2, d3] => { results := [.lit (.bool true)], args := [d1, d2, d3] }
  | _ => none }
def placeMovesRow : OpenClaim := { program := "ytinjdlnikhcbfaa", sum := "8a86883594a03512c2ea18b22df5ae42b7aeafc59fe8cc324317b7fb7cd8e565", func := "garment/garmentlaw30.PlaceMoves", spec := "placeMoves", unfollowed := true, recurses := true, apart := false }
def PlaceMovesSaid : Prop := placeMovesRow.holds Try.pinned (OpenSpec.ofChange placeMovesSpec)

/-- ITS FALSE NEIGHBOUR: 'it returns false'. Refute it at one input. -/
def placeMovesWrong : ChangeSpec := { name := "placeMoves", fn := fun _ => fun
  | [d1, d2, d3] => { results := [.lit (.bool false)], args := [d1, d2, d3] }
  | _ => none }
def PlaceMovesWrongFalsely : Prop := placeMovesRow.holds Try.pinned (OpenSpec.ofChange placeMovesWrong)

/-- 'garmentlaw30.PlaceTurnsRound': WHATEVER THE INPUT: true; the input reads as it did. -/
def placeTurnsRoundSpec : ChangeSpec := { name := "placeTurnsRound", fn := fun _ => fun
  | [d] => { results := [.lit (.bool true)], args := [d] }
  | _ => none }
def placeTurnsRoundRow : OpenClaim := { program := "ytinjdlnikhcbfaa", sum := "8a86883594a03512c2ea18b22df5ae42b7aeafc59fe8cc324317b7fb7cd8e565", func := "garment/garmentlaw30.PlaceTurnsRound", spec := "placeTurnsRound", unfollowed := true, recurses := true, apart := false }
def PlaceTurnsRoundSaid : Prop := placeTurnsRoundRow.holds Try.pinned (OpenSpec.ofChange placeTurnsRoundSpec)

/-- ITS FALSE NEIGHBOUR: 'it returns false'. Refute it at one input. -/
def placeTurnsRoundWrong : ChangeSpec := { name := "placeTurnsRound", fn := fun _ => fun
  | [d] => { results := [.lit (.bool false)], args := [d] }
  | _ => none }
def PlaceTurnsRoundWrongFalsely : Prop := placeTurnsRoundRow.holds Try.pinned (OpenSpec.ofChange placeTurnsRoundWrong)

/-- 'garmentlaw30.PlaceArea': WHATEVER THE INPUT: true; the input reads as it did. -/
def placeAreaSpec : ChangeSpec := { name := "placeArea", fn := fun _ => fun
  | [d] => { results := [.lit (.bool true)], args := [d] }
  | _ => none }
def placeAreaRow : OpenClaim := { program := "ytinjdlnikhcbfaa", sum := "8a86883594a03512c2ea18b22df5ae42b7aeafc59fe8cc324317b7fb7cd8e565", func := "garment/garmentlaw30.PlaceArea", spec := "placeArea", unfollowed := true, recurses := true, apart := false }
def PlaceAreaSaid : Prop := placeAreaRow.holds Try.pinned (OpenSpec.ofChange placeAreaSpec)

/-- ITS FALSE NEIGHBOUR: 'it returns false'. Refute it at one input. -/
def placeAreaWrong : ChangeSpec := { name := "placeArea", fn := fun _ => fun
  | [d] => { results := [.lit (.bool false)], args := [d] }
  | _ => none }
def PlaceAreaWrongFalsely : Prop := placeAreaRow.holds Try.pinned (OpenSpec.ofChange placeAreaWrong)

/- THE SECOND FORM. 'bulk': how many values and letters a reading holds, each counted each time it is reached (what is shared counts as often as it is met; a slice's spare places count too). A statement '..UptoSaid' is the law's where the arguments, and the package variables that the reading takes, are together of bulk at most 1048576: NARROWER than '..Said'. Prove '..Said' where nothing that the law and all that it calls make is longer than what came in: it says more and counts as full. Else prove '..UptoSaid'. A law counts once. -/
mutual
def uptoBulk {H : Type} : DataW H → Nat
  | .lit (.string bytes) => bytes.length + 1
  | .lit _ => 1
  | .nil => 1
  | .ptr d => uptoBulk d + 1
  | .slice elems spare => uptoBulkAll elems + uptoBulkAll spare + 1
  | .agg parts => uptoBulkAll parts + 1
  | .iface _ d => uptoBulk d + 1
  | .map entries => uptoBulkEntries entries + 1
  | .held _ => 1
def uptoBulkAll {H : Type} : List (DataW H) → Nat
  | [] => 0
  | d :: r => uptoBulk d + uptoBulkAll r
def uptoBulkEntries {H : Type} : List (Lit × DataW H) → Nat
  | [] => 0
  | x :: r => uptoBulkEntry x + uptoBulkEntries r
def uptoBulkEntry {H : Type} : Lit × DataW H → Nat
  | (.string bytes, d) => bytes.length + uptoBulk d + 1
  | (_, d) => uptoBulk d + 1
 end
def uptoSmall : (H : Type) → List (DataW H) → Bool := fun _ ds => decide (uptoBulkAll ds ≤ 1048576)
def OpenSpec.upto (s : _root_.Go.ChangeSpec) : _root_.Go.OpenSpec := { _root_.Go.OpenSpec.ofChange s with cond := some uptoSmall }

/-- 'garmentlaw38.SpreadLays', WHERE WHAT IT READS IS OF BULK AT MOST 1048576: true; the input reads as it did. -/
def spreadLaysUptoRow : OpenClaim := { program := "ytinjdlnikhcbfaa", sum := "8a86883594a03512c2ea18b22df5ae42b7aeafc59fe8cc324317b7fb7cd8e565", func := "garment/garmentlaw38.SpreadLays", spec := "spreadLays", unfollowed := true, recurses := true, apart := false, narrowed := true }
def SpreadLaysUptoSaid : Prop := spreadLaysUptoRow.holds Try.pinned (OpenSpec.upto spreadLaysSpec)

/-- 'garmentlaw38.SpreadChecks', WHERE WHAT IT READS IS OF BULK AT MOST 1048576: true; the input reads as it did. -/
def spreadChecksUptoRow : OpenClaim := { program := "ytinjdlnikhcbfaa", sum := "8a86883594a03512c2ea18b22df5ae42b7aeafc59fe8cc324317b7fb7cd8e565", func := "garment/garmentlaw38.SpreadChecks", spec := "spreadChecks", unfollowed := true, recurses := true, apart := false, narrowed := true }
def SpreadChecksUptoSaid : Prop := spreadChecksUptoRow.holds Try.pinned (OpenSpec.upto spreadChecksSpec)

/-- 'garmentlaw38.SpreadOnce', WHERE WHAT IT READS IS OF BULK AT MOST 1048576: true; the input reads as it did. -/
def spreadOnceUptoRow : OpenClaim := { program := "ytinjdlnikhcbfaa", sum := "8a86883594a03512c2ea18b22df5ae42b7aeafc59fe8cc324317b7fb7cd8e565", func := "garment/garmentlaw38.SpreadOnce", spec := "spreadOnce", unfollowed := true, recurses := true, apart := false, narrowed := true }
def SpreadOnceUptoSaid : Prop := spreadOnceUptoRow.holds Try.pinned (OpenSpec.upto spreadOnceSpec)

/-- 'garmentlaw38.SpreadWhole', WHERE WHAT IT READS IS OF BULK AT MOST 1048576: true; the input reads as it did. -/
def spreadWholeUptoRow : OpenClaim := { program := "ytinjdlnikhcbfaa", sum := "8a86883594a03512c2ea18b22df5ae42b7aeafc59fe8cc324317b7fb7cd8e565", func := "garment/garmentlaw38.SpreadWhole", spec := "spreadWhole", unfollowed := true, recurses := true, apart := false, narrowed := true }
def SpreadWholeUptoSaid : Prop := spreadWholeUptoRow.holds Try.pinned (OpenSpec.upto spreadWholeSpec)

/-- 'garmentlaw38.SpreadSplices', WHERE WHAT IT READS IS OF BULK AT MOST 1048576: true; the input reads as it did. -/
def spreadSplicesUptoRow : OpenClaim := { program := "ytinjdlnikhcbfaa", sum := "8a86883594a03512c2ea18b22df5ae42b7aeafc59fe8cc324317b7fb7cd8e565", func := "garment/garmentlaw38.SpreadSplices", spec := "spreadSplices", unfollowed := true, recurses := true, apart := false, narrowed := true }
def SpreadSplicesUptoSaid : Prop := spreadSplicesUptoRow.holds Try.pinned (OpenSpec.upto spreadSplicesSpec)

/-- 'garmentlaw38.SpreadBegins', WHERE WHAT IT READS IS OF BULK AT MOST 1048576: true; the input reads as it did. -/
def spreadBeginsUptoRow : OpenClaim := { program := "ytinjdlnikhcbfaa", sum := "8a86883594a03512c2ea18b22df5ae42b7aeafc59fe8cc324317b7fb7cd8e565", func := "garment/garmentlaw38.SpreadBegins", spec := "spreadBegins", unfollowed := true, recurses := true, apart := false, narrowed := true }
def SpreadBeginsUptoSaid : Prop := spreadBeginsUptoRow.holds Try.pinned (OpenSpec.upto spreadBeginsSpec)

/-- 'garmentlaw38.SpreadEnough', WHERE WHAT IT READS IS OF BULK AT MOST 1048576: true; the input reads as it did. -/
def spreadEnoughUptoRow : OpenClaim := { program := "ytinjdlnikhcbfaa", sum := "8a86883594a03512c2ea18b22df5ae42b7aeafc59fe8cc324317b7fb7cd8e565", func := "garment/garmentlaw38.SpreadEnough", spec := "spreadEnough", unfollowed := true, recurses := true, apart := false, narrowed := true }
def SpreadEnoughUptoSaid : Prop := spreadEnoughUptoRow.holds Try.pinned (OpenSpec.upto spreadEnoughSpec)

/-- 'garmentlaw38.SpreadChanges', WHERE WHAT IT READS IS OF BULK AT MOST 1048576: true; the input reads as it did. -/
def spreadChangesUptoRow : OpenClaim := { program := "ytinjdlnikhcbfaa", sum := "8a86883594a03512c2ea18b22df5ae42b7aeafc59fe8cc324317b7fb7cd8e565", func := "garment/garmentlaw38.SpreadChanges", spec := "spreadChanges", unfollowed := true, recurses := true, apart := false, narrowed := true }
def SpreadChangesUptoSaid : Prop := spreadChangesUptoRow.holds Try.pinned (OpenSpec.upto spreadChangesSpec)

/-- 'garmentlaw39.DamageCarried', WHERE WHAT IT READS IS OF BULK AT MOST 1048576: true; the input reads as it did. -/
def damageCarriedUptoRow : OpenClaim := { program := "ytinjdlnikhcbfaa", sum := "8a86883594a03512c2ea18b22df5ae42b7aeafc59fe8cc324317b7fb7cd8e565", func := "garment/garmentlaw39.DamageCarried", spec := "damageCarried", unfollowed := true, recurses := true, apart := false, narrowed := true }
def DamageCarriedUptoSaid : Prop := damageCarriedUptoRow.holds Try.pinned (OpenSpec.upto damageCarriedSpec)

/-- 'garmentlaw30.PlaceMoves', WHERE WHAT IT READS IS OF BULK AT MOST 1048576: true; the input reads as it did. -/
def placeMovesUptoRow : OpenClaim := { program := "ytinjdlnikhcbfaa", sum := "8a86883594a03512c2ea18b22df5ae42b7aeafc59fe8cc324317b7fb7cd8e565", func := "garment/garmentlaw30.PlaceMoves", spec := "placeMoves", unfollowed := true, recurses := true, apart := false, narrowed := true }
def PlaceMovesUptoSaid : Prop := placeMovesUptoRow.holds Try.pinned (OpenSpec.upto placeMovesSpec)

/-- 'garmentlaw30.PlaceTurnsRound', WHERE WHAT IT READS IS OF BULK AT MOST 1048576: true; the input reads as it did. -/
def placeTurnsRoundUptoRow : OpenClaim := { program := "ytinjdlnikhcbfaa", sum := "8a86883594a03512c2ea18b22df5ae42b7aeafc59fe8cc324317b7fb7cd8e565", func := "garment/garmentlaw30.PlaceTurnsRound", spec := "placeTurnsRound", unfollowed := true, recurses := true, apart := false, narrowed := true }
def PlaceTurnsRoundUptoSaid : Prop := placeTurnsRoundUptoRow.holds Try.pinned (OpenSpec.upto placeTurnsRoundSpec)

/-- 'garmentlaw30.PlaceArea', WHERE WHAT IT READS IS OF BULK AT MOST 1048576: true; the input reads as it did. -/
def placeAreaUptoRow : OpenClaim := { program := "ytinjdlnikhcbfaa", sum := "8a86883594a03512c2ea18b22df5ae42b7aeafc59fe8cc324317b7fb7cd8e565", func := "garment/garmentlaw30.PlaceArea", spec := "placeArea", unfollowed := true, recurses := true, apart := false, narrowed := true }
def PlaceAreaUptoSaid : Prop := placeAreaUptoRow.holds Try.pinned (OpenSpec.upto placeAreaSpec)

end Rows
end Go.Proofs.Ytinjdlnikhcbfaa
