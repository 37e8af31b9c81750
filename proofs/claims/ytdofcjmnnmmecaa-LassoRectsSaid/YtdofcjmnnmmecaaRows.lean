/-
  No cell of these rows narrows 'for every input' (looked for: loops, veiled, ifaces, maps, wideKeys, modest, calm, conditions, laid).
  DERIVED. THE GIVEN ROWS OF THIS SEAT. 8 by the template 'for every input the law returns true; each argument reads behind the call as it read before'; 0 by the template 'total and deterministic' (their statements: YtdofcjmnnmmecaaTotals.lean).
  GIVEN WITH THE SEED: the statements are not yours to turn. If you find one false, say at which input.
  Laid BY PROGRAM, IN A SANDBOX (cutbox-rows.mjs): the forced cells as the released guide's own fill.sh prints them over the translation b816ac83b9c63037… (all of the seat's roots in one cut). By AI agents, Wed Nov 11 2026. No macro, syntax, notation, axiom, sorry.
-/
import Derived.Test.YtdofcjmnnmmecaaChecked
import GoSem.Claim
import GoSem.ClaimJoined
import GoSem.ClaimMapViews
import Derived.JoinedTies
import Derived.KernelRfl
namespace Go.Proofs.Ytdofcjmnnmmecaa
/- THE CELL 'sum', in the pinned program and in every row, IS THE sha256 OF THE DUMP (.gsa) THAT YtdofcjmnnmmecaaProg.lean LOADS. Nothing in Lean hashes anything: it is a label: what it is worth is what the hold of that sum in a sandbox is worth. -/
noncomputable def Try.pinned : Pinned := { name := "ytdofcjmnnmmecaa", sum := "b816ac83b9c630373981241fe2533ccd74bf8931e4ec23758762a314506bb9f8", checked := Try.checked }
namespace Rows
def none {H : Type} : Left H := { results := [], args := [] }

/-- 'scumblelaw09.LassoWithin': WHATEVER THE INPUT: true; the input reads as it did. -/
def lassoWithinSpec : ChangeSpec := { name := "lassoWithin", fn := fun _ => fun
  | [d1, d2, d3] => { results := [.lit (.bool true)], args := [d1, d2, d3] }
  | _ => none }
def lassoWithinRow : OpenClaim := { program := "ytdofcjmnnmmecaa", sum := "b816ac83b9c630373981241fe2533ccd74bf8931e4ec23758762a314506bb9f8", func := "scumble/scumblelaw09.LassoWithin", spec := "lassoWithin", apart := false }
def LassoWithinSaid : Prop := lassoWithinRow.holds Try.pinned (OpenSpec.ofChange lassoWithinSpec)

/-- ITS FALSE NEIGHBOUR: 'it returns false'. Refute it at one input. -/
def lassoWithinWrong : ChangeSpec := { name := "lassoWithin", fn := fun _ => fun
  | [d1, d2, d3] => { results := [.lit (.bool false)], args := [d1, d2, d3] }
  | _ => none }
def LassoWithinWrongFalsely : Prop := lassoWithinRow.holds Try.pinned (OpenSpec.ofChange lassoWithinWrong)

/-- 'scumblelaw09.LassoTurns': WHATEVER THE INPUT: true; the input reads as it did. -/
def lassoTurnsSpec : ChangeSpec := { name := "lassoTurns", fn := fun _ => fun
  | [d1, d2, d3] => { results := [.lit (.bool true)], args := [d1, d2, d3] }
  | _ => none }
def lassoTurnsRow : OpenClaim := { program := "ytdofcjmnnmmecaa", sum := "b816ac83b9c630373981241fe2533ccd74bf8931e4ec23758762a314506bb9f8", func := "scumble/scumblelaw09.LassoTurns", spec := "lassoTurns", apart := false }
def LassoTurnsSaid : Prop := lassoTurnsRow.holds Try.pinned (OpenSpec.ofChange lassoTurnsSpec)

/-- ITS FALSE NEIGHBOUR: 'it returns false'. Refute it at one input. -/
def lassoTurnsWrong : ChangeSpec := { name := "lassoTurns", fn := fun _ => fun
  | [d1, d2, d3] => { results := [.lit (.bool false)], args := [d1, d2, d3] }
  | _ => none }
def LassoTurnsWrongFalsely : Prop := lassoTurnsRow.holds Try.pinned (OpenSpec.ofChange lassoTurnsWrong)

/-- 'scumblelaw09.LassoAreas': WHATEVER THE INPUT: true; the input reads as it did. -/
def lassoAreasSpec : ChangeSpec := { name := "lassoAreas", fn := fun _ => fun
  | [d1, d2, d3] => { results := [.lit (.bool true)], args := [d1, d2, d3] }
  | _ => none }
def lassoAreasRow : OpenClaim := { program := "ytdofcjmnnmmecaa", sum := "b816ac83b9c630373981241fe2533ccd74bf8931e4ec23758762a314506bb9f8", func := "scumble/scumblelaw09.LassoAreas", spec := "lassoAreas", apart := false }
def LassoAreasSaid : Prop := lassoAreasRow.holds Try.pinned (OpenSpec.ofChange lassoAreasSpec)

/-- ITS FALSE NEIGHBOUR: 'it returns false'. Refute it at one input. -/
def lassoAreasWrong : ChangeSpec := { name := "lassoAreas", fn := fun _ => fun
  | [d1, d2, d3] => { results := [.lit (.bool false)], args := [d1, d2, d3] }
  | _ => none }
def LassoAreasWrongFalsely : Prop := lassoAreasRow.holds Try.pinned (OpenSpec.ofChange lassoAreasWrong)

/-- 'scumblelaw09.LassoHalves': WHATEVER THE INPUT: true; the input reads as it did. -/
def lassoHalvesSpec : ChangeSpec := { name := "lassoHalves", fn := fun _ => fun
  | [d1, d2, d3, d4] => { results := [.lit (.bool true)], args := [d1, d2, d3, d4] }
  | _ => none }
def lassoHalvesRow : OpenClaim := { program := "ytdofcjmnnmmecaa", sum := "b816ac83b9c630373981241fe2533ccd74bf8931e4ec23758762a314506bb9f8", func := "scumble/scumblelaw09.LassoHalves", spec := "lassoHalves", apart := false }
def LassoHalvesSaid : Prop := lassoHalvesRow.holds Try.pinned (OpenSpec.ofChange lassoHalvesSpec)

/-- ITS FALSE NEIGHBOUR: 'it returns false'. Refute it at one input. -/
def lassoHalvesWrong : ChangeSpec := { name := "lassoHalves", fn := fun _ => fun
  | [d1, d2, d3, d4] => { results := [.lit (.bool false)], args := [d1, d2, d3, d4] }
  | _ => none }
def LassoHalvesWrongFalsely : Prop := lassoHalvesRow.holds Try.pinned (OpenSpec.ofChange lassoHalvesWrong)

/-- 'scumblelaw09.LassoMoves': WHATEVER THE INPUT: true; the input reads as it did. -/
def lassoMovesSpec : ChangeSpec := { name := "lassoMoves", fn := fun _ => fun
  | [d1, d2, d3, d4] => { results := [.lit (.bool true)], args := [d1, d2, d3, d4] }
  | _ => none }
def lassoMovesRow : OpenClaim := { program := "ytdofcjmnnmmecaa", sum := "b816ac83b9c630373981241fe2533ccd74bf8931e4ec23758762a314506bb9f8", func := "scumble/scumblelaw09.LassoMoves", spec := "lassoMoves", apart := false }
def LassoMovesSaid : Prop := lassoMovesRow.holds Try.pinned (OpenSpec.ofChange lassoMovesSpec)

/-- ITS FALSE NEIGHBOUR: 'it returns false'. Refute it at one input. -/
def lassoMovesWrong : ChangeSpec := { name := "lassoMoves", fn := fun _ => fun
  | [d1, d2, d3, d4] => { results := [.lit (.bool false)], args := [d1, d2, d3, d4] }
  | _ => none }
def LassoMovesWrongFalsely : Prop := lassoMovesRow.holds Try.pinned (OpenSpec.ofChange lassoMovesWrong)

/-- 'scumblelaw09.LassoBoxes': WHATEVER THE INPUT: true; the input reads as it did. -/
def lassoBoxesSpec : ChangeSpec := { name := "lassoBoxes", fn := fun _ => fun
  | [d1, d2, d3] => { results := [.lit (.bool true)], args := [d1, d2, d3] }
  | _ => none }
def lassoBoxesRow : OpenClaim := { program := "ytdofcjmnnmmecaa", sum := "b816ac83b9c630373981241fe2533ccd74bf8931e4ec23758762a314506bb9f8", func := "scumble/scumblelaw09.LassoBoxes", spec := "lassoBoxes", apart := false }
def LassoBoxesSaid : Prop := lassoBoxesRow.holds Try.pinned (OpenSpec.ofChange lassoBoxesSpec)

/-- ITS FALSE NEIGHBOUR: 'it returns false'. Refute it at one input. -/
def lassoBoxesWrong : ChangeSpec := { name := "lassoBoxes", fn := fun _ => fun
  | [d1, d2, d3] => { results := [.lit (.bool false)], args := [d1, d2, d3] }
  | _ => none }
def LassoBoxesWrongFalsely : Prop := lassoBoxesRow.holds Try.pinned (OpenSpec.ofChange lassoBoxesWrong)

/-- 'scumblelaw09.LassoMask': WHATEVER THE INPUT: true; the input reads as it did. -/
def lassoMaskSpec : ChangeSpec := { name := "lassoMask", fn := fun _ => fun
  | [d1, d2, d3] => { results := [.lit (.bool true)], args := [d1, d2, d3] }
  | _ => none }
def lassoMaskRow : OpenClaim := { program := "ytdofcjmnnmmecaa", sum := "b816ac83b9c630373981241fe2533ccd74bf8931e4ec23758762a314506bb9f8", func := "scumble/scumblelaw09.LassoMask", spec := "lassoMask", apart := false }
def LassoMaskSaid : Prop := lassoMaskRow.holds Try.pinned (OpenSpec.ofChange lassoMaskSpec)

/-- ITS FALSE NEIGHBOUR: 'it returns false'. Refute it at one input. -/
def lassoMaskWrong : ChangeSpec := { name := "lassoMask", fn := fun _ => fun
  | [d1, d2, d3] => { results := [.lit (.bool false)], args := [d1, d2, d3] }
  | _ => none }
def LassoMaskWrongFalsely : Prop := lassoMaskRow.holds Try.pinned (OpenSpec.ofChange lassoMaskWrong)

/-- 'scumblelaw09.LassoRects': WHATEVER THE INPUT: true; the input reads as it did. -/
def lassoRectsSpec : ChangeSpec := { name := "lassoRects", fn := fun _ => fun
  | [d1, d2, d3, d4, d5] => { results := [.lit (.bool true)], args := [d1, d2, d3, d4, d5] }
  | _ => none }
def lassoRectsRow : OpenClaim := { program := "ytdofcjmnnmmecaa", sum := "b816ac83b9c630373981241fe2533ccd74bf8931e4ec23758762a314506bb9f8", func := "scumble/scumblelaw09.LassoRects", spec := "lassoRects", apart := false }
def LassoRectsSaid : Prop := lassoRectsRow.holds Try.pinned (OpenSpec.ofChange lassoRectsSpec)

/-- ITS FALSE NEIGHBOUR: 'it returns false'. Refute it at one input. -/
def lassoRectsWrong : ChangeSpec := { name := "lassoRects", fn := fun _ => fun
  | [d1, d2, d3, d4, d5] => { results := [.lit (.bool false)], args := [d1, d2, d3, d4, d5] }
  | _ => none }
def LassoRectsWrongFalsely : Prop := lassoRectsRow.holds Try.pinned (OpenSpec.ofChange lassoRectsWrong)

/- THE SECOND FORM. 'bulk': how many values and letters a reading holds, each counted each time it is reached (what is shared counts as often as it is met; a slice's spare places count too). A statement '..UptoSaid' is the law's where the arguments, and the package variables that the reading takes, are together of bulk at most 1048576: NARROWER than '..Said'. Prove '..Said' where nothing that the law and all that it calls make is longer than what came in: it says more and counts as full. Else prove '..UptoSaid'. A law counts once. -/
mutual
def uptoBulk {H : Type} : DataW H → Nat
  | .lit (.string bytes) => bytes.length + 1
  | .lit _ => 1
  | .nil => 1
  | .ptr d => uptoBulk d + 1
  | .slice elems spare => uptoBulkAll elems + uptoBulkAll spare + 1
  | .agg parts => uptoBulkAll parts + 1
  | .iface _ d => uptoBulk d + 1
  | .map entries => uptoBulkEntries entries + 1
  | .held _ => 1
def uptoBulkAll {H : Type} : List (DataW H) → Nat
  | [] => 0
  | d :: r => uptoBulk d + uptoBulkAll r
def uptoBulkEntries {H : Type} : List (Lit × DataW H) → Nat
  | [] => 0
  | x :: r => uptoBulkEntry x + uptoBulkEntries r
def uptoBulkEntry {H : Type} : Lit × DataW H → Nat
  | (.string bytes, d) => bytes.length + uptoBulk d + 1
  | (_, d) => uptoBulk d + 1
 end
def uptoSmall : (H : Type) → List (DataW H) → Bool := fun _ ds => decide (uptoBulkAll ds ≤ 1048576)
def OpenSpec.upto (s : _root_.Go.ChangeSpec) : _root_.Go.OpenSpec := { _root_.Go.OpenSpec.ofChange s with cond := some uptoSmall }

/-- 'scumblelaw09.LassoWithin', WHERE WHAT IT READS IS OF BULK AT MOST 1048576: true; the input reads as it did. -/
def lassoWithinUptoRow : OpenClaim := { program := "ytdofcjmnnmmecaa", sum := "b816ac83b9c630373981241fe2533ccd74bf8931e4ec23758762a314506bb9f8", func := "scumble/scumblelaw09.LassoWithin", spec := "lassoWithin", apart := false, narrowed := true }
def LassoWithinUptoSaid : Prop := lassoWithinUptoRow.holds Try.pinned (OpenSpec.upto lassoWithinSpec)

/-- 'scumblelaw09.LassoTurns', WHERE WHAT IT READS IS OF BULK AT MOST 1048576: true; the input reads as it did. -/
def lassoTurnsUptoRow : OpenClaim := { program := "ytdofcjmnnmmecaa", sum := "b816ac83b9c630373981241fe2533ccd74bf8931e4ec23758762a314506bb9f8", func := "scumble/scumblelaw09.LassoTurns", spec := "lassoTurns", apart := false, narrowed := true }
def LassoTurnsUptoSaid : Prop := lassoTurnsUptoRow.holds Try.pinned (OpenSpec.upto lassoTurnsSpec)

/-- 'scumblelaw09.LassoAreas', WHERE WHAT IT READS IS OF BULK AT MOST 1048576: true; the input reads as it did. -/
def lassoAreasUptoRow : OpenClaim := { program := "ytdofcjmnnmmecaa", sum := "b816ac83b9c630373981241fe2533ccd74bf8931e4ec23758762a314506bb9f8", func := "scumble/scumblelaw09.LassoAreas", spec := "lassoAreas", apart := false, narrowed := true }
def LassoAreasUptoSaid : Prop := lassoAreasUptoRow.holds Try.pinned (OpenSpec.upto lassoAreasSpec)

/-- 'scumblelaw09.LassoHalves', WHERE WHAT IT READS IS OF BULK AT MOST 1048576: true; the input reads as it did. -/
def lassoHalvesUptoRow : OpenClaim := { program := "ytdofcjmnnmmecaa", sum := "b816ac83b9c630373981241fe2533ccd74bf8931e4ec23758762a314506bb9f8", func := "scumble/scumblelaw09.LassoHalves", spec := "lassoHalves", apart := false, narrowed := true }
def LassoHalvesUptoSaid : Prop := lassoHalvesUptoRow.holds Try.pinned (OpenSpec.upto lassoHalvesSpec)

/-- 'scumblelaw09.LassoMoves', WHERE WHAT IT READS IS OF BULK AT MOST 1048576: true; the input reads as it did. -/
def lassoMovesUptoRow : OpenClaim := { program := "ytdofcjmnnmmecaa", sum := "b816ac83b9c630373981241fe2533ccd74bf8931e4ec23758762a314506bb9f8", func := "scumble/scumblelaw09.LassoMoves", spec := "lassoMoves", apart := false, narrowed := true }
def LassoMovesUptoSaid : Prop := lassoMovesUptoRow.holds Try.pinned (OpenSpec.upto lassoMovesSpec)

/-- 'scumblelaw09.LassoBoxes', WHERE WHAT IT READS IS OF BULK AT MOST 1048576: true; the input reads as it did. -/
def lassoBoxesUptoRow : OpenClaim := { program := "ytdofcjmnnmmecaa", sum := "b816ac83b9c630373981241fe2533ccd74bf8931e4ec23758762a314506bb9f8", func := "scumble/scumblelaw09.LassoBoxes", spec := "lassoBoxes", apart := false, narrowed := true }
def LassoBoxesUptoSaid : Prop := lassoBoxesUptoRow.holds Try.pinned (OpenSpec.upto lassoBoxesSpec)

/-- 'scumblelaw09.LassoMask', WHERE WHAT IT READS IS OF BULK AT MOST 1048576: true; the input reads as it did. -/
def lassoMaskUptoRow : OpenClaim := { program := "ytdofcjmnnmmecaa", sum := "b816ac83b9c630373981241fe2533ccd74bf8931e4ec23758762a314506bb9f8", func := "scumble/scumblelaw09.LassoMask", spec := "lassoMask", apart := false, narrowed := true }
def LassoMaskUptoSaid : Prop := lassoMaskUptoRow.holds Try.pinned (OpenSpec.upto lassoMaskSpec)

/-- 'scumblelaw09.LassoRects', WHERE WHAT IT READS IS OF BULK AT MOST 1048576: true; the input reads as it did. -/
def lassoRectsUptoRow : OpenClaim := { program := "ytdofcjmnnmmecaa", sum := "b816ac83b9c630373981241fe2533ccd74bf8931e4ec23758762a314506bb9f8", func := "scumble/scumblelaw09.LassoRects", spec := "lassoRects", apart := false, narrowed := true }
def LassoRectsUptoSaid : Prop := lassoRectsUptoRow.holds Try.pinned (OpenSpec.upto lassoRectsSpec)

end Rows
end Go.Proofs.Ytdofcjmnnmmecaa
