/-
  No cell of these rows narrows 'for every input' (looked for: loops, veiled, ifaces, maps, wideKeys, modest, calm, conditions, laid).
  DERIVED. THE GIVEN ROWS OF THIS SEAT. 9 by the template 'for every input the law returns true; each argument reads behind the call as it read before'; 0 by the template 'total and deterministic' (their statements: YtbgdligfdfhbkaaTotals.lean).
  GIVEN WITH THE SEED: the statements are not yours to turn. If you find one false, say at which input.
  Laid BY PROGRAM, IN A SANDBOX (cutbox-rows.mjs): the forced cells as the released guide's own fill.sh prints them over the translation 64393559bd2e6659… (all of the seat's roots in one cut). By AI agents, Wed Nov 11 2026. No macro, syntax, notation, axiom, sorry.
-/
import Derived.Test.YtbgdligfdfhbkaaChecked
import GoSem.Claim
import GoSem.ClaimJoined
import GoSem.ClaimMapViews
import Derived.JoinedTies
import Derived.KernelRfl
namespace Go.Proofs.Ytbgdligfdfhbkaa
/- THE CELL 'sum', in the pinned program and in every row, IS THE sha256 OF THE DUMP (.gsa) THAT YtbgdligfdfhbkaaProg.lean LOADS. Nothing in Lean hashes anything: it is a label: what it is worth is what the hold of that sum in a sandbox is worth. -/
noncomputable def Try.pinned : Pinned := { name := "ytbgdligfdfhbkaa", sum := "64393559bd2e665927214118c0575988359a03e6a067992fee4be4638926f88f", checked := Try.checked }
namespace Rows
def none {H : Type} : Left H := { results := [], args := [] }

/-- 'scumblelaw10.AffineBacks': WHATEVER THE INPUT: true; the input reads as it did. -/
def affineBacksSpec : ChangeSpec := { name := "affineBacks", fn := fun _ => fun
  | [d] => { results := [.lit (.bool true)], args := [d] }
  | _ => none }
def affineBacksRow : OpenClaim := { program := "ytbgdligfdfhbkaa", sum := "64393559bd2e665927214118c0575988359a03e6a067992fee4be4638926f88f", func := "scumble/scumblelaw10.AffineBacks", spec := "affineBacks", apart := false }
def AffineBacksSaid : Prop := affineBacksRow.holds Try.pinned (OpenSpec.ofChange affineBacksSpec)

/-- ITS FALSE NEIGHBOUR: 'it returns false'. Refute it at one input. -/
def affineBacksWrong : ChangeSpec := { name := "affineBacks", fn := fun _ => fun
  | [d] => { results := [.lit (.bool false)], args := [d] }
  | _ => none }
def AffineBacksWrongFalsely : Prop := affineBacksRow.holds Try.pinned (OpenSpec.ofChange affineBacksWrong)

/-- 'scumblelaw10.AffineSees': WHATEVER THE INPUT: true; the input reads as it did. -/
def affineSeesSpec : ChangeSpec := { name := "affineSees", fn := fun _ => fun
  | [d1, d2, d3, d4, d5] => { results := [.lit (.bool true)], args := [d1, d2, d3, d4, d5] }
  | _ => none }
def affineSeesRow : OpenClaim := { program := "ytbgdligfdfhbkaa", sum := "64393559bd2e665927214118c0575988359a03e6a067992fee4be4638926f88f", func := "scumble/scumblelaw10.AffineSees", spec := "affineSees", apart := false }
def AffineSeesSaid : Prop := affineSeesRow.holds Try.pinned (OpenSpec.ofChange affineSeesSpec)

/-- ITS FALSE NEIGHBOUR: 'it returns false'. Refute it at one input. -/
def affineSeesWrong : ChangeSpec := { name := "affineSees", fn := fun _ => fun
  | [d1, d2, d3, d4, d5] => { results := [.lit (.bool false)], args := [d1, d2, d3, d4, d5] }
  | _ => none }
def AffineSeesWrongFalsely : Prop := affineSeesRow.holds Try.pinned (OpenSpec.ofChange affineSeesWrong)

/-- 'scumblelaw10.AffinePixels': WHATEVER THE INPUT: true; the input reads as it did. -/
def affinePixelsSpec : ChangeSpec := { name := "affinePixels", fn := fun _ => fun
  | [d1, d2, d3, d4, d5] => { results := [.lit (.bool true)], args := [d1, d2, d3, d4, d5] }
  | _ => none }
def affinePixelsRow : OpenClaim := { program := "ytbgdligfdfhbkaa", sum := "64393559bd2e665927214118c0575988359a03e6a067992fee4be4638926f88f", func := "scumble/scumblelaw10.AffinePixels", spec := "affinePixels", apart := false }
def AffinePixelsSaid : Prop := affinePixelsRow.holds Try.pinned (OpenSpec.ofChange affinePixelsSpec)

/-- ITS FALSE NEIGHBOUR: 'it returns false'. Refute it at one input. -/
def affinePixelsWrong : ChangeSpec := { name := "affinePixels", fn := fun _ => fun
  | [d1, d2, d3, d4, d5] => { results := [.lit (.bool false)], args := [d1, d2, d3, d4, d5] }
  | _ => none }
def AffinePixelsWrongFalsely : Prop := affinePixelsRow.holds Try.pinned (OpenSpec.ofChange affinePixelsWrong)

/-- 'scumblelaw10.AffineQuarters': WHATEVER THE INPUT: true; the input reads as it did. -/
def affineQuartersSpec : ChangeSpec := { name := "affineQuarters", fn := fun _ => fun
  | [d1, d2] => { results := [.lit (.bool true)], args := [d1, d2] }
  | _ => none }
def affineQuartersRow : OpenClaim := { program := "ytbgdligfdfhbkaa", sum := "64393559bd2e665927214118c0575988359a03e6a067992fee4be4638926f88f", func := "scumble/scumblelaw10.AffineQuarters", spec := "affineQuarters", apart := false }
def AffineQuartersSaid : Prop := affineQuartersRow.holds Try.pinned (OpenSpec.ofChange affineQuartersSpec)

/-- ITS FALSE NEIGHBOUR: 'it returns false'. Refute it at one input. -/
def affineQuartersWrong : ChangeSpec := { name := "affineQuarters", fn := fun _ => fun
  | [d1, d2] => { results := [.lit (.bool false)], args := [d1, d2] }
  | _ => none }
def AffineQuartersWrongFalsely : Prop := affineQuartersRow.holds Try.pinned (OpenSpec.ofChange affineQuartersWrong)

/-- 'scumblelaw10.AffineMoves': WHATEVER THE INPUT: true; the input reads as it did. -/
def affineMovesSpec : ChangeSpec := { name := "affineMoves", fn := fun _ => fun
  | [d1, d2, d3, d4] => { results := [.lit (.bool true)], args := [d1, d2, d3, d4] }
  | _ => none }
def affineMovesRow : OpenClaim := { program := "ytbgdligfdfhbkaa", sum := "64393559bd2e665927214118c0575988359a03e6a067992fee4be4638926f88f", func := "scumble/scumblelaw10.AffineMoves", spec := "affineMoves", apart := false }
def AffineMovesSaid : Prop := affineMovesRow.holds Try.pinned (OpenSpec.ofChange affineMovesSpec)

/-- ITS FALSE NEIGHBOUR: 'it returns false'. Refute it at one input. -/
def affineMovesWrong : ChangeSpec := { name := "affineMoves", fn := fun _ => fun
  | [d1, d2, d3, d4] => { results := [.lit (.bool false)], args := [d1, d2, d3, d4] }
  | _ => none }
def AffineMovesWrongFalsely : Prop := affineMovesRow.holds Try.pinned (OpenSpec.ofChange affineMovesWrong)

/-- 'scumblelaw10.AffineTimes': WHATEVER THE INPUT: true; the input reads as it did. -/
def affineTimesSpec : ChangeSpec := { name := "affineTimes", fn := fun _ => fun
  | [d1, d2] => { results := [.lit (.bool true)], args := [d1, d2] }
  | _ => none }
def affineTimesRow : OpenClaim := { program := "ytbgdligfdfhbkaa", sum := "64393559bd2e665927214118c0575988359a03e6a067992fee4be4638926f88f", func := "scumble/scumblelaw10.AffineTimes", spec := "affineTimes", apart := false }
def AffineTimesSaid : Prop := affineTimesRow.holds Try.pinned (OpenSpec.ofChange affineTimesSpec)

/-- ITS FALSE NEIGHBOUR: 'it returns false'. Refute it at one input. -/
def affineTimesWrong : ChangeSpec := { name := "affineTimes", fn := fun _ => fun
  | [d1, d2] => { results := [.lit (.bool false)], args := [d1, d2] }
  | _ => none }
def AffineTimesWrongFalsely : Prop := affineTimesRow.holds Try.pinned (OpenSpec.ofChange affineTimesWrong)

/-- 'scumblelaw10.AffineTurns': WHATEVER THE INPUT: true; the input reads as it did. -/
def affineTurnsSpec : ChangeSpec := { name := "affineTurns", fn := fun _ => fun
  | [d1, d2, d3, d4] => { results := [.lit (.bool true)], args := [d1, d2, d3, d4] }
  | _ => none }
def affineTurnsRow : OpenClaim := { program := "ytbgdligfdfhbkaa", sum := "64393559bd2e665927214118c0575988359a03e6a067992fee4be4638926f88f", func := "scumble/scumblelaw10.AffineTurns", spec := "affineTurns", apart := false }
def AffineTurnsSaid : Prop := affineTurnsRow.holds Try.pinned (OpenSpec.ofChange affineTurnsSpec)

/-- ITS FALSE NEIGHBOUR: 'it returns false'. Refute it at one input. -/
def affineTurnsWrong : ChangeSpec := { name := "affineTurns", fn := fun _ => fun
  | [d1, d2, d3, d4] => { results := [.lit (.bool false)], args := [d1, d2, d3, d4] }
  | _ => none }
def AffineTurnsWrongFalsely : Prop := affineTurnsRow.holds Try.pinned (OpenSpec.ofChange affineTurnsWrong)

/-- 'scumblelaw10.AffineBoxes': WHATEVER THE INPUT: true; the input reads as it did. -/
def affineBoxesSpec : ChangeSpec := { name := "affineBoxes", fn := fun _ => fun
  | [d1, d2, d3, d4, d5] => { results := [.lit (.bool true)], args := [d1, d2, d3, d4, d5] }
  | _ => none }
def affineBoxesRow : OpenClaim := { program := "ytbgdligfdfhbkaa", sum := "64393559bd2e665927214118c0575988359a03e6a067992fee4be4638926f88f", func := "scumble/scumblelaw10.AffineBoxes", spec := "affineBoxes", unfollowed := true, recurses := true, apart := false }
def AffineBoxesSaid : Prop := affineBoxesRow.holds Try.pinned (OpenSpec.ofChange affineBoxesSpec)

/-- ITS FALSE NEIGHBOUR: 'it returns false'. Refute it at one input. -/
def affineBoxesWrong : ChangeSpec := { name := "affineBoxes", fn := fun _ => fun
  | [d1, d2, d3, d4, d5] => { results := [.lit (.bool false)], args := [d1, d2, d3, d4, d5] }
  | _ => none }
def AffineBoxesWrongFalsely : Prop := affineBoxesRow.holds Try.pinned (OpenSpec.ofChange affineBoxesWrong)

/-- 'scumblelaw10.AffineInside': WHATEVER THE INPUT: true; the input reads as it did. -/
def affineInsideSpec : ChangeSpec := { name := "affineInside", fn := fun _ => fun
  | [d1, d2, d3, d4, d5, d6] => { results := [.lit (.bool true)], args := [d1, d2, d3, d4, d5, d6] }
  | _ => none }
def affineInsideRow : OpenClaim := { program := "ytbgdligfdfhbkaa", sum := "64393559bd2e665927214118c0575988359a03e6a067992fee4be4638926f88f", func := "scumble/scumblelaw10.AffineInside", spec := "affineInside", unfollowed := true, recurses := true, apart := false }
def AffineInsideSaid : Prop := affineInsideRow.holds Try.pinned (OpenSpec.ofChange affineInsideSpec)

/-- ITS FALSE NEIGHBOUR: 'it returns false'. Refute it at one input. -/
def affineInsideWrong : ChangeSpec := { name := "affineInside", fn := fun _ => fun
  | [d1, d2, d3, d4, d5, d6] => { results := [.lit (.bool false)], args := [d1, d2, d3, d4, d5, d6] }
  | _ => none }
def AffineInsideWrongFalsely : Prop := affineInsideRow.holds Try.pinned (OpenSpec.ofChange affineInsideWrong)

/- THE SECOND FORM. 'bulk': how many values and letters a reading holds, each counted each time it is reached (what is shared counts as often as it is met; a slice's spare places count too). A statement '..UptoSaid' is the law's where the arguments, and the package variables that the reading takes, are together of bulk at most 1048576: NARROWER than '..Said'. Prove '..Said' where nothing that the law and all that it calls make is longer than what came in: it says more and counts as full. Else prove '..UptoSaid'. A law counts once. -/
mutual
def uptoBulk {H : Type} : DataW H → Nat
  | .lit (.string bytes) => bytes.length + 1
  | .lit _ => 1
  | .nil => 1
  | .ptr d => uptoBulk d + 1
  | .slice elems spare => uptoBulkAll elems + uptoBulkAll spare + 1
  | .agg parts => uptoBulkAll parts + 1
  | .iface _ d => uptoBulk d + 1
  | .map entries => uptoBulkEntries entries + 1
  | .held _ => 1
def uptoBulkAll {H : Type} : List (DataW H) → Nat
  | [] => 0
  | d :: r => uptoBulk d + uptoBulkAll r
def uptoBulkEntries {H : Type} : List (Lit × DataW H) → Nat
  | [] => 0
  | x :: r => uptoBulkEntry x + uptoBulkEntries r
def uptoBulkEntry {H : Type} : Lit × DataW H → Nat
  | (.string bytes, d) => bytes.length + uptoBulk d + 1
  | (_, d) => uptoBulk d + 1
 end
def uptoSmall : (H : Type) → List (DataW H) → Bool := fun _ ds => decide (uptoBulkAll ds ≤ 1048576)
def OpenSpec.upto (s : _root_.Go.ChangeSpec) : _root_.Go.OpenSpec := { _root_.Go.OpenSpec.ofChange s with cond := some uptoSmall }

/-- 'scumblelaw10.AffineBacks', WHERE WHAT IT READS IS OF BULK AT MOST 1048576: true; the input reads as it did. -/
def affineBacksUptoRow : OpenClaim := { program := "ytbgdligfdfhbkaa", sum := "64393559bd2e665927214118c0575988359a03e6a067992fee4be4638926f88f", func := "scumble/scumblelaw10.AffineBacks", spec := "affineBacks", apart := false, narrowed := true }
def AffineBacksUptoSaid : Prop := affineBacksUptoRow.holds Try.pinned (OpenSpec.upto affineBacksSpec)

/-- 'scumblelaw10.AffineSees', WHERE WHAT IT READS IS OF BULK AT MOST 1048576: true; the input reads as it did. -/
def affineSeesUptoRow : OpenClaim := { program := "ytbgdligfdfhbkaa", sum := "64393559bd2e665927214118c0575988359a03e6a067992fee4be4638926f88f", func := "scumble/scumblelaw10.AffineSees", spec := "affineSees", apart := false, narrowed := true }
def AffineSeesUptoSaid : Prop := affineSeesUptoRow.holds Try.pinned (OpenSpec.upto affineSeesSpec)

/-- 'scumblelaw10.AffinePixels', WHERE WHAT IT READS IS OF BULK AT MOST 1048576: true; the input reads as it did. -/
def affinePixelsUptoRow : OpenClaim := { program := "ytbgdligfdfhbkaa", sum := "64393559bd2e665927214118c0575988359a03e6a067992fee4be4638926f88f", func := "scumble/scumblelaw10.AffinePixels", spec := "affinePixels", apart := false, narrowed := true }
def AffinePixelsUptoSaid : Prop := affinePixelsUptoRow.holds Try.pinned (OpenSpec.upto affinePixelsSpec)

/-- 'scumblelaw10.AffineQuarters', WHERE WHAT IT READS IS OF BULK AT MOST 1048576: true; the input reads as it did. -/
def affineQuartersUptoRow : OpenClaim := { program := "ytbgdligfdfhbkaa", sum := "64393559bd2e665927214118c0575988359a03e6a067992fee4be4638926f88f", func := "scumble/scumblelaw10.AffineQuarters", spec := "affineQuarters", apart := false, narrowed := true }
def AffineQuartersUptoSaid : Prop := affineQuartersUptoRow.holds Try.pinned (OpenSpec.upto affineQuartersSpec)

/-- 'scumblelaw10.AffineMoves', WHERE WHAT IT READS IS OF BULK AT MOST 1048576: true; the input reads as it did. -/
def affineMovesUptoRow : OpenClaim := { program := "ytbgdligfdfhbkaa", sum := "64393559bd2e665927214118c0575988359a03e6a067992fee4be4638926f88f", func := "scumble/scumblelaw10.AffineMoves", spec := "affineMoves", apart := false, narrowed := true }
def AffineMovesUptoSaid : Prop := affineMovesUptoRow.holds Try.pinned (OpenSpec.upto affineMovesSpec)

/-- 'scumblelaw10.AffineTimes', WHERE WHAT IT READS IS OF BULK AT MOST 1048576: true; the input reads as it did. -/
def affineTimesUptoRow : OpenClaim := { program := "ytbgdligfdfhbkaa", sum := "64393559bd2e665927214118c0575988359a03e6a067992fee4be4638926f88f", func := "scumble/scumblelaw10.AffineTimes", spec := "affineTimes", apart := false, narrowed := true }
def AffineTimesUptoSaid : Prop := affineTimesUptoRow.holds Try.pinned (OpenSpec.upto affineTimesSpec)

/-- 'scumblelaw10.AffineTurns', WHERE WHAT IT READS IS OF BULK AT MOST 1048576: true; the input reads as it did. -/
def affineTurnsUptoRow : OpenClaim := { program := "ytbgdligfdfhbkaa", sum := "64393559bd2e665927214118c0575988359a03e6a067992fee4be4638926f88f", func := "scumble/scumblelaw10.AffineTurns", spec := "affineTurns", apart := false, narrowed := true }
def AffineTurnsUptoSaid : Prop := affineTurnsUptoRow.holds Try.pinned (OpenSpec.upto affineTurnsSpec)

/-- 'scumblelaw10.AffineBoxes', WHERE WHAT IT READS IS OF BULK AT MOST 1048576: true; the input reads as it did. -/
def affineBoxesUptoRow : OpenClaim := { program := "ytbgdligfdfhbkaa", sum := "64393559bd2e665927214118c0575988359a03e6a067992fee4be4638926f88f", func := "scumble/scumblelaw10.AffineBoxes", spec := "affineBoxes", unfollowed := true, recurses := true, apart := false, narrowed := true }
def AffineBoxesUptoSaid : Prop := affineBoxesUptoRow.holds Try.pinned (OpenSpec.upto affineBoxesSpec)

/-- 'scumblelaw10.AffineInside', WHERE WHAT IT READS IS OF BULK AT MOST 1048576: true; the input reads as it did. -/
def affineInsideUptoRow : OpenClaim := { program := "ytbgdligfdfhbkaa", sum := "64393559bd2e665927214118c0575988359a03e6a067992fee4be4638926f88f", func := "scumble/scumblelaw10.AffineInside", spec := "affineInside", unfollowed := true, recurses := true, apart := false, narrowed := true }
def AffineInsideUptoSaid : Prop := affineInsideUptoRow.holds Try.pinned (OpenSpec.upto affineInsideSpec)

end Rows
end Go.Proofs.Ytbgdligfdfhbkaa
