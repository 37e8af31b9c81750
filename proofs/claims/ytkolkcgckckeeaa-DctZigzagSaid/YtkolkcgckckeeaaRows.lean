/-
  No cell of these rows narrows 'for every input' (looked for: loops, veiled, ifaces, maps, wideKeys, modest, calm, conditions, laid).
  DERIVED. THE GIVEN ROWS OF THIS SEAT. 7 by the template 'for every input the law returns true; each argument reads behind the call as it read before'; 0 by the template 'total and deterministic' (their statements: YtkolkcgckckeeaaTotals.lean).
  GIVEN WITH THE SEED: the statements are not yours to turn. If you find one false, say at which input.
  Laid BY PROGRAM, IN A SANDBOX (cutbox-rows.mjs): the forced cells as the released guide's own fill.sh prints them over the translation 00beb3e93ea48231… (all of the seat's roots in one cut). By AI agents, Wed Nov 11 2026. No macro, syntax, notation, axiom, sorry.
-/
import Derived.Test.YtkolkcgckckeeaaChecked
import GoSem.Claim
import GoSem.ClaimJoined
import GoSem.ClaimMapViews
import Derived.JoinedTies
import Derived.KernelRfl
namespace Go.Proofs.Ytkolkcgckckeeaa
/- THE CELL 'sum', in the pinned program and in every row, IS THE sha256 OF THE DUMP (.gsa) THAT YtkolkcgckckeeaaProg.lean LOADS. Nothing in Lean hashes anything: it is a label: what it is worth is what the hold of that sum in a sandbox is worth. -/
noncomputable def Try.pinned : Pinned := { name := "ytkolkcgckckeeaa", sum := "00beb3e93ea4823146671575f65291a7f17ff6dcc83b5d317a95165fedbcfa26", checked := Try.checked }
namespace Rows
def none {H : Type} : Left H := { results := [], args := [] }

/-- 'scumblelaw18.DctColours': WHATEVER THE INPUT: true; the input reads as it did. -/
def dctColoursSpec : ChangeSpec := { name := "dctColours", fn := fun _ => fun
  | [d] => { results := [.lit (.bool true)], args := [d] }
  | _ => none }
def dctColoursRow : OpenClaim := { program := "ytkolkcgckckeeaa", sum := "00beb3e93ea4823146671575f65291a7f17ff6dcc83b5d317a95165fedbcfa26", func := "scumble/scumblelaw18.DctColours", spec := "dctColours", recurses := true, apart := false }
def DctColoursSaid : Prop := dctColoursRow.holds Try.pinned (OpenSpec.ofChange dctColoursSpec)

/-- ITS FALSE NEIGHBOUR: 'it returns false'. Refute it at one input. -/
def dctColoursWrong : ChangeSpec := { name := "dctColours", fn := fun _ => fun
  | [d] => { results := [.lit (.bool false)], args := [d] }
  | _ => none }
def DctColoursWrongFalsely : Prop := dctColoursRow.holds Try.pinned (OpenSpec.ofChange dctColoursWrong)

/-- 'scumblelaw18.DctWaves': WHATEVER THE INPUT: true; the input reads as it did. -/
def dctWavesSpec : ChangeSpec := { name := "dctWaves", fn := fun _ => fun
  | [d] => { results := [.lit (.bool true)], args := [d] }
  | _ => none }
def dctWavesRow : OpenClaim := { program := "ytkolkcgckckeeaa", sum := "00beb3e93ea4823146671575f65291a7f17ff6dcc83b5d317a95165fedbcfa26", func := "scumble/scumblelaw18.DctWaves", spec := "dctWaves", recurses := true, apart := false }
def DctWavesSaid : Prop := dctWavesRow.holds Try.pinned (OpenSpec.ofChange dctWavesSpec)

/-- ITS FALSE NEIGHBOUR: 'it returns false'. Refute it at one input. -/
def dctWavesWrong : ChangeSpec := { name := "dctWaves", fn := fun _ => fun
  | [d] => { results := [.lit (.bool false)], args := [d] }
  | _ => none }
def DctWavesWrongFalsely : Prop := dctWavesRow.holds Try.pinned (OpenSpec.ofChange dctWavesWrong)

/-- 'scumblelaw18.DctBounds': WHATEVER THE INPUT: true; the input reads as it did. -/
def dctBoundsSpec : ChangeSpec := { name := "dctBounds", fn := fun _ => fun
  | [d] => { results := [.lit (.bool true)], args := [d] }
  | _ => none }
def dctBoundsRow : OpenClaim := { program := "ytkolkcgckckeeaa", sum := "00beb3e93ea4823146671575f65291a7f17ff6dcc83b5d317a95165fedbcfa26", func := "scumble/scumblelaw18.DctBounds", spec := "dctBounds", recurses := true, apart := false }
def DctBoundsSaid : Prop := dctBoundsRow.holds Try.pinned (OpenSpec.ofChange dctBoundsSpec)

/-- ITS FALSE NEIGHBOUR: 'it returns false'. Refute it at one input. -/
def dctBoundsWrong : ChangeSpec := { name := "dctBounds", fn := fun _ => fun
  | [d] => { results := [.lit (.bool false)], args := [d] }
  | _ => none }
def DctBoundsWrongFalsely : Prop := dctBoundsRow.holds Try.pinned (OpenSpec.ofChange dctBoundsWrong)

/-- 'scumblelaw18.DctSums': WHATEVER THE INPUT: true; the input reads as it did. -/
def dctSumsSpec : ChangeSpec := { name := "dctSums", fn := fun _ => fun
  | [d1, d2] => { results := [.lit (.bool true)], args := [d1, d2] }
  | _ => none }
def dctSumsRow : OpenClaim := { program := "ytkolkcgckckeeaa", sum := "00beb3e93ea4823146671575f65291a7f17ff6dcc83b5d317a95165fedbcfa26", func := "scumble/scumblelaw18.DctSums", spec := "dctSums", recurses := true, apart := false }
def DctSumsSaid : Prop := dctSumsRow.holds Try.pinned (OpenSpec.ofChange dctSumsSpec)

/-- ITS FALSE NEIGHBOUR: 'it returns false'. Refute it at one input. -/
def dctSumsWrong : ChangeSpec := { name := "dctSums", fn := fun _ => fun
  | [d1, d2] => { results := [.lit (.bool false)], args := [d1, d2] }
  | _ => none }
def DctSumsWrongFalsely : Prop := dctSumsRow.holds Try.pinned (OpenSpec.ofChange dctSumsWrong)

/-- 'scumblelaw18.DctFlat': WHATEVER THE INPUT: true; the input reads as it did. -/
def dctFlatSpec : ChangeSpec := { name := "dctFlat", fn := fun _ => fun
  | [d] => { results := [.lit (.bool true)], args := [d] }
  | _ => none }
def dctFlatRow : OpenClaim := { program := "ytkolkcgckckeeaa", sum := "00beb3e93ea4823146671575f65291a7f17ff6dcc83b5d317a95165fedbcfa26", func := "scumble/scumblelaw18.DctFlat", spec := "dctFlat", recurses := true, apart := false }
def DctFlatSaid : Prop := dctFlatRow.holds Try.pinned (OpenSpec.ofChange dctFlatSpec)

/-- ITS FALSE NEIGHBOUR: 'it returns false'. Refute it at one input. -/
def dctFlatWrong : ChangeSpec := { name := "dctFlat", fn := fun _ => fun
  | [d] => { results := [.lit (.bool false)], args := [d] }
  | _ => none }
def DctFlatWrongFalsely : Prop := dctFlatRow.holds Try.pinned (OpenSpec.ofChange dctFlatWrong)

/-- 'scumblelaw18.DctTurned': WHATEVER THE INPUT: true; the input reads as it did. -/
def dctTurnedSpec : ChangeSpec := { name := "dctTurned", fn := fun _ => fun
  | [d] => { results := [.lit (.bool true)], args := [d] }
  | _ => none }
def dctTurnedRow : OpenClaim := { program := "ytkolkcgckckeeaa", sum := "00beb3e93ea4823146671575f65291a7f17ff6dcc83b5d317a95165fedbcfa26", func := "scumble/scumblelaw18.DctTurned", spec := "dctTurned", recurses := true, apart := false }
def DctTurnedSaid : Prop := dctTurnedRow.holds Try.pinned (OpenSpec.ofChange dctTurnedSpec)

/-- ITS FALSE NEIGHBOUR: 'it returns false'. Refute it at one input. -/
def dctTurnedWrong : ChangeSpec := { name := "dctTurned", fn := fun _ => fun
  | [d] => { results := [.lit (.bool false)], args := [d] }
  | _ => none }
def DctTurnedWrongFalsely : Prop := dctTurnedRow.holds Try.pinned (OpenSpec.ofChange dctTurnedWrong)

/-- 'scumblelaw18.DctZigzag': WHATEVER THE INPUT: true; the input reads as it did. -/
def dctZigzagSpec : ChangeSpec := { name := "dctZigzag", fn := fun _ => fun
  | [d] => { results := [.lit (.bool true)], args := [d] }
  | _ => none }
def dctZigzagRow : OpenClaim := { program := "ytkolkcgckckeeaa", sum := "00beb3e93ea4823146671575f65291a7f17ff6dcc83b5d317a95165fedbcfa26", func := "scumble/scumblelaw18.DctZigzag", spec := "dctZigzag", recurses := true, apart := false }
def DctZigzagSaid : Prop := dctZigzagRow.holds Try.pinned (OpenSpec.ofChange dctZigzagSpec)

/-- ITS FALSE NEIGHBOUR: 'it returns false'. Refute it at one input. -/
def dctZigzagWrong : ChangeSpec := { name := "dctZigzag", fn := fun _ => fun
  | [d] => { results := [.lit (.bool false)], args := [d] }
  | _ => none }
def DctZigzagWrongFalsely : Prop := dctZigzagRow.holds Try.pinned (OpenSpec.ofChange dctZigzagWrong)

/- THE SECOND FORM. 'bulk': how many values and letters a reading holds, each counted each time it is reached (what is shared counts as often as it is met; a slice's spare places count too). A statement '..UptoSaid' is the law's where the arguments, and the package variables that the reading takes, are together of bulk at most 1048576: NARROWER than '..Said'. Prove '..Said' where nothing that the law and all that it calls make is longer than what came in: it says more and counts as full. Else prove '..UptoSaid'. A law counts once. -/
mutual
def uptoBulk {H : Type} : DataW H → Nat
  | .lit (.string bytes) => bytes.length + 1
  | .lit _ => 1
  | .nil => 1
  | .ptr d => uptoBulk d + 1
  | .slice elems spare => uptoBulkAll elems + uptoBulkAll spare + 1
  | .agg parts => uptoBulkAll parts + 1
  | .iface _ d => uptoBulk d + 1
  | .map entries => uptoBulkEntries entries + 1
  | .held _ => 1
def uptoBulkAll {H : Type} : List (DataW H) → Nat
  | [] => 0
  | d :: r => uptoBulk d + uptoBulkAll r
def uptoBulkEntries {H : Type} : List (Lit × DataW H) → Nat
  | [] => 0
  | x :: r => uptoBulkEntry x + uptoBulkEntries r
def uptoBulkEntry {H : Type} : Lit × DataW H → Nat
  | (.string bytes, d) => bytes.length + uptoBulk d + 1
  | (_, d) => uptoBulk d + 1
 end
def uptoSmall : (H : Type) → List (DataW H) → Bool := fun _ ds => decide (uptoBulkAll ds ≤ 1048576)
def OpenSpec.upto (s : _root_.Go.ChangeSpec) : _root_.Go.OpenSpec := { _root_.Go.OpenSpec.ofChange s with cond := some uptoSmall }

/-- 'scumblelaw18.DctColours', WHERE WHAT IT READS IS OF BULK AT MOST 1048576: true; the input reads as it did. -/
def dctColoursUptoRow : OpenClaim := { program := "ytkolkcgckckeeaa", sum := "00beb3e93ea4823146671575f65291a7f17ff6dcc83b5d317a95165fedbcfa26", func := "scumble/scumblelaw18.DctColours", spec := "dctColours", recurses := true, apart := false, narrowed := true }
def DctColoursUptoSaid : Prop := dctColoursUptoRow.holds Try.pinned (OpenSpec.upto dctColoursSpec)

/-- 'scumblelaw18.DctWaves', WHERE WHAT IT READS IS OF BULK AT MOST 1048576: true; the input reads as it did. -/
def dctWavesUptoRow : OpenClaim := { program := "ytkolkcgckckeeaa", sum := "00beb3e93ea4823146671575f65291a7f17ff6dcc83b5d317a95165fedbcfa26", func := "scumble/scumblelaw18.DctWaves", spec := "dctWaves", recurses := true, apart := false, narrowed := true }
def DctWavesUptoSaid : Prop := dctWavesUptoRow.holds Try.pinned (OpenSpec.upto dctWavesSpec)

/-- 'scumblelaw18.DctBounds', WHERE WHAT IT READS IS OF BULK AT MOST 1048576: true; the input reads as it did. -/
def dctBoundsUptoRow : OpenClaim := { program := "ytkolkcgckckeeaa", sum := "00beb3e93ea4823146671575f65291a7f17ff6dcc83b5d317a95165fedbcfa26", func := "scumble/scumblelaw18.DctBounds", spec := "dctBounds", recurses := true, apart := false, narrowed := true }
def DctBoundsUptoSaid : Prop := dctBoundsUptoRow.holds Try.pinned (OpenSpec.upto dctBoundsSpec)

/-- 'scumblelaw18.DctSums', WHERE WHAT IT READS IS OF BULK AT MOST 1048576: true; the input reads as it did. -/
def dctSumsUptoRow : OpenClaim := { program := "ytkolkcgckckeeaa", sum := "00beb3e93ea4823146671575f65291a7f17ff6dcc83b5d317a95165fedbcfa26", func := "scumble/scumblelaw18.DctSums", spec := "dctSums", recurses := true, apart := false, narrowed := true }
def DctSumsUptoSaid : Prop := dctSumsUptoRow.holds Try.pinned (OpenSpec.upto dctSumsSpec)

/-- 'scumblelaw18.DctFlat', WHERE WHAT IT READS IS OF BULK AT MOST 1048576: true; the input reads as it did. -/
def dctFlatUptoRow : OpenClaim := { program := "ytkolkcgckckeeaa", sum := "00beb3e93ea4823146671575f65291a7f17ff6dcc83b5d317a95165fedbcfa26", func := "scumble/scumblelaw18.DctFlat", spec := "dctFlat", recurses := true, apart := false, narrowed := true }
def DctFlatUptoSaid : Prop := dctFlatUptoRow.holds Try.pinned (OpenSpec.upto dctFlatSpec)

/-- 'scumblelaw18.DctTurned', WHERE WHAT IT READS IS OF BULK AT MOST 1048576: true; the input reads as it did. -/
def dctTurnedUptoRow : OpenClaim := { program := "ytkolkcgckckeeaa", sum := "00beb3e93ea4823146671575f65291a7f17ff6dcc83b5d317a95165fedbcfa26", func := "scumble/scumblelaw18.DctTurned", spec := "dctTurned", recurses := true, apart := false, narrowed := true }
def DctTurnedUptoSaid : Prop := dctTurnedUptoRow.holds Try.pinned (OpenSpec.upto dctTurnedSpec)

/-- 'scumblelaw18.DctZigzag', WHERE WHAT IT READS IS OF BULK AT MOST 1048576: true; the input reads as it did. -/
def dctZigzagUptoRow : OpenClaim := { program := "ytkolkcgckckeeaa", sum := "00beb3e93ea4823146671575f65291a7f17ff6dcc83b5d317a95165fedbcfa26", func := "scumble/scumblelaw18.DctZigzag", spec := "dctZigzag", recurses := true, apart := false, narrowed := true }
def DctZigzagUptoSaid : Prop := dctZigzagUptoRow.holds Try.pinned (OpenSpec.upto dctZigzagSpec)

end Rows
end Go.Proofs.Ytkolkcgckckeeaa
