/-
  No cell of these rows narrows 'for every input' (looked for: loops, veiled, ifaces, maps, wideKeys, modest, calm, conditions, laid).
  DERIVED. THE GIVEN ROWS OF THIS SEAT. 9 by the template 'for every input the law returns true; each argument reads behind the call as it read before'; 0 by the template 'total and deterministic' (their statements: YtagpaebmpgnjhaaTotals.lean).
  GIVEN WITH THE SEED: the statements are not yours to turn. If you find one false, say at which input.
  Laid BY PROGRAM, IN A SANDBOX (cutbox-rows.mjs): the forced cells as the released guide's own fill.sh prints them over the translation 40012cd1e6d440a9… (all of the seat's roots in one cut). By AI agents, Wed Nov 11 2026. No macro, syntax, notation, axiom, sorry.
-/
import Derived.Test.YtagpaebmpgnjhaaChecked
import GoSem.Claim
import GoSem.ClaimJoined
import GoSem.ClaimMapViews
import Derived.JoinedTies
import Derived.KernelRfl
namespace Go.Proofs.Ytagpaebmpgnjhaa
/- THE CELL 'sum', in the pinned program and in every row, IS THE sha256 OF THE DUMP (.gsa) THAT YtagpaebmpgnjhaaProg.lean LOADS. Nothing in Lean hashes anything: it is a label: what it is worth is what the hold of that sum in a sandbox is worth. -/
noncomputable def Try.pinned : Pinned := { name := "ytagpaebmpgnjhaa", sum := "40012cd1e6d440a921f51f25cf7f4ba26b17eb0873715122bc2d0708c10d4225", checked := Try.checked }
namespace Rows
def none {H : Type} : Left H := { results := [], args := [] }

/-- 'scumblelaw08.PixWays': WHATEVER THE INPUT: true; the input reads as it did. -/
def pixWaysSpec : ChangeSpec := { name := "pixWays", fn := fun _ => fun
  | [d1, d2, d3] => { results := [.lit (.bool true)], args := [d1, d2, d3] }
  | _ => none }
def pixWaysRow : OpenClaim := { program := "ytagpaebmpgnjhaa", sum := "40012cd1e6d440a921f51f25cf7f4ba26b17eb0873715122bc2d0708c10d4225", func := "scumble/scumblelaw08.PixWays", spec := "pixWays", apart := false }
def PixWaysSaid : Prop := pixWaysRow.holds Try.pinned (OpenSpec.ofChange pixWaysSpec)

/-- ITS FALSE NEIGHBOUR: 'it returns false'. Refute it at one input. -/
def pixWaysWrong : ChangeSpec := { name := "pixWays", fn := fun _ => fun
  | [d1, d2, d3] => { results := [.lit (.bool false)], args := [d1, d2, d3] }
  | _ => none }
def PixWaysWrongFalsely : Prop := pixWaysRow.holds Try.pinned (OpenSpec.ofChange pixWaysWrong)

/-- 'scumblelaw08.PixOnto': WHATEVER THE INPUT: true; the input reads as it did. -/
def pixOntoSpec : ChangeSpec := { name := "pixOnto", fn := fun _ => fun
  | [d1, d2] => { results := [.lit (.bool true)], args := [d1, d2] }
  | _ => none }
def pixOntoRow : OpenClaim := { program := "ytagpaebmpgnjhaa", sum := "40012cd1e6d440a921f51f25cf7f4ba26b17eb0873715122bc2d0708c10d4225", func := "scumble/scumblelaw08.PixOnto", spec := "pixOnto", apart := false }
def PixOntoSaid : Prop := pixOntoRow.holds Try.pinned (OpenSpec.ofChange pixOntoSpec)

/-- ITS FALSE NEIGHBOUR: 'it returns false'. Refute it at one input. -/
def pixOntoWrong : ChangeSpec := { name := "pixOnto", fn := fun _ => fun
  | [d1, d2] => { results := [.lit (.bool false)], args := [d1, d2] }
  | _ => none }
def PixOntoWrongFalsely : Prop := pixOntoRow.holds Try.pinned (OpenSpec.ofChange pixOntoWrong)

/-- 'scumblelaw08.PixMuls': WHATEVER THE INPUT: true; the input reads as it did. -/
def pixMulsSpec : ChangeSpec := { name := "pixMuls", fn := fun _ => fun
  | [d1, d2] => { results := [.lit (.bool true)], args := [d1, d2] }
  | _ => none }
def pixMulsRow : OpenClaim := { program := "ytagpaebmpgnjhaa", sum := "40012cd1e6d440a921f51f25cf7f4ba26b17eb0873715122bc2d0708c10d4225", func := "scumble/scumblelaw08.PixMuls", spec := "pixMuls", apart := false }
def PixMulsSaid : Prop := pixMulsRow.holds Try.pinned (OpenSpec.ofChange pixMulsSpec)

/-- ITS FALSE NEIGHBOUR: 'it returns false'. Refute it at one input. -/
def pixMulsWrong : ChangeSpec := { name := "pixMuls", fn := fun _ => fun
  | [d1, d2] => { results := [.lit (.bool false)], args := [d1, d2] }
  | _ => none }
def PixMulsWrongFalsely : Prop := pixMulsRow.holds Try.pinned (OpenSpec.ofChange pixMulsWrong)

/-- 'scumblelaw08.PixMaps': WHATEVER THE INPUT: true; the input reads as it did. -/
def pixMapsSpec : ChangeSpec := { name := "pixMaps", fn := fun _ => fun
  | [d1, d2, d3] => { results := [.lit (.bool true)], args := [d1, d2, d3] }
  | _ => none }
def pixMapsRow : OpenClaim := { program := "ytagpaebmpgnjhaa", sum := "40012cd1e6d440a921f51f25cf7f4ba26b17eb0873715122bc2d0708c10d4225", func := "scumble/scumblelaw08.PixMaps", spec := "pixMaps", apart := false }
def PixMapsSaid : Prop := pixMapsRow.holds Try.pinned (OpenSpec.ofChange pixMapsSpec)

/-- ITS FALSE NEIGHBOUR: 'it returns false'. Refute it at one input. -/
def pixMapsWrong : ChangeSpec := { name := "pixMaps", fn := fun _ => fun
  | [d1, d2, d3] => { results := [.lit (.bool false)], args := [d1, d2, d3] }
  | _ => none }
def PixMapsWrongFalsely : Prop := pixMapsRow.holds Try.pinned (OpenSpec.ofChange pixMapsWrong)

/-- 'scumblelaw08.PixBack': WHATEVER THE INPUT: true; the input reads as it did. -/
def pixBackSpec : ChangeSpec := { name := "pixBack", fn := fun _ => fun
  | [d] => { results := [.lit (.bool true)], args := [d] }
  | _ => none }
def pixBackRow : OpenClaim := { program := "ytagpaebmpgnjhaa", sum := "40012cd1e6d440a921f51f25cf7f4ba26b17eb0873715122bc2d0708c10d4225", func := "scumble/scumblelaw08.PixBack", spec := "pixBack", apart := false }
def PixBackSaid : Prop := pixBackRow.holds Try.pinned (OpenSpec.ofChange pixBackSpec)

/-- ITS FALSE NEIGHBOUR: 'it returns false'. Refute it at one input. -/
def pixBackWrong : ChangeSpec := { name := "pixBack", fn := fun _ => fun
  | [d] => { results := [.lit (.bool false)], args := [d] }
  | _ => none }
def PixBackWrongFalsely : Prop := pixBackRow.holds Try.pinned (OpenSpec.ofChange pixBackWrong)

/-- 'scumblelaw08.PixBlends': WHATEVER THE INPUT: true; the input reads as it did. -/
def pixBlendsSpec : ChangeSpec := { name := "pixBlends", fn := fun _ => fun
  | [d1, d2, d3] => { results := [.lit (.bool true)], args := [d1, d2, d3] }
  | _ => none }
def pixBlendsRow : OpenClaim := { program := "ytagpaebmpgnjhaa", sum := "40012cd1e6d440a921f51f25cf7f4ba26b17eb0873715122bc2d0708c10d4225", func := "scumble/scumblelaw08.PixBlends", spec := "pixBlends", recurses := true, apart := false }
def PixBlendsSaid : Prop := pixBlendsRow.holds Try.pinned (OpenSpec.ofChange pixBlendsSpec)

/-- ITS FALSE NEIGHBOUR: 'it returns false'. Refute it at one input. -/
def pixBlendsWrong : ChangeSpec := { name := "pixBlends", fn := fun _ => fun
  | [d1, d2, d3] => { results := [.lit (.bool false)], args := [d1, d2, d3] }
  | _ => none }
def PixBlendsWrongFalsely : Prop := pixBlendsRow.holds Try.pinned (OpenSpec.ofChange pixBlendsWrong)

/-- 'scumblelaw08.PixModes': WHATEVER THE INPUT: true; the input reads as it did. -/
def pixModesSpec : ChangeSpec := { name := "pixModes", fn := fun _ => fun
  | [d1, d2, d3] => { results := [.lit (.bool true)], args := [d1, d2, d3] }
  | _ => none }
def pixModesRow : OpenClaim := { program := "ytagpaebmpgnjhaa", sum := "40012cd1e6d440a921f51f25cf7f4ba26b17eb0873715122bc2d0708c10d4225", func := "scumble/scumblelaw08.PixModes", spec := "pixModes", recurses := true, apart := false }
def PixModesSaid : Prop := pixModesRow.holds Try.pinned (OpenSpec.ofChange pixModesSpec)

/-- ITS FALSE NEIGHBOUR: 'it returns false'. Refute it at one input. -/
def pixModesWrong : ChangeSpec := { name := "pixModes", fn := fun _ => fun
  | [d1, d2, d3] => { results := [.lit (.bool false)], args := [d1, d2, d3] }
  | _ => none }
def PixModesWrongFalsely : Prop := pixModesRow.holds Try.pinned (OpenSpec.ofChange pixModesWrong)

/-- 'scumblelaw08.PixTables': WHATEVER THE INPUT: true; the input reads as it did. -/
def pixTablesSpec : ChangeSpec := { name := "pixTables", fn := fun _ => fun
  | [d1, d2] => { results := [.lit (.bool true)], args := [d1, d2] }
  | _ => none }
def pixTablesRow : OpenClaim := { program := "ytagpaebmpgnjhaa", sum := "40012cd1e6d440a921f51f25cf7f4ba26b17eb0873715122bc2d0708c10d4225", func := "scumble/scumblelaw08.PixTables", spec := "pixTables", apart := false }
def PixTablesSaid : Prop := pixTablesRow.holds Try.pinned (OpenSpec.ofChange pixTablesSpec)

/-- ITS FALSE NEIGHBOUR: 'it returns false'. Refute it at one input. -/
def pixTablesWrong : ChangeSpec := { name := "pixTables", fn := fun _ => fun
  | [d1, d2] => { results := [.lit (.bool false)], args := [d1, d2] }
  | _ => none }
def PixTablesWrongFalsely : Prop := pixTablesRow.holds Try.pinned (OpenSpec.ofChange pixTablesWrong)

/-- 'scumblelaw08.PixInvert': WHATEVER THE INPUT: true; the input reads as it did. -/
def pixInvertSpec : ChangeSpec := { name := "pixInvert", fn := fun _ => fun
  | [d1, d2] => { results := [.lit (.bool true)], args := [d1, d2] }
  | _ => none }
def pixInvertRow : OpenClaim := { program := "ytagpaebmpgnjhaa", sum := "40012cd1e6d440a921f51f25cf7f4ba26b17eb0873715122bc2d0708c10d4225", func := "scumble/scumblelaw08.PixInvert", spec := "pixInvert", apart := false }
def PixInvertSaid : Prop := pixInvertRow.holds Try.pinned (OpenSpec.ofChange pixInvertSpec)

/-- ITS FALSE NEIGHBOUR: 'it returns false'. Refute it at one input. -/
def pixInvertWrong : ChangeSpec := { name := "pixInvert", fn := fun _ => fun
  | [d1, d2] => { results := [.lit (.bool false)], args := [d1, d2] }
  | _ => none }
def PixInvertWrongFalsely : Prop := pixInvertRow.holds Try.pinned (OpenSpec.ofChange pixInvertWrong)

/- THE SECOND FORM. 'bulk': how many values and letters a reading holds, each counted each time it is reached (what is shared counts as often as it is met; a slice's spare places count too). A statement '..UptoSaid' is the law's where the arguments, and the package variables that the reading takes, are together of bulk at most 1048576: NARROWER than '..Said'. Prove '..Said' where nothing that the law and all that it calls make is longer than what came in: it says more and counts as full. Else prove '..UptoSaid'. A law counts once. -/
mutual
def uptoBulk {H : Type} : DataW H → Nat
  | .lit (.string bytes) => bytes.length + 1
  | .lit _ => 1
  | .nil => 1
  | .ptr d => uptoBulk d + 1
  | .slice elems spare => uptoBulkAll elems + uptoBulkAll spare + 1
  | .agg parts => uptoBulkAll parts + 1
  | .iface _ d => uptoBulk d + 1
  | .map entries => uptoBulkEntries entries + 1
  | .held _ => 1
def uptoBulkAll {H : Type} : List (DataW H) → Nat
  | [] => 0
  | d :: r => uptoBulk d + uptoBulkAll r
def uptoBulkEntries {H : Type} : List (Lit × DataW H) → Nat
  | [] => 0
  | x :: r => uptoBulkEntry x + uptoBulkEntries r
def uptoBulkEntry {H : Type} : Lit × DataW H → Nat
  | (.string bytes, d) => bytes.length + uptoBulk d + 1
  | (_, d) => uptoBulk d + 1
 end
def uptoSmall : (H : Type) → List (DataW H) → Bool := fun _ ds => decide (uptoBulkAll ds ≤ 1048576)
def OpenSpec.upto (s : _root_.Go.ChangeSpec) : _root_.Go.OpenSpec := { _root_.Go.OpenSpec.ofChange s with cond := some uptoSmall }

/-- 'scumblelaw08.PixWays', WHERE WHAT IT READS IS OF BULK AT MOST 1048576: true; the input reads as it did. -/
def pixWaysUptoRow : OpenClaim := { program := "ytagpaebmpgnjhaa", sum := "40012cd1e6d440a921f51f25cf7f4ba26b17eb0873715122bc2d0708c10d4225", func := "scumble/scumblelaw08.PixWays", spec := "pixWays", apart := false, narrowed := true }
def PixWaysUptoSaid : Prop := pixWaysUptoRow.holds Try.pinned (OpenSpec.upto pixWaysSpec)

/-- 'scumblelaw08.PixOnto', WHERE WHAT IT READS IS OF BULK AT MOST 1048576: true; the input reads as it did. -/
def pixOntoUptoRow : OpenClaim := { program := "ytagpaebmpgnjhaa", sum := "40012cd1e6d440a921f51f25cf7f4ba26b17eb0873715122bc2d0708c10d4225", func := "scumble/scumblelaw08.PixOnto", spec := "pixOnto", apart := false, narrowed := true }
def PixOntoUptoSaid : Prop := pixOntoUptoRow.holds Try.pinned (OpenSpec.upto pixOntoSpec)

/-- 'scumblelaw08.PixMuls', WHERE WHAT IT READS IS OF BULK AT MOST 1048576: true; the input reads as it did. -/
def pixMulsUptoRow : OpenClaim := { program := "ytagpaebmpgnjhaa", sum := "40012cd1e6d440a921f51f25cf7f4ba26b17eb0873715122bc2d0708c10d4225", func := "scumble/scumblelaw08.PixMuls", spec := "pixMuls", apart := false, narrowed := true }
def PixMulsUptoSaid : Prop := pixMulsUptoRow.holds Try.pinned (OpenSpec.upto pixMulsSpec)

/-- 'scumblelaw08.PixMaps', WHERE WHAT IT READS IS OF BULK AT MOST 1048576: true; the input reads as it did. -/
def pixMapsUptoRow : OpenClaim := { program := "ytagpaebmpgnjhaa", sum := "40012cd1e6d440a921f51f25cf7f4ba26b17eb0873715122bc2d0708c10d4225", func := "scumble/scumblelaw08.PixMaps", spec := "pixMaps", apart := false, narrowed := true }
def PixMapsUptoSaid : Prop := pixMapsUptoRow.holds Try.pinned (OpenSpec.upto pixMapsSpec)

/-- 'scumblelaw08.PixBack', WHERE WHAT IT READS IS OF BULK AT MOST 1048576: true; the input reads as it did. -/
def pixBackUptoRow : OpenClaim := { program := "ytagpaebmpgnjhaa", sum := "40012cd1e6d440a921f51f25cf7f4ba26b17eb0873715122bc2d0708c10d4225", func := "scumble/scumblelaw08.PixBack", spec := "pixBack", apart := false, narrowed := true }
def PixBackUptoSaid : Prop := pixBackUptoRow.holds Try.pinned (OpenSpec.upto pixBackSpec)

/-- 'scumblelaw08.PixBlends', WHERE WHAT IT READS IS OF BULK AT MOST 1048576: true; the input reads as it did. -/
def pixBlendsUptoRow : OpenClaim := { program := "ytagpaebmpgnjhaa", sum := "40012cd1e6d440a921f51f25cf7f4ba26b17eb0873715122bc2d0708c10d4225", func := "scumble/scumblelaw08.PixBlends", spec := "pixBlends", recurses := true, apart := false, narrowed := true }
def PixBlendsUptoSaid : Prop := pixBlendsUptoRow.holds Try.pinned (OpenSpec.upto pixBlendsSpec)

/-- 'scumblelaw08.PixModes', WHERE WHAT IT READS IS OF BULK AT MOST 1048576: true; the input reads as it did. -/
def pixModesUptoRow : OpenClaim := { program := "ytagpaebmpgnjhaa", sum := "40012cd1e6d440a921f51f25cf7f4ba26b17eb0873715122bc2d0708c10d4225", func := "scumble/scumblelaw08.PixModes", spec := "pixModes", recurses := true, apart := false, narrowed := true }
def PixModesUptoSaid : Prop := pixModesUptoRow.holds Try.pinned (OpenSpec.upto pixModesSpec)

/-- 'scumblelaw08.PixTables', WHERE WHAT IT READS IS OF BULK AT MOST 1048576: true; the input reads as it did. -/
def pixTablesUptoRow : OpenClaim := { program := "ytagpaebmpgnjhaa", sum := "40012cd1e6d440a921f51f25cf7f4ba26b17eb0873715122bc2d0708c10d4225", func := "scumble/scumblelaw08.PixTables", spec := "pixTables", apart := false, narrowed := true }
def PixTablesUptoSaid : Prop := pixTablesUptoRow.holds Try.pinned (OpenSpec.upto pixTablesSpec)

/-- 'scumblelaw08.PixInvert', WHERE WHAT IT READS IS OF BULK AT MOST 1048576: true; the input reads as it did. -/
def pixInvertUptoRow : OpenClaim := { program := "ytagpaebmpgnjhaa", sum := "40012cd1e6d440a921f51f25cf7f4ba26b17eb0873715122bc2d0708c10d4225", func := "scumble/scumblelaw08.PixInvert", spec := "pixInvert", apart := false, narrowed := true }
def PixInvertUptoSaid : Prop := pixInvertUptoRow.holds Try.pinned (OpenSpec.upto pixInvertSpec)

end Rows
end Go.Proofs.Ytagpaebmpgnjhaa
