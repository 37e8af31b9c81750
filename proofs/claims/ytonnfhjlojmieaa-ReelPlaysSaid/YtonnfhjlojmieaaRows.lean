/-
  No cell of these rows narrows 'for every input' (looked for: loops, veiled, ifaces, maps, wideKeys, modest, calm, conditions, laid).
  DERIVED. THE GIVEN ROWS OF THIS SEAT. 5 by the template 'for every input the law returns true; each argument reads behind the call as it read before'; 0 by the template 'total and deterministic' (their statements: YtonnfhjlojmieaaTotals.lean).
  GIVEN WITH THE SEED: the statements are not yours to turn. If you find one false, say at which input.
  Laid BY PROGRAM, IN A SANDBOX (cutbox-rows.mjs): the forced cells as the released guide's own fill.sh prints them over the translation 6c9cde3e8d633c1c… (all of the seat's roots in one cut). By AI agents, Wed Nov 11 2026. No macro, syntax, notation, axiom, sorry.
-/
import Derived.Test.YtonnfhjlojmieaaChecked
import GoSem.Claim
import GoSem.ClaimJoined
import GoSem.ClaimMapViews
import Derived.JoinedTies
import Derived.KernelRfl
namespace Go.Proofs.Ytonnfhjlojmieaa
/- THE CELL 'sum', in the pinned program and in every row, IS THE sha256 OF THE DUMP (.gsa) THAT YtonnfhjlojmieaaProg.lean LOADS. Nothing in Lean hashes anything: it is a label: what it is worth is what the hold of that sum in a sandbox is worth. -/
noncomputable def Try.pinned : Pinned := { name := "ytonnfhjlojmieaa", sum := "6c9cde3e8d633c1c45122a1f6949c8d2c13d138f2828ab6de4b01b72300d4f13", checked := Try.checked }
namespace Rows
def none {H : Type} : Left H := { results := [], args := [] }

/-- 'scumblelaw01.ReelSafe': WHATEVER THE INPUT: true; the input reads as it did. -/
def reelSafeSpec : ChangeSpec := { name := "reelSafe", fn := fun _ => fun
  | [d1, d2, d3, d4] => { results := [.lit (.bool true)], args := [d1, d2, d3, d4] }
  | _ => none }
def reelSafeRow : OpenClaim := { program := "ytonnfhjlojmieaa", sum := "6c9cde3e8d633c1c45122a1f6949c8d2c13d138f2828ab6de4b01b72300d4f13", func := "scumble/scumblelaw01.ReelSafe", spec := "reelSafe", apart := false }
def ReelSafeSaid : Prop := reelSafeRow.holds Try.pinned (OpenSpec.ofChange reelSafeSpec)

/-- ITS FALSE NEIGHBOUR: 'it returns false'. Refute it at one input. -/
def reelSafeWrong : ChangeSpec := { name := "reelSafe", fn := fun _ => fun
  | [d1, d2, d3, d4] => { results := [.lit (.bool false)], args := [d1, d2, d3, d4] }
  | _ => none }
def ReelSafeWrongFalsely : Prop := reelSafeRow.holds Try.pinned (OpenSpec.ofChange reelSafeWrong)

/-- 'scumblelaw01.ReelClones': WHATEVER THE INPUT: true; the input reads as it did. -/
def reelClonesSpec : ChangeSpec := { name := "reelClones", fn := fun _ => fun
  | [d1, d2, d3] => { results := [.lit (.bool true)], args := [d1, d2, d3] }
  | _ => none }
def reelClonesRow : OpenClaim := { program := "ytonnfhjlojmieaa", sum := "6c9cde3e8d633c1c45122a1f6949c8d2c13d138f2828ab6de4b01b72300d4f13", func := "scumble/scumblelaw01.ReelClones", spec := "reelClones", apart := false }
def ReelClonesSaid : Prop := reelClonesRow.holds Try.pinned (OpenSpec.ofChange reelClonesSpec)

/-- ITS FALSE NEIGHBOUR: 'it returns false'. Refute it at one input. -/
def reelClonesWrong : ChangeSpec := { name := "reelClones", fn := fun _ => fun
  | [d1, d2, d3] => { results := [.lit (.bool false)], args := [d1, d2, d3] }
  | _ => none }
def ReelClonesWrongFalsely : Prop := reelClonesRow.holds Try.pinned (OpenSpec.ofChange reelClonesWrong)

/-- 'scumblelaw01.ReelCuts': WHATEVER THE INPUT: true; the input reads as it did. -/
def reelCutsSpec : ChangeSpec := { name := "reelCuts", fn := fun _ => fun
  | [d1, d2, d3, d4] => { results := [.lit (.bool true)], args := [d1, d2, d3, d4] }
  | _ => none }
def reelCutsRow : OpenClaim := { program := "ytonnfhjlojmieaa", sum := "6c9cde3e8d633c1c45122a1f6949c8d2c13d138f2828ab6de4b01b72300d4f13", func := "scumble/scumblelaw01.ReelCuts", spec := "reelCuts", apart := false }
def ReelCutsSaid : Prop := reelCutsRow.holds Try.pinned (OpenSpec.ofChange reelCutsSpec)

/-- ITS FALSE NEIGHBOUR: 'it returns false'. Refute it at one input. -/
def reelCutsWrong : ChangeSpec := { name := "reelCuts", fn := fun _ => fun
  | [d1, d2, d3, d4] => { results := [.lit (.bool false)], args := [d1, d2, d3, d4] }
  | _ => none }
def ReelCutsWrongFalsely : Prop := reelCutsRow.holds Try.pinned (OpenSpec.ofChange reelCutsWrong)

/-- 'scumblelaw01.ReelArms': WHATEVER THE INPUT: true; the input reads as it did. -/
def reelArmsSpec : ChangeSpec := { name := "reelArms", fn := fun _ => fun
  | [d1, d2] => { results := [.lit (.bool true)], args := [d1, d2] }
  | _ => none }
def reelArmsRow : OpenClaim := { program := "ytonnfhjlojmieaa", sum := "6c9cde3e8d633c1c45122a1f6949c8d2c13d138f2828ab6de4b01b72300d4f13", func := "scumble/scumblelaw01.ReelArms", spec := "reelArms", apart := false }
def ReelArmsSaid : Prop := reelArmsRow.holds Try.pinned (OpenSpec.ofChange reelArmsSpec)

/-- ITS FALSE NEIGHBOUR: 'it returns false'. Refute it at one input. -/
def reelArmsWrong : ChangeSpec := { name := "reelArms", fn := fun _ => fun
  | [d1, d2] => { results := [.lit (.bool false)], args := [d1, d2] }
  | _ => none }
def ReelArmsWrongFalsely : Prop := reelArmsRow.holds Try.pinned (OpenSpec.ofChange reelArmsWrong)

/-- 'scumblelaw01.ReelPlays': WHATEVER THE INPUT: true; the input reads as it did. -/
def reelPlaysSpec : ChangeSpec := { name := "reelPlays", fn := fun _ => fun
  | [d1, d2] => { results := [.lit (.bool true)], args := [d1, d2] }
  | _ => none }
def reelPlaysRow : OpenClaim := { program := "ytonnfhjlojmieaa", sum := "6c9cde3e8d633c1c45122a1f6949c8d2c13d138f2828ab6de4b01b72300d4f13", func := "scumble/scumblelaw01.ReelPlays", spec := "reelPlays", apart := false }
def ReelPlaysSaid : Prop := reelPlaysRow.holds Try.pinned (OpenSpec.ofChange reelPlaysSpec)

/-- ITS FALSE NEIGHBOUR: 'it returns false'. Refute it at one input. -/
def reelPlaysWrong : ChangeSpec := { name := "reelPlays", fn := fun _ => fun
  | [d1, d2] => { results := [.lit (.bool false)], args := [d1, d2] }
  | _ => none }
def ReelPlaysWrongFalsely : Prop := reelPlaysRow.holds Try.pinned (OpenSpec.ofChange reelPlaysWrong)

/- THE SECOND FORM. 'bulk': how many values and letters a reading holds, each counted each time it is reached (what is shared counts as often as it is met; a slice's spare places count too). A statement '..UptoSaid' is the law's where the arguments, and the package variables that the reading takes, are together of bulk at most 1048576: NARROWER than '..Said'. Prove '..Said' where nothing that the law and all that it calls make is longer than what came in: it says more and counts as full. Else prove '..UptoSaid'. A law counts once. -/
mutual
def uptoBulk {H : Type} : DataW H → Nat
  | .lit (.string bytes) => bytes.length + 1
  | .lit _ => 1
  | .nil => 1
  | .ptr d => uptoBulk d + 1
  | .slice elems spare => uptoBulkAll elems + uptoBulkAll spare + 1
  | .agg parts => uptoBulkAll parts + 1
  | .iface _ d => uptoBulk d + 1
  | .map entries => uptoBulkEntries entries + 1
  | .held _ => 1
def uptoBulkAll {H : Type} : List (DataW H) → Nat
  | [] => 0
  | d :: r => uptoBulk d + uptoBulkAll r
def uptoBulkEntries {H : Type} : List (Lit × DataW H) → Nat
  | [] => 0
  | x :: r => uptoBulkEntry x + uptoBulkEntries r
def uptoBulkEntry {H : Type} : Lit × DataW H → Nat
  | (.string bytes, d) => bytes.length + uptoBulk d + 1
  | (_, d) => uptoBulk d + 1
 end
def uptoSmall : (H : Type) → List (DataW H) → Bool := fun _ ds => decide (uptoBulkAll ds ≤ 1048576)
def OpenSpec.upto (s : _root_.Go.ChangeSpec) : _root_.Go.OpenSpec := { _root_.Go.OpenSpec.ofChange s with cond := some uptoSmall }

/-- 'scumblelaw01.ReelSafe', WHERE WHAT IT READS IS OF BULK AT MOST 1048576: true; the input reads as it did. -/
def reelSafeUptoRow : OpenClaim := { program := "ytonnfhjlojmieaa", sum := "6c9cde3e8d633c1c45122a1f6949c8d2c13d138f2828ab6de4b01b72300d4f13", func := "scumble/scumblelaw01.ReelSafe", spec := "reelSafe", apart := false, narrowed := true }
def ReelSafeUptoSaid : Prop := reelSafeUptoRow.holds Try.pinned (OpenSpec.upto reelSafeSpec)

/-- 'scumblelaw01.ReelClones', WHERE WHAT IT READS IS OF BULK AT MOST 1048576: true; the input reads as it did. -/
def reelClonesUptoRow : OpenClaim := { program := "ytonnfhjlojmieaa", sum := "6c9cde3e8d633c1c45122a1f6949c8d2c13d138f2828ab6de4b01b72300d4f13", func := "scumble/scumblelaw01.ReelClones", spec := "reelClones", apart := false, narrowed := true }
def ReelClonesUptoSaid : Prop := reelClonesUptoRow.holds Try.pinned (OpenSpec.upto reelClonesSpec)

/-- 'scumblelaw01.ReelCuts', WHERE WHAT IT READS IS OF BULK AT MOST 1048576: true; the input reads as it did. -/
def reelCutsUptoRow : OpenClaim := { program := "ytonnfhjlojmieaa", sum := "6c9cde3e8d633c1c45122a1f6949c8d2c13d138f2828ab6de4b01b72300d4f13", func := "scumble/scumblelaw01.ReelCuts", spec := "reelCuts", apart := false, narrowed := true }
def ReelCutsUptoSaid : Prop := reelCutsUptoRow.holds Try.pinned (OpenSpec.upto reelCutsSpec)

/-- 'scumblelaw01.ReelArms', WHERE WHAT IT READS IS OF BULK AT MOST 1048576: true; the input reads as it did. -/
def reelArmsUptoRow : OpenClaim := { program := "ytonnfhjlojmieaa", sum := "6c9cde3e8d633c1c45122a1f6949c8d2c13d138f2828ab6de4b01b72300d4f13", func := "scumble/scumblelaw01.ReelArms", spec := "reelArms", apart := false, narrowed := true }
def ReelArmsUptoSaid : Prop := reelArmsUptoRow.holds Try.pinned (OpenSpec.upto reelArmsSpec)

/-- 'scumblelaw01.ReelPlays', WHERE WHAT IT READS IS OF BULK AT MOST 1048576: true; the input reads as it did. -/
def reelPlaysUptoRow : OpenClaim := { program := "ytonnfhjlojmieaa", sum := "6c9cde3e8d633c1c45122a1f6949c8d2c13d138f2828ab6de4b01b72300d4f13", func := "scumble/scumblelaw01.ReelPlays", spec := "reelPlays", apart := false, narrowed := true }
def ReelPlaysUptoSaid : Prop := reelPlaysUptoRow.holds Try.pinned (OpenSpec.upto reelPlaysSpec)

end Rows
end Go.Proofs.Ytonnfhjlojmieaa
