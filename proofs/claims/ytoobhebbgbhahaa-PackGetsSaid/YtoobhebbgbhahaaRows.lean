/-
  NARROWER THAN 'FOR EVERY INPUT', by the rows' own cells (each row's printed sentence says how): PackStates: loops.
  DERIVED. THE GIVEN ROWS OF THIS SEAT. 6 by the template 'for every input the law returns true; each argument reads behind the call as it read before'; 0 by the template 'total and deterministic' (their statements: YtoobhebbgbhahaaTotals.lean).
  GIVEN WITH THE SEED: the statements are not yours to turn. If you find one false, say at which input.
  Laid BY PROGRAM, IN A SANDBOX (cutbox-rows.mjs): the forced cells as the released guide's own fill.sh prints them over the translation d246d0b8b8c1f4a3… (all of the seat's roots in one cut). By AI agents, Wed Nov 11 2026. No macro, syntax, notation, axiom, sorry.
-/
import Derived.Test.YtoobhebbgbhahaaChecked
import GoSem.Claim
import GoSem.ClaimJoined
import GoSem.ClaimMapViews
import Derived.JoinedTies
import Derived.KernelRfl
namespace Go.Proofs.Ytoobhebbgbhahaa
/- THE CELL 'sum', in the pinned program and in every row, IS THE sha256 OF THE DUMP (.gsa) THAT YtoobhebbgbhahaaProg.lean LOADS. Nothing in Lean hashes anything: it is a label: what it is worth is what the hold of that sum in a sandbox is worth. -/
noncomputable def Try.pinned : Pinned := { name := "ytoobhebbgbhahaa", sum := "d246d0b8b8c1f4a3645be450845d0c11512df98c8d38be2bd7ebb3b72ed7400c", checked := Try.checked }
namespace Rows
def none {H : Type} : Left H := { results := [], args := [] }

/-- 'scumblelaw15.PackEdits': WHATEVER THE INPUT: true; the input reads as it did. -/
def packEditsSpec : ChangeSpec := { name := "packEdits", fn := fun _ => fun
  | [d] => { results := [.lit (.bool true)], args := [d] }
  | _ => none }
def packEditsRow : OpenClaim := { program := "ytoobhebbgbhahaa", sum := "d246d0b8b8c1f4a3645be450845d0c11512df98c8d38be2bd7ebb3b72ed7400c", func := "scumble/scumblelaw15.PackEdits", spec := "packEdits", apart := false }
def PackEditsSaid : Prop := packEditsRow.holds Try.pinned (OpenSpec.ofChange packEditsSpec)

/-- ITS FALSE NEIGHBOUR: 'it returns false'. Refute it at one input. -/
def packEditsWrong : ChangeSpec := { name := "packEdits", fn := fun _ => fun
  | [d] => { results := [.lit (.bool false)], args := [d] }
  | _ => none }
def PackEditsWrongFalsely : Prop := packEditsRow.holds Try.pinned (OpenSpec.ofChange packEditsWrong)

/-- 'scumblelaw15.PackReads': WHATEVER THE INPUT: true; the input reads as it did. -/
def packReadsSpec : ChangeSpec := { name := "packReads", fn := fun _ => fun
  | [d] => { results := [.lit (.bool true)], args := [d] }
  | _ => none }
def packReadsRow : OpenClaim := { program := "ytoobhebbgbhahaa", sum := "d246d0b8b8c1f4a3645be450845d0c11512df98c8d38be2bd7ebb3b72ed7400c", func := "scumble/scumblelaw15.PackReads", spec := "packReads", apart := false }
def PackReadsSaid : Prop := packReadsRow.holds Try.pinned (OpenSpec.ofChange packReadsSpec)

/-- ITS FALSE NEIGHBOUR: 'it returns false'. Refute it at one input. -/
def packReadsWrong : ChangeSpec := { name := "packReads", fn := fun _ => fun
  | [d] => { results := [.lit (.bool false)], args := [d] }
  | _ => none }
def PackReadsWrongFalsely : Prop := packReadsRow.holds Try.pinned (OpenSpec.ofChange packReadsWrong)

/-- 'scumblelaw15.PackNumbers': WHATEVER THE INPUT: true; the input reads as it did. -/
def packNumbersSpec : ChangeSpec := { name := "packNumbers", fn := fun _ => fun
  | [d1, d2] => { results := [.lit (.bool true)], args := [d1, d2] }
  | _ => none }
def packNumbersRow : OpenClaim := { program := "ytoobhebbgbhahaa", sum := "d246d0b8b8c1f4a3645be450845d0c11512df98c8d38be2bd7ebb3b72ed7400c", func := "scumble/scumblelaw15.PackNumbers", spec := "packNumbers", apart := false }
def PackNumbersSaid : Prop := packNumbersRow.holds Try.pinned (OpenSpec.ofChange packNumbersSpec)

/-- ITS FALSE NEIGHBOUR: 'it returns false'. Refute it at one input. -/
def packNumbersWrong : ChangeSpec := { name := "packNumbers", fn := fun _ => fun
  | [d1, d2] => { results := [.lit (.bool false)], args := [d1, d2] }
  | _ => none }
def PackNumbersWrongFalsely : Prop := packNumbersRow.holds Try.pinned (OpenSpec.ofChange packNumbersWrong)

/-- 'scumblelaw15.PackCuts': WHATEVER THE INPUT: true; the input reads as it did. -/
def packCutsSpec : ChangeSpec := { name := "packCuts", fn := fun _ => fun
  | [d1, d2, d3, d4] => { results := [.lit (.bool true)], args := [d1, d2, d3, d4] }
  | _ => none }
def packCutsRow : OpenClaim := { program := "ytoobhebbgbhahaa", sum := "d246d0b8b8c1f4a3645be450845d0c11512df98c8d38be2bd7ebb3b72ed7400c", func := "scumble/scumblelaw15.PackCuts", spec := "packCuts", apart := false }
def PackCutsSaid : Prop := packCutsRow.holds Try.pinned (OpenSpec.ofChange packCutsSpec)

/-- ITS FALSE NEIGHBOUR: 'it returns false'. Refute it at one input. -/
def packCutsWrong : ChangeSpec := { name := "packCuts", fn := fun _ => fun
  | [d1, d2, d3, d4] => { results := [.lit (.bool false)], args := [d1, d2, d3, d4] }
  | _ => none }
def PackCutsWrongFalsely : Prop := packCutsRow.holds Try.pinned (OpenSpec.ofChange packCutsWrong)

/-- 'scumblelaw15.PackStates': WHATEVER THE INPUT: true; the input reads as it did. -/
def packStatesSpec : ChangeSpec := { name := "packStates", fn := fun _ => fun
  | [d] => { results := [.lit (.bool true)], args := [d] }
  | _ => none }
def packStatesRow : OpenClaim := { program := "ytoobhebbgbhahaa", sum := "d246d0b8b8c1f4a3645be450845d0c11512df98c8d38be2bd7ebb3b72ed7400c", func := "scumble/scumblelaw15.PackStates", spec := "packStates", unfollowed := true, recurses := true, loops := true, apart := false }
def PackStatesSaid : Prop := packStatesRow.holds Try.pinned (OpenSpec.ofChange packStatesSpec)

/-- ITS FALSE NEIGHBOUR: 'it returns false'. Refute it at one input. -/
def packStatesWrong : ChangeSpec := { name := "packStates", fn := fun _ => fun
  | [d] => { results := [.lit (.bool false)], args := [d] }
  | _ => none }
def PackStatesWrongFalsely : Prop := packStatesRow.holds Try.pinned (OpenSpec.ofChange packStatesWrong)

/-- 'scumblelaw15.PackGets': WHATEVER THE INPUT: true; the input reads as it did. -/
def packGetsSpec : ChangeSpec := { name := "packGets", fn := fun _ => fun
  | [d] => { results := [.lit (.bool true)], args := [d] }
  | _ => none }
def packGetsRow : OpenClaim := { program := "ytoobhebbgbhahaa", sum := "d246d0b8b8c1f4a3645be450845d0c11512df98c8d38be2bd7ebb3b72ed7400c", func := "scumble/scumblelaw15.PackGets", spec := "packGets", unfollowed := true, recurses := true, apart := false }
def PackGetsSaid : Prop := packGetsRow.holds Try.pinned (OpenSpec.ofChange packGetsSpec)

/-- ITS FALSE NEIGHBOUR: 'it returns false'. Refute it at one input. -/
def packGetsWrong : ChangeSpec := { name := "packGets", fn := fun _ => fun
  | [d] => { results := [.lit (.bool false)], args := [d] }
  | _ => none }
def PackGetsWrongFalsely : Prop := packGetsRow.holds Try.pinned (OpenSpec.ofChange packGetsWrong)

/- THE SECOND FORM. 'bulk': how many values and letters a reading holds, each counted each time it is reached (what is shared counts as often as it is met; a slice's spare places count too). A statement '..UptoSaid' is the law's where the arguments, and the package variables that the reading takes, are together of bulk at most 1048576: NARROWER than '..Said'. Prove '..Said' where nothing that the law and all that it calls make is longer than what came in: it says more and counts as full. Else prove '..UptoSaid'. A law counts once. -/
mutual
def uptoBulk {H : Type} : DataW H → Nat
  | .lit (.string bytes) => bytes.length + 1
  | .lit _ => 1
  | .nil => 1
  | .ptr d => uptoBulk d + 1
  | .slice elems spare => uptoBulkAll elems + uptoBulkAll spare + 1
  | .agg parts => uptoBulkAll parts + 1
  | .iface _ d => uptoBulk d + 1
  | .map entries => uptoBulkEntries entries + 1
  | .held _ => 1
def uptoBulkAll {H : Type} : List (DataW H) → Nat
  | [] => 0
  | d :: r => uptoBulk d + uptoBulkAll r
def uptoBulkEntries {H : Type} : List (Lit × DataW H) → Nat
  | [] => 0
  | x :: r => uptoBulkEntry x + uptoBulkEntries r
def uptoBulkEntry {H : Type} : Lit × DataW H → Nat
  | (.string bytes, d) => bytes.length + uptoBulk d + 1
  | (_, d) => uptoBulk d + 1
 end
def uptoSmall : (H : Type) → List (DataW H) → Bool := fun _ ds => decide (uptoBulkAll ds ≤ 1048576)
def OpenSpec.upto (s : _root_.Go.ChangeSpec) : _root_.Go.OpenSpec := { _root_.Go.OpenSpec.ofChange s with cond := some uptoSmall }

/-- 'scumblelaw15.PackEdits', WHERE WHAT IT READS IS OF BULK AT MOST 1048576: true; the input reads as it did. -/
def packEditsUptoRow : OpenClaim := { program := "ytoobhebbgbhahaa", sum := "d246d0b8b8c1f4a3645be450845d0c11512df98c8d38be2bd7ebb3b72ed7400c", func := "scumble/scumblelaw15.PackEdits", spec := "packEdits", apart := false, narrowed := true }
def PackEditsUptoSaid : Prop := packEditsUptoRow.holds Try.pinned (OpenSpec.upto packEditsSpec)

/-- 'scumblelaw15.PackReads', WHERE WHAT IT READS IS OF BULK AT MOST 1048576: true; the input reads as it did. -/
def packReadsUptoRow : OpenClaim := { program := "ytoobhebbgbhahaa", sum := "d246d0b8b8c1f4a3645be450845d0c11512df98c8d38be2bd7ebb3b72ed7400c", func := "scumble/scumblelaw15.PackReads", spec := "packReads", apart := false, narrowed := true }
def PackReadsUptoSaid : Prop := packReadsUptoRow.holds Try.pinned (OpenSpec.upto packReadsSpec)

/-- 'scumblelaw15.PackNumbers', WHERE WHAT IT READS IS OF BULK AT MOST 1048576: true; the input reads as it did. -/
def packNumbersUptoRow : OpenClaim := { program := "ytoobhebbgbhahaa", sum := "d246d0b8b8c1f4a3645be450845d0c11512df98c8d38be2bd7ebb3b72ed7400c", func := "scumble/scumblelaw15.PackNumbers", spec := "packNumbers", apart := false, narrowed := true }
def PackNumbersUptoSaid : Prop := packNumbersUptoRow.holds Try.pinned (OpenSpec.upto packNumbersSpec)

/-- 'scumblelaw15.PackCuts', WHERE WHAT IT READS IS OF BULK AT MOST 1048576: true; the input reads as it did. -/
def packCutsUptoRow : OpenClaim := { program := "ytoobhebbgbhahaa", sum := "d246d0b8b8c1f4a3645be450845d0c11512df98c8d38be2bd7ebb3b72ed7400c", func := "scumble/scumblelaw15.PackCuts", spec := "packCuts", apart := false, narrowed := true }
def PackCutsUptoSaid : Prop := packCutsUptoRow.holds Try.pinned (OpenSpec.upto packCutsSpec)

/-- 'scumblelaw15.PackStates', WHERE WHAT IT READS IS OF BULK AT MOST 1048576: true; the input reads as it did. -/
def packStatesUptoRow : OpenClaim := { program := "ytoobhebbgbhahaa", sum := "d246d0b8b8c1f4a3645be450845d0c11512df98c8d38be2bd7ebb3b72ed7400c", func := "scumble/scumblelaw15.PackStates", spec := "packStates", unfollowed := true, recurses := true, loops := true, apart := false, narrowed := true }
def PackStatesUptoSaid : Prop := packStatesUptoRow.holds Try.pinned (OpenSpec.upto packStatesSpec)

/-- 'scumblelaw15.PackGets', WHERE WHAT IT READS IS OF BULK AT MOST 1048576: true; the input reads as it did. -/
def packGetsUptoRow : OpenClaim := { program := "ytoobhebbgbhahaa", sum := "d246d0b8b8c1f4a3645be450845d0c11512df98c8d38be2bd7ebb3b72ed7400c", func := "scumble/scumblelaw15.PackGets", spec := "packGets", unfollowed := true, recurses := true, apart := false, narrowed := true }
def PackGetsUptoSaid : Prop := packGetsUptoRow.holds Try.pinned (OpenSpec.upto packGetsSpec)

end Rows
end Go.Proofs.Ytoobhebbgbhahaa
