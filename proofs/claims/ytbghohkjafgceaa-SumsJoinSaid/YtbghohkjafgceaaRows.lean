/-
  No cell of these rows narrows 'for every input' (looked for: loops, veiled, ifaces, maps, wideKeys, modest, calm, conditions, laid).
  DERIVED. THE GIVEN ROWS OF THIS SEAT. 6 by the template 'for every input the law returns true; each argument reads behind the call as it read before'; 0 by the template 'total and deterministic' (their statements: YtbghohkjafgceaaTotals.lean).
  GIVEN WITH THE SEED: the statements are not yours to turn. If you find one false, say at which input.
  Laid BY PROGRAM, IN A SANDBOX (cutbox-rows.mjs): the forced cells as the released guide's own fill.sh prints them over the translation c991c0530051f391… (all of the seat's roots in one cut). By AI agents, Wed Nov 11 2026. No macro, syntax, notation, axiom, sorry.
-/
import Derived.Test.YtbghohkjafgceaaChecked
import GoSem.Claim
import GoSem.ClaimJoined
import GoSem.ClaimMapViews
import Derived.JoinedTies
import Derived.KernelRfl
namespace Go.Proofs.Ytbghohkjafgceaa
/- THE CELL 'sum', in the pinned program and in every row, IS THE sha256 OF THE DUMP (.gsa) THAT YtbghohkjafgceaaProg.lean LOADS. Nothing in Lean hashes anything: it is a label: what it is worth is what the hold of that sum in a sandbox is worth. -/
noncomputable def Try.pinned : Pinned := { name := "ytbghohkjafgceaa", sum := "c991c0530051f391f63e48fdbb9567d2398b1681ecf20637faffc21eb69acc17", checked := Try.checked }
namespace Rows
def none {H : Type} : Left H := { results := [], args := [] }

/-- 'scumblelaw03.SumsOf': WHATEVER THE INPUT: true; the input reads as it did. -/
def sumsOfSpec : ChangeSpec := { name := "sumsOf", fn := fun _ => fun
  | [d] => { results := [.lit (.bool true)], args := [d] }
  | _ => none }
def sumsOfRow : OpenClaim := { program := "ytbghohkjafgceaa", sum := "c991c0530051f391f63e48fdbb9567d2398b1681ecf20637faffc21eb69acc17", func := "scumble/scumblelaw03.SumsOf", spec := "sumsOf", apart := false }
def SumsOfSaid : Prop := sumsOfRow.holds Try.pinned (OpenSpec.ofChange sumsOfSpec)

/-- ITS FALSE NEIGHBOUR: 'it returns false'. Refute it at one input. -/
def sumsOfWrong : ChangeSpec := { name := "sumsOf", fn := fun _ => fun
  | [d] => { results := [.lit (.bool false)], args := [d] }
  | _ => none }
def SumsOfWrongFalsely : Prop := sumsOfRow.holds Try.pinned (OpenSpec.ofChange sumsOfWrong)

/-- 'scumblelaw03.SumsMore': WHATEVER THE INPUT: true; the input reads as it did. -/
def sumsMoreSpec : ChangeSpec := { name := "sumsMore", fn := fun _ => fun
  | [d1, d2] => { results := [.lit (.bool true)], args := [d1, d2] }
  | _ => none }
def sumsMoreRow : OpenClaim := { program := "ytbghohkjafgceaa", sum := "c991c0530051f391f63e48fdbb9567d2398b1681ecf20637faffc21eb69acc17", func := "scumble/scumblelaw03.SumsMore", spec := "sumsMore", apart := false }
def SumsMoreSaid : Prop := sumsMoreRow.holds Try.pinned (OpenSpec.ofChange sumsMoreSpec)

/-- ITS FALSE NEIGHBOUR: 'it returns false'. Refute it at one input. -/
def sumsMoreWrong : ChangeSpec := { name := "sumsMore", fn := fun _ => fun
  | [d1, d2] => { results := [.lit (.bool false)], args := [d1, d2] }
  | _ => none }
def SumsMoreWrongFalsely : Prop := sumsMoreRow.holds Try.pinned (OpenSpec.ofChange sumsMoreWrong)

/-- 'scumblelaw03.SumsFlip': WHATEVER THE INPUT: true; the input reads as it did. -/
def sumsFlipSpec : ChangeSpec := { name := "sumsFlip", fn := fun _ => fun
  | [d1, d2, d3] => { results := [.lit (.bool true)], args := [d1, d2, d3] }
  | _ => none }
def sumsFlipRow : OpenClaim := { program := "ytbghohkjafgceaa", sum := "c991c0530051f391f63e48fdbb9567d2398b1681ecf20637faffc21eb69acc17", func := "scumble/scumblelaw03.SumsFlip", spec := "sumsFlip", apart := false }
def SumsFlipSaid : Prop := sumsFlipRow.holds Try.pinned (OpenSpec.ofChange sumsFlipSpec)

/-- ITS FALSE NEIGHBOUR: 'it returns false'. Refute it at one input. -/
def sumsFlipWrong : ChangeSpec := { name := "sumsFlip", fn := fun _ => fun
  | [d1, d2, d3] => { results := [.lit (.bool false)], args := [d1, d2, d3] }
  | _ => none }
def SumsFlipWrongFalsely : Prop := sumsFlipRow.holds Try.pinned (OpenSpec.ofChange sumsFlipWrong)

/-- 'scumblelaw03.SumsLinear': WHATEVER THE INPUT: true; the input reads as it did. -/
def sumsLinearSpec : ChangeSpec := { name := "sumsLinear", fn := fun _ => fun
  | [d1, d2, d3] => { results := [.lit (.bool true)], args := [d1, d2, d3] }
  | _ => none }
def sumsLinearRow : OpenClaim := { program := "ytbghohkjafgceaa", sum := "c991c0530051f391f63e48fdbb9567d2398b1681ecf20637faffc21eb69acc17", func := "scumble/scumblelaw03.SumsLinear", spec := "sumsLinear", apart := false }
def SumsLinearSaid : Prop := sumsLinearRow.holds Try.pinned (OpenSpec.ofChange sumsLinearSpec)

/-- ITS FALSE NEIGHBOUR: 'it returns false'. Refute it at one input. -/
def sumsLinearWrong : ChangeSpec := { name := "sumsLinear", fn := fun _ => fun
  | [d1, d2, d3] => { results := [.lit (.bool false)], args := [d1, d2, d3] }
  | _ => none }
def SumsLinearWrongFalsely : Prop := sumsLinearRow.holds Try.pinned (OpenSpec.ofChange sumsLinearWrong)

/-- 'scumblelaw03.SumsSwap': WHATEVER THE INPUT: true; the input reads as it did. -/
def sumsSwapSpec : ChangeSpec := { name := "sumsSwap", fn := fun _ => fun
  | [d1, d2, d3] => { results := [.lit (.bool true)], args := [d1, d2, d3] }
  | _ => none }
def sumsSwapRow : OpenClaim := { program := "ytbghohkjafgceaa", sum := "c991c0530051f391f63e48fdbb9567d2398b1681ecf20637faffc21eb69acc17", func := "scumble/scumblelaw03.SumsSwap", spec := "sumsSwap", apart := false }
def SumsSwapSaid : Prop := sumsSwapRow.holds Try.pinned (OpenSpec.ofChange sumsSwapSpec)

/-- ITS FALSE NEIGHBOUR: 'it returns false'. Refute it at one input. -/
def sumsSwapWrong : ChangeSpec := { name := "sumsSwap", fn := fun _ => fun
  | [d1, d2, d3] => { results := [.lit (.bool false)], args := [d1, d2, d3] }
  | _ => none }
def SumsSwapWrongFalsely : Prop := sumsSwapRow.holds Try.pinned (OpenSpec.ofChange sumsSwapWrong)

/-- 'scumblelaw03.SumsJoin': WHATEVER THE INPUT: true; the input reads as it did. -/
def sumsJoinSpec : ChangeSpec := { name := "sumsJoin", fn := fun _ => fun
  | [d1, d2, d3] => { results := [.lit (.bool true)], args := [d1, d2, d3] }
  | _ => none }
def sumsJoinRow : OpenClaim := { program := "ytbghohkjafgceaa", sum := "c991c0530051f391f63e48fdbb9567d2398b1681ecf20637faffc21eb69acc17", func := "scumble/scumblelaw03.SumsJoin", spec := "sumsJoin", apart := false }
def SumsJoinSaid : Prop := sumsJoinRow.holds Try.pinned (OpenSpec.ofChange sumsJoinSpec)

/-- ITS FALSE NEIGHBOUR: 'it returns false'. Refute it at one input. -/
def sumsJoinWrong : ChangeSpec := { name := "sumsJoin", fn := fun _ => fun
  | [d1, d2, d3] => { results := [.lit (.bool false)], args := [d1, d2, d3] }
  | _ => none }
def SumsJoinWrongFalsely : Prop := sumsJoinRow.holds Try.pinned (OpenSpec.ofChange sumsJoinWrong)

/- THE SECOND FORM. 'bulk': how many values and letters a reading holds, each counted each time it is reached (what is shared counts as often as it is met; a slice's spare places count too). A statement '..UptoSaid' is the law's where the arguments, and the package variables that the reading takes, are together of bulk at most 1048576: NARROWER than '..Said'. Prove '..Said' where nothing that the law and all that it calls make is longer than what came in: it says more and counts as full. Else prove '..UptoSaid'. A law counts once. -/
mutual
def uptoBulk {H : Type} : DataW H → Nat
  | .lit (.string bytes) => bytes.length + 1
  | .lit _ => 1
  | .nil => 1
  | .ptr d => uptoBulk d + 1
  | .slice elems spare => uptoBulkAll elems + uptoBulkAll spare + 1
  | .agg parts => uptoBulkAll parts + 1
  | .iface _ d => uptoBulk d + 1
  | .map entries => uptoBulkEntries entries + 1
  | .held _ => 1
def uptoBulkAll {H : Type} : List (DataW H) → Nat
  | [] => 0
  | d :: r => uptoBulk d + uptoBulkAll r
def uptoBulkEntries {H : Type} : List (Lit × DataW H) → Nat
  | [] => 0
  | x :: r => uptoBulkEntry x + uptoBulkEntries r
def uptoBulkEntry {H : Type} : Lit × DataW H → Nat
  | (.string bytes, d) => bytes.length + uptoBulk d + 1
  | (_, d) => uptoBulk d + 1
 end
def uptoSmall : (H : Type) → List (DataW H) → Bool := fun _ ds => decide (uptoBulkAll ds ≤ 1048576)
def OpenSpec.upto (s : _root_.Go.ChangeSpec) : _root_.Go.OpenSpec := { _root_.Go.OpenSpec.ofChange s with cond := some uptoSmall }

/-- 'scumblelaw03.SumsOf', WHERE WHAT IT READS IS OF BULK AT MOST 1048576: true; the input reads as it did. -/
def sumsOfUptoRow : OpenClaim := { program := "ytbghohkjafgceaa", sum := "c991c0530051f391f63e48fdbb9567d2398b1681ecf20637faffc21eb69acc17", func := "scumble/scumblelaw03.SumsOf", spec := "sumsOf", apart := false, narrowed := true }
def SumsOfUptoSaid : Prop := sumsOfUptoRow.holds Try.pinned (OpenSpec.upto sumsOfSpec)

/-- 'scumblelaw03.SumsMore', WHERE WHAT IT READS IS OF BULK AT MOST 1048576: true; the input reads as it did. -/
def sumsMoreUptoRow : OpenClaim := { program := "ytbghohkjafgceaa", sum := "c991c0530051f391f63e48fdbb9567d2398b1681ecf20637faffc21eb69acc17", func := "scumble/scumblelaw03.SumsMore", spec := "sumsMore", apart := false, narrowed := true }
def SumsMoreUptoSaid : Prop := sumsMoreUptoRow.holds Try.pinned (OpenSpec.upto sumsMoreSpec)

/-- 'scumblelaw03.SumsFlip', WHERE WHAT IT READS IS OF BULK AT MOST 1048576: true; the input reads as it did. -/
def sumsFlipUptoRow : OpenClaim := { program := "ytbghohkjafgceaa", sum := "c991c0530051f391f63e48fdbb9567d2398b1681ecf20637faffc21eb69acc17", func := "scumble/scumblelaw03.SumsFlip", spec := "sumsFlip", apart := false, narrowed := true }
def SumsFlipUptoSaid : Prop := sumsFlipUptoRow.holds Try.pinned (OpenSpec.upto sumsFlipSpec)

/-- 'scumblelaw03.SumsLinear', WHERE WHAT IT READS IS OF BULK AT MOST 1048576: true; the input reads as it did. -/
def sumsLinearUptoRow : OpenClaim := { program := "ytbghohkjafgceaa", sum := "c991c0530051f391f63e48fdbb9567d2398b1681ecf20637faffc21eb69acc17", func := "scumble/scumblelaw03.SumsLinear", spec := "sumsLinear", apart := false, narrowed := true }
def SumsLinearUptoSaid : Prop := sumsLinearUptoRow.holds Try.pinned (OpenSpec.upto sumsLinearSpec)

/-- 'scumblelaw03.SumsSwap', WHERE WHAT IT READS IS OF BULK AT MOST 1048576: true; the input reads as it did. -/
def sumsSwapUptoRow : OpenClaim := { program := "ytbghohkjafgceaa", sum := "c991c0530051f391f63e48fdbb9567d2398b1681ecf20637faffc21eb69acc17", func := "scumble/scumblelaw03.SumsSwap", spec := "sumsSwap", apart := false, narrowed := true }
def SumsSwapUptoSaid : Prop := sumsSwapUptoRow.holds Try.pinned (OpenSpec.upto sumsSwapSpec)

/-- 'scumblelaw03.SumsJoin', WHERE WHAT IT READS IS OF BULK AT MOST 1048576: true; the input reads as it did. -/
def sumsJoinUptoRow : OpenClaim := { program := "ytbghohkjafgceaa", sum := "c991c0530051f391f63e48fdbb9567d2398b1681ecf20637faffc21eb69acc17", func := "scumble/scumblelaw03.SumsJoin", spec := "sumsJoin", apart := false, narrowed := true }
def SumsJoinUptoSaid : Prop := sumsJoinUptoRow.holds Try.pinned (OpenSpec.upto sumsJoinSpec)

end Rows
end Go.Proofs.Ytbghohkjafgceaa
