/-
  No cell of these rows narrows 'for every input' (looked for: loops, veiled, ifaces, maps, wideKeys, modest, calm, conditions, laid).
  DERIVED. THE GIVEN ROWS OF THIS SEAT. 6 by the template 'for every input the law returns true; each argument reads behind the call as it read before'; 0 by the template 'total and deterministic' (their statements: YtabaagelgfdkeaaTotals.lean).
  GIVEN WITH THE SEED: the statements are not yours to turn. If you find one false, say at which input.
  Laid BY PROGRAM, IN A SANDBOX (cutbox-rows.mjs): the forced cells as the released guide's own fill.sh prints them over the translation 071ab5757d0923ad… (all of the seat's roots in one cut). By AI agents, Wed Nov 11 2026. No macro, syntax, notation, axiom, sorry.
-/
import Derived.Test.YtabaagelgfdkeaaChecked
import GoSem.Claim
import GoSem.ClaimJoined
import GoSem.ClaimMapViews
import Derived.JoinedTies
import Derived.KernelRfl
namespace Go.Proofs.Ytabaagelgfdkeaa
/- THE CELL 'sum', in the pinned program and in every row, IS THE sha256 OF THE DUMP (.gsa) THAT YtabaagelgfdkeaaProg.lean LOADS. Nothing in Lean hashes anything: it is a label: what it is worth is what the hold of that sum in a sandbox is worth. -/
noncomputable def Try.pinned : Pinned := { name := "ytabaagelgfdkeaa", sum := "071ab5757d0923ad6c0605dec85211ce98fa597c13fe6d1cfb4bdafdac47bf98", checked := Try.checked }
namespace Rows
def none {H : Type} : Left H := { results := [], args := [] }

/-- 'scumblelaw05.LzBytes': WHATEVER THE INPUT: true; the input reads as it did. -/
def lzBytesSpec : ChangeSpec := { name := "lzBytes", fn := fun _ => fun
  | [d1, d2] => { results := [.lit (.bool true)], args := [d1, d2] }
  | _ => none }
def lzBytesRow : OpenClaim := { program := "ytabaagelgfdkeaa", sum := "071ab5757d0923ad6c0605dec85211ce98fa597c13fe6d1cfb4bdafdac47bf98", func := "scumble/scumblelaw05.LzBytes", spec := "lzBytes", apart := false }
def LzBytesSaid : Prop := lzBytesRow.holds Try.pinned (OpenSpec.ofChange lzBytesSpec)

/-- ITS FALSE NEIGHBOUR: 'it returns false'. Refute it at one input. -/
def lzBytesWrong : ChangeSpec := { name := "lzBytes", fn := fun _ => fun
  | [d1, d2] => { results := [.lit (.bool false)], args := [d1, d2] }
  | _ => none }
def LzBytesWrongFalsely : Prop := lzBytesRow.holds Try.pinned (OpenSpec.ofChange lzBytesWrong)

/-- 'scumblelaw05.LzFinds': WHATEVER THE INPUT: true; the input reads as it did. -/
def lzFindsSpec : ChangeSpec := { name := "lzFinds", fn := fun _ => fun
  | [d1, d2] => { results := [.lit (.bool true)], args := [d1, d2] }
  | _ => none }
def lzFindsRow : OpenClaim := { program := "ytabaagelgfdkeaa", sum := "071ab5757d0923ad6c0605dec85211ce98fa597c13fe6d1cfb4bdafdac47bf98", func := "scumble/scumblelaw05.LzFinds", spec := "lzFinds", apart := false }
def LzFindsSaid : Prop := lzFindsRow.holds Try.pinned (OpenSpec.ofChange lzFindsSpec)

/-- ITS FALSE NEIGHBOUR: 'it returns false'. Refute it at one input. -/
def lzFindsWrong : ChangeSpec := { name := "lzFinds", fn := fun _ => fun
  | [d1, d2] => { results := [.lit (.bool false)], args := [d1, d2] }
  | _ => none }
def LzFindsWrongFalsely : Prop := lzFindsRow.holds Try.pinned (OpenSpec.ofChange lzFindsWrong)

/-- 'scumblelaw05.LzTight': WHATEVER THE INPUT: true; the input reads as it did. -/
def lzTightSpec : ChangeSpec := { name := "lzTight", fn := fun _ => fun
  | [d1, d2] => { results := [.lit (.bool true)], args := [d1, d2] }
  | _ => none }
def lzTightRow : OpenClaim := { program := "ytabaagelgfdkeaa", sum := "071ab5757d0923ad6c0605dec85211ce98fa597c13fe6d1cfb4bdafdac47bf98", func := "scumble/scumblelaw05.LzTight", spec := "lzTight", apart := false }
def LzTightSaid : Prop := lzTightRow.holds Try.pinned (OpenSpec.ofChange lzTightSpec)

/-- ITS FALSE NEIGHBOUR: 'it returns false'. Refute it at one input. -/
def lzTightWrong : ChangeSpec := { name := "lzTight", fn := fun _ => fun
  | [d1, d2] => { results := [.lit (.bool false)], args := [d1, d2] }
  | _ => none }
def LzTightWrongFalsely : Prop := lzTightRow.holds Try.pinned (OpenSpec.ofChange lzTightWrong)

/-- 'scumblelaw05.LzLimits': WHATEVER THE INPUT: true; the input reads as it did. -/
def lzLimitsSpec : ChangeSpec := { name := "lzLimits", fn := fun _ => fun
  | [d1, d2, d3] => { results := [.lit (.bool true)], args := [d1, d2, d3] }
  | _ => none }
def lzLimitsRow : OpenClaim := { program := "ytabaagelgfdkeaa", sum := "071ab5757d0923ad6c0605dec85211ce98fa597c13fe6d1cfb4bdafdac47bf98", func := "scumble/scumblelaw05.LzLimits", spec := "lzLimits", apart := false }
def LzLimitsSaid : Prop := lzLimitsRow.holds Try.pinned (OpenSpec.ofChange lzLimitsSpec)

/-- ITS FALSE NEIGHBOUR: 'it returns false'. Refute it at one input. -/
def lzLimitsWrong : ChangeSpec := { name := "lzLimits", fn := fun _ => fun
  | [d1, d2, d3] => { results := [.lit (.bool false)], args := [d1, d2, d3] }
  | _ => none }
def LzLimitsWrongFalsely : Prop := lzLimitsRow.holds Try.pinned (OpenSpec.ofChange lzLimitsWrong)

/-- 'scumblelaw05.LzJoins': WHATEVER THE INPUT: true; the input reads as it did. -/
def lzJoinsSpec : ChangeSpec := { name := "lzJoins", fn := fun _ => fun
  | [d1, d2, d3, d4] => { results := [.lit (.bool true)], args := [d1, d2, d3, d4] }
  | _ => none }
def lzJoinsRow : OpenClaim := { program := "ytabaagelgfdkeaa", sum := "071ab5757d0923ad6c0605dec85211ce98fa597c13fe6d1cfb4bdafdac47bf98", func := "scumble/scumblelaw05.LzJoins", spec := "lzJoins", apart := false }
def LzJoinsSaid : Prop := lzJoinsRow.holds Try.pinned (OpenSpec.ofChange lzJoinsSpec)

/-- ITS FALSE NEIGHBOUR: 'it returns false'. Refute it at one input. -/
def lzJoinsWrong : ChangeSpec := { name := "lzJoins", fn := fun _ => fun
  | [d1, d2, d3, d4] => { results := [.lit (.bool false)], args := [d1, d2, d3, d4] }
  | _ => none }
def LzJoinsWrongFalsely : Prop := lzJoinsRow.holds Try.pinned (OpenSpec.ofChange lzJoinsWrong)

/-- 'scumblelaw05.LzSame': WHATEVER THE INPUT: true; the input reads as it did. -/
def lzSameSpec : ChangeSpec := { name := "lzSame", fn := fun _ => fun
  | [d1, d2] => { results := [.lit (.bool true)], args := [d1, d2] }
  | _ => none }
def lzSameRow : OpenClaim := { program := "ytabaagelgfdkeaa", sum := "071ab5757d0923ad6c0605dec85211ce98fa597c13fe6d1cfb4bdafdac47bf98", func := "scumble/scumblelaw05.LzSame", spec := "lzSame", apart := false }
def LzSameSaid : Prop := lzSameRow.holds Try.pinned (OpenSpec.ofChange lzSameSpec)

/-- ITS FALSE NEIGHBOUR: 'it returns false'. Refute it at one input. -/
def lzSameWrong : ChangeSpec := { name := "lzSame", fn := fun _ => fun
  | [d1, d2] => { results := [.lit (.bool false)], args := [d1, d2] }
  | _ => none }
def LzSameWrongFalsely : Prop := lzSameRow.holds Try.pinned (OpenSpec.ofChange lzSameWrong)

/- THE SECOND FORM. 'bulk': how many values and letters a reading holds, each counted each time it is reached (what is shared counts as often as it is met; a slice's spare places count too). A statement '..UptoSaid' is the law's where the arguments, and the package variables that the reading takes, are together of bulk at most 1048576: NARROWER than '..Said'. Prove '..Said' where nothing that the law and all that it calls make is longer than what came in: it says more and counts as full. Else prove '..UptoSaid'. A law counts once. -/
mutual
def uptoBulk {H : Type} : DataW H → Nat
  | .lit (.string bytes) => bytes.length + 1
  | .lit _ => 1
  | .nil => 1
  | .ptr d => uptoBulk d + 1
  | .slice elems spare => uptoBulkAll elems + uptoBulkAll spare + 1
  | .agg parts => uptoBulkAll parts + 1
  | .iface _ d => uptoBulk d + 1
  | .map entries => uptoBulkEntries entries + 1
  | .held _ => 1
def uptoBulkAll {H : Type} : List (DataW H) → Nat
  | [] => 0
  | d :: r => uptoBulk d + uptoBulkAll r
def uptoBulkEntries {H : Type} : List (Lit × DataW H) → Nat
  | [] => 0
  | x :: r => uptoBulkEntry x + uptoBulkEntries r
def uptoBulkEntry {H : Type} : Lit × DataW H → Nat
  | (.string bytes, d) => bytes.length + uptoBulk d + 1
  | (_, d) => uptoBulk d + 1
 end
def uptoSmall : (H : Type) → List (DataW H) → Bool := fun _ ds => decide (uptoBulkAll ds ≤ 1048576)
def OpenSpec.upto (s : _root_.Go.ChangeSpec) : _root_.Go.OpenSpec := { _root_.Go.OpenSpec.ofChange s with cond := some uptoSmall }

/-- 'scumblelaw05.LzBytes', WHERE WHAT IT READS IS OF BULK AT MOST 1048576: true; the input reads as it did. -/
def lzBytesUptoRow : OpenClaim := { program := "ytabaagelgfdkeaa", sum := "071ab5757d0923ad6c0605dec85211ce98fa597c13fe6d1cfb4bdafdac47bf98", func := "scumble/scumblelaw05.LzBytes", spec := "lzBytes", apart := false, narrowed := true }
def LzBytesUptoSaid : Prop := lzBytesUptoRow.holds Try.pinned (OpenSpec.upto lzBytesSpec)

/-- 'scumblelaw05.LzFinds', WHERE WHAT IT READS IS OF BULK AT MOST 1048576: true; the input reads as it did. -/
def lzFindsUptoRow : OpenClaim := { program := "ytabaagelgfdkeaa", sum := "071ab5757d0923ad6c0605dec85211ce98fa597c13fe6d1cfb4bdafdac47bf98", func := "scumble/scumblelaw05.LzFinds", spec := "lzFinds", apart := false, narrowed := true }
def LzFindsUptoSaid : Prop := lzFindsUptoRow.holds Try.pinned (OpenSpec.upto lzFindsSpec)

/-- 'scumblelaw05.LzTight', WHERE WHAT IT READS IS OF BULK AT MOST 1048576: true; the input reads as it did. -/
def lzTightUptoRow : OpenClaim := { program := "ytabaagelgfdkeaa", sum := "071ab5757d0923ad6c0605dec85211ce98fa597c13fe6d1cfb4bdafdac47bf98", func := "scumble/scumblelaw05.LzTight", spec := "lzTight", apart := false, narrowed := true }
def LzTightUptoSaid : Prop := lzTightUptoRow.holds Try.pinned (OpenSpec.upto lzTightSpec)

/-- 'scumblelaw05.LzLimits', WHERE WHAT IT READS IS OF BULK AT MOST 1048576: true; the input reads as it did. -/
def lzLimitsUptoRow : OpenClaim := { program := "ytabaagelgfdkeaa", sum := "071ab5757d0923ad6c0605dec85211ce98fa597c13fe6d1cfb4bdafdac47bf98", func := "scumble/scumblelaw05.LzLimits", spec := "lzLimits", apart := false, narrowed := true }
def LzLimitsUptoSaid : Prop := lzLimitsUptoRow.holds Try.pinned (OpenSpec.upto lzLimitsSpec)

/-- 'scumblelaw05.LzJoins', WHERE WHAT IT READS IS OF BULK AT MOST 1048576: true; the input reads as it did. -/
def lzJoinsUptoRow : OpenClaim := { program := "ytabaagelgfdkeaa", sum := "071ab5757d0923ad6c0605dec85211ce98fa597c13fe6d1cfb4bdafdac47bf98", func := "scumble/scumblelaw05.LzJoins", spec := "lzJoins", apart := false, narrowed := true }
def LzJoinsUptoSaid : Prop := lzJoinsUptoRow.holds Try.pinned (OpenSpec.upto lzJoinsSpec)

/-- 'scumblelaw05.LzSame', WHERE WHAT IT READS IS OF BULK AT MOST 1048576: true; the input reads as it did. -/
def lzSameUptoRow : OpenClaim := { program := "ytabaagelgfdkeaa", sum := "071ab5757d0923ad6c0605dec85211ce98fa597c13fe6d1cfb4bdafdac47bf98", func := "scumble/scumblelaw05.LzSame", spec := "lzSame", apart := false, narrowed := true }
def LzSameUptoSaid : Prop := lzSameUptoRow.holds Try.pinned (OpenSpec.upto lzSameSpec)

end Rows
end Go.Proofs.Ytabaagelgfdkeaa
