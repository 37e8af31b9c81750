/-
  Tokens and their bytes, plain. No program.
-/
import Derived.Test.YtabaagelgfdkeaaHs
namespace Go.Proofs.Ytabaagelgfdkeaa
open Go.RowKit
/-- A token. -/
structure Tok where
  L : Int
  D : Int
  C : UInt8
def Tok.wf (x : Tok) : Prop := (-9223372036854775808 ≤ x.L ∧ x.L ≤ 9223372036854775807) ∧ (-9223372036854775808 ≤ x.D ∧ x.D ≤ 9223372036854775807)
abbrev tokV (x : Tok) : List Value := [.int .i64 x.L, .int .i64 x.D, .int .u8 (x.C.toNat : Int)]
def copyN (out : List UInt8) (d : Nat) : Nat → List UInt8
  | 0 => out
  | n + 1 => copyN out d n ++ [(copyN out d n).getD ((copyN out d n).length - d) 0]
theorem length_copyN (out : List UInt8) (d n : Nat) : (copyN out d n).length = out.length + n := by
  induction n with
  | zero => rfl
  | succ n ih => rw [copyN, List.length_append, ih]; rfl
def Bad (out : List UInt8) (t : Tok) : Prop := t.L ≠ 0 ∧ (t.L < 3 ∨ 258 < t.L ∨ t.D < 1 ∨ 32768 < t.D ∨ (out.length : Int) < t.D)
instance (out : List UInt8) (t : Tok) : Decidable (Bad out t) := by unfold Bad; exact inferInstance
def nextB (out : List UInt8) (t : Tok) : List UInt8 := if t.L = 0 then out ++ [t.C] else copyN out t.D.toNat t.L.toNat
/-- What tokens say. -/
def lzB (most : Int) : List Tok → List UInt8 → List UInt8 × Int
  | [], out => (out, 0)
  | t :: ts, out => if Bad out t then ([], 22) else if most < (out.length : Int) + max t.L 1 then ([], 24) else lzB most ts (nextB out t)

def litT (c : UInt8) : Tok := ⟨0, 0, c⟩
end Go.Proofs.Ytabaagelgfdkeaa
