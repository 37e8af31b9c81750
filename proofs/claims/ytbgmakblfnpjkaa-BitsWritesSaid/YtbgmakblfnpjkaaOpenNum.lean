/-
  How an argument that is a list of numbers is opened. No condition.
-/
import Derived.Test.YtbgmakblfnpjkaaOpenS
import Derived.Test.YtbgmakblfnpjkaaB3
import Derived.ChangeArms
namespace Go.Proofs.Ytbgmakblfnpjkaa
open Go.RowKit Go.ChangeShapes Go.WideShapes Go.ChangeAt Go.Deep

theorem open_numL {H : Type} {enc : TypeId × Value → H} {w : World} {base : Nat} {held : Bool} {v : Value} {d : DataW H} {ps : List MemPlace} {a : Option Addr} {len cap : Nat} (hv : v = .slice a len cap)
    (h : DataW.Trod enc Try.prog w base (fun _ => true) held 22 v d ps) : ∃ l : List Num, SlS 3 numV w a len cap l ∧ ∀ x ∈ l, x.wf := by
  refine open_structs numV Num.wf Try.underlying22 Try.underlying27 (by kernel_rfl) (by kernel_rfl) (by decide) ?_ hv h
  intro vs hl hf
  obtain ⟨x, hx, n0, y0, h0⟩ := hf 0 _ rfl
  obtain ⟨y, hy, n1, y1, h1⟩ := hf 1 _ rfl
  obtain ⟨z, hz, n2, y2, h2⟩ := hf 2 _ rfl
  obtain ⟨i, hi, _, wi⟩ := DataW.trod_int Try.underlying3 h0
  obtain ⟨j, hj, _, wj⟩ := DataW.trod_int Try.underlying3 h1
  obtain ⟨b, hb, _⟩ := DataW.trod_bool Try.underlying4 h2
  cases hi; cases hj; cases hb
  match vs, hl with
  | [p, q, r], _ =>
    cases hx; cases hy; cases hz
    exact ⟨⟨i, j, b⟩, rfl, wf_i64 wi, wf_i64 wj⟩
end Go.Proofs.Ytbgmakblfnpjkaa
