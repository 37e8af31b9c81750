/-
  The way of walking, more: from a contract of the one kind to one of the other. No condition.
-/
import Derived.Test.YtoobhebbgbhahaaHb
namespace Go.Proofs.Ytoobhebbgbhahaa
open Go.RowKit

section
variable {P : Program} {w0 : World} {B f : Nat} {fn : Func} {args : List Value} {v : Value} {H : List Ent}
theorem fn_of_same (hf : P.funcs[f]? = some fn) (hn : (fn.name == "runtime.NumGoroutine") = false) (hb : fn.body.isNone = false) (h : ∀ w, Calls P f args.toArray w fun e w' => e = .returned v ∧ w = w') : Fn P w0 B f args H (fun u H' => u = v ∧ H' = H) :=
  ⟨⟨fn, hf, hn, hb⟩, fun w hw => (h w).mono fun e w' ⟨h1, h2⟩ => ⟨v, H, h1, h2 ▸ hw, rfl, rfl⟩⟩
theorem fn_of_below (hf : P.funcs[f]? = some fn) (hn : (fn.name == "runtime.NumGoroutine") = false) (hb : fn.body.isNone = false) (h : ∀ w, Calls P f args.toArray w fun e w' => e = .returned v ∧ Below w.heap.size w w') : Fn P w0 B f args H (fun u H' => u = v ∧ H' = H) :=
  ⟨⟨fn, hf, hn, hb⟩, fun w hw => (h w).mono fun e w' ⟨h1, h2⟩ => ⟨v, H, h1, hw.grow h2, rfl, rfl⟩⟩
/-- To a statement's own walk. -/
theorem calls_of_fn {R : Value → List Ent → Prop} {w : World} (h : Fn P w w.heap.size f args [] R) (hR : ∀ u H', R u H' → u = v) : Calls P f args.toArray w fun e w' => e = .returned v ∧ Below w.heap.size w w' :=
  (h.run w (Hp.start w)).mono fun e w' ⟨u, H', h1, h2, h3⟩ => ⟨by rw [h1, hR u H' h3], h2.below⟩
/-- The memory's list does not matter to what leaves it alone. -/
theorem Fn.any {H' : List Ent} (h : ∀ H, Fn P w0 B f args H (fun u H' => u = v ∧ H' = H)) : Fn P w0 B f args H' (fun u H'' => u = v ∧ H'' = H') := h H'
end

end Go.Proofs.Ytoobhebbgbhahaa
