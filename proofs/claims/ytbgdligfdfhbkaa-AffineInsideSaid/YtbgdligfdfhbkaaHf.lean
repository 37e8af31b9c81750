/-
  The way of walking: functions as values with what they hold; min and max of four. No condition.
-/
import Derived.Test.YtbgdligfdfhbkaaHz
namespace Go.Proofs.Ytbgdligfdfhbkaa
open Go.RowKit

section
variable {c : Cx} {Q : Pst} {fr : Fr} {H F : List Ent} {ops : Array Oper} {rest : List Oper} {dst : Option Nat} {ty : TypeId} {pos : String} {after : Array Edge}
variable {x : Operand} {S : List Oper → Fr → List Ent → Prop}
theorem hl_makeFunc {f : FuncId} {xs : List Operand} {caps : List Value} [Stp c ops S] (hxs : evs fr xs = caps) (hd : dOk c.n dst = true) (h : S rest (updO fr dst (.func (.func f) #[] caps.toArray)) H) :
    S (⟨dst, .makeFunc (.func f) #[] xs.toArray, ty, pos, after, none⟩ :: rest) fr H :=
  hl_pure hd (.func (.func f) #[] caps.toArray) (fun w _ => by
    subst hxs
    simp [execOp, Instr.makeFunc, evs_eq]) h
theorem hl_moveF {f : _root_.Go.Fn} {l l2 : Array Value} [Stp c ops S] (hx : ev fr x = .func f l l2) (hd : dOk c.n dst = true) (k : S rest (updO fr dst (.func f l l2)) H) : S (⟨dst, .move x, ty, pos, after, none⟩ :: rest) fr H := hl_move hx hd k
theorem hl_assignF {f : _root_.Go.Fn} {l l2 : Array Value} [Stp c ops S] (hx : ev fr x = .func f l l2) (hd : dOk c.n dst = true) (k : S rest (updO fr dst (.func f l l2)) H) : S (⟨dst, .assign x, ty, pos, after, none⟩ :: rest) fr H := hl_assign hx hd k
theorem hl_callc {f : FuncId} {xs : List Operand} {ts : Array TypeId} {args caps : List Value} {R : Value → List Ent → Prop} (hx : ev fr x = .func (.func f) #[] caps.toArray) (hxs : evs fr xs = args) (hd : dOk c.n dst = true) (hf : Fn c.P c.w0 c.B f (args ++ caps) H R)
    (h : ∀ v H', R v H' → HL c ops Q rest (updO fr dst v) H') : HL c ops Q (⟨dst, .call { callee := .value x, args := xs.toArray, argTypes := ts }, ty, pos, after, none⟩ :: rest) fr H := ⟨fun a w hs hh =>
  wpList_plain rfl fun K hK => by
    obtain ⟨⟨fn, h1, h2, h3⟩, hc⟩ := hf
    have hargs : (xs.toArray.map a.eval) = args.toArray := by rw [hs.eval, ← hxs, evs_eq]; simp
    have hxe : a.eval x = .func (.func f) #[] caps.toArray := by rw [hs.eval]; exact hx
    have hrun : (execOp a.eval ⟨dst, .call { callee := .value x, args := xs.toArray, argTypes := ts }, ty, pos, after, none⟩).run c.P w = .ok (.enter f (args ++ caps).toArray) w := by
      simp only [execOp, resolve, hargs]
      have h2' : ¬ (fn.name = "runtime.NumGoroutine") := by simpa using h2
      have h3' : ¬ (fn.body = none) := by intro h; rw [h] at h3; cases h3
      simp [hxe, Deferred.ofValue, invoke, callFunc, program, Sem.run, h1, h2', h3']
    unfold Oper.wp
    rw [hrun]
    refine (hc w hh).mono fun e w' ⟨v, H', he, hw', hR⟩ => ?_
    subst he
    exact hK _ _ ((h v H' hR).of _ _ (hs.put hd v) hw')⟩
theorem hl_min4 {x1 x2 x3 x4 : Operand} {k' : IntKind} {a1 a2 a3 a4 : Int} {ts : Array TypeId} [Stp c ops S] (h1 : ev fr x1 = .int k' a1) (h2 : ev fr x2 = .int k' a2) (h3 : ev fr x3 = .int k' a3) (h4 : ev fr x4 = .int k' a4) (hd : dOk c.n dst = true) (h : S rest (updO fr dst (.int k' (min (min (min a1 a2) a3) a4))) H) :
    S (⟨dst, .call { callee := .builtin .min, args := #[x1, x2, x3, x4], argTypes := ts }, ty, pos, after, none⟩ :: rest) fr H :=
  hl_pure hd _ (fun w _ => by
    have e : ∀ a b : Int, (if b < a then b else a) = min a b := fun a b => by split <;> omega
    simp [execOp, resolve, invoke, builtin, Builtin.min_, Builtin.min2, h1, h2, h3, h4, e]) h
theorem hl_max4 {x1 x2 x3 x4 : Operand} {k' : IntKind} {a1 a2 a3 a4 : Int} {ts : Array TypeId} [Stp c ops S] (h1 : ev fr x1 = .int k' a1) (h2 : ev fr x2 = .int k' a2) (h3 : ev fr x3 = .int k' a3) (h4 : ev fr x4 = .int k' a4) (hd : dOk c.n dst = true) (h : S rest (updO fr dst (.int k' (max (max (max a1 a2) a3) a4))) H) :
    S (⟨dst, .call { callee := .builtin .max, args := #[x1, x2, x3, x4], argTypes := ts }, ty, pos, after, none⟩ :: rest) fr H :=
  hl_pure hd _ (fun w _ => by
    have e : ∀ a b : Int, (if b > a then b else a) = max a b := fun a b => by split <;> omega
    have e2 : ∀ a b : Int, (if a < b then b else a) = max a b := fun a b => by split <;> omega
    simp [execOp, resolve, invoke, builtin, Builtin.max_, Builtin.max2, h1, h2, h3, h4, e, e2]) h
end
end Go.Proofs.Ytbgdligfdfhbkaa
