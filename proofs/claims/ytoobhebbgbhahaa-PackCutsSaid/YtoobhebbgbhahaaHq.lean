/-
  The way of walking, more: structs of numbers compared with themselves; a slice made with room. No condition.
-/
import Derived.Test.YtoobhebbgbhahaaHs
namespace Go.Proofs.Ytoobhebbgbhahaa
open Go.RowKit
def intFs (P : Program) : Nat → List Field → Bool
  | _, [] => true
  | i, f :: fs => (match P.underlying f.type with | some (.int _) => true | _ => false) && decide (f.offset = i) && intFs P (i + 1) fs
def intS (P : Program) (T : TypeId) : Bool := (match P.underlying T with | some (.struct fs) => intFs P 0 fs.toList | _ => false) && !P.stoodInHeld T && !P.eqGuardType P.depth T
section
variable {P : Program} {w : World}
theorem run_part_one {T : TypeId} {k : IntKind} {xs : Array Value} {i : Nat} {v : Value} (hT : P.underlying T = some (.int k)) (hv : xs[i]? = some v) : (part T xs i).run P w = .ok v w := by
  have h1 : (isAgg T).run P w = .ok false w := by
    unfold isAgg
    simp [run_underlying hT]
  unfold part
  simp only [Sem.run_bind, h1, Result.andThen_ok, Bool.false_eq_true, if_false, hv]
  rfl
theorem eqFields_self (d : Nat) (xs : Array Value) : ∀ (fs : List Field) (i : Nat), intFs P i fs = true → (∀ j, i ≤ j → j < i + fs.length → ∃ k a, xs[j]? = some (.int k a)) → (Op.eqFields (d + 1) xs xs fs).run P w = .ok true w
  | [], _, _, _ => by simp [Op.eqFields]
  | f :: fs, i, h, hx => by
    simp only [intFs, Bool.and_eq_true, decide_eq_true_eq] at h
    obtain ⟨⟨h1, h2⟩, h3⟩ := h
    have ih := eqFields_self d xs fs (i + 1) h3 (fun j hj hj2 => hx j (by omega) (by simp; omega))
    obtain ⟨k, a, hka⟩ := hx i (Nat.le_refl _) (by simp)
    cases hu : P.underlying f.type with
    | none => rw [hu] at h1; simp at h1
    | some dsc =>
      cases dsc with
      | int k' =>
        have hp := run_part_one (w := w) hu (h2 ▸ hka : xs[f.offset]? = some (.int k a))
        simp only [Op.eqFields]
        split
        · simp only [Sem.run_bind, hp, Result.andThen_ok, run_equalIn_int w d f.type k k' a a hu, beq_self_eq_true, Bool.not_true, Bool.false_eq_true, if_false]
          exact ih
        · exact ih
      | _ => rw [hu] at h1; simp at h1
theorem run_eq_self {T : TypeId} {xs : List Value} (h : intS P T = true) (hx : ∀ u ∈ xs, ∃ k a, u = Value.int k a) (hn : (P.fieldsOf T).size = xs.length) : (Op.equalIn 10000 T (.agg xs.toArray) (.agg xs.toArray)).run P w = .ok true w := by
  unfold intS at h
  simp only [Bool.and_eq_true, Bool.not_eq_true'] at h
  obtain ⟨⟨h1, h2⟩, _⟩ := h
  have hT : P.underlying T = some (.struct (P.fieldsOf T)) := by
    unfold Program.fieldsOf
    cases hu : P.underlying T with
    | none => rw [hu] at h1; simp at h1
    | some d => cases d <;> first | rfl | (rw [hu] at h1; simp at h1)
  rw [hT] at h1
  refine (run_equalIn_struct w 9999 T _ _ hT h2).trans (eqFields_self 9998 _ _ 0 h1 fun j _ hj => ?_)
  have hj' : j < xs.length := by rw [← hn, ← Array.length_toList]; omega
  obtain ⟨k, a, e⟩ := hx _ (List.getElem_mem hj')
  exact ⟨k, a, by simp [hj', e]⟩
end
class TIntS (P : Program) (T : TypeId) (n : outParam Nat) : Prop where
  h : intS P T = true
  n : (P.fieldsOf T).size = n
section
variable {c : Cx} {Q : Pst} {fr : Fr} {H F : List Ent} {ops : Array Oper} {rest : List Oper} {dst : Option Nat} {ty : TypeId} {pos : String} {after : Array Edge}
variable {x y : Operand} {T u e : TypeId} {S : List Oper → Fr → List Ent → Prop}
theorem hl_neAggF [hS : Stp c ops S] {n : Nat} {xs : List Value} [hT : TIntS c.P T n] (hx : ev fr x = .agg xs.toArray) (hy : ev fr y = .agg xs.toArray) (hi : ∀ u ∈ xs, ∃ k a, u = Value.int k a) (hn : xs.length = n) (hd : dOk c.n dst = true) (k : S rest (updO fr dst (.bool false)) H) :
    S (⟨dst, .binOp .neq T x y u, ty, pos, after, none⟩ :: rest) fr H :=
  hl_bin .neq hx hy hd (fun w => run_eqGuard_agg (w := w) .neq T x y _ _ (by have := hT.h; unfold intS at this; simp at this; exact this.2)) (fun w => by
    rw [run_neq_struct, run_eq_self hT.h hi (by rw [hT.n, hn])]; rfl) k
theorem hl_eqAggT [hS : Stp c ops S] {n : Nat} {xs : List Value} [hT : TIntS c.P T n] (hx : ev fr x = .agg xs.toArray) (hy : ev fr y = .agg xs.toArray) (hi : ∀ u ∈ xs, ∃ k a, u = Value.int k a) (hn : xs.length = n) (hd : dOk c.n dst = true) (k : S rest (updO fr dst (.bool true)) H) :
    S (⟨dst, .binOp .eql T x y u, ty, pos, after, none⟩ :: rest) fr H :=
  hl_bin .eql hx hy hd (fun w => run_eqGuard_agg (w := w) .eql T x y _ _ (by have := hT.h; unfold intS at this; simp at this; exact this.2)) (fun w => by
    rw [run_eql_struct, run_eq_self hT.h hi (by rw [hT.n, hn])]; rfl) k
/-- 'make([]T, 0, n)'. -/
theorem hl_makeC {sz by_ : Nat} {z : Value} [hT : TSlc c.P T e] [hsz : TSz c.P e sz] [hby : TByt c.P e by_] [hz : TZero c.P e z] {n : Nat} (hx : ev fr x = .int .i64 0) (hy : ev fr y = .int .i64 (n : Int)) (hb : by_ * n ≤ 281474976710656) (hmx : n ≤ 9223372036854775807) (hd : dOk c.n dst = true)
    (h : ∀ g, HL c ops Q rest (updO fr dst (.slice (some ⟨g, 0, none⟩) 0 n)) (⟨g, e, [], n * sz⟩ :: H)) :
    HL c ops Q (⟨dst, .makeSlice T x y, ty, pos, after, none⟩ :: rest) fr H :=
  hl_some hd fun w hw => by
    obtain ⟨inf, hi, hs⟩ := hsz.info
    obtain ⟨inf2, hi2, hzz⟩ := Option.bind_eq_some_iff.1 hz.h
    have e2 := Option.some.inj (hi2.symm.trans hi)
    subst e2
    obtain ⟨inf3, hi3, hbb⟩ := Option.map_eq_some_iff.1 hby.h
    have e3 := Option.some.inj (hi3.symm.trans hi)
    subst e3
    have hb' : (inf3.bytes : Int) * (n : Int) ≤ 281474976710656 := by
      rw [hbb]
      have h1 : ((by_ * n : Nat) : Int) ≤ 281474976710656 := by omega
      rwa [Int.natCast_mul] at h1
    have hr := run_make (P := c.P) w T e _ z hT.h hi hzz .i64 .i64 0 n (by omega) (by omega) hb' (by omega)
    rw [hs, Int.toNat_natCast, show (0 : Int).toNat = 0 from rfl] at hr
    exact ⟨_, _, _, by simp [execOp, hx, hy, hr], hw.new (madeCells z.cells (n * sz)) e [] (n * sz) (List.nil_prefix) (size_madeCells _ _), h _⟩
end
end Go.Proofs.Ytoobhebbgbhahaa
