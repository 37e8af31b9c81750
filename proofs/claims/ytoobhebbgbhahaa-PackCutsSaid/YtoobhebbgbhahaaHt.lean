/-
  The way of walking, more: cells as a table. No condition.
-/
import Derived.Test.YtoobhebbgbhahaaHe
namespace Go.Proofs.Ytoobhebbgbhahaa
open Go.RowKit

/-! Products -/
theorem mul_bd {a b : Int} {M N : Int} (ha : -M ≤ a ∧ a ≤ M) (hb : -N ≤ b ∧ b ≤ N) : -(M * N) ≤ a * b ∧ a * b ≤ M * N := by
  have h1 : 0 ≤ (M - a) * (N + b) := Int.mul_nonneg (by omega) (by omega)
  have h2 : 0 ≤ (M + a) * (N - b) := Int.mul_nonneg (by omega) (by omega)
  have h3 : 0 ≤ (M - a) * (N - b) := Int.mul_nonneg (by omega) (by omega)
  have h4 : 0 ≤ (M + a) * (N + b) := Int.mul_nonneg (by omega) (by omega)
  simp only [Int.sub_mul, Int.add_mul, Int.mul_add, Int.mul_sub] at h1 h2 h3 h4
  constructor <;> omega

/-! Cells as a table -/
def tab (n : Nat) (f : Nat → Int) : List Value := (List.range n).map fun k => .int .i64 (f k)
theorem length_tab (n : Nat) (f : Nat → Int) : (tab n f).length = n := by simp [tab]
theorem tab_get {n k : Nat} {f : Nat → Int} (h : k < n) : (tab n f)[k]? = some (.int .i64 (f k)) := by simp [tab, h]
theorem tab_congr {n : Nat} {f g : Nat → Int} (h : ∀ k, k < n → f k = g k) : tab n f = tab n g := by
  unfold tab; refine List.map_congr_left fun k hk => ?_
  rw [h k (by simpa using hk)]
theorem tab_set {n k : Nat} {f g : Nat → Int} {v : Int} (h : ∀ j, j < n → g j = if j = k then v else f j) : (tab n f).set k (.int .i64 v) = tab n g := by
  apply List.ext_getElem?
  intro j
  rw [List.getElem?_set]
  by_cases hj : j < n
  · rw [tab_get hj, tab_get hj, h j hj]
    by_cases e : k = j
    · subst e; simp [length_tab, hj]
    · rw [if_neg e, if_neg (fun h => e h.symm)]
  · rw [List.getElem?_eq_none (by rw [length_tab]; omega), List.getElem?_eq_none (by rw [length_tab]; omega)]
    by_cases e : k = j
    · subst e; simp [length_tab, hj]
    · rw [if_neg e]
theorem tab_zero (n : Nat) : tab n (fun _ => 0) = List.replicate n (.int .i64 0) := by simp [tab, List.map_const']
theorem tab_splice {n i m : Nat} {f g h : Nat → Int} (him : i + m ≤ n) (hg : ∀ j, j < n → h j = if i ≤ j ∧ j < i + m then g (j - i) else f j) : (tab n f).take i ++ tab m g ++ (tab n f).drop (i + m) = tab n h := by
  apply List.ext_getElem?
  intro j
  rw [List.append_assoc, List.getElem?_append, List.length_take, length_tab, Nat.min_eq_left (by omega)]
  by_cases h1 : j < i
  · rw [if_pos h1, List.getElem?_take_of_lt h1, tab_get (by omega), tab_get (by omega), hg j (by omega), if_neg (by omega)]
  · rw [if_neg h1, List.getElem?_append, length_tab]
    by_cases h2 : j < i + m
    · rw [if_pos (by omega), tab_get (by omega), tab_get (by omega), hg j (by omega), if_pos (by omega)]
    · rw [if_neg (by omega), List.getElem?_drop]
      by_cases h3 : j < n
      · rw [show i + m + (j - i - m) = j by omega, tab_get h3, tab_get h3, hg j h3, if_neg (by omega)]
      · rw [List.getElem?_eq_none (by rw [length_tab]; omega), List.getElem?_eq_none (by rw [length_tab]; omega)]
theorem tab_sub {n i m : Nat} {f : Nat → Int} (h : i + m ≤ n) : ((tab n f).drop i).take m = tab m (fun k => f (i + k)) := by
  apply List.ext_getElem?
  intro j
  rw [List.getElem?_take]
  split
  · rw [List.getElem?_drop, tab_get (by omega), tab_get (by omega)]
  · rw [List.getElem?_eq_none (by rw [length_tab]; omega)]
theorem tab_one {n : Nat} {f : Nat → Int} : ∀ u ∈ tab n f, u.oneCell' = true := by
  intro u hu
  obtain ⟨k, _, rfl⟩ := List.mem_map.1 hu
  rfl
theorem map_tab (l : List Int) : l.map intV = tab l.length (fun k => l.getD k 0) := by
  apply List.ext_getElem?
  intro j
  by_cases h : j < l.length
  · rw [tab_get h]; simp [h, intV]
  · rw [List.getElem?_eq_none (by simpa using h), List.getElem?_eq_none (by rw [length_tab]; omega)]


section
variable {c : Cx} {fr : Fr} {H : List Ent} {ops : Array Oper} {rest : List Oper} {dst : Option Nat} {ty : TypeId} {pos : String} {after : Array Edge}
variable {x y : Operand} {T u : TypeId} {S : List Oper → Fr → List Ent → Prop} [hS : Stp c ops S]
theorem arr_tab (n : Nat) (f : Nat → Int) : arrV ((List.range n).map f) = .agg (tab n f).toArray := by unfold arrV tab; rw [List.map_map]; rfl
include hS
theorem hl_eqTabT {n e : Nat} {f g : Nat → Int} [TArr c.P T n e] [TInt c.P e .i64] [TSz c.P e 1] [TEqG c.P T] (hx : ev fr x = .agg (tab n f).toArray) (hy : ev fr y = .agg (tab n g).toArray) (hfg : ∀ k, k < n → f k = g k) (hd : dOk c.n dst = true)
    (k : S rest (updO fr dst (.bool true)) H) : S (⟨dst, .binOp .eql T x y u, ty, pos, after, none⟩ :: rest) fr H :=
  hl_eqArrT (l := (List.range n).map f) (m := (List.range n).map g) (by rw [arr_tab]; exact hx) (by rw [arr_tab]; exact hy) (by simp) (List.map_congr_left fun k hk => hfg k (by simpa using hk)) hd k
theorem hl_neTabF {n e : Nat} {f g : Nat → Int} [TArr c.P T n e] [TInt c.P e .i64] [TSz c.P e 1] [TEqG c.P T] (hx : ev fr x = .agg (tab n f).toArray) (hy : ev fr y = .agg (tab n g).toArray) (hfg : ∀ k, k < n → f k = g k) (hd : dOk c.n dst = true)
    (k : S rest (updO fr dst (.bool false)) H) : S (⟨dst, .binOp .neq T x y u, ty, pos, after, none⟩ :: rest) fr H :=
  hl_neArrF (l := (List.range n).map f) (m := (List.range n).map g) (by rw [arr_tab]; exact hx) (by rw [arr_tab]; exact hy) (by simp) (List.map_congr_left fun k hk => hfg k (by simpa using hk)) hd k
end
end Go.Proofs.Ytoobhebbgbhahaa
