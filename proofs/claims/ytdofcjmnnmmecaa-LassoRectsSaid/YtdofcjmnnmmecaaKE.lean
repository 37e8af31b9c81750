/-
  Lasso: the box, plain. No condition.
-/
import Derived.Test.YtdofcjmnnmmecaaKD
namespace Go.Proofs.Ytdofcjmnnmmecaa
open Go.RowKit
/-- Crossings of a height by a closed way are even in number. -/
theorem oddR_xor (f g : Nat → Bool) : ∀ n, oddR (fun i => xor (f i) (g i)) n = xor (oddR f n) (oddR g n)
  | 0 => rfl
  | n + 1 => by
    rw [oddR, oddR_xor f g n, oddR, oddR]
    cases oddR f n <;> cases oddR g n <;> cases f n <;> cases g n <;> rfl
theorem oddR_nxt (u : Nat → Bool) (n : Nat) : oddR (fun i => u (nxt n i)) n = oddR u n := by
  cases n with
  | zero => rfl
  | succ n =>
    rw [oddR, oddR_first u n]
    have : oddR (fun i => u (nxt (n + 1) i)) n = oddR (fun i => u (i + 1)) n := oddR_congr n fun i hi => by rw [show nxt (n + 1) i = i + 1 from if_neg (by omega)]
    rw [this, show nxt (n + 1) n = 0 from if_pos rfl, Bool.xor_comm]
theorem oddR_false : ∀ n, oddR (fun _ => false) n = false
  | 0 => rfl
  | n + 1 => by rw [oddR, oddR_false n]; rfl
theorem crI_form (u w : Pt) (x y : Int) : crI u w x y = (2 * u.x - (2 * x + 1)) * (2 * y + 1 - 2 * w.y) + (2 * w.x - (2 * x + 1)) * (2 * u.y - (2 * y + 1)) := by
  unfold crI
  grind
theorem crI_left {u w : Pt} {x y : Int} (hu : x < u.x) (hw : x < w.x) (h1 : 2 * u.y > 2 * y + 1) (h2 : ¬ 2 * w.y > 2 * y + 1) : crI u w x y > 0 := by
  rw [crI_form]
  have m1 := Int.mul_pos (show 0 < 2 * u.x - (2 * x + 1) by omega) (show 0 < 2 * y + 1 - 2 * w.y by omega)
  have m2 := Int.mul_pos (show 0 < 2 * w.x - (2 * x + 1) by omega) (show 0 < 2 * u.y - (2 * y + 1) by omega)
  omega
theorem crI_right {u w : Pt} {x y : Int} (hu : u.x ≤ x) (hw : w.x ≤ x) (h1 : 2 * u.y > 2 * y + 1) (h2 : ¬ 2 * w.y > 2 * y + 1) : ¬ crI u w x y > 0 := by
  rw [crI_form]
  have m1 := Int.mul_neg_of_neg_of_pos (show 2 * u.x - (2 * x + 1) < 0 by omega) (show 0 < 2 * y + 1 - 2 * w.y by omega)
  have m2 := Int.mul_neg_of_neg_of_pos (show 2 * w.x - (2 * x + 1) < 0 by omega) (show 0 < 2 * u.y - (2 * y + 1) by omega)
  omega
/-- Left of all points: each crossing edge is met. -/
theorem met_left {a b : Pt} {x y : Int} (ha : x < a.x) (hb : x < b.x) : metB a b x y = xor (decide (2 * a.y > 2 * y + 1)) (decide (2 * b.y > 2 * y + 1)) := by
  by_cases h1 : 2 * a.y > 2 * y + 1 <;> by_cases h2 : 2 * b.y > 2 * y + 1
  · rw [met_eq (iff_of_true h1 h2), decide_eq_true h1, decide_eq_true h2]; rfl
  · rw [met_dn h1 h2, decide_eq_true (crI_left ha hb h1 h2), decide_eq_true h1, decide_eq_false h2]; rfl
  · rw [met_up h1 h2, decide_eq_true (crI_left hb ha h2 h1), decide_eq_false h1, decide_eq_true h2]; rfl
  · rw [met_eq (iff_of_false h1 h2), decide_eq_false h1, decide_eq_false h2]; rfl
theorem met_right {a b : Pt} {x y : Int} (ha : a.x ≤ x) (hb : b.x ≤ x) : metB a b x y = false := by
  by_cases h1 : 2 * a.y > 2 * y + 1 <;> by_cases h2 : 2 * b.y > 2 * y + 1
  · rw [met_eq (iff_of_true h1 h2)]
  · rw [met_dn h1 h2, decide_eq_false (crI_right ha hb h1 h2)]
  · rw [met_up h1 h2, decide_eq_false (crI_right hb ha h2 h1)]
  · rw [met_eq (iff_of_false h1 h2)]
/-- What lies in the shape lies in each box about it. -/
theorem inW_box {l : List Pt} {x y X0 X1 Y0 Y1 : Int} (h : ∀ i, i < l.length → (X0 ≤ (nth l i).x ∧ (nth l i).x ≤ X1) ∧ (Y0 ≤ (nth l i).y ∧ (nth l i).y ≤ Y1)) (hin : inW l x y = true) : (X0 ≤ x ∧ x < X1) ∧ (Y0 ≤ y ∧ y < Y1) := by
  have key : ∀ f : Nat → Bool, (∀ i, i < l.length → metB (nth l i) (nth l (nxt l.length i)) x y = f i) → oddR f l.length = true := fun f hf => by
    rw [← hin]; exact (oddR_congr _ hf).symm
  have no : (∀ i, i < l.length → metB (nth l i) (nth l (nxt l.length i)) x y = false) → False := fun hf => by
    have := key _ hf
    rw [oddR_false] at this
    cases this
  by_cases h1 : X0 ≤ x
  · by_cases h2 : x < X1
    · by_cases h3 : Y0 ≤ y
      · by_cases h4 : y < Y1
        · exact ⟨⟨h1, h2⟩, h3, h4⟩
        · exact (no fun i hi => met_eq (iff_of_false (by have := (h i hi).2; omega) (by have := (h _ (nxt_lt hi)).2; omega))).elim
      · exact (no fun i hi => met_eq (iff_of_true (by have := (h i hi).2; omega) (by have := (h _ (nxt_lt hi)).2; omega))).elim
    · exact (no fun i hi => met_right (by have := (h i hi).1; omega) (by have := (h _ (nxt_lt hi)).1; omega)).elim
  · exfalso
    have := key _ fun i hi => met_left (by have := (h i hi).1; omega) (by have := (h _ (nxt_lt hi)).1; omega)
    rw [oddR_xor (fun i => decide (2 * (nth l i).y > 2 * y + 1)) (fun i => decide (2 * (nth l (nxt l.length i)).y > 2 * y + 1)), oddR_nxt (fun i => decide (2 * (nth l i).y > 2 * y + 1))] at this
    simp at this
end Go.Proofs.Ytdofcjmnnmmecaa
