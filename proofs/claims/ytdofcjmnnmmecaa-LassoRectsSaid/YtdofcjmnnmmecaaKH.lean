/-
  Lasso: rectangles, plain. No condition.
-/
import Derived.Test.YtdofcjmnnmmecaaKG
namespace Go.Proofs.Ytdofcjmnnmmecaa
open Go.RowKit
def rec1 (x y w h : Int) : List Pt := [⟨x, y⟩, ⟨x + w, y⟩, ⟨x + w, y + h⟩, ⟨x, y + h⟩]
def rec2 (x y w h : Int) : List Pt := [⟨x + w, y⟩, ⟨x + w, y + h⟩, ⟨x, y + h⟩, ⟨x, y⟩]
theorem met_vert {X y y2 px py : Int} (hy : y ≤ y2) : metB ⟨X, y⟩ ⟨X, y2⟩ px py = decide ((y ≤ py ∧ py < y2) ∧ px < X) := by
  by_cases u : 2 * y > 2 * py + 1
  · rw [met_eq (iff_of_true u (by show 2 * y2 > _; omega))]
    exact (decide_eq_false (by omega)).symm
  · by_cases v : 2 * y2 > 2 * py + 1
    · rw [met_up u v]
      by_cases h : px < X
      · rw [decide_eq_true (crI_left h h v u), decide_eq_true (by omega)]
      · rw [decide_eq_false (crI_right (show X ≤ px by omega) (show X ≤ px by omega) v u), decide_eq_false (by omega)]
    · rw [met_eq (iff_of_false u v)]
      exact (decide_eq_false (by omega)).symm
theorem met_hor {x x2 y px py : Int} : metB ⟨x, y⟩ ⟨x2, y⟩ px py = false := met_eq Iff.rfl
def rIn (x y w h px py : Int) : Bool := decide ((x ≤ px ∧ px < x + w) ∧ (y ≤ py ∧ py < y + h))
theorem two_vert {x y w h px py : Int} (hw : 0 ≤ w) : xor (decide ((y ≤ py ∧ py < y + h) ∧ px < x + w)) (decide ((y ≤ py ∧ py < y + h) ∧ px < x)) = rIn x y w h px py := by
  have key : ∀ a b c : Bool, (b = true → c = true) → xor (a && c) (a && b) = (a && !b && c) := by decide
  have e1 : decide ((y ≤ py ∧ py < y + h) ∧ px < x + w) = (decide (y ≤ py ∧ py < y + h) && decide (px < x + w)) := Bool.decide_and _ _
  have e2 : decide ((y ≤ py ∧ py < y + h) ∧ px < x) = (decide (y ≤ py ∧ py < y + h) && decide (px < x)) := Bool.decide_and _ _
  rw [e1, e2, key _ _ _ (fun h => by rw [decide_eq_true_eq] at h ⊢; omega), rIn, ← decide_not, ← Bool.decide_and, ← Bool.decide_and]
  exact decide_eq_decide.2 (by omega)
theorem inW_rec1 {x y w h px py : Int} (hw : 0 ≤ w) (hh : 0 ≤ h) : inW (rec1 x y w h) px py = rIn x y w h px py := by
  rw [← two_vert hw]
  show xor (xor (xor (xor false (metB ⟨x, y⟩ ⟨x + w, y⟩ px py)) (metB ⟨x + w, y⟩ ⟨x + w, y + h⟩ px py)) (metB ⟨x + w, y + h⟩ ⟨x, y + h⟩ px py)) (metB ⟨x, y + h⟩ ⟨x, y⟩ px py) = _
  rw [met_hor, met_hor, met_vert (by omega), metB_comm ⟨x, y + h⟩, met_vert (by omega)]
  simp
theorem inW_rec2 {x y w h px py : Int} (hw : 0 ≤ w) (hh : 0 ≤ h) : inW (rec2 x y w h) px py = rIn x y w h px py := by
  rw [← two_vert hw]
  show xor (xor (xor (xor false (metB ⟨x + w, y⟩ ⟨x + w, y + h⟩ px py)) (metB ⟨x + w, y + h⟩ ⟨x, y + h⟩ px py)) (metB ⟨x, y + h⟩ ⟨x, y⟩ px py)) (metB ⟨x, y⟩ ⟨x + w, y⟩ px py) = _
  rw [met_hor, met_hor, met_vert (by omega), metB_comm ⟨x, y + h⟩, met_vert (by omega)]
  simp
theorem area_rec1 (x y w h : Int) : areaI (rec1 x y w h) = 2 * (w * h) := by
  show 0 + crA ⟨x, y + h⟩ ⟨x, y⟩ + crA ⟨x, y⟩ ⟨x + w, y⟩ + crA ⟨x + w, y⟩ ⟨x + w, y + h⟩ + crA ⟨x + w, y + h⟩ ⟨x, y + h⟩ = _
  unfold crA
  grind
theorem area_rec2 (x y w h : Int) : areaI (rec2 x y w h) = 2 * (w * h) := by
  show 0 + crA ⟨x, y⟩ ⟨x + w, y⟩ + crA ⟨x + w, y⟩ ⟨x + w, y + h⟩ + crA ⟨x + w, y + h⟩ ⟨x, y + h⟩ + crA ⟨x, y + h⟩ ⟨x, y⟩ = _
  unfold crA
  grind
/-- How many lie in it. -/
def cnt (f : Nat → Bool) : Nat → Nat
  | 0 => 0
  | k + 1 => cnt f k + if f k then 1 else 0
theorem cnt_le (f : Nat → Bool) : ∀ k, cnt f k ≤ k
  | 0 => Nat.le_refl _
  | k + 1 => by
    have := cnt_le f k
    rw [cnt]
    split <;> omega
def gIn (x y w h i : Nat) : Bool := rIn x y w h ((i : Int) % 26) ((i : Int) / 26)
theorem gIn_eq (x y w h r c : Nat) (hc : c < 26) : gIn x y w h (26 * r + c) = decide ((x ≤ c ∧ c < x + w) ∧ (y ≤ r ∧ r < y + h)) := by
  unfold gIn rIn
  exact decide_eq_decide.2 (by omega)
theorem cnt_row (x y w h r : Nat) : ∀ c, c ≤ 26 → cnt (gIn x y w h) (26 * r + c) = cnt (gIn x y w h) (26 * r) + if y ≤ r ∧ r < y + h then min c (x + w) - min c x else 0
  | 0, _ => by simp
  | c + 1, hc => by
    have ih := cnt_row x y w h r c (by omega)
    rw [show 26 * r + (c + 1) = (26 * r + c) + 1 by omega, cnt, ih, gIn_eq x y w h r c (by omega)]
    by_cases h1 : y ≤ r ∧ r < y + h
    · rw [if_pos h1, if_pos h1]
      by_cases h2 : x ≤ c ∧ c < x + w
      · rw [decide_eq_true ⟨h2, h1⟩]; simp only [if_true]; omega
      · rw [decide_eq_false (by omega)]; simp only [Bool.false_eq_true, if_false]; omega
    · rw [if_neg h1, if_neg h1, decide_eq_false (by omega)]
      simp
theorem cnt_rows (x y w h : Nat) (hx : x + w ≤ 26) : ∀ r, cnt (gIn x y w h) (26 * r) = (min r (y + h) - min r y) * w
  | 0 => by simp [cnt]
  | r + 1 => by
    have h1 := cnt_row x y w h r 26 (Nat.le_refl _)
    have ih := cnt_rows x y w h hx r
    rw [show 26 * (r + 1) = 26 * r + 26 by omega, h1, ih]
    by_cases h2 : y ≤ r ∧ r < y + h
    · rw [if_pos h2, show min (r + 1) (y + h) - min (r + 1) y = (min r (y + h) - min r y) + 1 by omega, Nat.add_mul, Nat.one_mul]
      omega
    · rw [if_neg h2, show min (r + 1) (y + h) - min (r + 1) y = min r (y + h) - min r y by omega]
      rfl
theorem cnt_all (x y w h : Nat) (hx : x + w ≤ 26) (hy : y + h ≤ 26) : cnt (gIn x y w h) 676 = w * h := by
  have := cnt_rows x y w h hx 26
  rw [show 26 * 26 = 676 from rfl, show min 26 (y + h) - min 26 y = h by omega, Nat.mul_comm] at this
  exact this
end Go.Proofs.Ytdofcjmnnmmecaa
