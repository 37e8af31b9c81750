/-
  Plain facts of the blending of pixels. No condition.
-/
import Derived.Test.YtagpaebmpgnjhaaPixPlain
namespace Go.Proofs.Ytagpaebmpgnjhaa
open Go.RowKit

def screenZ (x y : Int) : Int := x + y - mulZ x y
def hardZ (x y : Int) : Int := if y < 128 then mulZ x (2 * y) else screenZ x (2 * y - 255)
def bZ (mode x y : Int) : Int :=
  if mode = 1 then mulZ x y else if mode = 2 then screenZ x y else if mode = 3 then hardZ y x else if mode = 4 then min x y else if mode = 5 then max x y
  else if mode = 6 then (if x = 0 then 0 else if y = 255 then 255 else min 255 (255 * x / (255 - y)))
  else if mode = 7 then (if x = 255 then 255 else if y = 0 then 0 else 255 - min 255 (255 * (255 - x) / y))
  else if mode = 8 then hardZ x y else if mode = 9 then max (x - y) (y - x) else if mode = 10 then x + y - 2 * mulZ x y
  else if mode = 11 then min 255 (max 0 (mulZ x x + 2 * mulZ x y - 2 * mulZ (mulZ x x) y)) else y

theorem nn {x y : Int} (hx : 0 ≤ x) (hy : 0 ≤ y) : 0 ≤ x * y := Int.mul_nonneg hx hy
theorem mul_corner {x y : Int} (hx : Byte x) (hy : Byte y) : 0 ≤ x * y ∧ x * y ≤ 255 * x ∧ x * y ≤ 255 * y ∧ 255 * x + 255 * y - 65025 ≤ x * y := by
  obtain ⟨a, b⟩ := hx; obtain ⟨c, d⟩ := hy
  have h1 := nn a c
  have h2 := nn a (show 0 ≤ 255 - y by omega)
  have h3 := nn (show 0 ≤ 255 - x by omega) c
  have h4 := nn (show 0 ≤ 255 - x by omega) (show 0 ≤ 255 - y by omega)
  rw [Int.mul_sub] at h2
  rw [Int.sub_mul] at h3
  rw [Int.sub_mul, Int.mul_sub, Int.mul_sub] at h4
  omega
theorem mulZ_le {x y : Int} (hx : Byte x) (hy : Byte y) : 0 ≤ mulZ x y ∧ mulZ x y ≤ x ∧ mulZ x y ≤ y ∧ x + y - 255 ≤ mulZ x y := by
  have := mul_corner hx hy
  obtain ⟨a, b⟩ := hx; obtain ⟨c, d⟩ := hy
  unfold mulZ
  omega
theorem screenZ_bd {x y : Int} (hx : Byte x) (hy : Byte y) : Byte (screenZ x y) ∧ x ≤ screenZ x y ∧ y ≤ screenZ x y := by
  have h := mulZ_le hx hy
  obtain ⟨a, b⟩ := hx; obtain ⟨c, d⟩ := hy
  unfold screenZ Byte; omega
theorem hardZ_bd {x y : Int} (hx : Byte x) (hy : Byte y) : Byte (hardZ x y) := by
  unfold hardZ
  split
  · have h := mulZ_le hx (y := 2 * y) (by unfold Byte at *; omega)
    unfold Byte at *; omega
  · exact (screenZ_bd hx (y := 2 * y - 255) (by unfold Byte at *; omega)).1
theorem ite_b {c : Prop} [Decidable c] {a b : Int} (h1 : c → Byte a) (h2 : ¬ c → Byte b) : Byte (if c then a else b) := by
  split
  · exact h1 ‹_›
  · exact h2 ‹_›
theorem bZ_bd (mode : Int) {x y : Int} (hx : Byte x) (hy : Byte y) : Byte (bZ mode x y) := by
  have h := mulZ_le hx hy
  have hxx := mulZ_le hx hx
  have hm : Byte (mulZ x x) := by unfold Byte at *; omega
  have hm2 := mulZ_le hm hy
  unfold bZ
  repeat' (with_reducible refine ite_b (fun _ => ?_) (fun _ => ?_))
  all_goals first
    | exact (screenZ_bd hx hy).1
    | exact hardZ_bd hx hy
    | exact hardZ_bd hy hx
    | (unfold Byte at *; omega)
    | skip
  all_goals clear h hxx hm hm2
  · have := Int.ediv_nonneg (a := 255 * x) (b := 255 - y) (by unfold Byte at *; omega) (by unfold Byte at *; omega)
    generalize 255 * x / (255 - y) = q at *
    unfold Byte; omega
  · have := Int.ediv_nonneg (a := 255 * (255 - x)) (b := y) (by unfold Byte at *; omega) (by unfold Byte at *; omega)
    generalize 255 * (255 - x) / y = q at *
    unfold Byte; omega
end Go.Proofs.Ytagpaebmpgnjhaa
