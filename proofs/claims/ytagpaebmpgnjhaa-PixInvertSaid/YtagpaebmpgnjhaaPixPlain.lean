/-
  Plain definitions of the pixels' algebra, without the program.
-/
import Derived.Test.YtagpaebmpgnjhaaBase
namespace Go.Proofs.Ytagpaebmpgnjhaa

def mulZ (a b : Int) : Int := (a * b + 127) / 255
def bareZ (c a : Int) : Int := if a = 0 then 0 else min 255 ((255 * c + a / 2) / a)
def facZ (way s a : Int) : Int × Int :=
  if way = 1 then (255, 0) else if way = 2 then (0, 255) else if way = 3 then (255, 255 - s) else if way = 4 then (255 - a, 255) else if way = 5 then (a, 0)
  else if way = 6 then (0, s) else if way = 7 then (255 - a, 0) else if way = 8 then (0, 255 - s) else if way = 9 then (a, 255 - s) else if way = 10 then (255 - a, s)
  else if way = 11 then (255 - a, 255 - s) else (0, 0)
def wayZ (f : Int × Int) (x y : Int) : Int := min 255 (mulZ x f.1 + mulZ y f.2)

def Byte (a : Int) : Prop := 0 ≤ a ∧ a ≤ 255
instance (a : Int) : Decidable (Byte a) := by unfold Byte; exact inferInstance

theorem prod_bd {a b A B : Int} (ha : 0 ≤ a) (ha' : a ≤ A) (hb : 0 ≤ b) (hb' : b ≤ B) : 0 ≤ a * b ∧ a * b ≤ A * B :=
  ⟨Int.mul_nonneg ha hb, Int.mul_le_mul ha' hb' hb (by omega)⟩

theorem mulZ_bd {a b : Int} (ha : Byte a) (hb : Byte b) : Byte (mulZ a b) := by
  have := prod_bd ha.1 ha.2 hb.1 hb.2
  unfold mulZ Byte; omega
theorem mulZ_comm (a b : Int) : mulZ a b = mulZ b a := by unfold mulZ; rw [Int.mul_comm]
theorem bareZ_bd {c a : Int} (hc : 0 ≤ c) (ha : 0 ≤ a) : Byte (bareZ c a) := by
  unfold bareZ Byte
  split
  · omega
  · have : 0 ≤ (255 * c + a / 2) / a := Int.ediv_nonneg (by omega) ha
    omega
theorem facZ_bd {way s a : Int} (hs : Byte s) (ha : Byte a) : Byte (facZ way s a).1 ∧ Byte (facZ way s a).2 := by
  unfold Byte at *
  unfold facZ
  repeat' split
  all_goals (simp only; omega)
theorem wayZ_bd {f : Int × Int} {x y : Int} (hx : Byte x) (hy : Byte y) (hf : Byte f.1 ∧ Byte f.2) : Byte (wayZ f x y) := by
  have h1 := mulZ_bd hx hf.1
  have h2 := mulZ_bd hy hf.2
  unfold wayZ Byte at *; omega

/-- The nearest to a product's 255th part. -/
theorem mulZ_near (a b : Int) : 2 * (255 * mulZ a b - a * b) ≤ 255 ∧ 2 * (a * b - 255 * mulZ a b) ≤ 255 := by
  unfold mulZ; omega

end Go.Proofs.Ytagpaebmpgnjhaa
