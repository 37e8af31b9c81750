/-
  The contracts of the blending of pixels, the program's and the reference's. No condition.
-/
import Derived.Test.YtagpaebmpgnjhaaPixBlendPlain
import Derived.Test.YtagpaebmpgnjhaaTy
import Derived.Test.YtagpaebmpgnjhaaPixel
import Derived.Test.YtagpaebmpgnjhaaPixAnchor
namespace Go.Proofs.Ytagpaebmpgnjhaa
open Go.RowKit

section
variable {w0 : World} {B : Nat} {H : List Ent}
theorem mul_fn (a b : Int) (ha : 0 ≤ a) (ha' : a ≤ 100000) (hb : 0 ≤ b) (hb' : b ≤ 100000) : Fn Try.prog w0 B 17 [.int .i64 a, .int .i64 b] H (fun u H' => u = .int .i64 (mulZ a b) ∧ H' = H) :=
  fn_of_same Try.func17 (by kernel_rfl) rfl (mul_any a b ha ha' hb hb')
theorem refMul_fn (a b : Int) (ha : 0 ≤ a) (ha' : a ≤ 100000) (hb : 0 ≤ b) (hb' : b ≤ 100000) : Fn Try.prog w0 B 18 [.int .i64 a, .int .i64 b] H (fun u H' => u = .int .i64 (mulZ a b) ∧ H' = H) :=
  fn_of_same Try.func18 (by kernel_rfl) rfl (refMul_any a b ha ha' hb hb')
theorem bare_fn (a b : Int) (ha : 0 ≤ a) (ha' : a ≤ 100000) (hb : 0 ≤ b) (hb' : b ≤ 100000) : Fn Try.prog w0 B 19 [.int .i64 a, .int .i64 b] H (fun u H' => u = .int .i64 (bareZ a b) ∧ H' = H) :=
  fn_of_same Try.func19 (by kernel_rfl) rfl (bare_any a b ha ha' hb hb')
theorem refBare_fn (a b : Int) (ha : 0 ≤ a) (ha' : a ≤ 100000) (hb : 0 ≤ b) (hb' : b ≤ 100000) : Fn Try.prog w0 B 20 [.int .i64 a, .int .i64 b] H (fun u H' => u = .int .i64 (bareZ a b) ∧ H' = H) :=
  fn_of_same Try.func20 (by kernel_rfl) rfl (refBare_any a b ha ha' hb hb')
theorem anchor_fn : Fn Try.prog w0 B 12 [] H (fun u H' => u = .bool true ∧ H' = H) :=
  fn_of_below Try.func12 (by kernel_rfl) rfl anchor_any
theorem pixelY_fn (P : List Int) (hP : P.length = 4) (h : PixOk P) : Fn Try.prog w0 B 13 [arrV P] H (fun u H' => u = .bool true ∧ H' = H) :=
  fn_of_below Try.func13 (by kernel_rfl) rfl (pixel_yes P hP h)
theorem pixelN_fn (P : List Int) (hP : P.length = 4) (hw : ∀ x ∈ P, -9223372036854775808 ≤ x ∧ x ≤ 9223372036854775807) (h : ¬ PixOk P) : Fn Try.prog w0 B 13 [arrV P] H (fun u H' => u = .bool false ∧ H' = H) :=
  fn_of_below Try.func13 (by kernel_rfl) rfl (pixel_no P hP hw h)

theorem least_fn (a b : Int) : Fn Try.prog w0 B 32 [.int .i64 a, .int .i64 b] H (fun u H' => u = .int .i64 (min a b) ∧ H' = H) := by
  refine fn_intro Try.func32 rfl (by kernel_rfl) rfl ?_
  by_cases h : a < b
  · repeat (first | refine go_ ?_ | refine bx_ (fun _ => ?_))
    exact fin1I rfl rfl ⟨by rw [show min a b = a by omega], rfl⟩
  · repeat (first | refine go_ ?_ | refine bx_ (fun _ => ?_))
    exact fin1I rfl rfl ⟨by rw [show min a b = b by omega], rfl⟩
theorem most_fn (a b : Int) : Fn Try.prog w0 B 33 [.int .i64 a, .int .i64 b] H (fun u H' => u = .int .i64 (max a b) ∧ H' = H) := by
  refine fn_intro Try.func33 rfl (by kernel_rfl) rfl ?_
  by_cases h : b < a
  · repeat (first | refine go_ ?_ | refine bx_ (fun _ => ?_))
    exact fin1I rfl rfl ⟨by rw [show max a b = a by omega], rfl⟩
  · repeat (first | refine go_ ?_ | refine bx_ (fun _ => ?_))
    exact fin1I rfl rfl ⟨by rw [show max a b = b by omega], rfl⟩
theorem screen_fn (x y : Int) (hx : Byte x) (hy : Byte y) : Fn Try.prog w0 B 36 [.int .i64 x, .int .i64 y] H (fun u H' => u = .int .i64 (screenZ x y) ∧ H' = H) := by
  obtain ⟨a, b⟩ := id hx; obtain ⟨c, d⟩ := id hy
  have hm := mulZ_le hx hy
  refine fn_intro Try.func36 rfl (by kernel_rfl) rfl ?_
  repeat (first | refine go_ ?_ | refine bx_ (fun _ => ?_) | refine hl_callv rfl rfl (mul_fn _ _ (by omega) (by omega) (by omega) (by omega)) ?_)
  exact fin1I rfl rfl ⟨rfl, rfl⟩
theorem hard_fn (x y : Int) (hx : Byte x) (hy : Byte y) : Fn Try.prog w0 B 37 [.int .i64 x, .int .i64 y] H (fun u H' => u = .int .i64 (hardZ x y) ∧ H' = H) := by
  obtain ⟨a, b⟩ := id hx; obtain ⟨c, d⟩ := id hy
  refine fn_intro Try.func37 rfl (by kernel_rfl) rfl ?_
  by_cases h : y < 128
  · repeat (first | refine go_ ?_ | refine bx_ (fun _ => ?_) | refine hl_callv rfl rfl (mul_fn _ _ (by omega) (by omega) (by omega) (by omega)) ?_)
    exact fin1I rfl rfl ⟨by rw [hardZ, if_pos h], rfl⟩
  · repeat (first | refine go_ ?_ | refine bx_ (fun _ => ?_) | refine hl_callv rfl rfl (screen_fn _ _ ⟨by omega, by omega⟩ ⟨by omega, by omega⟩) ?_)
    exact fin1I rfl rfl ⟨by rw [hardZ, if_neg h], rfl⟩
theorem modes (m : Int) : m = 1 ∨ m = 2 ∨ m = 3 ∨ m = 4 ∨ m = 5 ∨ m = 6 ∨ m = 7 ∨ m = 8 ∨ m = 9 ∨ m = 10 ∨ m = 11 ∨ (m < 1 ∨ 11 < m) := by omega
theorem bZ_out (m x y : Int) (h : m < 1 ∨ 11 < m) : bZ m x y = y := by
  unfold bZ
  rw [if_neg (by omega), if_neg (by omega), if_neg (by omega), if_neg (by omega), if_neg (by omega), if_neg (by omega), if_neg (by omega), if_neg (by omega), if_neg (by omega), if_neg (by omega), if_neg (by omega)]
set_option maxHeartbeats 4000000 in
theorem blended_fn (m x y : Int) (hx : Byte x) (hy : Byte y) : Fn Try.prog w0 B 31 [.int .i64 m, .int .i64 x, .int .i64 y] H (fun u H' => u = .int .i64 (bZ m x y) ∧ H' = H) := by
  obtain ⟨a, b⟩ := id hx; obtain ⟨c, d⟩ := id hy
  have hm := mulZ_le hx hy
  have hxx := mulZ_le hx hx
  have hxb : Byte (mulZ x x) := ⟨by omega, by omega⟩
  have hxy := mulZ_le hxb hy
  refine fn_intro Try.func31 rfl (by kernel_rfl) rfl ?_
  rcases modes m with rfl | rfl | rfl | rfl | rfl | rfl | rfl | rfl | rfl | rfl | rfl | ho
  case inr.inr.inr.inr.inr.inl =>
    by_cases h0 : x = 0
    · repeat (first | refine go_ ?_ | refine bx_ (fun _ => ?_))
      exact fin1I rfl rfl ⟨by simp [bZ, h0], rfl⟩
    · by_cases h1 : y = 255
      · repeat (first | refine go_ ?_ | refine bx_ (fun _ => ?_))
        exact fin1I rfl rfl ⟨by simp [bZ, h0, h1], rfl⟩
      · repeat (first | refine go_ ?_ | refine bx_ (fun _ => ?_))
        exact fin1I rfl rfl ⟨by simp [bZ, h0, h1], rfl⟩
  case inr.inr.inr.inr.inr.inr.inl =>
    by_cases h0 : x = 255
    · repeat (first | refine go_ ?_ | refine bx_ (fun _ => ?_))
      exact fin1I rfl rfl ⟨by simp [bZ, h0], rfl⟩
    · by_cases h1 : y = 0
      · repeat (first | refine go_ ?_ | refine bx_ (fun _ => ?_))
        exact fin1I rfl rfl ⟨by simp [bZ, h0, h1], rfl⟩
      · have hq := Int.ediv_nonneg (a := 255 * (255 - x)) (b := y) (by omega) (by omega)
        repeat (first | refine go_ ?_ | refine bx_ (fun _ => ?_))
        exact fin1I rfl rfl ⟨by simp [bZ, h0, h1], rfl⟩
  all_goals
    repeat (first | refine go_ ?_ | refine bx_ (fun _ => ?_) | refine hl_callv rfl rfl (mul_fn _ _ (by omega) (by omega) (by omega) (by omega)) ?_ | refine hl_callv rfl rfl (screen_fn _ _ hx hy) ?_ | refine hl_callv rfl rfl (hard_fn _ _ hx hy) ?_ | refine hl_callv rfl rfl (hard_fn _ _ hy hx) ?_)
    first
      | exact fin1I rfl rfl ⟨rfl, rfl⟩
      | exact fin1I rfl rfl ⟨by rw [bZ_out _ _ _ ho], rfl⟩
set_option maxHeartbeats 4000000 in
theorem refB0_fn (m x y : Int) (hx : Byte x) (hy : Byte y) (h3 : m ≠ 3) (h8 : m ≠ 8) : Fn Try.prog w0 B 27 [.int .i64 m, .int .i64 x, .int .i64 y] H (fun u H' => u = .int .i64 (bZ m x y) ∧ H' = H) := by
  obtain ⟨a, b⟩ := id hx; obtain ⟨c, d⟩ := id hy
  have hm := mulZ_le hx hy
  have hxx := mulZ_le hx hx
  have hxb : Byte (mulZ x x) := ⟨by omega, by omega⟩
  have hxy := mulZ_le hxb hy
  refine fn_intro Try.func27 rfl (by kernel_rfl) rfl ?_
  rcases modes m with rfl | rfl | rfl | rfl | rfl | rfl | rfl | rfl | rfl | rfl | rfl | ho
  case inr.inr.inl => exact absurd rfl h3
  case inr.inr.inr.inr.inr.inr.inr.inl => exact absurd rfl h8
  case inr.inr.inr.inr.inr.inl =>
    by_cases h0 : x = 0
    · repeat (first | refine go_ ?_ | refine bx_ (fun _ => ?_) | refine hl_callv rfl rfl (refMul_fn _ _ (by omega) (by omega) (by omega) (by omega)) ?_ | refine hl_callv rfl rfl (least_fn _ _) ?_ | refine hl_callv rfl rfl (most_fn _ _) ?_)
      exact fin1I rfl rfl ⟨by simp [bZ, h0], rfl⟩
    · by_cases h1 : y = 255
      · repeat (first | refine go_ ?_ | refine bx_ (fun _ => ?_) | refine hl_callv rfl rfl (refMul_fn _ _ (by omega) (by omega) (by omega) (by omega)) ?_ | refine hl_callv rfl rfl (least_fn _ _) ?_ | refine hl_callv rfl rfl (most_fn _ _) ?_)
        exact fin1I rfl rfl ⟨by simp [bZ, h0, h1], rfl⟩
      · repeat (first | refine go_ ?_ | refine bx_ (fun _ => ?_) | refine hl_callv rfl rfl (refMul_fn _ _ (by omega) (by omega) (by omega) (by omega)) ?_ | refine hl_callv rfl rfl (least_fn _ _) ?_ | refine hl_callv rfl rfl (most_fn _ _) ?_)
        exact fin1I rfl rfl ⟨by simp [bZ, h0, h1], rfl⟩
  case inr.inr.inr.inr.inr.inr.inl =>
    by_cases h0 : x = 255
    · repeat (first | refine go_ ?_ | refine bx_ (fun _ => ?_) | refine hl_callv rfl rfl (refMul_fn _ _ (by omega) (by omega) (by omega) (by omega)) ?_ | refine hl_callv rfl rfl (least_fn _ _) ?_ | refine hl_callv rfl rfl (most_fn _ _) ?_)
      exact fin1I rfl rfl ⟨by simp [bZ, h0], rfl⟩
    · by_cases h1 : y = 0
      · repeat (first | refine go_ ?_ | refine bx_ (fun _ => ?_) | refine hl_callv rfl rfl (refMul_fn _ _ (by omega) (by omega) (by omega) (by omega)) ?_ | refine hl_callv rfl rfl (least_fn _ _) ?_ | refine hl_callv rfl rfl (most_fn _ _) ?_)
        exact fin1I rfl rfl ⟨by simp [bZ, h0, h1], rfl⟩
      · have hq := Int.ediv_nonneg (a := 255 * (255 - x)) (b := y) (by omega) (by omega)
        repeat (first | refine go_ ?_ | refine bx_ (fun _ => ?_) | refine hl_callv rfl rfl (refMul_fn _ _ (by omega) (by omega) (by omega) (by omega)) ?_ | refine hl_callv rfl rfl (least_fn _ _) ?_ | refine hl_callv rfl rfl (most_fn _ _) ?_)
        exact fin1I rfl rfl ⟨by simp [bZ, h0, h1], rfl⟩
  all_goals
    repeat (first | refine go_ ?_ | refine bx_ (fun _ => ?_) | refine hl_callv rfl rfl (refMul_fn _ _ (by omega) (by omega) (by omega) (by omega)) ?_ | refine hl_callv rfl rfl (least_fn _ _) ?_ | refine hl_callv rfl rfl (most_fn _ _) ?_)
    first
      | exact fin1I rfl rfl ⟨rfl, rfl⟩
      | exact fin1I rfl rfl ⟨by rw [bZ_out _ _ _ ho], rfl⟩
      | exact fin1I rfl rfl ⟨by rw [show max x y - min x y = bZ 9 x y from (show max x y - min x y = max (x - y) (y - x) by omega)], rfl⟩
theorem refB8_fn (x y : Int) (hx : Byte x) (hy : Byte y) : Fn Try.prog w0 B 27 [.int .i64 8, .int .i64 x, .int .i64 y] H (fun u H' => u = .int .i64 (bZ 8 x y) ∧ H' = H) := by
  obtain ⟨a, b⟩ := id hx; obtain ⟨c, d⟩ := id hy
  have hm := mulZ_le hx hy
  have hxx := mulZ_le hx hx
  have hxb : Byte (mulZ x x) := ⟨by omega, by omega⟩
  have hxy := mulZ_le hxb hy
  refine fn_intro Try.func27 rfl (by kernel_rfl) rfl ?_
  have e : bZ 8 x y = hardZ x y := rfl
  rw [e]
  by_cases h : y < 128
  · repeat (first | refine go_ ?_ | refine bx_ (fun _ => ?_) | refine hl_callv rfl rfl (refMul_fn _ _ (by omega) (by omega) (by omega) (by omega)) ?_ | refine hl_callv rfl rfl (least_fn _ _) ?_ | refine hl_callv rfl rfl (most_fn _ _) ?_)
    exact fin1I rfl rfl ⟨by rw [hardZ, if_pos h], rfl⟩
  · repeat (first | refine go_ ?_ | refine bx_ (fun _ => ?_) | refine hl_callv rfl rfl (refMul_fn _ _ (by omega) (by omega) (by omega) (by omega)) ?_ | refine hl_callv rfl rfl (least_fn _ _) ?_ | refine hl_callv rfl rfl (most_fn _ _) ?_ | refine hl_callv rfl rfl (refB0_fn 2 _ _ hx ⟨by omega, by omega⟩ (by decide) (by decide)) ?_)
    exact fin1I rfl rfl ⟨by rw [hardZ, if_neg h]; rfl, rfl⟩
theorem refB3_fn (x y : Int) (hx : Byte x) (hy : Byte y) : Fn Try.prog w0 B 27 [.int .i64 3, .int .i64 x, .int .i64 y] H (fun u H' => u = .int .i64 (bZ 3 x y) ∧ H' = H) := by
  obtain ⟨a, b⟩ := id hx; obtain ⟨c, d⟩ := id hy
  have hm := mulZ_le hx hy
  have hxx := mulZ_le hx hx
  have hxb : Byte (mulZ x x) := ⟨by omega, by omega⟩
  have hxy := mulZ_le hxb hy
  refine fn_intro Try.func27 rfl (by kernel_rfl) rfl ?_
  repeat (first | refine go_ ?_ | refine bx_ (fun _ => ?_) | refine hl_callv rfl rfl (refMul_fn _ _ (by omega) (by omega) (by omega) (by omega)) ?_ | refine hl_callv rfl rfl (least_fn _ _) ?_ | refine hl_callv rfl rfl (most_fn _ _) ?_ | refine hl_callv rfl rfl (refB8_fn _ _ hy hx) ?_)
  exact fin1I rfl rfl ⟨rfl, rfl⟩
theorem refB_fn (m x y : Int) (hx : Byte x) (hy : Byte y) : Fn Try.prog w0 B 27 [.int .i64 m, .int .i64 x, .int .i64 y] H (fun u H' => u = .int .i64 (bZ m x y) ∧ H' = H) := by
  by_cases h3 : m = 3
  · subst h3; exact refB3_fn x y hx hy
  · by_cases h8 : m = 8
    · subst h8; exact refB8_fn x y hx hy
    · exact refB0_fn m x y hx hy h3 h8
end
end Go.Proofs.Ytagpaebmpgnjhaa
