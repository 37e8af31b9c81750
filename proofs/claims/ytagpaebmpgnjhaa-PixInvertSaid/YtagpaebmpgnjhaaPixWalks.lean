/-
  The contracts of the pixels' functions.
-/
import Derived.Test.YtagpaebmpgnjhaaPixPlain
import Derived.StillTailTactics
import Derived.Deep.LoopGhost
namespace Go.Proofs.Ytagpaebmpgnjhaa
open Go.RowKit

theorem mul_any (a b : Int) (ha : 0 ≤ a) (ha' : a ≤ 100000) (hb : 0 ≤ b) (hb' : b ≤ 100000) (w : World) :
    Calls Try.prog 17 #[.int .i64 a, .int .i64 b] w fun e w' => e = .returned (.int .i64 (mulZ a b)) ∧ w = w' := by
  have h := prod_bd ha ha' hb hb'
  obtain ⟨h1, h2⟩ := h
  go_enter Try.func17, Try.ntmps17
  go_wp2
  go_ret
  exact ⟨rfl, rfl⟩

theorem refMul_any (a b : Int) (ha : 0 ≤ a) (ha' : a ≤ 100000) (hb : 0 ≤ b) (hb' : b ≤ 100000) (w : World) :
    Calls Try.prog 18 #[.int .i64 a, .int .i64 b] w fun e w' => e = .returned (.int .i64 (mulZ a b)) ∧ w = w' := by
  have h := prod_bd ha ha' hb hb'
  obtain ⟨h1, h2⟩ := h
  have hm : mulZ a b = (a * b + 127) / 255 := rfl
  generalize mulZ a b = m at *
  have HM := Lib.hid hm
  clear hm
  by_cases hc : 255 < 2 * (a * b - 255 * (a * b / 255))
  · go_enter Try.func18, Try.ntmps18
    go_wp2
    go_ret
    exact ⟨ret_int (by rw [HM.out]; omega), rfl⟩
  · go_enter Try.func18, Try.ntmps18
    go_wp2
    go_ret
    exact ⟨ret_int (by rw [HM.out]; omega), rfl⟩

theorem bare_any (c a : Int) (hc : 0 ≤ c) (hc' : c ≤ 100000) (ha : 0 ≤ a) (ha' : a ≤ 100000) (w : World) :
    Calls Try.prog 19 #[.int .i64 c, .int .i64 a] w fun e w' => e = .returned (.int .i64 (bareZ c a)) ∧ w = w' := by
  by_cases h0 : a = 0
  · subst h0
    go_enter Try.func19, Try.ntmps19
    go_wp2
    go_ret
    exact ⟨rfl, rfl⟩
  · have hm : bareZ c a = min 255 ((255 * c + a / 2) / a) := by unfold bareZ; rw [if_neg h0]
    have h1 : 1 ≤ a := by omega
    have hq : 0 ≤ (255 * c + a / 2) / a ∧ (255 * c + a / 2) / a ≤ 255 * c + a / 2 := IntWalk.tdiv_le _ _ (by omega) h1
    obtain ⟨q1, q2⟩ := hq
    have HM := Lib.hid hm
    clear hm h0
    go_enter Try.func19, Try.ntmps19
    go_wp2
    all_goals go_ret
    all_goals first | exact ⟨ret_int (by rw [HM.out]; show (255 * c + a / 2) / a = _; omega), rfl⟩ | exact ⟨ret_int (by rw [HM.out]; show (255 : Int) = _; omega), rfl⟩

theorem refBare_any (c a : Int) (hc : 0 ≤ c) (hc' : c ≤ 100000) (ha : 0 ≤ a) (ha' : a ≤ 100000) (w : World) :
    Calls Try.prog 20 #[.int .i64 c, .int .i64 a] w fun e w' => e = .returned (.int .i64 (bareZ c a)) ∧ w = w' := by
  by_cases h0 : a = 0
  · subst h0
    go_enter Try.func20, Try.ntmps20
    go_wp2
    go_ret
    exact ⟨rfl, rfl⟩
  · have hm : bareZ c a = min 255 ((255 * c + a / 2) / a) := by unfold bareZ; rw [if_neg h0]
    have h1 : 1 ≤ a := by omega
    have hq : 0 ≤ (255 * c + a / 2) / a ∧ (255 * c + a / 2) / a ≤ 255 * c + a / 2 := IntWalk.tdiv_le _ _ (by omega) h1
    obtain ⟨q1, q2⟩ := hq
    have HM := Lib.hid hm
    clear hm h0
    by_cases hb : 255 < (255 * c + a / 2) / a
    · go_enter Try.func20, Try.ntmps20
      go_wp2
      go_ret
      exact ⟨ret_int (by rw [HM.out]; show (255 : Int) = _; omega), rfl⟩
    · go_enter Try.func20, Try.ntmps20
      go_wp2
      go_ret
      exact ⟨ret_int (by rw [HM.out]; show (255 * c + a / 2) / a = _; omega), rfl⟩

theorem byteful_yes (a : Int) (h : Byte a) (w : World) :
    Calls Try.prog 16 #[.int .i64 a] w fun e w' => e = .returned (.bool true) ∧ w = w' := by
  obtain ⟨h1, h2⟩ := h
  go_enter Try.func16, Try.ntmps16
  go_wp2
  go_ret
  exact ⟨rfl, rfl⟩
theorem byteful_no (a : Int) (h : ¬ Byte a) (w : World) :
    Calls Try.prog 16 #[.int .i64 a] w fun e w' => e = .returned (.bool false) ∧ w = w' := by
  by_cases h1 : a < 0
  · go_enter Try.func16, Try.ntmps16
    go_wp2
    go_ret
    exact ⟨rfl, rfl⟩
  · have h2 : 255 < a := by unfold Byte at h; omega
    clear h
    go_enter Try.func16, Try.ntmps16
    go_wp2
    go_ret
    exact ⟨by show Ending.returned (.bool (decide (a ≤ 255))) = _; rw [decide_eq_false (by omega)], rfl⟩

end Go.Proofs.Ytagpaebmpgnjhaa
