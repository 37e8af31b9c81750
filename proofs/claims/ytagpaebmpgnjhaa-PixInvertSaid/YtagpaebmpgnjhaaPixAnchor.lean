/-
  The contract of the statements' own anchor function: it returns true.
-/
import Derived.Test.YtagpaebmpgnjhaaPixWay
namespace Go.Proofs.Ytagpaebmpgnjhaa
open Go.RowKit

set_option maxRecDepth 100000 in
set_option maxHeartbeats 1000000 in
theorem anchor_any (w : World) :
    Calls Try.prog 12 #[] w fun e w' => e = .returned (.bool true) ∧ Below w.heap.size w w' := by
  have e1 : mulZ 128 128 = 64 := by decide
  have e2 : mulZ 255 7 = 7 := by decide
  have heq := run_eq_arr (P := Try.prog) 22 3 4 Try.underlying22 Try.underlying3 (by kernel_rfl) [128, 0, 127, 255] [128, 0, 127, 255] rfl rfl
  simp only [List.map_cons, List.map_nil, BEq.rfl] at heq
  have hgd : Try.prog.eqGuardType Try.prog.depth 22 = false := by kernel_rfl
  go_enter Try.func12, Try.ntmps12
  go_wp2_with fail
  refine (mul_any 128 128 (by decide) (by decide) (by decide) (by decide) _).mono ?_
  rintro e w' ⟨rfl, rfl⟩
  rw [e1]
  go_wp2_with fail
  refine (mul_any 255 7 (by decide) (by decide) (by decide) (by decide) _).mono ?_
  rintro e w' ⟨rfl, rfl⟩
  rw [e2]
  go_wp2_with fail
  refine (way_any 3 [128, 0, 0, 128] [0, 0, 255, 255] rfl rfl (by decide) (by decide) _).mono ?_
  rintro e w' ⟨rfl, hb⟩
  rw [show wayL (facZ 3 ([128, 0, 0, 128] : List Int)[3] ([0, 0, 255, 255] : List Int)[3]) [128, 0, 0, 128] [0, 0, 255, 255] = [128, 0, 127, 255] from by decide]
  simp only [List.map_cons, List.map_nil]
  go_wp2_with fail
  go_ret
  exact ⟨rfl, hb⟩

end Go.Proofs.Ytagpaebmpgnjhaa
