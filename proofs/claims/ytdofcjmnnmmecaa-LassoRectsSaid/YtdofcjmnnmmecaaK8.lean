/-
  Lasso: the anchor. No condition.
-/
import Derived.Test.YtdofcjmnnmmecaaK7
import Derived.Test.YtdofcjmnnmmecaaHq
namespace Go.Proofs.Ytdofcjmnnmmecaa
open Go.RowKit
instance : TIntS Try.prog 34 2 := ⟨by kernel_rfl, by kernel_rfl⟩
def S0 : List Pt := [⟨0, 0⟩, ⟨4, 0⟩, ⟨4, 3⟩, ⟨0, 3⟩]
theorem s0_ok : okS S0 [] = true := by decide
theorem s0_area : areaI S0 = 24 := by decide
theorem s0_ok2 : okS S0 [⟨3, 2⟩] = true := by decide
theorem s0_in : inW S0 3 2 = true := by decide
theorem s0_t : okT S0 ⟨0, 1⟩ ⟨0, 0⟩ = true := by decide
theorem s0_r : resT S0 ⟨0, 1⟩ ⟨0, 0⟩ = [⟨0, 0⟩, ⟨0, 4⟩, ⟨-3, 4⟩, ⟨-3, 0⟩] := by rw [resT, s0_t]; rfl
set_option maxHeartbeats 8000000
set_option maxRecDepth 100000
theorem anchor_fn {w0 : World} {B : Nat} {H : List Ent} : Fn Try.prog w0 B 11 [] H (fun v H' => v = .bool true ∧ H' = H) := by
  refine fn_intro Try.func11 rfl (by kernel_rfl) rfl ?_
  repeat (first | refine go_ ?_ | refine bx_ (fun _ => ?_))
  rename_i g
  have hs : PtR w0 B (⟨g, 34, [.int .i64 0, .int .i64 0, .int .i64 4, .int .i64 0, .int .i64 4, .int .i64 3, .int .i64 0, .int .i64 3], 4 * 2⟩ :: H) (some ⟨g, 0, none⟩) 4 S0 := ⟨rfl, fun _ => ⟨_, _, rfl⟩, Rds.ent (c := ⟨Try.prog, 0, w0, B⟩) (n := 8) .here rfl (by simp [Value.oneCell', S0])⟩
  have A := area_fn (cap := 4) hs (by decide)
  rw [s0_ok, if_pos rfl, s0_area, show errV true = 0 from rfl] at A
  have W := lwithin_fn (cap := 4) (x := 3) (y := 2) hs (by decide)
  rw [s0_ok2, s0_in, show (true && true) = true from rfl, show errV true = 0 from rfl] at W
  have T := turn_fn (cap := 4) ⟨0, 1⟩ ⟨0, 0⟩ hs (by decide)
  rw [s0_t, s0_r, show errV true = 0 from rfl] at T
  repeat (first | refine go_ ?_ | refine bx_ (fun _ => ?_) | refine hl_callv rfl rfl (A) ?_ | refine hl_callv rfl rfl (W) ?_)
  refine hl_call rfl rfl T (fun v M h => ?_)
  obtain ⟨sv, rfl, o⟩ := h
  change Own _ 2 sv 4 [.int .i64 0, .int .i64 0, .int .i64 0, .int .i64 4, .int .i64 (-3), .int .i64 4, .int .i64 (-3), .int .i64 0] _ M at o
  obtain ⟨gt, ct, rfl, _, _, _, hp⟩ := o.posn (by decide)
  refine HL.perm ?_ hp
  have r8 : Rds w0 B (⟨gt, 34, [.int .i64 0, .int .i64 0, .int .i64 0, .int .i64 4, .int .i64 (-3), .int .i64 4, .int .i64 (-3), .int .i64 0], ct * 2⟩ :: ⟨g, 34, [.int .i64 0, .int .i64 0, .int .i64 4, .int .i64 0, .int .i64 4, .int .i64 3, .int .i64 0, .int .i64 3], 4 * 2⟩ :: H) (some ⟨gt, 0, none⟩) _ := Rds.ent (c := ⟨Try.prog, 0, w0, B⟩) (n := 8) .here rfl (by simp [Value.oneCell'])
  repeat (first | refine go_ ?_ | refine bx_ (fun _ => ?_) | refine hl_loadRN (off := 0) (j := 2 * 2) rfl r8 (Imp.refl _) rfl rfl rfl ?_ | refine hl_eqAggT (xs := [.int .i64 (-3), .int .i64 4]) rfl rfl (by simp) rfl rfl ?_)
  exact fin1B rfl rfl ⟨rfl, rfl⟩
end Go.Proofs.Ytdofcjmnnmmecaa
