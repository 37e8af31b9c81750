/-
  The contract of pix.factors.
-/
import Derived.Test.YtagpaebmpgnjhaaPixWalks
namespace Go.Proofs.Ytagpaebmpgnjhaa
open Go.RowKit

set_option maxHeartbeats 2000000 in
theorem factors_any (way s a : Int) (hs : Byte s) (ha : Byte a) (w : World) :
    Calls Try.prog 29 #[.int .i64 way, .int .i64 s, .int .i64 a] w fun e w' => e = .returned (.tuple #[.int .i64 (facZ way s a).1, .int .i64 (facZ way s a).2]) ∧ w = w' := by
  obtain ⟨hs1, hs2⟩ := hs
  obtain ⟨ha1, ha2⟩ := ha
  have hf : facZ way s a = facZ way s a := rfl
  generalize hF : facZ way s a = F at *
  have HF := Lib.hid hF
  clear hf hF
  go_enter Try.func29, Try.ntmps29
  go_wp2
  all_goals go_ret2
  all_goals refine ⟨?_, rfl⟩
  all_goals rw [← HF.out]
  all_goals simp_all [facZ]

end Go.Proofs.Ytagpaebmpgnjhaa
