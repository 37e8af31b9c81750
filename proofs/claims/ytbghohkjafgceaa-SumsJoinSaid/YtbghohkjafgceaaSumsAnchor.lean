/-
  The contract of the statements' own anchor function: it returns true.
-/
import Derived.Test.YtbghohkjafgceaaCrcWalks
namespace Go.Proofs.Ytbghohkjafgceaa
open Go.RowKit

set_option maxRecDepth 100000 in
set_option maxHeartbeats 1000000 in
theorem anchor_any (w : World) :
    Calls Try.prog 9 #[] w fun e w' => e = .returned (.bool true) ∧ Below w.heap.size w w' := by
  have kc := run_conv_lit (P := Try.prog) 24 5 Try.underlying24 Try.underlying5
  go_enter Try.func9, Try.ntmps9
  go_wp2_with fail
  refine Calls.mono (crc_any _ _ _ [⟨some ⟨w.heap.size, 0, none⟩, 9, 9, [49, 50, 51, 52, 53, 54, 55, 56, 57]⟩] _ ?_) ?_
  · refine Parts.lit _ _ _ _ _ _ _ (by simp) rfl rfl (by decide) ?_
    simp only [List.mem_singleton, forall_eq]
    exact Sl.lit _ _ _ _ _ _ _ _ rfl rfl rfl (by decide)
  rintro e w' ⟨rfl, rfl⟩
  have e1 : (((crcParts 0#32 [⟨some ⟨w.heap.size, 0, none⟩, 9, 9, [49, 50, 51, 52, 53, 54, 55, 56, 57]⟩]).toNat : Nat) : Int) = 3421780262 := by
    show (((crcMore 0#32 [49, 50, 51, 52, 53, 54, 55, 56, 57]).toNat : Nat) : Int) = 3421780262
    decide +kernel
  rw [e1]
  clear e1
  go_wp2_with fail
  refine Calls.mono (adler_any _ _ _ [⟨some ⟨w.heap.size + 2, 0, none⟩, 9, 9, [87, 105, 107, 105, 112, 101, 100, 105, 97]⟩] _ ?_) ?_
  · refine Parts.lit _ _ _ _ _ _ _ (by simp) rfl rfl (by decide) ?_
    simp only [List.mem_singleton, forall_eq]
    exact Sl.lit _ _ _ _ _ _ _ _ (by simp) rfl rfl (by decide)
  rintro e w' ⟨rfl, rfl⟩
  have e1 : ((adNum (adParts (1, 0) [⟨some ⟨w.heap.size + 2, 0, none⟩, 9, 9, [87, 105, 107, 105, 112, 101, 100, 105, 97]⟩]) : Nat) : Int) = 300286872 := by
    show ((adNum (adL (1, 0) [87, 105, 107, 105, 112, 101, 100, 105, 97]) : Nat) : Int) = 300286872
    decide +kernel
  rw [e1]
  clear e1
  go_wp2_with fail
  refine Calls.mono (crc_any _ _ _ [] _ (Parts.none _)) ?_
  rintro e w' ⟨rfl, rfl⟩
  have e1 : (((crcParts 0#32 []).toNat : Nat) : Int) = 0 := by decide
  rw [e1]
  clear e1
  go_wp2_with fail
  refine Calls.mono (adler_any _ _ _ [] _ (Parts.none _)) ?_
  rintro e w' ⟨rfl, rfl⟩
  have e1 : ((adNum (adParts (1, 0) []) : Nat) : Int) = 1 := by decide
  rw [e1]
  clear e1
  go_wp2_with fail
  go_ret
  exact ⟨rfl, by repeat (first | exact Below.refl _ _ | refine Below.alloc ?_ (by first | (simp; done) | (simp; omega)) _)⟩
end Go.Proofs.Ytbghohkjafgceaa
