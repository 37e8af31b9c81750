/-
  Edits that were read: their parts. No condition.
-/
import Derived.Test.YtoobhebbgbhahaaPI
namespace Go.Proofs.Ytoobhebbgbhahaa
open Go.RowKit
theorem outE_zero {r : Ed × Rd} (h : (outE r).2 ≠ 0) : (outE r).1 = Ed.zero := by
  unfold outE at h ⊢
  by_cases h0 : r.2.endE = 0
  · rw [if_pos h0] at h; exact absurd rfl h
  · rw [if_neg h0]
theorem getE_zero {b : List UInt8} (h : (getE b).2 ≠ 0) : (getE b).1 = Ed.zero := by
  rw [getE_out] at h ⊢
  exact outE_zero h
theorem getE_lens {b : List UInt8} (hb : b.length ≤ 1000000) : (getE b).1.P.length ≤ 1000000 ∧ (getE b).1.S.length ≤ 1000000 ∧ (getE b).1.Q.length ≤ 1000000 := by
  by_cases h : (getE b).2 = 0
  · obtain ⟨_, hw⟩ := getE_was h hb
    exact ⟨hw.Pl, hw.Sl, hw.Ql⟩
  · rw [getE_zero h]
    exact ⟨by decide, by decide, by decide⟩
theorem edC_congr {f f' m m' : Nat → Int} (hf : f10 f = f10 f') (hm : f6 m = f6 m') (pv sv qv : Value) : edC f m pv sv qv = edC f' m' pv sv qv := by
  simp only [f10, f6, List.cons.injEq, and_true] at hf hm
  obtain ⟨h0, h1, h2, h3, h4, h5, h6, h7, h8, h9⟩ := hf
  obtain ⟨k0, k1, k2, k3, k4, k5⟩ := hm
  simp only [edC, h0, h1, h2, h3, h4, h5, h6, h7, h8, h9, k0, k1, k2, k3, k4, k5]
end Go.Proofs.Ytoobhebbgbhahaa
