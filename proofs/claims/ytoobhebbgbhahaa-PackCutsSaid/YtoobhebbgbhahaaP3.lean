/-
  Numbers of 64 bits. No condition.
-/
import Derived.Test.YtoobhebbgbhahaaP2
namespace Go.Proofs.Ytoobhebbgbhahaa
open Go.RowKit
theorem bits_u64x (a b : BitVec 64) : bits .xor .u64 (a.toNat : Int) (b.toNat : Int) = ((a ^^^ b).toNat : Int) := by
  rw [show bits .xor .u64 (a.toNat : Int) (b.toNat : Int) = IntKind.u64.wrap ((BitVec.ofInt 64 (a.toNat : Int) ^^^ BitVec.ofInt 64 (b.toNat : Int)).toNat : Int) from rfl, BitVec.ofInt_natCast, BitVec.ofInt_natCast, BitVec.ofNat_toNat, BitVec.ofNat_toNat]
  simp only [BitVec.setWidth_eq]
  exact IntWalk.u64_in _ (by have := (a ^^^ b).isLt; omega)
theorem bits_u64o (a b : BitVec 64) : bits .or .u64 (a.toNat : Int) (b.toNat : Int) = ((a ||| b).toNat : Int) := by
  rw [show bits .or .u64 (a.toNat : Int) (b.toNat : Int) = IntKind.u64.wrap ((BitVec.ofInt 64 (a.toNat : Int) ||| BitVec.ofInt 64 (b.toNat : Int)).toNat : Int) from rfl, BitVec.ofInt_natCast, BitVec.ofInt_natCast, BitVec.ofNat_toNat, BitVec.ofNat_toNat]
  simp only [BitVec.setWidth_eq]
  exact IntWalk.u64_in _ (by have := (a ||| b).isLt; omega)
theorem bits_u64a (a b : BitVec 64) : bits .and .u64 (a.toNat : Int) (b.toNat : Int) = ((a &&& b).toNat : Int) := by
  rw [show bits .and .u64 (a.toNat : Int) (b.toNat : Int) = IntKind.u64.wrap ((BitVec.ofInt 64 (a.toNat : Int) &&& BitVec.ofInt 64 (b.toNat : Int)).toNat : Int) from rfl, BitVec.ofInt_natCast, BitVec.ofInt_natCast, BitVec.ofNat_toNat, BitVec.ofNat_toNat]
  simp only [BitVec.setWidth_eq]
  exact IntWalk.u64_in _ (by have := (a &&& b).isLt; omega)
theorem toNat64 {a : Nat} (h : a < 18446744073709551616) : ((BitVec.ofNat 64 a).toNat : Int) = (a : Int) := by
  rw [BitVec.toNat_ofNat, Nat.mod_eq_of_lt (by simpa using h)]
theorem xor64u (a b : Nat) (ha : a < 18446744073709551616) (hb : b < 18446744073709551616) : bits .xor .u64 (a : Int) (b : Int) = ((a ^^^ b : Nat) : Int) := by
  rw [← toNat64 ha, ← toNat64 hb, bits_u64x, BitVec.toNat_xor]
  rw [BitVec.toNat_ofNat, BitVec.toNat_ofNat, Nat.mod_eq_of_lt (by simpa using ha), Nat.mod_eq_of_lt (by simpa using hb)]
theorem or64u (a b : Nat) (ha : a < 18446744073709551616) (hb : b < 18446744073709551616) : bits .or .u64 (a : Int) (b : Int) = ((a ||| b : Nat) : Int) := by
  rw [← toNat64 ha, ← toNat64 hb, bits_u64o, BitVec.toNat_or]
  rw [BitVec.toNat_ofNat, BitVec.toNat_ofNat, Nat.mod_eq_of_lt (by simpa using ha), Nat.mod_eq_of_lt (by simpa using hb)]
theorem and64u (a b : Nat) (ha : a < 18446744073709551616) (hb : b < 18446744073709551616) : bits .and .u64 (a : Int) (b : Int) = ((a &&& b : Nat) : Int) := by
  rw [← toNat64 ha, ← toNat64 hb, bits_u64a, BitVec.toNat_and]
  rw [BitVec.toNat_ofNat, BitVec.toNat_ofNat, Nat.mod_eq_of_lt (by simpa using ha), Nat.mod_eq_of_lt (by simpa using hb)]
theorem xor_ones (a : Nat) (ha : a < 18446744073709551616) : a ^^^ 18446744073709551615 = 18446744073709551615 - a := by
  have h := BitVec.toNat_xor (BitVec.ofNat 64 a) (BitVec.allOnes 64)
  rw [BitVec.xor_allOnes, BitVec.toNat_not, BitVec.toNat_allOnes, BitVec.toNat_ofNat, Nat.mod_eq_of_lt (by simpa using ha)] at h
  simp only [Nat.reducePow, Nat.reduceSub] at h
  exact h.symm
/-- The number as it is written. -/
theorem zz_u64 {n : Int} (h : I64 n) : bits .xor .u64 (IntKind.u64.wrap (IntKind.u64.wrap n * 2 ^ 1)) (IntKind.u64.wrap (n / 2 ^ 63)) = (zz n : Int) := by
  obtain ⟨h1, h2⟩ := h
  by_cases h0 : 0 ≤ n
  · obtain ⟨k, rfl⟩ := Int.eq_ofNat_of_zero_le h0
    rw [IntWalk.u64_in (k : Int) (by omega), IntWalk.u64_in ((k : Int) * 2 ^ 1) (by omega), show (k : Int) / 2 ^ 63 = 0 by omega, show IntKind.u64.wrap 0 = ((0 : Nat) : Int) from rfl, show (k : Int) * 2 ^ 1 = ((2 * k : Nat) : Int) by omega, xor64u _ _ (by omega) (by omega), Nat.xor_zero]
    unfold zz
    rw [if_pos h0]
    omega
  · obtain ⟨k, rfl⟩ : ∃ k : Nat, n = -1 - (k : Int) := ⟨(-1 - n).toNat, by omega⟩
    have e1 : IntKind.u64.wrap (-1 - (k : Int)) = ((18446744073709551615 - k : Nat) : Int) := by
      rw [show IntKind.u64.wrap (-1 - (k : Int)) = (-1 - (k : Int)) % 18446744073709551616 from rfl]
      omega
    have e2 : IntKind.u64.wrap (((18446744073709551615 - k : Nat) : Int) * 2 ^ 1) = ((18446744073709551614 - 2 * k : Nat) : Int) := by
      rw [show IntKind.u64.wrap (((18446744073709551615 - k : Nat) : Int) * 2 ^ 1) = (((18446744073709551615 - k : Nat) : Int) * 2 ^ 1) % 18446744073709551616 from rfl]
      omega
    rw [e1, e2, show (-1 - (k : Int)) / 2 ^ 63 = -1 by omega, show IntKind.u64.wrap (-1) = ((18446744073709551615 : Nat) : Int) from rfl, xor64u _ _ (by omega) (by omega), xor_ones _ (by omega)]
    unfold zz
    rw [if_neg h0]
    omega
theorem byteOr (u : Nat) : bits .or .u8 (IntKind.u8.wrap (u : Int)) 128 = ((UInt8.ofNat (u % 128 + 128)).toNat : Int) := by
  have h : ∀ x : Fin 256, bits .or .u8 (x.val : Int) 128 = ((x.val % 128 + 128 : Nat) : Int) := by decide +kernel
  rw [show IntKind.u8.wrap (u : Int) = ((u % 256 : Nat) : Int) by rw [show IntKind.u8.wrap (u : Int) = (u : Int) % 256 from rfl]; omega]
  rw [h ⟨u % 256, Nat.mod_lt _ (by decide)⟩, byte_ofNat (by omega)]
  dsimp only
  omega
theorem byte_lt {u : Nat} (h : u < 128) : IntKind.u8.wrap (u : Int) = ((UInt8.ofNat u).toNat : Int) := by
  rw [byte_ofNat (by omega), show IntKind.u8.wrap (u : Int) = (u : Int) % 256 from rfl]
  omega
theorem and127 (x : UInt8) : bits .and .u8 (x.toNat : Int) 127 = ((x.toNat % 128 : Nat) : Int) := by
  have h : ∀ x : Fin 256, bits .and .u8 (x.val : Int) 127 = ((x.val % 128 : Nat) : Int) := by decide +kernel
  exact h ⟨x.toNat, x.toNat_lt⟩
/-- One portion of seven bits more. -/
theorem or_part {u c k : Nat} (hu : u < 2 ^ (7 * k)) (hc : c < 128) (hk : k ≤ 9) (h9 : k = 9 → c ≤ 1) : bits .or .u64 (u : Int) (IntKind.u64.wrap ((c : Int) * 2 ^ (7 * k))) = ((u + c * 2 ^ (7 * k) : Nat) : Int) := by
  have hp : 2 ^ (7 * k) ≤ 2 ^ 63 := Nat.pow_le_pow_right (by decide) (by omega)
  have hcm : c * 2 ^ (7 * k) < 18446744073709551616 := by
    rcases Nat.lt_or_ge k 9 with h | h
    · have : 2 ^ (7 * k) ≤ 2 ^ 56 := Nat.pow_le_pow_right (by decide) (by omega)
      have := Nat.mul_le_mul (show c ≤ 127 by omega) this
      simp only [Nat.reducePow] at this
      omega
    · obtain rfl : k = 9 := by omega
      have := h9 rfl
      simp only [Nat.reduceMul, Nat.reducePow]
      omega
  have e : (c : Int) * 2 ^ (7 * k) = ((c * 2 ^ (7 * k) : Nat) : Int) := by simp
  simp only [Nat.reducePow] at hp
  rw [e, IntWalk.u64_in _ (by omega), or64u _ _ (by omega) hcm]
  congr 1
  rw [Nat.or_comm, Nat.mul_comm, ← Nat.two_pow_add_eq_or_of_lt hu, Nat.add_comm]
theorem unzz_i64 {u : Nat} (h : u < 18446744073709551616) : bits .xor .i64 ((u : Int) / 2 ^ 1) (-(bits .and .u64 (u : Int) 1)) = unzz u := by
  rw [show (1 : Int) = ((1 : Nat) : Int) from rfl, and64u u 1 h (by decide), Nat.and_one_is_mod]
  have hd : (u : Int) / 2 ^ 1 = ((u / 2 : Nat) : Int) := by omega
  rw [hd]
  unfold unzz
  rcases Nat.mod_two_eq_zero_or_one u with h2 | h2
  · rw [h2, if_pos rfl, show -(((0 : Nat) : Int)) = ((0 : Nat) : Int) from rfl, xor64 _ _ (by omega) (by decide), Nat.xor_zero]
  · rw [h2, if_neg (by decide)]
    rw [show bits .xor .i64 ((u / 2 : Nat) : Int) (-((1 : Nat) : Int)) = IntKind.i64.wrap ((BitVec.ofInt 64 ((u / 2 : Nat) : Int) ^^^ BitVec.ofInt 64 (-((1 : Nat) : Int))).toNat : Int) from rfl, show BitVec.ofInt 64 (-((1 : Nat) : Int)) = BitVec.allOnes 64 from by decide, BitVec.ofInt_natCast, BitVec.xor_allOnes, BitVec.toNat_not, BitVec.toNat_ofNat, Nat.mod_eq_of_lt (by simp only [Nat.reducePow]; omega)]
    simp only [Nat.reducePow]
    rw [show ((18446744073709551616 - 1 - u / 2 : Nat) : Int) = (-1 - ((u / 2 : Nat) : Int)) + 18446744073709551616 by omega]
    rw [IntKind.wrap_i64]
    omega
end Go.Proofs.Ytoobhebbgbhahaa
