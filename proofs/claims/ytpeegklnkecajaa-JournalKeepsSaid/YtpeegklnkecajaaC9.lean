/-
  A record whose payload has bits turned is no record. No condition.
-/
import Derived.Test.YtpeegklnkecajaaC8
import Derived.Test.YtpeegklnkecajaaCrcFlip
namespace Go.Proofs.Ytpeegklnkecajaa
open Go.RowKit
theorem bitAt_app (l r : List UInt8) (j : Nat) : bitAt (l ++ r) j = if j < 8 * l.length then bitAt l j else bitAt r (j - 8 * l.length) := by
  unfold bitAt
  by_cases h : j < 8 * l.length
  · rw [if_pos h]
    simp [List.getD, List.getElem?_append_left (show j / 8 < l.length by omega)]
  · rw [if_neg h]
    simp only [List.getD, List.getElem?_append_right (show l.length ≤ j / 8 by omega)]
    rw [show (j - 8 * l.length) / 8 = j / 8 - l.length by omega, show (j - 8 * l.length) % 8 = j % 8 by omega]
theorem flip_crc {h4 q q' : List UInt8} {p b : Nat} (hl : h4.length = 4) (hq : q'.length = q.length) (hb : ∀ j, j < 8 * q.length → bitAt q' j = (bitAt q j != (decide (p ≤ j) && decide (j < p + 32) && b.testBit (j - p))))
    (hin : ∀ i, i < 32 → b.testBit i = true → p + i < 8 * q.length) (h1 : 1 ≤ b) (h2 : b < 4294967296) : crc (h4 ++ q) ≠ crc (h4 ++ q') := by
  obtain ⟨i, hi⟩ := Nat.exists_testBit_of_ne_zero (show b ≠ 0 by omega)
  have hi32 : i < 32 := by
    rcases Nat.lt_or_ge i 32 with h | h
    · exact h
    · have : 2 ^ 32 ≤ 2 ^ i := Nat.pow_le_pow_right (by omega) h
      rw [Nat.testBit_lt_two_pow (by omega)] at hi; cases hi
  refine crc_flip (h4 ++ q) (h4 ++ q') (by simp [hq]) (32 + p) (fun j => decide (32 + p ≤ j) && decide (j < 32 + p + 32) && b.testBit (j - (32 + p))) (fun j hj => ?_) (fun j hj => ?_) (fun j hj => ?_) (32 + p + i) ?_ ?_
  · rw [bitAt_app, bitAt_app, hl]
    rw [List.length_append, hl] at hj
    by_cases h : j < 8 * 4
    · rw [if_pos h, if_pos h, show decide (32 + p ≤ j) = false from decide_eq_false (by omega)]
      simp
    · rw [if_neg h, if_neg h, hb (j - 8 * 4) (by omega)]
      rw [show decide (p ≤ j - 8 * 4) = decide (32 + p ≤ j) from decide_eq_decide.2 (by omega), show decide (j - 8 * 4 < p + 32) = decide (j < 32 + p + 32) from decide_eq_decide.2 (by omega), show j - 8 * 4 - p = j - (32 + p) by omega]
  · simp; omega
  · simp; omega
  · have := hin i hi32 hi
    rw [List.length_append, hl]; omega
  · simp only [Bool.and_eq_true, decide_eq_true_eq]
    exact ⟨⟨by omega, by omega⟩, by rw [show 32 + p + i - (32 + p) = i by omega]; exact hi⟩
theorem stepN_flip {b pre q q' : List UInt8} (hb : b = pre ++ (be4 q.length ++ (q' ++ be4 (crc (be4 q.length ++ q)).toNat))) (hq : q'.length = q.length) (hp : q.length ≤ 8388608) (hc : crc (be4 q.length ++ q) ≠ crc (be4 q.length ++ q')) : stepN b pre.length = none := by
  have hd : b.drop pre.length = be4 q.length ++ (q' ++ be4 (crc (be4 q.length ++ q)).toNat) := by rw [hb, List.drop_left]
  have hl : b.length = pre.length + (q.length + 8) := by rw [hb, List.length_append, List.length_append, List.length_append, length_be4, length_be4]; omega
  have hn : num4 (b.drop pre.length) = q.length := by rw [hd]; exact num4_be4 (by omega) _
  have h1 : (b.drop pre.length).take (4 + q.length) = be4 q.length ++ q' := by
    rw [hd, ← List.append_assoc, List.take_append_of_le_length (by simp [length_be4, hq]), List.take_of_length_le (by simp [length_be4, hq])]
  have h2 : b.drop (pre.length + 4 + q.length) = be4 (crc (be4 q.length ++ q)).toNat := by
    rw [Nat.add_assoc, ← List.drop_drop, hd, ← List.append_assoc, show 4 + q.length = (be4 q.length ++ q').length by simp [length_be4, hq], List.drop_left]
  have h3 : num4 (b.drop (pre.length + 4 + q.length)) = (crc (be4 q.length ++ q)).toNat := by
    rw [h2]
    have := num4_be4 (crc (be4 q.length ++ q)).isLt []
    rwa [List.append_nil] at this
  unfold stepN
  rw [if_neg (by omega), hn, if_neg (by omega), h1, h3, if_neg]
  exact fun h => hc (BitVec.eq_of_toNat_eq h.symm)
theorem set_mid (h4 q t : List UInt8) (hl : h4.length = 4) (i : Nat) (hi : i < q.length) (v : UInt8) : (h4 ++ (q ++ t)).set (4 + i) v = h4 ++ (q.set i v ++ t) := by
  rw [List.set_append_right _ _ (by omega), hl, Nat.add_sub_cancel_left, List.set_append_left _ _ hi]
theorem getD_mid (h4 q t : List UInt8) (hl : h4.length = 4) (i : Nat) (hi : i < q.length) : (h4 ++ (q ++ t))[4 + i]? = some (q.getD i 0) := by
  rw [List.getElem?_append_right (by omega), hl, Nat.add_sub_cancel_left, List.getElem?_append_left hi, List.getD_eq_getElem?_getD, List.getElem?_eq_getElem hi]
  rfl
theorem shl1_u8 (r : Nat) (h : r < 8) : (2 : Int) ^ r % (256 : Int) = ((1 <<< UInt8.ofNat r : UInt8).toNat : Int) := by
  have h1 : ∀ r : Fin 8, (2 : Int) ^ r.val % (256 : Int) = ((1 <<< UInt8.ofNat r.val : UInt8).toNat : Int) := by decide
  exact h1 ⟨r, h⟩
end Go.Proofs.Ytpeegklnkecajaa
