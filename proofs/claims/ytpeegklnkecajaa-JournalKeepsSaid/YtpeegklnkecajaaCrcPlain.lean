/-
  Plain definitions of the two sums (Crc, Adler), without the program.
-/
import Derived.Test.YtpeegklnkecajaaBase
namespace Go.Proofs.Ytpeegklnkecajaa

/-- One bit's step of the Crc's register. -/
def crcBit (c : BitVec 32) : BitVec 32 := (c >>> 1) ^^^ (0xedb88320#32 &&& -(c &&& 1#32))
def crcBits : Nat → BitVec 32 → BitVec 32
  | 0, c => c
  | n + 1, c => crcBit (crcBits n c)
def u32 (u : UInt8) : BitVec 32 := BitVec.ofNat 32 u.toNat
def crcByte (c : BitVec 32) (u : UInt8) : BitVec 32 := crcBits 8 (c ^^^ u32 u)
def crcL (c : BitVec 32) (bs : List UInt8) : BitVec 32 := bs.foldl crcByte c
def bnot (c : BitVec 32) : BitVec 32 := ~~~c
def crcMore (s : BitVec 32) (bs : List UInt8) : BitVec 32 := bnot (crcL (bnot s) bs)
def crc (bs : List UInt8) : BitVec 32 := crcMore 0 bs

theorem u32_toNat (u : UInt8) : (u32 u).toNat = u.toNat := by
  have := u.toNat_lt
  simp [u32, BitVec.toNat_ofNat]

theorem crcMore_append (s : BitVec 32) (a b : List UInt8) : crcMore s (a ++ b) = crcMore (crcMore s a) b := by
  simp [crcMore, crcL, List.foldl_append, bnot]

theorem crcMore_nil (s : BitVec 32) : crcMore s [] = s := by simp [crcMore, crcL, bnot]

theorem bnot_bits (c : BitVec 32) : bits .xor .u32 (c.toNat : Int) 4294967295 = ((bnot c).toNat : Int) := by
  rw [show (4294967295 : Int) = (((BitVec.allOnes 32 : BitVec 32)).toNat : Int) from rfl, bits_xor32, BitVec.xor_allOnes]; rfl

theorem crcBit_lsb (c : BitVec 32) : crcBit c = (c >>> 1) ^^^ (if c.getLsbD 0 then 0xedb88320#32 else 0#32) := by
  unfold crcBit
  have h1 : c &&& 1#32 = if c.getLsbD 0 then 1#32 else 0#32 := by
    apply BitVec.eq_of_toNat_eq
    rw [BitVec.toNat_and]
    have e : c.toNat &&& (1#32).toNat = c.toNat % 2 := Nat.and_two_pow_sub_one_eq_mod c.toNat 1
    have g : c.getLsbD 0 = decide (c.toNat % 2 = 1) := by simp [BitVec.getLsbD, Nat.testBit_zero]
    rw [e, g]
    by_cases h : c.toNat % 2 = 1 <;> simp [h] <;> omega
  rw [h1]
  cases c.getLsbD 0
  · simp
  · simp only [if_true]; rw [show -(1#32) = BitVec.allOnes 32 from by decide, BitVec.and_allOnes]

theorem crcBit_xor (a b : BitVec 32) : crcBit (a ^^^ b) = crcBit a ^^^ crcBit b := by
  rw [crcBit_lsb, crcBit_lsb, crcBit_lsb, BitVec.getLsbD_xor, BitVec.ushiftRight_xor_distrib]
  generalize a >>> 1 = x, b >>> 1 = y
  cases a.getLsbD 0 <;> cases b.getLsbD 0 <;> simp only [Bool.xor_true, Bool.xor_false, Bool.not_true, Bool.not_false, if_true, if_false, Bool.false_eq_true, BitVec.xor_zero]
  · ac_rfl
  · ac_rfl
  · rw [show x ^^^ 3988292384#32 ^^^ (y ^^^ 3988292384#32) = x ^^^ y ^^^ (3988292384#32 ^^^ 3988292384#32) from by ac_rfl]; simp

theorem crcBit_bits (c : BitVec 32) : bits .xor .u32 ((c.toNat : Int) / 2) (bits .and .u32 3988292384 (-bits .and .u32 (c.toNat : Int) 1 % 4294967296)) = ((crcBit c).toNat : Int) := by
  rw [show (1 : Int) = (((1#32 : BitVec 32)).toNat : Int) from rfl, bits_and32]
  have e : -((c &&& 1#32).toNat : Int) % 4294967296 = ((-(c &&& 1#32)).toNat : Int) := by
    rw [BitVec.toNat_neg]; have := (c &&& 1#32).isLt; omega
  rw [e, show (3988292384 : Int) = (((0xedb88320#32 : BitVec 32)).toNat : Int) from rfl, bits_and32]
  have e2 : (c.toNat : Int) / (2 : Int) = ((c >>> 1).toNat : Int) := by
    rw [BitVec.toNat_ushiftRight, Nat.shiftRight_eq_div_pow]; omega
  rw [e2, bits_xor32]; rfl

/-- Adler: the two halves. -/
def adStep (p : Nat × Nat) (u : UInt8) : Nat × Nat := ((p.1 + u.toNat) % 65521, (p.2 + (p.1 + u.toNat) % 65521) % 65521)
def adL (p : Nat × Nat) (bs : List UInt8) : Nat × Nat := bs.foldl adStep p
def adNum (p : Nat × Nat) : Nat := 65536 * p.2 + p.1

end Go.Proofs.Ytpeegklnkecajaa
