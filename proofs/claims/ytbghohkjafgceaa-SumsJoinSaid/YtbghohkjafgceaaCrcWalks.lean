/-
  The contracts of sums.CrcMore, sums.Crc, sums.AdlerMore, sums.Adler and of the reference's Crc and Adler.
-/
import Derived.Test.YtbghohkjafgceaaCrcPlain
namespace Go.Proofs.Ytbghohkjafgceaa
open Go.RowKit

set_option maxHeartbeats 1000000 in
theorem crcMore_any (c0 : BitVec 32) (a : Option Addr) (len cap : Nat) (bs : List UInt8) (w : World) (hbs : Sl byteV w a len cap bs) :
    Calls Try.prog 15 #[.int .i64 (c0.toNat : Int), .slice a len cap] w fun e w' => e = .returned (.int .i64 ((crcMore c0 bs).toNat : Int)) ∧ w = w' := by
  obtain ⟨hl, hlc, hm, _, hr⟩ := hbs
  have hc0 : c0.toNat < 4294967296 := c0.isLt
  have HL := Lib.hid hl
  have hl1 : bs.length ≤ len := by omega
  have hl2 : len ≤ bs.length := by omega
  clear hl
  go_enter Try.func15, Try.ntmps15
  go_wp2
  go_loop [5, 13] (fun c i => ∃ (k : Nat) (c1 : BitVec 32), k ≤ len ∧ i = .int .i64 k ∧ c = .int .u32 (c1.toNat : Int) ∧ crcL c1 (bs.drop k) = crcL (bnot c0) bs) (fun _ i => len - (intOf i).toNat)
  case atStart => exact ⟨0, bnot c0, by omega, rfl, by rw [bnot_bits], rfl⟩
  case round =>
    obtain ⟨k, c1, hk, rfl, rfl, hc⟩ := hrel
    have HC := Lib.hid hc
    clear hc
    have hc1 : c1.toNat < 4294967296 := c1.isLt
    by_cases hlt : k < len
    · obtain ⟨b, off, rfl, hcell⟩ := hr k (by omega)
      generalize hu : bs[k]'(by omega) = u at hcell
      have HU := Lib.hid hu
      clear hu hr
      have hu := u.toNat_lt
      obtain ⟨c2, hc2⟩ : ∃ c2 : BitVec 32, c2 = c1 ^^^ u32 u := ⟨_, rfl⟩
      have e2 : bits .xor .u32 (c1.toNat : Int) (u.toNat : Int) = (c2.toNat : Int) := by rw [← u32_toNat u, bits_xor32, hc2]
      have HC2 := Lib.hid hc2
      clear hc2
      go_wp2
      go_loop [5, 21] (fun c i => ∃ (j : Nat), j ≤ 8 ∧ i = .int .i64 j ∧ c = .int .u32 ((crcBits j c2).toNat : Int)) (fun _ i => 8 - (intOf i).toNat)
      case atStart => exact ⟨0, by omega, rfl, rfl⟩
      case round =>
        obtain ⟨j, hj, rfl, rfl⟩ := hrel
        by_cases hj8 : j < 8
        · have hs : crcBits (j + 1) c2 = crcBit (crcBits j c2) := rfl
          generalize crcBits j c2 = c3 at hs ⊢
          have HS := Lib.hid hs
          clear hs
          have hc3 : c3.toNat < 4294967296 := c3.isLt
          clear e2
          go_wp2
          go_round
          case rel => exact ⟨j + 1, by omega, by go_num, by rw [crcBit_bits, HS.out]⟩
          case measure => simp [intOf]; omega
        · go_wp2
          go_round
          case rel => exact ⟨k + 1, crcBits j c2, by omega, by go_num, rfl, by
            obtain rfl : j = 8 := by omega
            rw [← HC.out, List.drop_eq_getElem_cons (show k < bs.length by omega), HU.out, HC2.out]; rfl⟩
          case measure => simp [intOf]; omega
    · obtain ⟨c2, hc2⟩ : ∃ c2 : BitVec 32, c2 = bnot c1 := ⟨_, rfl⟩
      have e2 : bits .xor .u32 (c1.toNat : Int) 4294967295 = (c2.toNat : Int) := by rw [bnot_bits, hc2]
      have HC2 := Lib.hid hc2
      clear hc2
      have hc2 : c2.toNat < 4294967296 := c2.isLt
      go_wp2
      go_ret
      refine ⟨ret_int ?_, rfl⟩
      rw [HC2.out, crcMore, ← HC.out, List.drop_of_length_le (by omega)]; rfl
/-- The parts' Crc, one behind the other. -/
def crcParts (s : BitVec 32) (ps : List Part) : BitVec 32 := ps.foldl (fun s p => crcMore s p.bs) s
def adParts (s : Nat × Nat) (ps : List Part) : Nat × Nat := ps.foldl (fun s p => adL s p.bs) s

theorem crcParts_flat (s : BitVec 32) (ps : List Part) : crcParts s ps = crcMore s (ps.flatMap (·.bs)) := by
  induction ps generalizing s with
  | nil => simp [crcParts, crcMore_nil]
  | cons p ps ih => rw [List.flatMap_cons, crcMore_append, ← ih]; rfl

theorem adParts_flat (s : Nat × Nat) (ps : List Part) : adParts s ps = adL s (ps.flatMap (·.bs)) := by
  induction ps generalizing s with
  | nil => rfl
  | cons p ps ih => rw [List.flatMap_cons]; show adParts (adL s p.bs) ps = _; rw [ih]; simp [adL, List.foldl_append]

theorem adL_lt (s : Nat × Nat) (bs : List UInt8) (h : s.1 < 65521 ∧ s.2 < 65521) : (adL s bs).1 < 65521 ∧ (adL s bs).2 < 65521 := by
  induction bs generalizing s with
  | nil => exact h
  | cons u bs ih => exact ih (adStep s u) ⟨Nat.mod_lt _ (by omega), Nat.mod_lt _ (by omega)⟩

set_option maxHeartbeats 1000000 in
theorem crc_any (a : Option Addr) (len cap : Nat) (ps : List Part) (w : World) (hps : Parts w a len cap ps) :
    Calls Try.prog 10 #[.slice a len cap] w fun e w' => e = .returned (.int .i64 ((crcParts 0#32 ps).toNat : Int)) ∧ w = w' := by
  obtain ⟨⟨hl, hlc, hm, _, hr⟩, he⟩ := hps
  have HL := Lib.hid hl
  have hl1 : ps.length ≤ len := by omega
  have hl2 : len ≤ ps.length := by omega
  clear hl
  have HE := Lib.hid he
  clear he
  go_enter Try.func10, Try.ntmps10
  go_wp2
  go_loop [3, 8] (fun c i => ∃ (k : Nat) (c1 : BitVec 32), k ≤ len ∧ i = .int .i64 k ∧ c = .int .i64 (c1.toNat : Int) ∧ crcParts c1 (ps.drop k) = crcParts 0#32 ps) (fun _ i => len - (intOf i).toNat)
  case atStart => exact ⟨0, 0, by omega, rfl, rfl, rfl⟩
  case round =>
    obtain ⟨k, c1, hk, rfl, rfl, hc⟩ := hrel
    have HC := Lib.hid hc
    clear hc
    by_cases hlt : k < len
    · obtain ⟨b, off, rfl, hcell⟩ := hr k (by omega)
      have hp := HE.out (ps[k]'(by omega)) (List.getElem_mem _)
      generalize hu : ps[k]'(by omega) = p at hcell hp
      have HU := Lib.hid hu
      clear hu hr
      have HP := Lib.hid hp
      clear hp
      obtain ⟨pa, pl, pc, pb⟩ := p
      go_wp2_with (go_at_call 15; refine (crcMore_any c1 _ _ _ pb _ HP.out).mono ?_; rintro e w' ⟨rfl, rfl⟩)
      go_round
      case rel => exact ⟨k + 1, crcMore c1 pb, by omega, by go_num, rfl, by
        rw [← HC.out, List.drop_eq_getElem_cons (show k < ps.length by omega), HU.out]; rfl⟩
      case measure => simp [intOf]; omega
    · go_wp2
      go_ret
      refine ⟨ret_int ?_, rfl⟩
      rw [← HC.out, List.drop_of_length_le (by omega)]; rfl

set_option maxHeartbeats 1000000 in
theorem adlerMore_any (s : Nat × Nat) (hs : s.1 < 65521 ∧ s.2 < 65521) (a : Option Addr) (len cap : Nat) (bs : List UInt8) (w : World) (hbs : Sl byteV w a len cap bs) :
    Calls Try.prog 16 #[.int .i64 (adNum s : Int), .slice a len cap] w fun e w' => e = .returned (.int .i64 (adNum (adL s bs) : Int)) ∧ w = w' := by
  obtain ⟨hl, hlc, hm, _, hr⟩ := hbs
  have HL := Lib.hid hl
  have hl1 : bs.length ≤ len := by omega
  have hl2 : len ≤ bs.length := by omega
  clear hl
  obtain ⟨x0, y0⟩ := s
  simp only at hs
  have hb := adL_lt (x0, y0) bs hs
  obtain ⟨n, hn⟩ : ∃ n, n = adNum (x0, y0) := ⟨_, rfl⟩
  rw [← hn]
  simp only [adNum] at hn
  have e1 : bits .and .i64 (n : Int) 65535 = (x0 : Int) := by
    rw [show (65535 : Int) = ((2 ^ 16 - 1 : Nat) : Int) from rfl, mask64 _ _ (by omega) (by omega)]; omega
  have e2 : (n : Int) / 65536 = (y0 : Int) := by omega
  have hn2 : n < 4294967296 := by omega
  have HN := Lib.hid hn
  clear hn
  have HB := Lib.hid hb
  clear hb
  obtain ⟨hs1, hs2⟩ := hs
  go_enter Try.func16, Try.ntmps16
  go_wp2
  go_loop [5, 6, 15] (fun c d i => ∃ (k x y : Nat), k ≤ len ∧ i = .int .i64 k ∧ c = .int .i64 (x : Int) ∧ d = .int .i64 (y : Int) ∧ x < 65521 ∧ y < 65521 ∧ adL (x, y) (bs.drop k) = adL (x0, y0) bs) (fun _ _ i => len - (intOf i).toNat)
  case atStart => exact ⟨0, x0, y0, by omega, rfl, rfl, rfl, hs1, hs2, rfl⟩
  case round =>
    clear e1 e2
    obtain ⟨k, x, y, hk, rfl, rfl, rfl, hx, hy, hc⟩ := hrel
    have HC := Lib.hid hc
    clear hc
    by_cases hlt : k < len
    · obtain ⟨b, off, rfl, hcell⟩ := hr k (by omega)
      generalize hu : bs[k]'(by omega) = u at hcell
      have HU := Lib.hid hu
      clear hu hr
      have hu := u.toNat_lt
      go_wp2
      go_round
      case rel => exact ⟨k + 1, (x + u.toNat) % 65521, (y + (x + u.toNat) % 65521) % 65521, by omega, by go_num, by go_num, by go_num, by omega, by omega, by
        rw [← HC.out, List.drop_eq_getElem_cons (show k < bs.length by omega), HU.out]; rfl⟩
      case measure => simp [intOf]; omega
    · have e1 : bits .or .i64 ((y : Int) * 65536) (x : Int) = ((65536 * y + x : Nat) : Int) := by
        have := join64 16 y x (by omega) (by omega) (by omega)
        rw [show ((y * 2 ^ 16 : Nat) : Int) = (y : Int) * 65536 by omega] at this
        rw [this]; omega
      go_wp2
      go_ret
      refine ⟨ret_int ?_, rfl⟩
      rw [← HC.out, List.drop_of_length_le (by omega)]
      first | rfl | (rw [e1]; rfl)

set_option maxHeartbeats 1000000 in
theorem adler_any (a : Option Addr) (len cap : Nat) (ps : List Part) (w : World) (hps : Parts w a len cap ps) :
    Calls Try.prog 12 #[.slice a len cap] w fun e w' => e = .returned (.int .i64 (adNum (adParts (1, 0) ps) : Int)) ∧ w = w' := by
  obtain ⟨⟨hl, hlc, hm, _, hr⟩, he⟩ := hps
  have HL := Lib.hid hl
  have hl1 : ps.length ≤ len := by omega
  have hl2 : len ≤ ps.length := by omega
  clear hl
  have HE := Lib.hid he
  clear he
  go_enter Try.func12, Try.ntmps12
  go_wp2
  go_loop [3, 8] (fun c i => ∃ (k : Nat) (c1 : Nat × Nat), k ≤ len ∧ i = .int .i64 k ∧ c = .int .i64 (adNum c1 : Int) ∧ (c1.1 < 65521 ∧ c1.2 < 65521) ∧ adParts c1 (ps.drop k) = adParts (1, 0) ps) (fun _ i => len - (intOf i).toNat)
  case atStart => exact ⟨0, (1, 0), by omega, rfl, rfl, by decide, rfl⟩
  case round =>
    obtain ⟨k, c1, hk, rfl, rfl, hb, hc⟩ := hrel
    have HC := Lib.hid hc
    clear hc
    have HB := Lib.hid hb
    clear hb
    by_cases hlt : k < len
    · obtain ⟨b, off, rfl, hcell⟩ := hr k (by omega)
      have hp := HE.out (ps[k]'(by omega)) (List.getElem_mem _)
      generalize hu : ps[k]'(by omega) = p at hcell hp
      have HU := Lib.hid hu
      clear hu hr
      have HP := Lib.hid hp
      clear hp
      obtain ⟨pa, pl, pc, pb⟩ := p
      go_wp2_with (go_at_call 16; refine (adlerMore_any c1 HB.out _ _ _ pb _ HP.out).mono ?_; rintro e w' ⟨rfl, rfl⟩)
      go_round
      case rel => exact ⟨k + 1, adL c1 pb, by omega, by go_num, rfl, adL_lt _ _ HB.out, by
        rw [← HC.out, List.drop_eq_getElem_cons (show k < ps.length by omega), HU.out]; rfl⟩
      case measure => simp [intOf]; omega
    · go_wp2
      go_ret
      refine ⟨ret_int ?_, rfl⟩
      rw [← HC.out, List.drop_of_length_le (by omega)]; rfl

theorem crc_flat (a : Option Addr) (len cap : Nat) (ps : List Part) (w : World) (hps : Parts w a len cap ps) (xs : List UInt8) (hx : ps.flatMap (·.bs) = xs) :
    Calls Try.prog 10 #[.slice a len cap] w fun e w' => e = .returned (.int .i64 ((crc xs).toNat : Int)) ∧ w = w' :=
  (crc_any a len cap ps w hps).mono fun _ _ ⟨he, hw⟩ => ⟨by rw [he, crcParts_flat, hx]; rfl, hw⟩

theorem crc_one (w : World) (a : Option Addr) (len cap : Nat) (xs : List UInt8) (h : Sl byteV w a len cap xs) (g : Nat) (hg : g = w.heap.size) (t : TypeId) :
    Calls Try.prog 10 #[.slice (some ⟨g, 0, none⟩) 1 1] (w.alloc (.cells #[.slice a len cap] t)) fun e w' => e = .returned (.int .i64 ((crc xs).toNat : Int)) ∧ w.alloc (.cells #[.slice a len cap] t) = w' :=
  crc_flat _ _ _ [⟨a, len, cap, xs⟩] _ (Parts.lit _ _ _ _ _ _ _ hg rfl rfl (by simp) (by simp only [List.mem_singleton, forall_eq]; exact h)) xs (by simp)

theorem adler_flat (a : Option Addr) (len cap : Nat) (ps : List Part) (w : World) (hps : Parts w a len cap ps) (xs : List UInt8) (hx : ps.flatMap (·.bs) = xs) :
    Calls Try.prog 12 #[.slice a len cap] w fun e w' => e = .returned (.int .i64 (adNum (adL (1, 0) xs) : Int)) ∧ w = w' :=
  (adler_any a len cap ps w hps).mono fun _ _ ⟨he, hw⟩ => ⟨by rw [he, adParts_flat, hx], hw⟩

theorem crcBit_cases (c : BitVec 32) : crcBit c = if c.toNat % 2 = 1 then (c >>> 1) ^^^ 0xedb88320#32 else c >>> 1 := by
  unfold crcBit
  have h1 : c &&& 1#32 = if c.toNat % 2 = 1 then 1#32 else 0#32 := by
    apply BitVec.eq_of_toNat_eq
    rw [BitVec.toNat_and]
    have : c.toNat &&& (1#32).toNat = c.toNat % 2 := Nat.and_two_pow_sub_one_eq_mod c.toNat 1
    rw [this]
    split <;> simp <;> omega
  rw [h1]
  split
  · rw [show -(1#32) = BitVec.allOnes 32 from by decide, BitVec.and_allOnes]
  · simp

set_option maxHeartbeats 1000000 in
theorem refCrc_any (a : Option Addr) (len cap : Nat) (bs : List UInt8) (w : World) (hbs : Sl byteV w a len cap bs) :
    Calls Try.prog 11 #[.slice a len cap] w fun e w' => e = .returned (.int .i64 ((crc bs).toNat : Int)) ∧ w = w' := by
  obtain ⟨hl, hlc, hm, _, hr⟩ := hbs
  have HL := Lib.hid hl
  have hl1 : bs.length ≤ len := by omega
  have hl2 : len ≤ bs.length := by omega
  clear hl
  go_enter Try.func11, Try.ntmps11
  go_wp2
  go_loop [3, 4] (fun c i => ∃ (k : Nat) (c1 : BitVec 32), k ≤ len ∧ i = .int .i64 k ∧ c = .int .i64 (c1.toNat : Int) ∧ crcL c1 (bs.drop k) = crcL (bnot 0) bs) (fun _ i => len - (intOf i).toNat)
  case atStart => exact ⟨0, bnot 0, by omega, rfl, rfl, rfl⟩
  case round =>
    obtain ⟨k, c1, hk, rfl, rfl, hc⟩ := hrel
    have HC := Lib.hid hc
    clear hc
    have hc1 : c1.toNat < 4294967296 := c1.isLt
    by_cases hlt : k < len
    · obtain ⟨b, off, rfl, hcell⟩ := hr k (by omega)
      generalize hu : bs[k]'(by omega) = u at hcell
      have HU := Lib.hid hu
      clear hu hr
      have hu := u.toNat_lt
      obtain ⟨c2, hc2⟩ : ∃ c2 : BitVec 32, c2 = c1 ^^^ u32 u := ⟨_, rfl⟩
      have e2 : bits .xor .i64 (c1.toNat : Int) (u.toNat : Int) = (c2.toNat : Int) := by
        rw [xor64 _ _ (by omega) (by omega), hc2, BitVec.toNat_xor, u32_toNat]
      have HC2 := Lib.hid hc2
      clear hc2
      go_wp2
      go_loop [3, 5] (fun c i => ∃ (j : Nat), j ≤ 8 ∧ i = .int .i64 j ∧ c = .int .i64 ((crcBits j c2).toNat : Int)) (fun _ i => 8 - (intOf i).toNat)
      case atStart => exact ⟨0, by omega, rfl, rfl⟩
      case round =>
        obtain ⟨j, hj, rfl, rfl⟩ := hrel
        clear e2
        by_cases hj8 : j < 8
        · have hs : crcBits (j + 1) c2 = crcBit (crcBits j c2) := rfl
          generalize crcBits j c2 = c3 at hs ⊢
          have HS := Lib.hid hs
          clear hs
          have hc3 : c3.toNat < 4294967296 := c3.isLt
          have e3 : ((c3.toNat : Int) / (2 : Int)) = ((c3 >>> 1).toNat : Int) := by
            rw [BitVec.toNat_ushiftRight, Nat.shiftRight_eq_div_pow]; omega
          obtain ⟨c4, hc4⟩ : ∃ c4 : BitVec 32, c4 = c3 >>> 1 := ⟨_, rfl⟩
          rw [← hc4] at e3
          have HC4 := Lib.hid hc4
          clear hc4
          have hc4 : c4.toNat < 4294967296 := c4.isLt
          by_cases hodd : c3.toNat % 2 = 1
          · have ho : (((c3.toNat : Int) % 2) == 1) = true := by rw [beq_iff_eq]; omega
            have HO := Lib.hid hodd
            clear hodd
            go_wp2
            go_round
            case rel => exact ⟨j + 1, by omega, by go_num, by
              rw [show (3988292384 : Int) = ((3988292384 : Nat) : Int) from rfl, xor64 _ _ (by omega) (by omega), HS.out, crcBit_cases, if_pos HO.out, BitVec.toNat_xor, HC4.out]; rfl⟩
            case measure => simp [intOf]; omega
          · have ho : (((c3.toNat : Int) % 2) == 1) = false := by rw [beq_eq_false_iff_ne]; omega
            have HO := Lib.hid hodd
            clear hodd
            go_wp2
            go_round
            case rel => exact ⟨j + 1, by omega, by go_num, by
              rw [HS.out, crcBit_cases, if_neg HO.out, HC4.out]⟩
            case measure => simp [intOf]; omega
        · go_wp2
          go_round
          case rel => exact ⟨k + 1, crcBits j c2, by omega, by go_num, rfl, by
            obtain rfl : j = 8 := by omega
            rw [← HC.out, List.drop_eq_getElem_cons (show k < bs.length by omega), HU.out, HC2.out]; rfl⟩
          case measure => simp [intOf]; omega
    · obtain ⟨c2, hc2⟩ : ∃ c2 : BitVec 32, c2 = bnot c1 := ⟨_, rfl⟩
      have e2 : bits .xor .i64 (c1.toNat : Int) 4294967295 = (c2.toNat : Int) := by
        rw [show (4294967295 : Int) = ((4294967295 : Nat) : Int) from rfl, xor64 _ _ (by omega) (by omega), hc2, bnot, ← BitVec.xor_allOnes, BitVec.toNat_xor]; rfl
      have HC2 := Lib.hid hc2
      clear hc2
      have hc2 : c2.toNat < 4294967296 := c2.isLt
      go_wp2
      go_ret
      refine ⟨ret_int ?_, rfl⟩
      rw [HC2.out, crc, crcMore, ← HC.out, List.drop_of_length_le (by omega)]; rfl

set_option maxHeartbeats 1000000 in
theorem refAdler_any (a : Option Addr) (len cap : Nat) (bs : List UInt8) (w : World) (hbs : Sl byteV w a len cap bs) :
    Calls Try.prog 13 #[.slice a len cap] w fun e w' => e = .returned (.int .i64 (adNum (adL (1, 0) bs) : Int)) ∧ w = w' := by
  obtain ⟨hl, hlc, hm, _, hr⟩ := hbs
  have HL := Lib.hid hl
  have hl1 : bs.length ≤ len := by omega
  have hl2 : len ≤ bs.length := by omega
  clear hl
  go_enter Try.func13, Try.ntmps13
  go_wp2
  go_loop [3, 4, 5] (fun c d i => ∃ (k x y : Nat), k ≤ len ∧ i = .int .i64 k ∧ c = .int .i64 (x : Int) ∧ d = .int .i64 (y : Int) ∧ x < 65521 ∧ y < 65521 ∧ adL (x, y) (bs.drop k) = adL (1, 0) bs) (fun _ _ i => len - (intOf i).toNat)
  case atStart => exact ⟨0, 1, 0, by omega, rfl, rfl, rfl, by omega, by omega, rfl⟩
  case round =>
    obtain ⟨k, x, y, hk, rfl, rfl, rfl, hx, hy, hc⟩ := hrel
    have HC := Lib.hid hc
    clear hc
    by_cases hlt : k < len
    · obtain ⟨b, off, rfl, hcell⟩ := hr k (by omega)
      generalize hu : bs[k]'(by omega) = u at hcell
      have HU := Lib.hid hu
      clear hu hr
      have hu := u.toNat_lt
      go_wp2
      go_round
      case rel => exact ⟨k + 1, (x + u.toNat) % 65521, (y + (x + u.toNat) % 65521) % 65521, by omega, by go_num, by go_num, by go_num, by omega, by omega, by
        rw [← HC.out, List.drop_eq_getElem_cons (show k < bs.length by omega), HU.out]; rfl⟩
      case measure => simp [intOf]; omega
    · go_wp2
      go_ret
      refine ⟨ret_int ?_, rfl⟩
      rw [← HC.out, List.drop_of_length_le (by omega)]
      simp [adNum, adL]

theorem infoByte : (Try.prog.info? 5).map (fun i => (i.zero, i.size, i.bytes)) = some (some (.int .u8 0), 1, 1) := by kernel_rfl

set_option maxHeartbeats 1000000 in
theorem refJoin_any (a b : Option Addr) (la ca lb cb : Nat) (xs ys : List UInt8) (w : World) (ha : Sl byteV w a la ca xs) (hb : Sl byteV w b lb cb ys) (hlen : la + lb ≤ 140737488355328) :
    Calls Try.prog 14 #[.slice a la ca, .slice b lb cb] w (Fresh byteV (xs ++ ys) w) := by
  obtain ⟨i0, hi, hz0, hz1, hz2⟩ := info_parts infoByte
  go_enter Try.func14, Try.ntmps14
  have hla := ha.size_eq
  have hlb := hb.size_eq
  go_wp2_with (at_builtin; refine stopHere ?_)
  refine unhide (wpl_append rfl _ _ 24 rfl w.heap.size 5 i0 (.int .u8 0) 1 Try.underlying24 hi hz0 hz1 hz2 rfl byteV (fun _ => rfl) _ 0 [] rfl
    (World.ownsRow_lit w #[] 0 (Nat.le_refl _) (by decide) rfl) a la ca xs rfl (ha.below ((Below.refl _ _).alloc (Nat.le_refl _) _)) (by omega) (by omega) (by simp) ?_)
  intro v1 w1 hown1 hg1 _
  have hb1 : Below w.heap.size w w1 := below_append ((Below.refl _ _).alloc (Nat.le_refl _) _) hg1 (by simp) (World.ownsRow_lit w #[] 0 (Nat.le_refl _) (by decide) rfl)
  have H1 := Lib.hid hown1
  have HG := Lib.hid hg1
  clear hown1 hg1
  go_wp2_with (at_builtin; refine stopHere ?_)
  refine unhide (wpl_append rfl _ _ 24 rfl w.heap.size 5 i0 (.int .u8 0) 1 Try.underlying24 hi hz0 hz1 hz2 rfl byteV (fun _ => rfl) v1 (0 + la) _ rfl
    H1.out b lb cb ys rfl (hb.below hb1) (by omega) (by omega) hb1.size ?_)
  intro v2 w2 hown2 hg2 _
  have hb2 : Below w.heap.size w w2 := below_append hb1 hg2 hb1.size H1.out
  have H2 := Lib.hid hown2
  have HG2 := Lib.hid hg2
  clear hown2 hg2
  go_wp2
  go_ret
  obtain ⟨g, cap, rfl, hsl, hbase⟩ := Sl.of_owns H2.out
  exact ⟨g, _, cap, rfl, by simpa using hsl, hbase, hb2⟩

end Go.Proofs.Ytbghohkjafgceaa
