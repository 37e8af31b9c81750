/-
  Plain law of the Crc: two texts of one length whose bits differ at some place, and nowhere outside thirty-two places in a row, have unlike Crcs.
-/
import Derived.Test.YtpeegklnkecajaaCrcPlain
namespace Go.Proofs.Ytpeegklnkecajaa

def bv1 (b : Bool) : BitVec 32 := if b then 1#32 else 0#32
def bstep (c : BitVec 32) (b : Bool) : BitVec 32 := crcBit (c ^^^ bv1 b)
def fB (c : BitVec 32) (l : List Bool) : BitVec 32 := l.foldl bstep c
def word : List Bool → BitVec 32
  | [] => 0
  | b :: l => bv1 b ^^^ (word l <<< 1)

theorem word_lt : ∀ (l : List Bool), l.length ≤ 32 → (word l).toNat < 2 ^ l.length
  | [], _ => by simp [word]
  | b :: l, h => by
    have ih := word_lt l (by simp only [List.length_cons] at h; omega)
    simp only [List.length_cons] at h ⊢
    have h31 : 2 ^ l.length ≤ 2 ^ 31 := Nat.pow_le_pow_right (by omega) (by omega)
    have e : (word l <<< 1).toNat = 2 * (word l).toNat := by
      rw [BitVec.toNat_shiftLeft, Nat.shiftLeft_eq, Nat.mod_eq_of_lt (by omega)]; omega
    rw [word, BitVec.toNat_xor, e, Nat.pow_succ]
    have hb : (bv1 b).toNat < 2 ^ (l.length + 1) := by
      have : 1 < 2 ^ (l.length + 1) := Nat.one_lt_two_pow (by omega)
      cases b <;> simp [bv1] <;> omega
    have := Nat.xor_lt_two_pow hb (show 2 * (word l).toNat < 2 ^ (l.length + 1) by rw [Nat.pow_succ]; omega)
    rwa [Nat.pow_succ] at this

theorem crcBit_shl (x : BitVec 32) (h : x.toNat < 2 ^ 31) : crcBit (x <<< 1) = x := by
  rw [crcBit_lsb]
  have e : (x <<< 1).toNat = 2 * x.toNat := by
    rw [BitVec.toNat_shiftLeft, Nat.shiftLeft_eq, Nat.mod_eq_of_lt (by omega)]; omega
  have e0 : (x <<< 1).getLsbD 0 = false := by simp
  rw [e0]
  apply BitVec.eq_of_toNat_eq
  simp only [Bool.false_eq_true, if_false, BitVec.xor_zero]
  rw [BitVec.toNat_ushiftRight, e, Nat.shiftRight_eq_div_pow]; omega

theorem crcBits_succ' (n : Nat) (c : BitVec 32) : crcBits (n + 1) c = crcBits n (crcBit c) := by
  induction n with
  | zero => rfl
  | succ n ih => rw [crcBits, ih]; rfl

theorem fB_word : ∀ (l : List Bool) (r : BitVec 32), l.length ≤ 32 → fB r l = crcBits l.length (r ^^^ word l)
  | [], r, _ => by simp [fB, word, crcBits]
  | b :: l, r, h => by
    have ih := fB_word l (bstep r b) (by simp only [List.length_cons] at h; omega)
    have hw := word_lt l (by simp only [List.length_cons] at h; omega)
    have h31 : 2 ^ l.length ≤ 2 ^ 31 := Nat.pow_le_pow_right (by omega) (by simp only [List.length_cons] at h; omega)
    show fB (bstep r b) l = _
    rw [ih, List.length_cons, crcBits_succ', word, ← BitVec.xor_assoc, crcBit_xor, crcBit_shl _ (by omega)]
    rfl

def byteBits (u : UInt8) : List Bool := (List.range 8).map fun i => u.toNat.testBit i

theorem word_byte (u : UInt8) : word (byteBits u) = u32 u := by
  have h : ∀ n : Fin 256, word ((List.range 8).map fun i => n.val.testBit i) = BitVec.ofNat 32 n.val := by decide +kernel
  exact h ⟨u.toNat, u.toNat_lt⟩

theorem crcByte_bits (c : BitVec 32) (u : UInt8) : crcByte c u = fB c (byteBits u) := by
  rw [fB_word _ _ (by simp [byteBits]), word_byte]; simp [byteBits, crcByte]

/-- The bit at a place of a text: the lowest bit of a byte first. -/
def bitAt (bs : List UInt8) (j : Nat) : Bool := (bs.getD (j / 8) 0).toNat.testBit (j % 8)
def bitsL (bs : List UInt8) : List Bool := (List.range (8 * bs.length)).map (bitAt bs)

theorem bitsL_cons (u : UInt8) (bs : List UInt8) : bitsL (u :: bs) = byteBits u ++ bitsL bs := by
  simp only [bitsL, byteBits, List.length_cons]
  rw [show 8 * (bs.length + 1) = 8 + 8 * bs.length by omega, List.range_add, List.map_append, List.map_map]
  congr 1
  apply List.map_congr_left
  intro j _
  simp only [Function.comp, bitAt]
  rw [show (8 + j) / 8 = j / 8 + 1 by omega, show (8 + j) % 8 = j % 8 by omega, List.getD_cons_succ]

theorem crcL_bits (c : BitVec 32) (bs : List UInt8) : crcL c bs = fB c (bitsL bs) := by
  induction bs generalizing c with
  | nil => rfl
  | cons u bs ih =>
    rw [bitsL_cons, fB, List.foldl_append]
    show crcL (crcByte c u) bs = fB (fB c (byteBits u)) (bitsL bs)
    rw [ih, crcByte_bits]

def zipX : List Bool → List Bool → List Bool := List.zipWith (· != ·)

theorem bv1_xor (a b : Bool) : bv1 (a != b) = bv1 a ^^^ bv1 b := by cases a <;> cases b <;> decide

theorem fB_xor : ∀ (l m : List Bool) (r s : BitVec 32), l.length = m.length → fB r l ^^^ fB s m = fB (r ^^^ s) (zipX l m)
  | [], [], r, s, _ => rfl
  | a :: l, b :: m, r, s, h => by
    have ih := fB_xor l m (bstep r a) (bstep s b) (by simpa using h)
    show fB (bstep r a) l ^^^ fB (bstep s b) m = fB (bstep (r ^^^ s) (a != b)) (zipX l m)
    rw [ih]
    congr 1
    simp only [bstep, ← crcBit_xor, bv1_xor]
    congr 1; ac_rfl

theorem crcBit_ne (x : BitVec 32) (h : x ≠ 0) : crcBit x ≠ 0 := by
  intro h0
  apply h
  rw [crcBit_lsb] at h0
  have hx : x.toNat < 2 ^ 32 := x.isLt
  have es : (x >>> 1).toNat = x.toNat / 2 := by rw [BitVec.toNat_ushiftRight, Nat.shiftRight_eq_div_pow]
  have g : x.getLsbD 0 = decide (x.toNat % 2 = 1) := by simp [BitVec.getLsbD, Nat.testBit_zero]
  rw [g] at h0
  by_cases hp : x.toNat % 2 = 1
  · simp only [hp, decide_true, if_true] at h0
    have h1 : x >>> 1 = 0xedb88320#32 := by
      have := congrArg (· ^^^ 0xedb88320#32) h0
      simpa [BitVec.xor_assoc] using this
    have := congrArg BitVec.toNat h1
    rw [es] at this
    simp at this
    omega
  · simp only [hp, decide_false, Bool.false_eq_true, if_false, BitVec.xor_zero] at h0
    have := congrArg BitVec.toNat h0
    rw [es] at this
    apply BitVec.eq_of_toNat_eq
    simp at this ⊢
    omega

theorem crcBits_ne (n : Nat) (x : BitVec 32) (h : x ≠ 0) : crcBits n x ≠ 0 := by
  induction n with
  | zero => exact h
  | succ n ih => exact crcBit_ne _ ih

theorem fB_false (n : Nat) (r : BitVec 32) : fB r (List.replicate n false) = crcBits n r := by
  induction n generalizing r with
  | zero => rfl
  | succ n ih =>
    show fB (bstep r false) (List.replicate n false) = _
    rw [ih, crcBits_succ']; simp [bstep, bv1]

theorem crcBits_zero (n : Nat) : crcBits n 0 = 0 := by
  induction n with
  | zero => rfl
  | succ n ih => rw [crcBits, ih]; decide

theorem word_ne : ∀ (l : List Bool), l.length ≤ 32 → true ∈ l → word l ≠ 0
  | b :: l, h, hm => by
    simp only [List.length_cons] at h
    intro h0
    have hw := word_lt l (by omega)
    have h31 : 2 ^ l.length ≤ 2 ^ 31 := Nat.pow_le_pow_right (by omega) (by omega)
    have hb : bv1 b = word l <<< 1 := by
      have := congrArg (· ^^^ (word l <<< 1)) h0
      simpa [word, BitVec.xor_assoc] using this
    have e : (word l <<< 1).toNat = 2 * (word l).toNat := by
      rw [BitVec.toNat_shiftLeft, Nat.shiftLeft_eq, Nat.mod_eq_of_lt (by omega)]; omega
    have ht := congrArg BitVec.toNat hb
    rw [e] at ht
    cases b with
    | true => simp [bv1] at ht; omega
    | false =>
      have hz : word l = 0 := by
        apply BitVec.eq_of_toNat_eq
        simp [bv1] at ht ⊢; omega
      rcases List.mem_cons.1 hm with h1 | h1
      · cases h1
      · exact word_ne l (by omega) h1 hz

/-- The law: 'S j' says whether the bits at place j differ. -/
theorem crc_flip (b c : List UInt8) (hl : c.length = b.length) (at_ : Nat) (S : Nat → Bool) (hd : ∀ j, j < 8 * b.length → bitAt c j = (bitAt b j != S j))
    (hlo : ∀ j, j < at_ → S j = false) (hhi : ∀ j, at_ + 32 ≤ j → S j = false) (k : Nat) (hk : k < 8 * b.length) (hs : S k = true) : crc b ≠ crc c := by
  intro h
  have hx : crcL (bnot 0) b ^^^ crcL (bnot 0) c = 0 := by
    have : crcL (bnot 0) b = crcL (bnot 0) c := by
      have h' : bnot (crcL (bnot 0) b) = bnot (crcL (bnot 0) c) := h
      simpa [bnot] using h'
    rw [this, BitVec.xor_self]; rfl
  rw [crcL_bits, crcL_bits, fB_xor _ _ _ _ (by simp [bitsL, hl]), BitVec.xor_self] at hx
  have hz : zipX (bitsL b) (bitsL c) = (List.range (8 * b.length)).map S := by
    apply List.ext_getElem
    · simp [zipX, bitsL, hl]
    · intro i h1 h2
      simp only [List.length_map, List.length_range] at h2
      simp only [zipX, bitsL, List.getElem_zipWith, List.getElem_map, List.getElem_range]
      rw [hd i h2]
      cases bitAt b i <;> cases S i <;> rfl
  rw [hz] at hx
  have hak : at_ ≤ k := by
    rcases Nat.lt_or_ge k at_ with h1 | h1
    · rw [hlo k h1] at hs; cases hs
    · exact h1
  have hka : k < at_ + 32 := by
    rcases Nat.lt_or_ge k (at_ + 32) with h1 | h1
    · exact h1
    · rw [hhi k h1] at hs; cases hs
  obtain ⟨m, hm⟩ : ∃ m, min (8 * b.length) (at_ + 32) = at_ + m := ⟨min (8 * b.length) (at_ + 32) - at_, by omega⟩
  have hm32 : m ≤ 32 := by omega
  have hsplit : (List.range (8 * b.length)).map S = List.replicate at_ false ++ ((List.range m).map (fun i => S (at_ + i)) ++ List.replicate (8 * b.length - (at_ + m)) false) := by
    rw [show 8 * b.length = at_ + (m + (8 * b.length - (at_ + m))) by omega, List.range_add, List.range_add]
    simp only [List.map_append, List.map_map]
    congr 1
    · rw [List.eq_replicate_iff]
      refine ⟨by simp, fun x hx => ?_⟩
      obtain ⟨j, hj, rfl⟩ := List.mem_map.1 hx
      exact hlo j (List.mem_range.1 hj)
    · congr 1
      rw [List.eq_replicate_iff]
      refine ⟨by simp; omega, fun x hx => ?_⟩
      obtain ⟨j, hj, rfl⟩ := List.mem_map.1 hx
      simp only [Function.comp, List.mem_range] at hj ⊢
      exact hhi _ (by omega)
  rw [hsplit, fB, List.foldl_append, List.foldl_append] at hx
  change fB (fB (fB 0 (List.replicate at_ false)) ((List.range m).map (fun i => S (at_ + i)))) (List.replicate _ false) = 0 at hx
  rw [fB_false, fB_false, crcBits_zero, fB_word _ _ (by simp; omega)] at hx
  refine crcBits_ne _ _ (crcBits_ne _ _ ?_) hx
  rw [show (0 : BitVec 32) ^^^ word ((List.range m).map fun i => S (at_ + i)) = word ((List.range m).map fun i => S (at_ + i)) from BitVec.zero_xor]
  refine word_ne _ (by simp; omega) ?_
  exact List.mem_map.2 ⟨k - at_, List.mem_range.2 (by omega), by rw [show at_ + (k - at_) = k by omega]; exact hs⟩

/-- One bit turned. -/
theorem bitAt_set (c : List UInt8) (p : Nat) (hp : p / 8 < c.length) (j : Nat) :
    bitAt (c.set (p / 8) (c.getD (p / 8) 0 ^^^ (1 <<< UInt8.ofNat (p % 8)))) j = (bitAt c j != decide (j = p)) := by
  have h1 : ∀ r : Fin 8, ∀ i : Fin 8, (1 <<< UInt8.ofNat r.val : UInt8).toNat.testBit i.val = decide (i.val = r.val) := by decide
  have h2 := h1 ⟨p % 8, Nat.mod_lt _ (by omega)⟩ ⟨j % 8, Nat.mod_lt _ (by omega)⟩
  simp only at h2
  simp only [bitAt]
  by_cases hj : j / 8 = p / 8
  · have e : (c.set (p / 8) (c.getD (p / 8) 0 ^^^ (1 <<< UInt8.ofNat (p % 8)))).getD (j / 8) 0 = c.getD (p / 8) 0 ^^^ (1 <<< UInt8.ofNat (p % 8)) := by
      rw [hj]; simp [List.getD, hp]
    rw [e, UInt8.toNat_xor, Nat.testBit_xor, h2, hj]
    have : decide (j % 8 = p % 8) = decide (j = p) := by
      apply decide_eq_decide.2; omega
    rw [this]
  · have e : (c.set (p / 8) (c.getD (p / 8) 0 ^^^ (1 <<< UInt8.ofNat (p % 8)))).getD (j / 8) 0 = c.getD (j / 8) 0 := by
      simp [List.getD, List.getElem?_set_ne (Ne.symm hj)]
    rw [e]
    have : decide (j = p) = false := by
      apply decide_eq_false; intro h; exact hj (by rw [h])
    rw [this]; simp

end Go.Proofs.Ytpeegklnkecajaa
