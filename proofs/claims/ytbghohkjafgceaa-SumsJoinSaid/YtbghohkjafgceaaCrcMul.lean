/-
  Plain law of the Crc: the product of two registers modulo the sum's polynomial, and what a text behind another one does.
-/
import Derived.Test.YtbghohkjafgceaaCrcPlain
namespace Go.Proofs.Ytbghohkjafgceaa

/-- The sum of the first k terms of a product. -/
def tsum (a b : BitVec 32) : Nat → BitVec 32
  | 0 => 0#32
  | k + 1 => tsum a b k ^^^ (if a.getLsbD (31 - k) then crcBits k b else 0#32)
def mul (a b : BitVec 32) : BitVec 32 := tsum a b 32

theorem crcBits_xor (n : Nat) (a b : BitVec 32) : crcBits n (a ^^^ b) = crcBits n a ^^^ crcBits n b := by
  induction n with
  | zero => rfl
  | succ n ih => simp only [crcBits, ih, crcBit_xor]
theorem crcBits_step (n : Nat) (c : BitVec 32) : crcBits n (crcBit c) = crcBit (crcBits n c) := by
  induction n with
  | zero => rfl
  | succ n ih => simp only [crcBits, ih]
theorem crcBit_0 : crcBit 0#32 = 0#32 := by decide

theorem tsum_add (a b c : BitVec 32) (k : Nat) : tsum a (b ^^^ c) k = tsum a b k ^^^ tsum a c k := by
  induction k with
  | zero => simp [tsum]
  | succ k ih =>
    simp only [tsum, ih, crcBits_xor]
    split
    · ac_rfl
    · simp
theorem tsum_addl (a b c : BitVec 32) (k : Nat) : tsum (a ^^^ b) c k = tsum a c k ^^^ tsum b c k := by
  induction k with
  | zero => simp [tsum]
  | succ k ih =>
    simp only [tsum, ih, BitVec.getLsbD_xor]
    generalize crcBits k c = d
    generalize tsum a c k = x
    generalize tsum b c k = y
    cases a.getLsbD (31 - k) <;> cases b.getLsbD (31 - k) <;> simp only [Bool.xor_true, Bool.xor_false, Bool.not_true, Bool.not_false, if_true, if_false, Bool.false_eq_true, BitVec.xor_zero]
    · ac_rfl
    · ac_rfl
    · rw [show x ^^^ d ^^^ (y ^^^ d) = x ^^^ y ^^^ (d ^^^ d) from by ac_rfl]; simp
theorem tsum_step (a b : BitVec 32) (k : Nat) : tsum a (crcBit b) k = crcBit (tsum a b k) := by
  induction k with
  | zero => exact crcBit_0.symm
  | succ k ih =>
    simp only [tsum, ih, crcBit_xor, crcBits_step]
    split
    · rfl
    · rw [crcBit_0]

theorem mul_add (a b c : BitVec 32) : mul a (b ^^^ c) = mul a b ^^^ mul a c := tsum_add a b c 32
theorem mul_addl (a b c : BitVec 32) : mul (a ^^^ b) c = mul a c ^^^ mul b c := tsum_addl a b c 32
theorem mul_step (a b : BitVec 32) : mul a (crcBit b) = crcBit (mul a b) := tsum_step a b 32

def one : BitVec 32 := 0x80000000#32

/-- Each register is a sum of steps of 1. -/
theorem sum_one (a : BitVec 32) : mul a one = a := by
  have h : ∀ i : Fin 32, crcBits i.val one = one >>> i.val := by decide
  have g : ∀ k, k ≤ 32 → tsum a one k = (a >>> (32 - k)) <<< (32 - k) := by
    intro k
    induction k with
    | zero => intro _; simp [tsum, BitVec.shiftLeft_eq_zero]
    | succ k ih =>
      intro hk
      rw [tsum, ih (by omega), h ⟨k, by omega⟩]
      apply BitVec.eq_of_getLsbD_eq
      intro i hi
      have e1 : (one >>> k).getLsbD i = decide (i = 31 - k) := by
        simp only [one, BitVec.getLsbD_ushiftRight]
        have q : ∀ j : Nat, (0x80000000#32 : BitVec 32).getLsbD j = decide (j = 31) := by
          intro j
          rcases Nat.lt_or_ge j 32 with hj | hj
          · have : ∀ j : Fin 32, (0x80000000#32 : BitVec 32).getLsbD j.val = decide (j.val = 31) := by decide
            exact this ⟨j, hj⟩
          · rw [BitVec.getLsbD_of_ge _ _ hj]; symm; apply decide_eq_false; omega
        rw [q]; apply decide_eq_decide.2; omega
      simp only [BitVec.getLsbD_xor, BitVec.getLsbD_shiftLeft, BitVec.getLsbD_ushiftRight, hi, decide_true, Bool.true_and]
      by_cases c1 : i < 32 - k
      · by_cases c2 : i = 31 - k
        · have c3 : ¬ i < 32 - (k + 1) := by omega
          subst c2
          simp only [c1, c3, decide_true, decide_false, Bool.not_true, Bool.not_false, Bool.false_and, Bool.true_and, Bool.false_xor]
          rw [show 32 - (k + 1) + (31 - k - (32 - (k + 1))) = 31 - k by omega]
          split
          · rename_i hb; rw [hb]; simpa using e1
          · rename_i hb; simp only [Bool.not_eq_true] at hb; rw [hb]; simp
        · have c3 : i < 32 - (k + 1) := by omega
          simp only [c1, c3, decide_true, Bool.not_true, Bool.false_and, Bool.false_xor]
          split
          · rw [e1]; simp [c2]
          · simp
      · have c2 : ¬ i = 31 - k := by omega
        have c3 : ¬ i < 32 - (k + 1) := by omega
        simp only [c1, c3, decide_false, Bool.not_false, Bool.true_and]
        rw [show 32 - k + (i - (32 - k)) = i by omega, show 32 - (k + 1) + (i - (32 - (k + 1))) = i by omega]
        split
        · rw [e1]; simp [c2]
        · simp
  have := g 32 (by omega)
  simpa [mul] using this

/-- Two maps that respect sums and steps and agree at 1 agree. -/
theorem uniq (F G : BitVec 32 → BitVec 32) (f1 : ∀ x y, F (x ^^^ y) = F x ^^^ F y) (g1 : ∀ x y, G (x ^^^ y) = G x ^^^ G y)
    (f2 : ∀ x, F (crcBit x) = crcBit (F x)) (g2 : ∀ x, G (crcBit x) = crcBit (G x)) (h : F one = G one) (a : BitVec 32) : F a = G a := by
  have f0 : F 0#32 = 0#32 := by have := f1 0#32 0#32; simpa using this
  have g0 : G 0#32 = 0#32 := by have := g1 0#32 0#32; simpa using this
  have hs : ∀ k, F (crcBits k one) = G (crcBits k one) := by
    intro k
    induction k with
    | zero => exact h
    | succ k ih => rw [crcBits, f2, g2, ih]
  have ht : ∀ k, F (tsum a one k) = G (tsum a one k) := by
    intro k
    induction k with
    | zero => rw [tsum, f0, g0]
    | succ k ih =>
      rw [tsum, f1, g1, ih]
      split
      · rw [hs]
      · rw [f0, g0]
  have := ht 32
  rwa [show tsum a one 32 = a from sum_one a] at this

theorem one_mul (b : BitVec 32) : mul one b = b :=
  uniq (mul one) id (mul_add one) (fun _ _ => rfl) (mul_step one) (fun _ => rfl) (sum_one one) b
theorem step_mul (a b : BitVec 32) : mul (crcBit a) b = crcBit (mul a b) :=
  uniq (mul (crcBit a)) (fun b => crcBit (mul a b)) (mul_add _) (fun x y => by simp only [mul_add, crcBit_xor]) (mul_step _) (fun x => by simp only [mul_step]) (by simp only [sum_one]) b
theorem mul_assoc (a b c : BitVec 32) : mul (mul a b) c = mul a (mul b c) :=
  uniq (mul (mul a b)) (fun c => mul a (mul b c)) (mul_add _) (fun x y => by simp only [mul_add]) (mul_step _) (fun x => by simp only [mul_step]) (by simp only [sum_one]) c
theorem mul_comm (a b : BitVec 32) : mul a b = mul b a :=
  uniq (mul a) (fun b => mul b a) (mul_add a) (fun x y => mul_addl x y a) (mul_step a) (fun x => step_mul x a) (by rw [sum_one]; exact (one_mul a).symm) b

/-- x^8: one byte. -/
theorem x8_mul (b : BitVec 32) : mul 0x800000#32 b = crcBits 8 b :=
  uniq (mul 0x800000#32) (crcBits 8) (mul_add _) (crcBits_xor 8) (mul_step _) (crcBits_step 8) (by rw [sum_one]; decide) b

def pw (x : BitVec 32) : Nat → BitVec 32 → BitVec 32
  | 0, c => c
  | n + 1, c => mul x (pw x n c)
theorem pw_sq (x : BitVec 32) (m : Nat) (c : BitVec 32) : pw (mul x x) m c = pw x (2 * m) c := by
  induction m with
  | zero => rfl
  | succ m ih => rw [show 2 * (m + 1) = 2 * m + 1 + 1 by omega]; simp only [pw, ih, mul_assoc]
theorem pw_comm (p x : BitVec 32) (n : Nat) (c : BitVec 32) : mul p (pw x n c) = pw x n (mul p c) := by
  induction n with
  | zero => rfl
  | succ n ih => simp only [pw]; rw [← ih, ← mul_assoc, mul_comm p x, mul_assoc]
theorem crcBits_add (m n : Nat) (c : BitVec 32) : crcBits (m + n) c = crcBits m (crcBits n c) := by
  induction m with
  | zero => simp [crcBits]
  | succ m ih => rw [show m + 1 + n = m + n + 1 by omega]; simp only [crcBits, ih]
theorem pw_x8 (n : Nat) (c : BitVec 32) : pw 0x800000#32 n c = crcBits (8 * n) c := by
  induction n with
  | zero => rfl
  | succ n ih => simp only [pw]; rw [ih, x8_mul, show 8 * (n + 1) = 8 + 8 * n by omega, crcBits_add]

theorem crcL_aff (s t : BitVec 32) (ys : List UInt8) : crcL (s ^^^ t) ys = crcL s ys ^^^ crcBits (8 * ys.length) t := by
  induction ys generalizing s t with
  | nil => rfl
  | cons y ys ih =>
    show crcL (crcByte (s ^^^ t) y) ys = crcL (crcByte s y) ys ^^^ _
    have e : crcByte (s ^^^ t) y = crcByte s y ^^^ crcBits 8 t := by
      simp only [crcByte, ← crcBits_xor]; congr 1; ac_rfl
    rw [e, ih, List.length_cons, show 8 * (ys.length + 1) = 8 * ys.length + 8 by omega, crcBits_add]

/-- Two texts' sums, and the second one's length. -/
theorem crc_join (xs ys : List UInt8) : crc (xs ++ ys) = crcBits (8 * ys.length) (crc xs) ^^^ crc ys := by
  show crcMore 0 (xs ++ ys) = _
  rw [crcMore_append]
  show bnot (crcL (bnot (crc xs)) ys) = crcBits _ (crc xs) ^^^ bnot (crcL (bnot 0) ys)
  generalize crc xs = x
  have e : bnot x = bnot 0 ^^^ x := by simp only [bnot, ← BitVec.xor_allOnes]; simp [BitVec.xor_comm]
  rw [e, crcL_aff]
  simp only [bnot, ← BitVec.xor_allOnes]
  ac_rfl

end Go.Proofs.Ytbghohkjafgceaa
