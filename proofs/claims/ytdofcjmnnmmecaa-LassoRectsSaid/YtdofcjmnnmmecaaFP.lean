/-
  Whole numbers as floats: every step with them is exact. No program.
-/
import Derived.Test.YtdofcjmnnmmecaaHs
import Derived.Laws.FloatArith
namespace Go.Proofs.Ytdofcjmnnmmecaa
open Go.RowKit Ieee
/-- These bits stand for this whole number. -/
def Rep (b : Nat) (n : Int) : Prop := ∃ (s : Bool) (m k : Nat), Ieee.double.read b = .number s m (-(k : Int)) ∧ (if s then -(m : Int) else (m : Int)) = n * 2 ^ k
theorem signed_eq (s : Bool) (m u : Nat) : signed s m u = (if s then -(m : Int) else (m : Int)) * 2 ^ u := by
  unfold signed
  cases s
  · simp [Nat.shiftLeft_eq]
  · simp [Nat.shiftLeft_eq, Int.neg_mul]
theorem log2_mul_pow (a K : Nat) (h : a ≠ 0) : (a * 2 ^ K).log2 = a.log2 + K := by
  have h2 : a * 2 ^ K ≠ 0 := Nat.mul_ne_zero h (by have := Nat.two_pow_pos K; omega)
  have l1 : 2 ^ a.log2 ≤ a := Nat.log2_self_le h
  have l2 : a < 2 ^ (a.log2 + 1) := Nat.lt_log2_self
  have e1 : a.log2 + K ≤ (a * 2 ^ K).log2 := (Nat.le_log2 h2).2 (by rw [Nat.pow_add]; exact Nat.mul_le_mul_right _ l1)
  have e2 : (a * 2 ^ K).log2 < a.log2 + K + 1 := (Nat.log2_lt h2).2 (by rw [show a.log2 + K + 1 = a.log2 + 1 + K by omega, Nat.pow_add _ (a.log2 + 1)]; exact Nat.mul_lt_mul_of_pos_right l2 (Nat.two_pow_pos K))
  omega
theorem cut_zero (s : Bool) (n : Nat) : Toward.even.cut s n 0 = n := by
  unfold Toward.cut
  simp [Nat.mod_one]
theorem cut_pow (w : Toward) (hw : w = .even ∨ w = .zero) (s : Bool) (a d e : Nat) (h : d ≤ (a * 2 ^ d * 2 ^ e).log2 + 2 ∨ a * 2 ^ e = 0) : w.cut s (a * 2 ^ d * 2 ^ e) d = a * 2 ^ e := by
  by_cases h0 : a * 2 ^ e = 0
  · have : a * 2 ^ d * 2 ^ e = 0 := by rw [Nat.mul_right_comm, h0, Nat.zero_mul]
    rw [this, h0]
    unfold Toward.cut
    rcases hw with rfl | rfl <;> simp
  · have h := h.resolve_right h0
    unfold Toward.cut
    rw [Nat.min_eq_left h, Nat.shiftLeft_eq, Nat.one_mul]
    have hp := Nat.two_pow_pos d
    have e1 : a * 2 ^ d * 2 ^ e = a * 2 ^ e * 2 ^ d := Nat.mul_right_comm _ _ _
    have e2 : a * 2 ^ d * 2 ^ e / 2 ^ d = a * 2 ^ e := by rw [e1, Nat.mul_div_cancel _ hp]
    have e3 : a * 2 ^ d * 2 ^ e % 2 ^ d = 0 := by rw [e1]; exact Nat.mul_mod_left _ _
    simp only [e2, e3]
    rcases hw with rfl | rfl
    · have : ¬ (2 ^ d == 0) = true := by simp
      simp
    · rfl
theorem read_word (s : Bool) (q M : Nat) (hq : q ≤ 1074) (h1 : 4503599627370496 ≤ M) (h2 : M < 9007199254740992) : Ieee.double.read (Ieee.double.word s ((1074 - q) * 4503599627370496 + M)) = .number s M (-(q : Int)) := by
  unfold Format.read Format.word
  have hw : Ieee.double.signWeight = 9223372036854775808 := rfl
  have hb : Ieee.double.binade = 4503599627370496 := rfl
  have hi : Ieee.double.infRung = 9218868437227405312 := rfl
  have hl : Ieee.double.leastPlace = -1074 := rfl
  simp only [hw, hb, hi, hl]
  have hr : (1074 - q) * 4503599627370496 + M < 9218868437227405312 := by omega
  have hr2 : 4503599627370496 ≤ (1074 - q) * 4503599627370496 + M := by omega
  obtain ⟨r, hre⟩ : ∃ r, r = (1074 - q) * 4503599627370496 + M := ⟨_, rfl⟩
  have hd : r / 4503599627370496 = 1074 - q + 1 := by omega
  have hm : r % 4503599627370496 = M - 4503599627370496 := by omega
  rw [← hre] at hr hr2 ⊢
  cases s
  · have e1 : r % 9223372036854775808 = r := Nat.mod_eq_of_lt (by omega)
    have e2 : r / 9223372036854775808 = 0 := Nat.div_eq_of_lt (by omega)
    simp only [Bool.false_eq_true, if_false, e1, e2]
    rw [if_neg (by omega), if_pos hr, hd, hm]
    simp only [Datum.number.injEq]
    refine ⟨by decide, by omega, by omega⟩
  · have e1 : (9223372036854775808 + r) % 9223372036854775808 = r := by omega
    have e2 : (9223372036854775808 + r) / 9223372036854775808 = 1 := by omega
    simp only [if_true, e1, e2]
    rw [if_neg (by omega), if_pos hr, hd, hm]
    simp only [Datum.number.injEq]
    refine ⟨by decide, by omega, by omega⟩
theorem read_zero (s : Bool) : Ieee.double.read (Ieee.double.word s 0) = .number s 0 (-((1074 : Nat) : Int)) := by cases s <;> decide
theorem nearest_exact (s : Bool) (a K : Nat) (h0 : a ≠ 0) (ha : a < 9007199254740992) : Ieee.double.nearest s (a * 2 ^ K) (-(K : Int)) = Ieee.double.word s ((1074 - (52 - a.log2)) * 4503599627370496 + a * 2 ^ (52 - a.log2)) := by
  have he : a.log2 ≤ 52 := by
    have := (Nat.log2_lt (k := 53) h0).2 ha
    omega
  have h2 : a * 2 ^ K ≠ 0 := Nat.mul_ne_zero h0 (by have := Nat.two_pow_pos K; omega)
  have hb : Ieee.double.binade = 4503599627370496 := rfl
  have hi : Ieee.double.infRung = 9218868437227405312 := rfl
  have hl : Ieee.double.leastPlace = -1074 := rfl
  have hf : (Ieee.double.fractionBits : Int) = 52 := rfl
  unfold Format.nearest
  rw [if_neg h2, log2_mul_pow a K h0]
  simp only [hb, hi, hl, hf]
  obtain ⟨q, hq⟩ : ∃ q, q = 52 - a.log2 := ⟨_, rfl⟩
  have hlast : max (-(K : Int) + ((a.log2 + K : Nat) : Int) - 52) (-1074) = -(q : Int) := by omega
  rw [hlast, ← hq]
  have l1 : 2 ^ a.log2 ≤ a := Nat.log2_self_le h0
  have l2 : a < 2 ^ (a.log2 + 1) := Nat.lt_log2_self
  have hM1 : 4503599627370496 ≤ a * 2 ^ q := by
    have : 2 ^ a.log2 * 2 ^ q = 4503599627370496 := by rw [← Nat.pow_add, show a.log2 + q = 52 by omega]
    rw [← this]; exact Nat.mul_le_mul_right _ l1
  have hM2 : a * 2 ^ q < 9007199254740992 := by
    have : 2 ^ (a.log2 + 1) * 2 ^ q = 9007199254740992 := by rw [← Nat.pow_add, show a.log2 + 1 + q = 53 by omega]
    rw [← this]; exact Nat.mul_lt_mul_of_pos_right l2 (Nat.two_pow_pos q)
  have hkept : Toward.even.cut s ((a * 2 ^ K) <<< (-(K : Int) - -(q : Int)).toNat) (-(q : Int) - -(K : Int)).toNat = a * 2 ^ q := by
    by_cases hKq : K ≤ q
    · rw [show (-(K : Int) - -(q : Int)).toNat = q - K by omega, show (-(q : Int) - -(K : Int)).toNat = 0 by omega, cut_zero, Nat.shiftLeft_eq, Nat.mul_assoc, ← Nat.pow_add, show K + (q - K) = q by omega]
    · rw [show (-(K : Int) - -(q : Int)).toNat = 0 by omega, show (-(q : Int) - -(K : Int)).toNat = K - q by omega, Nat.shiftLeft_eq, Nat.pow_zero, Nat.mul_one]
      have e : a * 2 ^ K = a * 2 ^ (K - q) * 2 ^ q := by rw [Nat.mul_assoc, ← Nat.pow_add, show K - q + q = K by omega]
      rw [e]
      exact cut_pow .even (.inl rfl) s a (K - q) q (.inl (by rw [← e, log2_mul_pow a K h0]; omega))
  rw [hkept, show (-(q : Int) - -1074).toNat = 1074 - q by omega]
  obtain ⟨M, hM⟩ : ∃ M, M = a * 2 ^ q := ⟨_, rfl⟩
  rw [← hM] at hM1 hM2 ⊢
  rw [Nat.min_eq_left (by omega)]
theorem rep_write (s : Bool) (N : Int) (K : Nat) (hs : N ≠ 0 → s = decide (N < 0)) (hN : N.natAbs < 9007199254740992) : Rep (Ieee.double.write (.number s (N.natAbs * 2 ^ K) (-(K : Int)))) N := by
  show Rep (Ieee.double.nearest s (N.natAbs * 2 ^ K) (-(K : Int))) N
  by_cases h0 : N = 0
  · subst h0
    refine ⟨s, 0, 1074, ?_, by rw [Int.zero_mul]; cases s <;> rfl⟩
    rw [show (0 : Int).natAbs * 2 ^ K = 0 by simp]
    have : Ieee.double.nearest s 0 (-(K : Int)) = Ieee.double.word s 0 := if_pos rfl
    rw [this]
    exact read_zero s
  · have ha : N.natAbs ≠ 0 := by omega
    have he : N.natAbs.log2 ≤ 52 := by have := (Nat.log2_lt (k := 53) ha).2 hN; omega
    have l1 : 2 ^ N.natAbs.log2 ≤ N.natAbs := Nat.log2_self_le ha
    have l2 : N.natAbs < 2 ^ (N.natAbs.log2 + 1) := Nat.lt_log2_self
    obtain ⟨q, hq⟩ : ∃ q, q = 52 - N.natAbs.log2 := ⟨_, rfl⟩
    have hM1 : 4503599627370496 ≤ N.natAbs * 2 ^ q := by
      have : 2 ^ N.natAbs.log2 * 2 ^ q = 4503599627370496 := by rw [← Nat.pow_add, show N.natAbs.log2 + q = 52 by omega]
      rw [← this]; exact Nat.mul_le_mul_right _ l1
    have hM2 : N.natAbs * 2 ^ q < 9007199254740992 := by
      have : 2 ^ (N.natAbs.log2 + 1) * 2 ^ q = 9007199254740992 := by rw [← Nat.pow_add, show N.natAbs.log2 + 1 + q = 53 by omega]
      rw [← this]; exact Nat.mul_lt_mul_of_pos_right l2 (Nat.two_pow_pos q)
    rw [nearest_exact s _ K ha hN, ← hq]
    refine ⟨s, N.natAbs * 2 ^ q, q, read_word s q _ (by omega) hM1 hM2, ?_⟩
    rw [hs h0]
    by_cases hneg : N < 0
    · rw [decide_eq_true hneg, if_pos rfl, Int.natCast_mul, Int.natCast_pow, show ((N.natAbs : Nat) : Int) = -N by omega, Int.neg_mul, Int.neg_neg]; rfl
    · rw [decide_eq_false hneg, if_neg (by simp), Int.natCast_mul, Int.natCast_pow, show ((N.natAbs : Nat) : Int) = N by omega]; rfl
theorem Rep.sign {n : Int} {s : Bool} {m k : Nat} (h : (if s then -(m : Int) else (m : Int)) = n * 2 ^ k) (hn : n ≠ 0) : s = decide (n < 0) ∧ m = n.natAbs * 2 ^ k := by
  have hp : (0 : Int) < 2 ^ k := Int.pow_pos (by decide)
  have hm : (m : Int) = (n * 2 ^ k).natAbs := by cases s <;> simp at h <;> omega
  have hm' : m = n.natAbs * 2 ^ k := by
    have : m = (n * 2 ^ k).natAbs := by omega
    rw [this, Int.natAbs_mul, Int.natAbs_pow]; rfl
  refine ⟨?_, hm'⟩
  rcases Int.lt_or_lt_of_ne hn with h1 | h1
  · have : n * 2 ^ k < 0 := Int.mul_neg_of_neg_of_pos h1 hp
    rw [decide_eq_true h1]
    cases s
    · simp at h; omega
    · rfl
  · have : 0 < n * 2 ^ k := Int.mul_pos h1 hp
    rw [decide_eq_false (by omega)]
    cases s
    · rfl
    · simp at h; omega
def Sm (n : Int) : Prop := n.natAbs < 9007199254740992
theorem rep_int (n : Int) (h : Sm n) : Rep (FloatKind.nearest .f64 n) n := by
  have := rep_write (decide (n < 0)) n 0 (fun _ => rfl) h
  rw [Nat.pow_zero, Nat.mul_one] at this
  exact this
theorem lift_pow (n : Int) (k K : Nat) (h : k ≤ K) : n * 2 ^ k * 2 ^ (K - k) = n * 2 ^ K := by
  rw [Int.mul_assoc, ← Int.pow_add, show k + (K - k) = K by omega]
theorem sum_write (s t : Bool) (mx my k l : Nat) (n m : Int) (hx : (if s then -(mx : Int) else (mx : Int)) = n * 2 ^ k) (hy : (if t then -(my : Int) else (my : Int)) = m * 2 ^ l) (h : Sm (n + m)) :
    ∃ r, ((Datum.sum (.number s mx (-(k : Int))) (.number t my (-(l : Int)))).map Ieee.double.write) = some r ∧ Rep r (n + m) := by
  obtain ⟨K, hK⟩ : ∃ K, K = max k l := ⟨_, rfl⟩
  have hb : min (-(k : Int)) (-(l : Int)) = -(K : Int) := by omega
  have h1 : (-(k : Int) - -(K : Int)).toNat = K - k := by omega
  have h2 : (-(l : Int) - -(K : Int)).toNat = K - l := by omega
  have htot : signed s mx (K - k) + signed t my (K - l) = (n + m) * 2 ^ K := by
    rw [signed_eq, signed_eq, hx, hy, lift_pow n k K (by omega), lift_pow m l K (by omega), ← Int.add_mul]
  have hp : (0 : Int) < 2 ^ K := Int.pow_pos (by decide)
  have hab : ((n + m) * 2 ^ K).natAbs = (n + m).natAbs * 2 ^ K := by rw [Int.natAbs_mul, Int.natAbs_pow]; rfl
  unfold Datum.sum
  simp only [hb, h1, h2, htot, Option.map_some]
  refine ⟨_, rfl, ?_⟩
  rw [hab]
  refine rep_write _ (n + m) K (fun hne => ?_) h
  have hne2 : (n + m) * 2 ^ K ≠ 0 := Int.mul_ne_zero hne (by omega)
  rw [if_neg hne2]
  refine decide_eq_decide.2 ?_
  rcases Int.lt_or_lt_of_ne hne with h3 | h3
  · have := Int.mul_neg_of_neg_of_pos h3 hp
    omega
  · have := Int.mul_pos h3 hp
    omega
theorem rep_add {x y : Nat} {n m : Int} (hx : Rep x n) (hy : Rep y m) (h : Sm (n + m)) : ∃ r, Ieee.double.add x y = some r ∧ Rep r (n + m) := by
  obtain ⟨s, mx, k, hx1, hx2⟩ := hx
  obtain ⟨t, my, l, hy1, hy2⟩ := hy
  unfold Format.add
  rw [hx1, hy1]
  exact sum_write s t mx my k l n m hx2 hy2 h
theorem rep_sub {x y : Nat} {n m : Int} (hx : Rep x n) (hy : Rep y m) (h : Sm (n - m)) : ∃ r, Ieee.double.sub x y = some r ∧ Rep r (n - m) := by
  obtain ⟨s, mx, k, hx1, hx2⟩ := hx
  obtain ⟨t, my, l, hy1, hy2⟩ := hy
  unfold Format.sub
  rw [hx1, hy1]
  have hy3 : (if (!t) then -(my : Int) else (my : Int)) = -m * 2 ^ l := by
    rw [Int.neg_mul, ← hy2]
    cases t <;> simp
  have := sum_write s (!t) mx my k l n (-m) hx2 hy3 (by rw [← Int.sub_eq_add_neg]; exact h)
  rw [← Int.sub_eq_add_neg] at this
  exact this
theorem rep_mul {x y : Nat} {n m : Int} (hx : Rep x n) (hy : Rep y m) (h : Sm (n * m)) : ∃ r, Ieee.double.mul x y = some r ∧ Rep r (n * m) := by
  obtain ⟨s, mx, k, hx1, hx2⟩ := hx
  obtain ⟨t, my, l, hy1, hy2⟩ := hy
  unfold Format.mul
  rw [hx1, hy1]
  unfold Datum.product
  simp only [Option.map_some]
  refine ⟨_, rfl, ?_⟩
  have hpl : (-(k : Int) + -(l : Int)) = -((k + l : Nat) : Int) := by omega
  have hmag : mx * my = (n * m).natAbs * 2 ^ (k + l) := by
    have e1 : mx = (n * 2 ^ k).natAbs := by rw [← hx2]; cases s <;> simp
    have e2 : my = (m * 2 ^ l).natAbs := by rw [← hy2]; cases t <;> simp
    rw [e1, e2, Int.natAbs_mul, Int.natAbs_mul, Int.natAbs_mul, Int.natAbs_pow, Int.natAbs_pow, Nat.pow_add]
    show n.natAbs * 2 ^ k * (m.natAbs * 2 ^ l) = _
    rw [Nat.mul_mul_mul_comm]
  rw [hpl, hmag]
  refine rep_write _ (n * m) (k + l) (fun hne => ?_) h
  have hn : n ≠ 0 := fun h => hne (by rw [h, Int.zero_mul])
  have hm : m ≠ 0 := fun h => hne (by rw [h, Int.mul_zero])
  rw [(Rep.sign hx2 hn).1, (Rep.sign hy2 hm).1]
  rcases Int.lt_or_lt_of_ne hn with h1 | h1 <;> rcases Int.lt_or_lt_of_ne hm with h2 | h2
  · have := Int.mul_pos_of_neg_of_neg h1 h2
    rw [decide_eq_true h1, decide_eq_true h2, decide_eq_false (by omega)]; rfl
  · have := Int.mul_neg_of_neg_of_pos h1 h2
    rw [decide_eq_true h1, decide_eq_false (show ¬ m < 0 by omega), decide_eq_true this]; rfl
  · have := Int.mul_neg_of_pos_of_neg h1 h2
    rw [decide_eq_false (show ¬ n < 0 by omega), decide_eq_true h2, decide_eq_true this]; rfl
  · have := Int.mul_pos h1 h2
    rw [decide_eq_false (show ¬ n < 0 by omega), decide_eq_false (show ¬ m < 0 by omega), decide_eq_false (by omega)]; rfl
theorem rep_order {x y : Nat} {n m : Int} (hx : Rep x n) (hy : Rep y m) : Ieee.double.order x y = some (compare n m) := by
  obtain ⟨s, mx, k, hx1, hx2⟩ := hx
  obtain ⟨t, my, l, hy1, hy2⟩ := hy
  unfold Format.order
  rw [hx1, hy1]
  obtain ⟨K, hK⟩ : ∃ K, K = max k l := ⟨_, rfl⟩
  have hb : min (-(k : Int)) (-(l : Int)) = -(K : Int) := by omega
  have h1 : (-(k : Int) - -(K : Int)).toNat = K - k := by omega
  have h2 : (-(l : Int) - -(K : Int)).toNat = K - l := by omega
  unfold Datum.order
  simp only [hb, h1, h2, signed_eq, hx2, hy2]
  rw [lift_pow n k K (by omega), lift_pow m l K (by omega)]
  have hp : (0 : Int) < 2 ^ K := Int.pow_pos (by decide)
  congr 1
  rcases Int.lt_trichotomy n m with h3 | h3 | h3
  · have := Int.mul_lt_mul_of_pos_right h3 hp
    rw [Int.compare_eq_lt.2 h3, Int.compare_eq_lt.2 this]
  · rw [h3]; simp
  · have := Int.mul_lt_mul_of_pos_right h3 hp
    rw [Int.compare_eq_gt.2 h3, Int.compare_eq_gt.2 this]
theorem rep_toInt {x : Nat} {n : Int} (hx : Rep x n) : (FloatKind.decode .f64 x).toInt .zero = some n := by
  obtain ⟨s, m, k, hx1, hx2⟩ := hx
  show (Ieee.double.read x).toInt .zero = some n
  rw [hx1]
  have hm : m = n.natAbs * 2 ^ k := by
    have e1 : m = (n * 2 ^ k).natAbs := by rw [← hx2]; cases s <;> simp
    rw [e1, Int.natAbs_mul, Int.natAbs_pow]; rfl
  unfold Datum.toInt Datum.integral
  simp only [show (-(k : Int)).toNat = 0 by omega, show (- -(k : Int)).toNat = k by omega, Nat.shiftLeft_zero]
  have hcut : Toward.zero.cut s m k = n.natAbs := by
    have := cut_pow .zero (.inr rfl) s n.natAbs k 0 (by
      by_cases h0 : n = 0
      · right; subst h0; rfl
      · left
        rw [Nat.pow_zero, Nat.mul_one, log2_mul_pow _ _ (by omega)]; omega)
    rw [Nat.pow_zero, Nat.mul_one, Nat.mul_one, ← hm] at this
    exact this
  rw [hcut, signed_eq, Int.pow_zero, Int.mul_one]
  congr 1
  by_cases h0 : n = 0
  · subst h0; cases s <;> rfl
  · rw [(Rep.sign hx2 h0).1]
    by_cases h1 : n < 0
    · rw [decide_eq_true h1, if_pos rfl]; omega
    · rw [decide_eq_false h1, if_neg (by simp)]; omega
theorem rep_neg {x : Nat} {n : Int} (hx : Rep x n) (hlt : x < 18446744073709551616) : Rep (Op.negFloat .f64 x) (-n) := by
  obtain ⟨s, m, k, hx1, hx2⟩ := hx
  refine ⟨!s, m, k, ?_, by rw [Int.neg_mul, ← hx2]; cases s <;> simp⟩
  have hf : Op.negFloat .f64 x = if x < 9223372036854775808 then x + 9223372036854775808 else x - 9223372036854775808 := by
    show x ^^^ 2 ^ 63 = _
    split
    · rename_i h
      apply Nat.eq_of_testBit_eq
      intro i
      rw [Nat.testBit_xor, Nat.testBit_two_pow, show x + 9223372036854775808 = 2 ^ 63 + x by omega]
      by_cases hi : i = 63
      · subst hi
        rw [Nat.testBit_two_pow_add_eq]; simp
      · rcases Nat.lt_or_ge i 63 with h2 | h2
        · rw [Nat.testBit_two_pow_add_gt h2]; simp [Ne.symm hi]
        · have e1 : x.testBit i = false := Nat.testBit_lt_two_pow (Nat.lt_of_lt_of_le h (Nat.pow_le_pow_right (n := 2) (by decide) h2))
          have e2 : (2 ^ 63 + x).testBit i = false := Nat.testBit_lt_two_pow (Nat.lt_of_lt_of_le (show 2 ^ 63 + x < 2 ^ 64 by omega) (Nat.pow_le_pow_right (by decide) (by omega)))
          rw [e1, e2]; simp [Ne.symm hi]
    · rename_i h
      apply Nat.eq_of_testBit_eq
      intro i
      obtain ⟨y, rfl⟩ : ∃ y, x = 2 ^ 63 + y := ⟨x - 9223372036854775808, by omega⟩
      rw [Nat.testBit_xor, Nat.testBit_two_pow, show 2 ^ 63 + y - 9223372036854775808 = y by omega]
      by_cases hi : i = 63
      · subst hi
        rw [Nat.testBit_two_pow_add_eq]; simp
      · rcases Nat.lt_or_ge i 63 with h2 | h2
        · rw [Nat.testBit_two_pow_add_gt h2]; simp [Ne.symm hi]
        · have e1 : y.testBit i = false := Nat.testBit_lt_two_pow (Nat.lt_of_lt_of_le (show y < 2 ^ 63 by omega) (Nat.pow_le_pow_right (by decide) h2))
          have e2 : (2 ^ 63 + y).testBit i = false := Nat.testBit_lt_two_pow (Nat.lt_of_lt_of_le (show 2 ^ 63 + y < 2 ^ 64 by omega) (Nat.pow_le_pow_right (by decide) (by omega)))
          rw [e1, e2]; simp [Ne.symm hi]
  rw [hf]
  unfold Format.read at hx1 ⊢
  have hw : Ieee.double.signWeight = 9223372036854775808 := rfl
  simp only [hw] at hx1 ⊢
  by_cases hx63 : x < 9223372036854775808
  · rw [if_pos hx63]
    have e1 : (x + 9223372036854775808) % 9223372036854775808 = x := by omega
    have e2 : (x + 9223372036854775808) / 9223372036854775808 = 1 := by omega
    have e3 : x % 9223372036854775808 = x := by omega
    have e4 : x / 9223372036854775808 = 0 := by omega
    rw [e3, e4] at hx1
    rw [e1, e2]
    split at hx1
    · rename_i h; rw [if_pos h]; simp at hx1 ⊢; obtain ⟨h1, h2, h3⟩ := hx1; simp [← h1, h2, h3]
    · rename_i h; rw [if_neg h]
      split at hx1
      · rename_i h; rw [if_pos h]; simp at hx1 ⊢; obtain ⟨h1, h2, h3⟩ := hx1; simp [← h1, h2, h3]
      · split at hx1 <;> cases hx1
  · rw [if_neg hx63]
    have e1 : (x - 9223372036854775808) % 9223372036854775808 = x - 9223372036854775808 := by omega
    have e2 : (x - 9223372036854775808) / 9223372036854775808 = 0 := by omega
    have e3 : x % 9223372036854775808 = x - 9223372036854775808 := by omega
    have e4 : x / 9223372036854775808 = 1 := by omega
    rw [e3, e4] at hx1
    rw [e1, e2]
    split at hx1
    · rename_i h; rw [if_pos h]; simp at hx1 ⊢; obtain ⟨h1, h2, h3⟩ := hx1; simp [← h1, h2, h3]
    · rename_i h; rw [if_neg h]
      split at hx1
      · rename_i h; rw [if_pos h]; simp at hx1 ⊢; obtain ⟨h1, h2, h3⟩ := hx1; simp [← h1, h2, h3]
      · split at hx1 <;> cases hx1
theorem rep_lt {x : Nat} {n : Int} (h : ∃ d, x = Ieee.double.write d) : x < 18446744073709551616 := by
  obtain ⟨d, rfl⟩ := h
  exact Ieee.double.write_lt d
end Go.Proofs.Ytdofcjmnnmmecaa
