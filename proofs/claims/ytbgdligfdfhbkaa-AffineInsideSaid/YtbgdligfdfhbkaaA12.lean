/-
  What is seen lies in the box: plain facts. No condition.
-/
import Derived.Test.YtbgdligfdfhbkaaA11
namespace Go.Proofs.Ytbgdligfdfhbkaa
open Go.RowKit
/-- A picture's slanted, turned and moved map. -/
def slA (s : Int) (k : Nat) : Int := match k % 4 with | 0 => 1 | 1 => s | 2 => -1 | _ => -s
def slB (s : Int) (k : Nat) : Int := match k % 4 with | 0 => s | 1 => -1 | 2 => -s | _ => 1
def slC (k : Nat) : Int := match k % 4 with | 0 => 0 | 1 => 1 | 2 => 0 | _ => -1
def slD (k : Nat) : Int := match k % 4 with | 0 => 1 | 1 => 0 | 2 => -1 | _ => 0
def slM (s x y : Int) (k : Nat) : Nat → Int := L6 (65536 * slA s k) (65536 * slB s k) (65536 * slC k) (65536 * slD k) x y
theorem sl_cases (s : Int) (k : Nat) : (slA s k = 1 ∧ slB s k = s ∧ slC k = 0 ∧ slD k = 1) ∨ (slA s k = s ∧ slB s k = -1 ∧ slC k = 1 ∧ slD k = 0) ∨ (slA s k = -1 ∧ slB s k = -s ∧ slC k = 0 ∧ slD k = -1) ∨ (slA s k = -s ∧ slB s k = 1 ∧ slC k = -1 ∧ slD k = 0) := by
  unfold slA slB slC slD
  have h := Nat.mod_lt k (show 0 < 4 by decide)
  generalize k % 4 = j at h
  match j, h with
  | 0, _ => exact .inl ⟨rfl, rfl, rfl, rfl⟩
  | 1, _ => exact .inr (.inl ⟨rfl, rfl, rfl, rfl⟩)
  | 2, _ => exact .inr (.inr (.inl ⟨rfl, rfl, rfl, rfl⟩))
  | 3, _ => exact .inr (.inr (.inr ⟨rfl, rfl, rfl, rfl⟩))
theorem sl_next (s : Int) (k : Nat) : slA s (k + 1) = slB s k ∧ slB s (k + 1) = -slA s k ∧ slC (k + 1) = slD k ∧ slD (k + 1) = -slC k := by
  unfold slA slB slC slD
  have h := Nat.mod_lt k (show 0 < 4 by decide)
  have e : (k + 1) % 4 = (k % 4 + 1) % 4 := by omega
  rw [e]
  generalize k % 4 = j at h
  match j, h with
  | 0, _ => exact ⟨rfl, rfl, rfl, rfl⟩
  | 1, _ => exact ⟨rfl, rfl, rfl, rfl⟩
  | 2, _ => exact ⟨rfl, by simp, rfl, rfl⟩
  | 3, _ => exact ⟨rfl, by simp, rfl, rfl⟩
theorem sl_bd {s : Int} (hs : -4 ≤ s ∧ s ≤ 4) (k : Nat) : (-4 ≤ slA s k ∧ slA s k ≤ 4) ∧ (-4 ≤ slB s k ∧ slB s k ≤ 4) ∧ (-4 ≤ slC k ∧ slC k ≤ 4) ∧ (-4 ≤ slD k ∧ slD k ≤ 4) := by
  rcases sl_cases s k with ⟨h1, h2, h3, h4⟩ | ⟨h1, h2, h3, h4⟩ | ⟨h1, h2, h3, h4⟩ | ⟨h1, h2, h3, h4⟩ <;> rw [h1, h2, h3, h4] <;> omega
theorem rt_sl {s x y : Int} (hs : -4 ≤ s ∧ s ≤ 4) (hx : -1310720 ≤ x ∧ x ≤ 1310720) (hy : -1310720 ≤ y ∧ y ≤ 1310720) (k : Nat) : Rt (slM s x y k) := by
  obtain ⟨h1, h2, h3, h4⟩ := sl_bd hs k
  exact rt_mk (by omega) (by omega) (by omega) (by omega) (by omega) (by omega)
theorem sm_sl {s x y : Int} (hs : -4 ≤ s ∧ s ≤ 4) (hx : -1310720 ≤ x ∧ x ≤ 1310720) (hy : -1310720 ≤ y ∧ y ≤ 1310720) (k : Nat) : Sm (slM s x y k) := by
  obtain ⟨h1, h2, h3, h4⟩ := sl_bd hs k
  exact L6_sm (by unfold Big; omega) (by unfold Big; omega) (by unfold Big; omega) (by unfold Big; omega) (by unfold Big; omega) (by unfold Big; omega)
theorem times_sl {s x y : Int} (hs : -4 ≤ s ∧ s ≤ 4) (hx : -1310720 ≤ x ∧ x ≤ 1310720) (hy : -1310720 ≤ y ∧ y ≤ 1310720) (k : Nat) : timesR (slM s x y k) (L6 0 (-65536) 65536 0 0 0) = (slM s x y (k + 1), 0) := by
  have hz : timesZ (slM s x y k) (L6 0 (-65536) 65536 0 0 0) = slM s x y (k + 1) := by
    obtain ⟨e1, e2, e3, e4⟩ := sl_next s k
    unfold timesZ
    show L6 (near16 (65536 * slA s k * 0 + 65536 * slB s k * 65536)) (near16 (65536 * slA s k * -65536 + 65536 * slB s k * 0)) (near16 (65536 * slC k * 0 + 65536 * slD k * 65536)) (near16 (65536 * slC k * -65536 + 65536 * slD k * 0)) (near16 (65536 * slA s k * 0 + 65536 * slB s k * 0) + x) (near16 (65536 * slC k * 0 + 65536 * slD k * 0) + y) = _
    unfold slM
    rw [e1, e2, e3, e4]
    unfold near16
    congr 1 <;> omega
  unfold timesR
  rw [hz, if_pos ⟨rt_sl hs hx hy k, rt_mk (by omega) (by omega) (by omega) (by omega) (by omega) (by omega)⟩, if_pos (rt_sl hs hx hy (k + 1))]
theorem det_sl (s : Int) (k : Nat) : slA s k * slD k - slB s k * slC k = 1 := by
  rcases sl_cases s k with ⟨h1, h2, h3, h4⟩ | ⟨h1, h2, h3, h4⟩ | ⟨h1, h2, h3, h4⟩ | ⟨h1, h2, h3, h4⟩ <;> rw [h1, h2, h3, h4] <;> omega
theorem back_lin {a b c d x y : Int} (ha : -4 ≤ a ∧ a ≤ 4) (hb : -4 ≤ b ∧ b ≤ 4) (hc : -4 ≤ c ∧ c ≤ 4) (hd : -4 ≤ d ∧ d ≤ 4) (hx : -1310720 ≤ x ∧ x ≤ 1310720) (hy : -1310720 ≤ y ∧ y ≤ 1310720) (hdet : a * d - b * c = 1) :
    backR (L6 (65536 * a) (65536 * b) (65536 * c) (65536 * d) x y) = (L6 (65536 * d) (-65536 * b) (-65536 * c) (65536 * a) (b * y - d * x) (c * x - a * y), 0) := by
  have hD : 65536 * a * (65536 * d) - 65536 * b * (65536 * c) = 4294967296 := by grind
  have m1 := mul_bd (a := b) (b := y) (M := 4) (N := 1310720) (by omega) (by omega)
  have m2 := mul_bd (a := d) (b := x) (M := 4) (N := 1310720) (by omega) (by omega)
  have m3 := mul_bd (a := c) (b := x) (M := 4) (N := 1310720) (by omega) (by omega)
  have m4 := mul_bd (a := a) (b := y) (M := 4) (N := 1310720) (by omega) (by omega)
  have hr : ∀ n : Int, rndZ (65536 * n * 4294967296) 4294967296 = 65536 * n := fun n => by unfold rndZ; omega
  refine back_of (by omega) (by omega) (by omega) (by omega) (by omega) (by omega) (by omega) (by omega) (by omega) (by omega) (by omega) (by omega) (by rw [hD]; decide) ?_ ?_ ?_ ?_ ?_ ?_
  · rw [hD]; exact hr d
  · rw [hD, show -(65536 * b) = 65536 * -b by omega, hr]; omega
  · rw [hD, show -(65536 * c) = 65536 * -c by omega, hr]; omega
  · rw [hD]; exact hr a
  · unfold near16
    rw [Int.mul_assoc, Int.mul_assoc]; omega
  · unfold near16
    rw [Int.mul_assoc, Int.mul_assoc]; omega
theorem back_sl {s x y : Int} (hs : -4 ≤ s ∧ s ≤ 4) (hx : -1310720 ≤ x ∧ x ≤ 1310720) (hy : -1310720 ≤ y ∧ y ≤ 1310720) (k : Nat) :
    backR (slM s x y k) = (L6 (65536 * slD k) (-65536 * slB s k) (-65536 * slC k) (65536 * slA s k) (slB s k * y - slD k * x) (slC k * x - slA s k * y), 0) := by
  obtain ⟨h1, h2, h3, h4⟩ := sl_bd hs k
  exact back_lin h1 h2 h3 h4 hx hy (det_sl s k)
/-- Where something is seen there is a pixel. -/
theorem see_some {b : Nat → Int} {W H : Nat} {f : Nat → Int} {sm : Bool} {x y : Int} (h : seeZ b W H f sm x y ≠ 0) :
    ∃ p q : Int, (0 ≤ p ∧ p < W) ∧ (0 ≤ q ∧ q < H) ∧ ((sm = false ∧ p = plU b x y / 65536 ∧ q = plV b x y / 65536) ∨ (sm = true ∧ (p = smI (plU b x y) ∨ p = smI (plU b x y) + 1) ∧ (q = smI (plV b x y) ∨ q = smI (plV b x y) + 1))) := by
  have px : ∀ p q, pixAt W H f p q ≠ 0 → (0 ≤ p ∧ p < W) ∧ (0 ≤ q ∧ q < H) := fun p q hp => by
    unfold pixAt at hp
    split at hp
    · omega
    · exact absurd rfl hp
  unfold seeZ at h
  cases sm
  · simp only [Bool.false_eq_true, if_false] at h
    exact ⟨_, _, (px _ _ h).1, (px _ _ h).2, .inl ⟨rfl, rfl, rfl⟩⟩
  · simp only [if_true] at h
    unfold smZ at h
    by_cases h1 : pixAt W H f (smI (plU b x y)) (smI (plV b x y)) = 0
    · by_cases h2 : pixAt W H f (smI (plU b x y) + 1) (smI (plV b x y)) = 0
      · by_cases h3 : pixAt W H f (smI (plU b x y)) (smI (plV b x y) + 1) = 0
        · by_cases h4 : pixAt W H f (smI (plU b x y) + 1) (smI (plV b x y) + 1) = 0
          · exfalso
            apply h
            rw [h1, h2, h3, h4]
            unfold sm4 smq mixZ joinZ s0 s1 s2 s3
            simp
          · exact ⟨_, _, (px _ _ h4).1, (px _ _ h4).2, .inr ⟨rfl, .inr rfl, .inr rfl⟩⟩
        · exact ⟨_, _, (px _ _ h3).1, (px _ _ h3).2, .inr ⟨rfl, .inl rfl, .inr rfl⟩⟩
      · exact ⟨_, _, (px _ _ h2).1, (px _ _ h2).2, .inr ⟨rfl, .inr rfl, .inl rfl⟩⟩
    · exact ⟨_, _, (px _ _ h1).1, (px _ _ h1).2, .inr ⟨rfl, .inl rfl, .inl rfl⟩⟩
theorem mul_between {A U P : Int} (h0 : 0 ≤ U) (h1 : U ≤ P) : min 0 (A * P) ≤ A * U ∧ A * U ≤ max 0 (A * P) := by
  have h2 : 0 ≤ P := by omega
  rcases Int.le_total 0 A with hA | hA
  · have e1 := Int.mul_nonneg hA h0
    have e2 := Int.mul_le_mul_of_nonneg_left h1 hA
    omega
  · have e1 := Int.mul_nonpos_of_nonpos_of_nonneg hA h0
    have e2 := Int.mul_le_mul_of_nonpos_left hA h1
    omega
theorem box_row {A B c W H U V i : Int} (e1 e2 : Int) (he : e1 + e2 ≤ 32768) (hA : min 0 (A * (65536 * W)) - e1 ≤ A * U ∧ A * U ≤ max 0 (A * (65536 * W)) + e1) (hB : min 0 (B * (65536 * H)) - e2 ≤ B * V ∧ B * V ≤ max 0 (B * (65536 * H)) + e2)
    (heq : A * U + B * V + c = 65536 * i + 32768) : loZ (65536 * A) (65536 * B) c 0 0 W H - 1 ≤ i ∧ i ≤ hiZ (65536 * A) (65536 * B) c 0 0 W H := by
  have n1 : 65536 * A * W = A * (65536 * W) := by rw [Int.mul_comm 65536 A, Int.mul_assoc]
  have n2 : 65536 * B * H = B * (65536 * H) := by rw [Int.mul_comm 65536 B, Int.mul_assoc]
  unfold loZ hiZ cornZ
  simp only [Int.mul_zero, Int.zero_add, n1, n2]
  generalize A * (65536 * W) = aw at *
  generalize B * (65536 * H) = bh at *
  generalize A * U = au at *
  generalize B * V = bv at *
  have g1 : min (min (min c (aw + c)) (bh + c)) (aw + bh + c) = min 0 aw + min 0 bh + c := by omega
  have g2 : max (max (max c (aw + c)) (bh + c)) (aw + bh + c) = max 0 aw + max 0 bh + c := by omega
  have g3 : (0 : Int) + c = c := by omega
  try rw [g3]
  try simp only [Int.add_zero, Int.zero_add]
  rw [g1, g2]
  omega
theorem box_bd {A B c W H : Int} (hA : -4 ≤ A ∧ A ≤ 4) (hB : -4 ≤ B ∧ B ≤ 4) (hW : 0 ≤ W ∧ W ≤ 60) (hH : 0 ≤ H ∧ H ≤ 60) (hc : -1310720 ≤ c ∧ c ≤ 1310720) :
    (-1000000 ≤ loZ (65536 * A) (65536 * B) c 0 0 W H ∧ loZ (65536 * A) (65536 * B) c 0 0 W H ≤ 1000000) ∧ (-1000000 ≤ hiZ (65536 * A) (65536 * B) c 0 0 W H ∧ hiZ (65536 * A) (65536 * B) c 0 0 W H ≤ 1000000) := by
  have n1 : 65536 * A * W = A * (65536 * W) := by rw [Int.mul_comm 65536 A, Int.mul_assoc]
  have n2 : 65536 * B * H = B * (65536 * H) := by rw [Int.mul_comm 65536 B, Int.mul_assoc]
  have m1 := mul_bd (a := A) (b := 65536 * W) (M := 4) (N := 3932160) (by omega) (by omega)
  have m2 := mul_bd (a := B) (b := 65536 * H) (M := 4) (N := 3932160) (by omega) (by omega)
  unfold loZ hiZ cornZ
  simp only [Int.mul_zero, Int.zero_add, n1, n2]
  generalize A * (65536 * W) = aw at *
  generalize B * (65536 * H) = bh at *
  omega
theorem forth {a b c d x y i j U V : Int} (hdet : a * d - b * c = 1) (hU : U = 32768 * (d * (2 * i + 1) - b * (2 * j + 1)) + (b * y - d * x)) (hV : V = 32768 * (-c * (2 * i + 1) + a * (2 * j + 1)) + (c * x - a * y)) :
    a * U + b * V + x = 65536 * i + 32768 ∧ c * U + d * V + y = 65536 * j + 32768 := by
  subst hU hV
  constructor <;> grind
theorem inside_lin {s x y : Int} (hs : -4 ≤ s ∧ s ≤ 4) (hx : -1310720 ≤ x ∧ x ≤ 1310720) (hy : -1310720 ≤ y ∧ y ≤ 1310720) (k : Nat) {W H : Int} {f : Nat → Int} {sm : Bool} (hsm : sm = true → s = 0) {i j : Int}
    (h : seeZ (backR (slM s x y k)).1 W.toNat H.toNat f sm i j ≠ 0) :
    (loZ (65536 * slA s k) (65536 * slB s k) x 0 0 W H - 1 ≤ i ∧ i ≤ hiZ (65536 * slA s k) (65536 * slB s k) x 0 0 W H) ∧ (loZ (65536 * slC k) (65536 * slD k) y 0 0 W H - 1 ≤ j ∧ j ≤ hiZ (65536 * slC k) (65536 * slD k) y 0 0 W H) := by
  obtain ⟨p, q, hp, hq, hc⟩ := see_some h
  clear h
  rw [back_sl hs hx hy k] at hc
  obtain ⟨U, hU⟩ : ∃ U, U = plU (L6 (65536 * slD k) (-65536 * slB s k) (-65536 * slC k) (65536 * slA s k) (slB s k * y - slD k * x) (slC k * x - slA s k * y)) i j := ⟨_, rfl⟩
  obtain ⟨V, hV⟩ : ∃ V, V = plV (L6 (65536 * slD k) (-65536 * slB s k) (-65536 * slC k) (65536 * slA s k) (slB s k * y - slD k * x) (slC k * x - slA s k * y)) i j := ⟨_, rfl⟩
  dsimp only at hc
  rw [← hU, ← hV] at hc
  have hU2 : U = 32768 * (slD k * (2 * i + 1) - slB s k * (2 * j + 1)) + (slB s k * y - slD k * x) := by
    have : plU (L6 (65536 * slD k) (-65536 * slB s k) (-65536 * slC k) (65536 * slA s k) (slB s k * y - slD k * x) (slC k * x - slA s k * y)) i j = (65536 * slD k * (2 * i + 1) + -65536 * slB s k * (2 * j + 1)) / 2 + (slB s k * y - slD k * x) := rfl
    rw [hU, this, Int.mul_assoc, Int.mul_assoc]
    generalize slD k * (2 * i + 1) = z1
    generalize slB s k * (2 * j + 1) = z2
    omega
  have hV2 : V = 32768 * (-slC k * (2 * i + 1) + slA s k * (2 * j + 1)) + (slC k * x - slA s k * y) := by
    have : plV (L6 (65536 * slD k) (-65536 * slB s k) (-65536 * slC k) (65536 * slA s k) (slB s k * y - slD k * x) (slC k * x - slA s k * y)) i j = (-65536 * slC k * (2 * i + 1) + 65536 * slA s k * (2 * j + 1)) / 2 + (slC k * x - slA s k * y) := rfl
    rw [hV, this, Int.mul_assoc, Int.mul_assoc, Int.neg_mul (slC k)]
    generalize slC k * (2 * i + 1) = z1
    generalize slA s k * (2 * j + 1) = z2
    omega
  obtain ⟨q1, q2⟩ := forth (det_sl s k) hU2 hV2
  clear hU hV hU2 hV2
  cases sm
  · rcases hc with ⟨_, hc1, hc2⟩ | ⟨h, _⟩
    rotate_left
    · cases h
    have u1 : 0 ≤ U ∧ U ≤ 65536 * W := by omega
    have v1 : 0 ≤ V ∧ V ≤ 65536 * H := by omega
    have mU : ∀ A : Int, min 0 (A * (65536 * W)) - 0 ≤ A * U ∧ A * U ≤ max 0 (A * (65536 * W)) + 0 := fun A => by have := mul_between (A := A) u1.1 u1.2; omega
    have mV : ∀ A : Int, min 0 (A * (65536 * H)) - 0 ≤ A * V ∧ A * V ≤ max 0 (A * (65536 * H)) + 0 := fun A => by have := mul_between (A := A) v1.1 v1.2; omega
    exact ⟨box_row 0 0 (by decide) (mU _) (mV _) q1, box_row 0 0 (by decide) (mU _) (mV _) q2⟩
  · rcases hc with ⟨h, _⟩ | ⟨_, hc1, hc2⟩
    · cases h
    obtain rfl := hsm rfl
    have u1 : -32768 ≤ U ∧ U ≤ 65536 * W + 32768 := by unfold smI at hc1; omega
    have v1 : -32768 ≤ V ∧ V ≤ 65536 * H + 32768 := by unfold smI at hc2; omega
    have w0 : 0 < W := by omega
    have h0 : 0 < H := by omega
    rcases sl_cases 0 k with ⟨h1, h2, h3, h4⟩ | ⟨h1, h2, h3, h4⟩ | ⟨h1, h2, h3, h4⟩ | ⟨h1, h2, h3, h4⟩ <;> rw [h1, h2] at q1 <;> rw [h3, h4] at q2 <;> rw [h1, h2, h3, h4]
    · exact ⟨box_row 32768 0 (by decide) (by omega) (by omega) q1, box_row 0 32768 (by decide) (by omega) (by omega) q2⟩
    · exact ⟨box_row 0 32768 (by decide) (by omega) (by omega) q1, box_row 32768 0 (by decide) (by omega) (by omega) q2⟩
    · exact ⟨box_row 32768 0 (by decide) (by omega) (by omega) q1, box_row 0 32768 (by decide) (by omega) (by omega) q2⟩
    · exact ⟨box_row 0 32768 (by decide) (by omega) (by omega) q1, box_row 32768 0 (by decide) (by omega) (by omega) q2⟩
end Go.Proofs.Ytbgdligfdfhbkaa
