/-
  What is found, plain: chains of places, the best copy, the tokens. No program.
-/
import Derived.Test.YtabaagelgfdkeaaHs
namespace Go.Proofs.Ytabaagelgfdkeaa
open Go.RowKit
def hashI (x y z : UInt8) : Int := bits .and .i64 (bits .xor .i64 (bits .xor .i64 ((x.toNat : Int) * 2 ^ 8) ((y.toNat : Int) * 2 ^ 4)) (z.toNat : Int)) 4095
theorem and_4095 (v : Int) : 0 ≤ bits .and .i64 v 4095 ∧ bits .and .i64 v 4095 ≤ 4095 := by
  have e : (BitVec.ofInt 64 v &&& BitVec.ofInt 64 4095).toNat ≤ 4095 := by
    rw [BitVec.toNat_and, show (BitVec.ofInt 64 4095).toNat = 4095 from rfl]
    exact Nat.and_le_right
  rw [show bits .and .i64 v 4095 = IntKind.i64.wrap ((BitVec.ofInt 64 v &&& BitVec.ofInt 64 4095).toNat : Int) from rfl, IntWalk.i64_in _ (by omega)]
  omega
def hsh (b : List UInt8) (i : Nat) : Nat := (hashI (b.getD i 0) (b.getD (i + 1) 0) (b.getD (i + 2) 0)).toNat
theorem hsh_int (b : List UInt8) (i : Nat) : hashI (b.getD i 0) (b.getD (i + 1) 0) (b.getD (i + 2) 0) = (hsh b i : Int) := by
  unfold hsh; have := (and_4095 (bits .xor .i64 (bits .xor .i64 (((b.getD i 0).toNat : Int) * 2 ^ 8) (((b.getD (i + 1) 0).toNat : Int) * 2 ^ 4)) ((b.getD (i + 2) 0).toNat : Int))).1
  unfold hashI; omega
theorem hsh_lt (b : List UInt8) (i : Nat) : hsh b i < 4096 := by
  have := (and_4095 (bits .xor .i64 (bits .xor .i64 (((b.getD i 0).toNat : Int) * 2 ^ 8) (((b.getD (i + 1) 0).toNat : Int) * 2 ^ 4)) ((b.getD (i + 2) 0).toNat : Int)))
  unfold hsh hashI; omega
/-- The last place below k with this hash, plus 1; 0: there is none. -/
def prevH (b : List UInt8) (h : Nat) : Nat → Nat
  | 0 => 0
  | k + 1 => if k + 3 ≤ b.length ∧ hsh b k = h then k + 1 else prevH b h k
theorem prevH_le (b : List UInt8) (h k : Nat) : prevH b h k ≤ k := by
  induction k with
  | zero => exact Nat.le_refl _
  | succ k ih => unfold prevH; split <;> omega
theorem prevH_spec (b : List UInt8) (h k : Nat) (hp : 0 < prevH b h k) : prevH b h k - 1 + 3 ≤ b.length ∧ hsh b (prevH b h k - 1) = h := by
  induction k with
  | zero => simp [prevH] at hp
  | succ k ih =>
    unfold prevH at hp ⊢
    split
    · rename_i hc; rw [if_pos hc] at hp; exact ⟨by omega, by simpa using hc.2⟩
    · rename_i hc; rw [if_neg hc] at hp; exact ih hp
/-- Whatever place with this hash lies below k lies below the last one, or is it. -/
theorem prevH_last (b : List UInt8) (h k q : Nat) (hq : q < k) (hl : q + 3 ≤ b.length) (hh : hsh b q = h) : q + 1 ≤ prevH b h k := by
  induction k with
  | zero => omega
  | succ k ih =>
    unfold prevH
    split
    · omega
    · rename_i hc
      rcases Nat.lt_or_ge q k with h1 | h1
      · exact ih h1
      · obtain rfl : q = k := by omega
        exact absurd ⟨hl, hh⟩ hc
/-- How many bytes are the same. -/
def commF (b : List UInt8) (q p : Nat) : Nat → Nat → Nat
  | 0, n => n
  | f + 1, n => if n < 258 ∧ p + n < b.length ∧ b.getD (q + n) 0 = b.getD (p + n) 0 then commF b q p f (n + 1) else n
def comm (b : List UInt8) (q p : Nat) : Nat := commF b q p 258 0
theorem commF_spec (b : List UInt8) (q p : Nat) (f n : Nat) (h : ∀ i, i < n → p + i < b.length ∧ b.getD (q + i) 0 = b.getD (p + i) 0) (hn : n ≤ 258) :
    n ≤ commF b q p f n ∧ commF b q p f n ≤ 258 ∧ ∀ i, i < commF b q p f n → p + i < b.length ∧ b.getD (q + i) 0 = b.getD (p + i) 0 := by
  induction f generalizing n with
  | zero => exact ⟨Nat.le_refl _, hn, h⟩
  | succ f ih =>
    unfold commF
    split
    · rename_i hc
      have := ih (n + 1) (fun i hi => by
        rcases Nat.lt_or_ge i n with h1 | h1
        · exact h i h1
        · obtain rfl : i = n := by omega
          exact hc.2) (by omega)
      exact ⟨by omega, this.2⟩
    · exact ⟨Nat.le_refl _, hn, h⟩
theorem comm_spec (b : List UInt8) (q p : Nat) : comm b q p ≤ 258 ∧ ∀ i, i < comm b q p → p + i < b.length ∧ b.getD (q + i) 0 = b.getD (p + i) 0 :=
  (commF_spec b q p 258 0 (fun i hi => by omega) (by omega)).2
theorem comm_three (b : List UInt8) (q p : Nat) (hl : p + 3 ≤ b.length) (h : ∀ i, i < 3 → b.getD (q + i) 0 = b.getD (p + i) 0) : 3 ≤ comm b q p := by
  unfold comm
  rw [show (258 : Nat) = 255 + 1 + 1 + 1 from rfl]
  unfold commF
  rw [if_pos ⟨by omega, by omega, h 0 (by omega)⟩]
  unfold commF
  rw [if_pos ⟨by omega, by omega, h 1 (by omega)⟩]
  unfold commF
  rw [if_pos ⟨by omega, by omega, h 2 (by omega)⟩]
  refine (commF_spec b q p 255 3 (fun i hi => ⟨by omega, h i hi⟩) (by omega)).1
/-- The best copy: along the chain from p. -/
def pickL (L D n e : Nat) : Nat × Nat := if 3 ≤ n ∧ L < n then (n, e) else (L, D)
def bestF (b : List UInt8) (p eff : Nat) : Nat → Nat → Nat → Nat → Nat → Nat × Nat
  | 0, _, _, L, D => (L, D)
  | f + 1, c, t, L, D =>
    if 0 < c ∧ p - (c - 1) ≤ 32768 then
      if (pickL L D (comm b (c - 1) p) (p - (c - 1))).1 = 258 ∨ (0 < (pickL L D (comm b (c - 1) p) (p - (c - 1))).1 ∧ 8 * eff ≤ t + 1) then pickL L D (comm b (c - 1) p) (p - (c - 1))
      else bestF b p eff f (prevH b (hsh b (c - 1)) (c - 1)) (t + 1) (pickL L D (comm b (c - 1) p) (p - (c - 1))).1 (pickL L D (comm b (c - 1) p) (p - (c - 1))).2
    else (L, D)
def best (b : List UInt8) (eff p : Nat) : Nat × Nat := if b.length < p + 3 then (0, 0) else bestF b p eff (p + 1) (prevH b (hsh b p) p) 0 0 0
def Good (b : List UInt8) (p L D : Nat) : Prop := (L = 0 ∧ D = 0) ∨ (3 ≤ L ∧ L ≤ 258 ∧ 1 ≤ D ∧ D ≤ 32768 ∧ D ≤ p ∧ p + L ≤ b.length ∧ ∀ i, i < L → b.getD (p - D + i) 0 = b.getD (p + i) 0)
theorem pickL_good (b : List UInt8) (p L D c : Nat) (h : Good b p L D) (hc : 0 < c) (hcp : c ≤ p) (hw : p - (c - 1) ≤ 32768) : Good b p (pickL L D (comm b (c - 1) p) (p - (c - 1))).1 (pickL L D (comm b (c - 1) p) (p - (c - 1))).2 := by
  unfold pickL
  split
  · rename_i h3
    obtain ⟨h1, h2⟩ := comm_spec b (c - 1) p
    refine .inr ⟨h3.1, h1, by omega, hw, by omega, ?_, fun i hi => ?_⟩
    · have := (h2 (comm b (c - 1) p - 1) (by omega)).1; dsimp only; omega
    · rw [show p - (p - (c - 1)) + i = c - 1 + i by omega]
      exact (h2 i hi).2
  · exact h
theorem bestF_good (b : List UInt8) (p eff f c t L D : Nat) (h : Good b p L D) (hcp : c ≤ p) : Good b p (bestF b p eff f c t L D).1 (bestF b p eff f c t L D).2 := by
  induction f generalizing c t L D with
  | zero => exact h
  | succ f ih =>
    unfold bestF
    split
    · rename_i hc
      have hg := pickL_good b p L D c h hc.1 hcp hc.2
      split
      · exact hg
      · exact ih _ _ _ _ hg (by have := prevH_le b (hsh b (c - 1)) (c - 1); omega)
    · exact h
theorem best_good (b : List UInt8) (eff p : Nat) : Good b p (best b eff p).1 (best b eff p).2 := by
  unfold best
  split
  · exact .inl ⟨rfl, rfl⟩
  · exact bestF_good b p eff _ _ _ _ _ (.inl ⟨rfl, rfl⟩) (prevH_le b (hsh b p) p)
/-- Nothing is found only where nothing is. -/
theorem bestF_none (b : List UInt8) (p eff f c t : Nat) (hf : c < f) (hcp : c ≤ p) (h0 : (bestF b p eff f c t 0 0).1 = 0) (he : 0 < c → hsh b (c - 1) = hsh b p) (q : Nat) (hq : q + 1 ≤ c) (hql : q + 3 ≤ b.length) (hqh : hsh b q = hsh b p) (hw : p - q ≤ 32768) : comm b q p < 3 := by
  induction f generalizing c t with
  | zero => omega
  | succ f ih =>
    unfold bestF at h0
    rw [if_pos ⟨by omega, by omega⟩] at h0
    have hp0 : (pickL 0 0 (comm b (c - 1) p) (p - (c - 1))).1 = 0 := by
      split at h0
      · exact h0
      · rename_i hn
        rcases Nat.eq_zero_or_pos (pickL 0 0 (comm b (c - 1) p) (p - (c - 1))).1 with h | h
        · exact h
        · exfalso
          have : ∀ f c t L D, 0 < L → 0 < (bestF b p eff f c t L D).1 := by
            intro f
            induction f with
            | zero => exact fun _ _ _ _ h => h
            | succ f ih2 =>
              intro c t L D hL
              have hpl : ∀ n e, 0 < (pickL L D n e).1 := by
                intro n e; unfold pickL; split
                · rename_i h; dsimp only; omega
                · exact hL
              unfold bestF
              split
              · split
                · exact hpl _ _
                · exact ih2 _ _ _ _ (hpl _ _)
              · exact hL
          have := this f (prevH b (hsh b (c - 1)) (c - 1)) (t + 1) _ (pickL 0 0 (comm b (c - 1) p) (p - (c - 1))).2 h
          omega
    have hpe : pickL 0 0 (comm b (c - 1) p) (p - (c - 1)) = (0, 0) := by
      unfold pickL at hp0 ⊢
      split
      · rename_i h; rw [if_pos h] at hp0; dsimp only at hp0; omega
      · rfl
    rw [hpe] at h0
    rw [if_neg (by simp)] at h0
    have hc3 : comm b (c - 1) p < 3 := by
      unfold pickL at hp0
      split at hp0
      · rename_i h; dsimp only at hp0; omega
      · omega
    by_cases hqc : q = c - 1
    · rw [hqc]; exact hc3
    · rw [he (by omega)] at h0
      have hpl := prevH_le b (hsh b p) (c - 1)
      exact ih (prevH b (hsh b p) (c - 1)) (t + 1) (by omega) (by omega) h0 (fun h => (prevH_spec b (hsh b p) (c - 1) h).2) (prevH_last b (hsh b p) (c - 1) q (by omega) hql hqh)
theorem best_none (b : List UInt8) (eff p : Nat) (h : (best b eff p).1 = 0) (hl : p + 3 ≤ b.length) (d : Nat) (hd : 1 ≤ d) (hdp : d ≤ p) (hw : d ≤ 32768) : ¬ ∀ i, i < 3 → b.getD (p - d + i) 0 = b.getD (p + i) 0 := by
  intro h3
  unfold best at h
  rw [if_neg (by omega)] at h
  have hh : hsh b (p - d) = hsh b p := by
    unfold hsh
    have e0 := h3 0 (by omega)
    have e1 := h3 1 (by omega)
    have e2 := h3 2 (by omega)
    simp only [Nat.add_zero] at e0
    rw [e0, e1, e2]
  have h1 := bestF_none b p eff (p + 1) (prevH b (hsh b p) p) 0 (by have := prevH_le b (hsh b p) p; omega) (prevH_le _ _ _) h (fun h => (prevH_spec b (hsh b p) p h).2) (p - d) (prevH_last b (hsh b p) p (p - d) (by omega) (by omega) hh) (by omega) hh (by omega)
  have h2 := comm_three b (p - d) p hl h3
  omega
end Go.Proofs.Ytabaagelgfdkeaa
