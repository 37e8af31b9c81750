/-
  Edits in bytes, cut off or with more behind them: plain. No condition.
-/
import Derived.Test.YtoobhebbgbhahaaP1
namespace Go.Proofs.Ytoobhebbgbhahaa
def Rd.ap (s : Rd) (x : List UInt8) : Rd := ⟨s.l ++ x, s.e⟩
def Ok3 (e : Nat) : Prop := e = 0 ∨ e = 20 ∨ e = 25
theorem getU_ok3 : ∀ (l : List UInt8) (k u : Nat), Ok3 (getU k u l).2.2
  | [], k, u => by rw [getU]; exact .inr (.inl rfl)
  | c :: l, k, u => by
    rw [getU]
    split
    · exact .inr (.inr rfl)
    · split
      · exact .inl rfl
      · exact getU_ok3 l _ _
theorem getU_ext (x : List UInt8) : ∀ (l : List UInt8) (k u : Nat), (getU k u l).2.2 ≠ 20 → getU k u (l ++ x) = ((getU k u l).1, (getU k u l).2.1 ++ x, (getU k u l).2.2)
  | [], k, u, h => by rw [getU] at h; exact absurd rfl h
  | c :: l, k, u, h => by
    rw [getU] at h
    rw [List.cons_append, getU, getU]
    split
    · rfl
    · rename_i h1
      rw [if_neg h1] at h
      split
      · rfl
      · rename_i h2
        rw [if_neg h2] at h
        exact getU_ext x l _ _ h
theorem Rd.num_ok3 {s : Rd} (h : Ok3 s.e) : Ok3 s.num.2.e := by
  rw [Rd.num]
  split
  · exact h
  · exact getU_ok3 _ _ _
theorem Rd.num_ext {s : Rd} (x : List UInt8) (h : s.num.2.e ≠ 20) : s.e ≠ 20 ∧ (s.ap x).num = (s.num.1, s.num.2.ap x) := by
  by_cases h0 : s.e ≠ 0
  · rw [Rd.num, if_pos h0] at h
    rw [Rd.num, Rd.num, if_pos h0, if_pos (show (s.ap x).e ≠ 0 from h0)]
    exact ⟨h, rfl⟩
  · rw [Rd.num, if_neg h0] at h
    dsimp only at h
    rw [Rd.num, Rd.num, if_neg h0, if_neg (show ¬ (s.ap x).e ≠ 0 from h0)]
    refine ⟨by omega, ?_⟩
    have := getU_ext x s.l 0 0 h
    show (if (getU 0 0 (s.l ++ x)).2.2 = 0 then unzz (getU 0 0 (s.l ++ x)).1 else 0, (⟨(getU 0 0 (s.l ++ x)).2.1, (getU 0 0 (s.l ++ x)).2.2⟩ : Rd)) = _
    rw [this]
    rfl
theorem Rd.size_ok3 {s : Rd} (h : Ok3 s.e) : Ok3 s.size.2.e := by
  rw [Rd.size]
  split
  · exact Rd.num_ok3 h
  · split
    · exact .inr (.inr rfl)
    · split
      · exact .inr (.inl rfl)
      · exact Rd.num_ok3 h
theorem Rd.size_ext {s : Rd} (x : List UInt8) (h : s.size.2.e ≠ 20) : s.e ≠ 20 ∧ (s.ap x).size = (s.size.1, s.size.2.ap x) := by
  rw [Rd.size] at h
  rw [Rd.size, Rd.size]
  by_cases h1 : s.num.2.e ≠ 0
  · rw [if_pos h1] at h
    obtain ⟨g1, g2⟩ := Rd.num_ext x h
    rw [g2]
    dsimp only
    rw [if_pos (show (s.num.2.ap x).e ≠ 0 from h1), if_pos h1]
    exact ⟨g1, rfl⟩
  · obtain ⟨g1, g2⟩ := Rd.num_ext (s := s) x (by omega)
    rw [g2]
    rw [if_neg h1] at h
    dsimp only
    rw [if_neg (show ¬ (s.num.2.ap x).e ≠ 0 from h1), if_neg h1]
    by_cases h2 : s.num.1 < 0
    · rw [if_pos h2, if_pos h2]
      exact ⟨g1, rfl⟩
    · rw [if_neg h2] at h
      rw [if_neg h2, if_neg h2]
      by_cases h3 : (s.num.2.l.length : Int) < s.num.1
      · rw [if_pos h3] at h
        exact absurd rfl h
      · rw [if_neg h3, if_neg (by show ¬ (((s.num.2.l ++ x).length : Nat) : Int) < _; rw [List.length_append]; omega)]
        exact ⟨g1, rfl⟩
theorem Rd.fix_ok3 : ∀ (k : Nat) {s : Rd}, Ok3 s.e → Ok3 (Rd.fix k s).2.e
  | 0, s, h => by rw [Rd.fix]; exact h
  | k + 1, s, h => by rw [Rd.fix]; exact Rd.fix_ok3 k (Rd.num_ok3 h)
theorem Rd.fix_ext (x : List UInt8) : ∀ (k : Nat) (s : Rd), (Rd.fix k s).2.e ≠ 20 → s.e ≠ 20 ∧ Rd.fix k (s.ap x) = ((Rd.fix k s).1, (Rd.fix k s).2.ap x)
  | 0, s, h => by
    rw [Rd.fix] at h
    rw [Rd.fix, Rd.fix]
    exact ⟨h, rfl⟩
  | k + 1, s, h => by
    rw [Rd.fix] at h
    obtain ⟨h1, h2⟩ := Rd.fix_ext x k s.num.2 h
    obtain ⟨g1, g2⟩ := Rd.num_ext x h1
    rw [Rd.fix, Rd.fix, g2]
    dsimp only
    rw [h2]
    exact ⟨g1, rfl⟩
theorem Rd.numsP_ok3 : ∀ (k : Nat) {s : Rd}, Ok3 s.e → Ok3 (Rd.numsP k s).2.e
  | 0, s, h => by rw [Rd.numsP]; exact h
  | k + 1, s, h => by
    rw [Rd.numsP]
    split
    · exact h
    · exact Rd.numsP_ok3 k (Rd.num_ok3 h)
theorem Rd.numsP_ext (x : List UInt8) : ∀ (k : Nat) (s : Rd), (Rd.numsP k s).2.e ≠ 20 → s.e ≠ 20 ∧ Rd.numsP k (s.ap x) = ((Rd.numsP k s).1, (Rd.numsP k s).2.ap x)
  | 0, s, h => by
    rw [Rd.numsP] at h
    rw [Rd.numsP, Rd.numsP]
    exact ⟨h, rfl⟩
  | k + 1, s, h => by
    rw [Rd.numsP] at h
    rw [Rd.numsP, Rd.numsP]
    by_cases h0 : s.e ≠ 0
    · rw [if_pos h0] at h
      rw [if_pos h0, if_pos (show (s.ap x).e ≠ 0 from h0)]
      exact ⟨h, rfl⟩
    rw [if_neg h0] at h
    obtain ⟨h1, h2⟩ := Rd.numsP_ext x k s.num.2 h
    obtain ⟨g1, g2⟩ := Rd.num_ext x h1
    rw [if_neg h0, if_neg (show ¬ (s.ap x).e ≠ 0 from h0), g2]
    dsimp only
    rw [h2]
    exact ⟨g1, rfl⟩
theorem Rd.ptsP_ok3 : ∀ (k : Nat) {s : Rd}, Ok3 s.e → Ok3 (Rd.ptsP k s).2.e
  | 0, s, h => by rw [Rd.ptsP]; exact h
  | k + 1, s, h => by
    rw [Rd.ptsP]
    split
    · exact h
    · exact Rd.ptsP_ok3 k (Rd.num_ok3 (Rd.num_ok3 h))
theorem Rd.ptsP_ext (x : List UInt8) : ∀ (k : Nat) (s : Rd), (Rd.ptsP k s).2.e ≠ 20 → s.e ≠ 20 ∧ Rd.ptsP k (s.ap x) = ((Rd.ptsP k s).1, (Rd.ptsP k s).2.ap x)
  | 0, s, h => by
    rw [Rd.ptsP] at h
    rw [Rd.ptsP, Rd.ptsP]
    exact ⟨h, rfl⟩
  | k + 1, s, h => by
    rw [Rd.ptsP] at h
    rw [Rd.ptsP, Rd.ptsP]
    by_cases h0 : s.e ≠ 0
    · rw [if_pos h0] at h
      rw [if_pos h0, if_pos (show (s.ap x).e ≠ 0 from h0)]
      exact ⟨h, rfl⟩
    rw [if_neg h0] at h
    obtain ⟨h1, h2⟩ := Rd.ptsP_ext x k s.num.2.num.2 h
    obtain ⟨f1, f2⟩ := Rd.num_ext x h1
    obtain ⟨g1, g2⟩ := Rd.num_ext x f1
    rw [if_neg h0, if_neg (show ¬ (s.ap x).e ≠ 0 from h0), g2]
    dsimp only
    rw [f2]
    dsimp only
    rw [h2]
    exact ⟨g1, rfl⟩
theorem Rd.nums_ok3 {s : Rd} (h : Ok3 s.e) : Ok3 s.nums.2.e := by
  rw [Rd.nums]
  exact Rd.numsP_ok3 _ (Rd.size_ok3 h)
theorem Rd.nums_ext {s : Rd} (x : List UInt8) (h : s.nums.2.e ≠ 20) : s.e ≠ 20 ∧ (s.ap x).nums = (s.nums.1, s.nums.2.ap x) := by
  rw [Rd.nums] at h
  obtain ⟨h1, h2⟩ := Rd.numsP_ext x _ _ h
  obtain ⟨g1, g2⟩ := Rd.size_ext x h1
  rw [Rd.nums, Rd.nums, g2]
  exact ⟨g1, h2⟩
theorem getR_ok3 (b : List UInt8) : Ok3 (getR b).2.e := by
  unfold getR
  dsimp only
  exact Rd.nums_ok3 (Rd.fix_ok3 _ (Rd.ptsP_ok3 _ (Rd.size_ok3 (Rd.nums_ok3 (Rd.fix_ok3 _ (.inl rfl))))))
theorem getR_ext {b : List UInt8} (x : List UInt8) (h : (getR b).2.e ≠ 20) : getR (b ++ x) = ((getR b).1, (getR b).2.ap x) := by
  unfold getR at h ⊢
  dsimp only at h ⊢
  obtain ⟨a1, a2⟩ := Rd.nums_ext x h
  obtain ⟨b1, b2⟩ := Rd.fix_ext x _ _ a1
  obtain ⟨c1, c2⟩ := Rd.ptsP_ext x _ _ b1
  obtain ⟨d1, d2⟩ := Rd.size_ext x c1
  obtain ⟨e1, e2⟩ := Rd.nums_ext x d1
  obtain ⟨f1, f2⟩ := Rd.fix_ext x _ _ e1
  have f2' : Rd.fix 10 ⟨b ++ x, 0⟩ = ((Rd.fix 10 ⟨b, 0⟩).1, (Rd.fix 10 ⟨b, 0⟩).2.ap x) := f2
  rw [f2']
  dsimp only
  rw [e2]
  dsimp only
  rw [d2]
  dsimp only
  rw [c2]
  dsimp only
  rw [b2]
  dsimp only
  rw [a2]
theorem endE_20 {t : Rd} (h : t.e = 20) : t.endE = 20 := by
  unfold Rd.endE
  rw [if_neg (by rw [h]; simp), h]
theorem endE_25 {t : Rd} {x : List UInt8} (hx : x ≠ []) (h : Ok3 t.e) (h2 : t.e ≠ 20) : (t.ap x).endE = 25 := by
  unfold Rd.endE Rd.ap
  dsimp only
  rcases h with h0 | h0 | h0
  · rw [if_pos ⟨h0, by simp [hx]⟩]
  · exact absurd h0 h2
  · rw [if_neg (by rw [h0]; simp), h0]
def outE (r : Ed × Rd) : Ed × Nat := if r.2.endE = 0 then (r.1, 0) else (Ed.zero, r.2.endE)
theorem getE_out (b : List UInt8) : getE b = outE (getR b) := rfl
theorem outE_of {r : Ed × Rd} (h : r.2.endE ≠ 0) : (outE r).2 = r.2.endE := by unfold outE; rw [if_neg h]
theorem getE_ext {b x : List UInt8} (hx : x ≠ []) (h : (getE b).2 ≠ 20) : (getE (b ++ x)).2 = 25 := by
  rw [getE_out] at h ⊢
  have hok := getR_ok3 b
  have hext := getR_ext (b := b) x
  generalize getR b = r at h hok hext
  have key : r.2.e ≠ 20 := fun h20 => h (by rw [outE_of (by rw [endE_20 h20]; decide), endE_20 h20])
  rw [hext key, outE_of (by show (r.2.ap x).endE ≠ 0; rw [endE_25 hx hok key]; decide)]
  exact endE_25 hx hok key
theorem getE_cut {e : Ed} (h : e.wf) {k : Nat} (hk : k < e.put.length) : (getE (e.put.take k)).2 = 20 := by
  refine Classical.byContradiction fun hn => ?_
  have := getE_ext (x := e.put.drop k) (by
    intro h0
    have := congrArg List.length h0
    rw [List.length_drop, List.length_nil] at this
    omega) hn
  rw [List.take_append_drop, getE_put h] at this
  simp at this
theorem getE_more {e : Ed} (h : e.wf) {x : List UInt8} (hx : x ≠ []) : (getE (e.put ++ x)).2 = 25 :=
  getE_ext hx (by rw [getE_put h]; exact (by decide : (0 : Nat) ≠ 20))
theorem length_putU_le : ∀ (k u : Nat), u < 128 ^ (k + 1) → (putU u).length ≤ k + 1
  | 0, u, h => by rw [putU_lt (by simpa using h)]; simp
  | k + 1, u, h => by
    by_cases h0 : u < 128
    · rw [putU_lt h0]; simp
    · rw [putU_ge h0, List.length_cons]
      have := length_putU_le k (u / 128) (by rw [Nat.div_lt_iff_lt_mul (by decide)]; rw [Nat.pow_succ] at h; exact h)
      omega
theorem length_numB_le {n : Int} (h : I64 n) : (numB n).length ≤ 10 :=
  length_putU_le 9 _ (Nat.lt_trans (zz_lt h) (by decide))
end Go.Proofs.Ytoobhebbgbhahaa
