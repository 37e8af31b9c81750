/-
  Numbers in bytes, edits in bytes: plain. No condition.
-/
import Derived.Test.YtoobhebbgbhahaaHs
namespace Go.Proofs.Ytoobhebbgbhahaa
def I64 (n : Int) : Prop := -9223372036854775808 ≤ n ∧ n ≤ 9223372036854775807
def zz (n : Int) : Nat := if 0 ≤ n then (2 * n).toNat else (-2 * n - 1).toNat
def unzz (u : Nat) : Int := if u % 2 = 0 then ((u / 2 : Nat) : Int) else -1 - ((u / 2 : Nat) : Int)
theorem unzz_zz (n : Int) : unzz (zz n) = n := by
  unfold unzz zz
  split <;> split <;> omega
theorem zz_unzz (u : Nat) : zz (unzz u) = u := by
  unfold unzz zz
  split <;> split <;> omega
theorem zz_lt {n : Int} (h : I64 n) : zz n < 18446744073709551616 := by
  obtain ⟨h1, h2⟩ := h
  unfold zz
  split <;> omega
theorem unzz_in {u : Nat} (h : u < 18446744073709551616) : I64 (unzz u) := by
  unfold unzz I64
  split <;> omega
def putU (u : Nat) : List UInt8 := if _h : u < 128 then [UInt8.ofNat u] else UInt8.ofNat (u % 128 + 128) :: putU (u / 128)
termination_by u
theorem putU_lt {u : Nat} (h : u < 128) : putU u = [UInt8.ofNat u] := by rw [putU, dif_pos h]
theorem putU_ge {u : Nat} (h : ¬ u < 128) : putU u = UInt8.ofNat (u % 128 + 128) :: putU (u / 128) := by rw [putU, dif_neg h]
def numB (n : Int) : List UInt8 := putU (zz n)
def numsB (l : List Int) : List UInt8 := l.flatMap numB
theorem numsB_cons (n : Int) (l : List Int) : numsB (n :: l) = numB n ++ numsB l := rfl
theorem numsB_append (l m : List Int) : numsB (l ++ m) = numsB l ++ numsB m := by simp [numsB]
def lstB (l : List Int) : List UInt8 := numB (l.length : Int) ++ numsB l
structure Pt where
  x : Int
  y : Int
/-- An edit: its ten numbers, four lists. -/
structure Ed where
  f : List Int
  P : List Int
  S : List Pt
  m : List Int
  Q : List Int
def ptsB (l : List Pt) : List UInt8 := l.flatMap fun p => numB p.x ++ numB p.y
def Ed.put (e : Ed) : List UInt8 := numsB e.f ++ (lstB e.P ++ (numB (e.S.length : Int) ++ (ptsB e.S ++ (numsB e.m ++ lstB e.Q))))
structure Ed.wf (e : Ed) : Prop where
  f : ∀ n ∈ e.f, I64 n
  P : ∀ n ∈ e.P, I64 n
  S : ∀ p ∈ e.S, I64 p.x ∧ I64 p.y
  m : ∀ n ∈ e.m, I64 n
  Q : ∀ n ∈ e.Q, I64 n
  fl : e.f.length = 10
  ml : e.m.length = 6
  Pl : e.P.length ≤ 1000000
  Sl : e.S.length ≤ 1000000
  Ql : e.Q.length ≤ 1000000
/-- What is read; the first error. -/
structure Rd where
  l : List UInt8
  e : Nat
def getU : Nat → Nat → List UInt8 → Nat × List UInt8 × Nat
  | _, _, [] => (0, [], 20)
  | k, u, c :: r => if (k = 9 ∧ 1 < c.toNat) ∨ (0 < k ∧ c.toNat = 0) then (0, r, 25) else if c.toNat < 128 then (u + c.toNat % 128 * 2 ^ (7 * k), r, 0) else getU (k + 1) (u + c.toNat % 128 * 2 ^ (7 * k)) r
def Rd.num (s : Rd) : Int × Rd := if s.e ≠ 0 then (0, s) else (if (getU 0 0 s.l).2.2 = 0 then unzz (getU 0 0 s.l).1 else 0, ⟨(getU 0 0 s.l).2.1, (getU 0 0 s.l).2.2⟩)
def Rd.size (s : Rd) : Nat × Rd := if s.num.2.e ≠ 0 then (0, s.num.2) else if s.num.1 < 0 then (0, ⟨s.num.2.l, 25⟩) else if (s.num.2.l.length : Int) < s.num.1 then (0, ⟨s.num.2.l, 20⟩) else (s.num.1.toNat, s.num.2)
def Rd.numsP : Nat → Rd → List Int × Rd
  | 0, s => ([], s)
  | k + 1, s => if s.e ≠ 0 then ([], s) else (s.num.1 :: (Rd.numsP k s.num.2).1, (Rd.numsP k s.num.2).2)
def Rd.nums (s : Rd) : List Int × Rd := Rd.numsP s.size.1 s.size.2
def Rd.fix : Nat → Rd → List Int × Rd
  | 0, s => ([], s)
  | k + 1, s => (s.num.1 :: (Rd.fix k s.num.2).1, (Rd.fix k s.num.2).2)
def Rd.ptsP : Nat → Rd → List Pt × Rd
  | 0, s => ([], s)
  | k + 1, s => if s.e ≠ 0 then ([], s) else (⟨s.num.1, s.num.2.num.1⟩ :: (Rd.ptsP k s.num.2.num.2).1, (Rd.ptsP k s.num.2.num.2).2)
def Ed.zero : Ed := ⟨[0, 0, 0, 0, 0, 0, 0, 0, 0, 0], [], [], [0, 0, 0, 0, 0, 0], []⟩
def getR (b : List UInt8) : Ed × Rd :=
  let r1 := Rd.fix 10 ⟨b, 0⟩
  let r2 := r1.2.nums
  let r3 := r2.2.size
  let r4 := Rd.ptsP r3.1 r3.2
  let r5 := Rd.fix 6 r4.2
  let r6 := r5.2.nums
  (⟨r1.1, r2.1, r4.1, r5.1, r6.1⟩, r6.2)
def Rd.endE (s : Rd) : Nat := if s.e = 0 ∧ s.l ≠ [] then 25 else s.e
def getE (b : List UInt8) : Ed × Nat := if (getR b).2.endE = 0 then ((getR b).1, 0) else (Ed.zero, (getR b).2.endE)

/-! What is written is read -/
theorem byte_ofNat {n : Nat} (h : n < 256) : (UInt8.ofNat n).toNat = n := by rw [UInt8.toNat_ofNat']; omega
theorem getU_put : ∀ (v k u : Nat) (r : List UInt8), v * 2 ^ (7 * k) < 18446744073709551616 → (0 < k → 0 < v) → getU k u (putU v ++ r) = (u + v * 2 ^ (7 * k), r, 0) := by
  intro v
  induction v using Nat.strongRecOn with
  | _ v ih =>
    intro k u r hb hv
    have h9 : k = 9 → v ≤ 1 := by
      rintro rfl
      simp only [Nat.reduceMul, Nat.reducePow] at hb
      omega
    by_cases hlt : v < 128
    · rw [putU_lt hlt]
      simp only [List.cons_append, List.nil_append, getU, byte_ofNat (show v < 256 by omega)]
      rw [if_neg (by omega), if_pos hlt, Nat.mod_eq_of_lt hlt]
    · rw [putU_ge hlt]
      simp only [List.cons_append, getU, byte_ofNat (show v % 128 + 128 < 256 by omega)]
      rw [if_neg (by omega), if_neg (by omega), show (v % 128 + 128) % 128 = v % 128 by omega]
      have e : 2 ^ (7 * (k + 1)) = 128 * 2 ^ (7 * k) := by rw [show 7 * (k + 1) = 7 + 7 * k by omega, Nat.pow_add]
      have hd : v / 128 * 2 ^ (7 * (k + 1)) + v % 128 * 2 ^ (7 * k) = v * 2 ^ (7 * k) := by
        rw [e, ← Nat.mul_assoc, ← Nat.add_mul]
        congr 1
        omega
      rw [ih (v / 128) (by omega) (k + 1) _ r (by omega) (fun _ => by omega)]
      congr 1
      omega
theorem Rd.num_put {n : Int} (h : I64 n) (r : List UInt8) : Rd.num ⟨numB n ++ r, 0⟩ = (n, ⟨r, 0⟩) := by
  have := getU_put (zz n) 0 0 r (by simpa using zz_lt h) (fun h => absurd h (by omega))
  unfold Rd.num numB
  rw [if_neg (by simp)]
  dsimp only
  rw [this]
  simp [unzz_zz]
theorem Rd.fix_put : ∀ (l : List Int) (r : List UInt8), (∀ n ∈ l, I64 n) → Rd.fix l.length ⟨numsB l ++ r, 0⟩ = (l, ⟨r, 0⟩)
  | [], r, _ => rfl
  | n :: l, r, h => by
    rw [numsB_cons, List.append_assoc, List.length_cons, Rd.fix, Rd.num_put (h n (by simp))]
    dsimp only
    rw [Rd.fix_put l r (fun m hm => h m (by simp [hm]))]
theorem Rd.numsP_put : ∀ (l : List Int) (r : List UInt8), (∀ n ∈ l, I64 n) → Rd.numsP l.length ⟨numsB l ++ r, 0⟩ = (l, ⟨r, 0⟩)
  | [], r, _ => rfl
  | n :: l, r, h => by
    rw [numsB_cons, List.append_assoc, List.length_cons, Rd.numsP, Rd.num_put (h n (by simp)), if_neg (by simp)]
    dsimp only
    rw [Rd.numsP_put l r (fun m hm => h m (by simp [hm]))]
theorem length_putU (u : Nat) : 0 < (putU u).length := by
  rw [putU]; split <;> simp
theorem length_numB (n : Int) : 0 < (numB n).length := length_putU _
theorem length_numsB : ∀ l : List Int, l.length ≤ (numsB l).length
  | [] => Nat.le_refl _
  | n :: l => by have := length_numsB l; have := length_numB n; rw [numsB_cons, List.length_append, List.length_cons]; omega
theorem length_ptsB : ∀ l : List Pt, l.length ≤ (ptsB l).length
  | [] => Nat.le_refl _
  | p :: l => by
    have := length_ptsB l
    have := length_numB p.x
    unfold ptsB at *
    rw [List.flatMap_cons, List.length_append, List.length_append, List.length_cons]; omega
theorem Rd.size_put {n : Nat} (hn : n ≤ 1000000) {r : List UInt8} (h : n ≤ r.length) : Rd.size ⟨numB (n : Int) ++ r, 0⟩ = (n, ⟨r, 0⟩) := by
  unfold Rd.size
  rw [Rd.num_put ⟨by omega, by omega⟩, if_neg (by simp), if_neg (by dsimp only; omega), if_neg (by dsimp only; omega)]
  simp
theorem Rd.nums_put {l : List Int} (hl : l.length ≤ 1000000) (h : ∀ n ∈ l, I64 n) (r : List UInt8) : Rd.nums ⟨lstB l ++ r, 0⟩ = (l, ⟨r, 0⟩) := by
  unfold Rd.nums lstB
  rw [List.append_assoc, Rd.size_put hl (by have := length_numsB l; rw [List.length_append]; omega)]
  exact Rd.numsP_put l r h
theorem Rd.ptsP_put : ∀ (l : List Pt) (r : List UInt8), (∀ p ∈ l, I64 p.x ∧ I64 p.y) → Rd.ptsP l.length ⟨ptsB l ++ r, 0⟩ = (l, ⟨r, 0⟩)
  | [], r, _ => rfl
  | p :: l, r, h => by
    obtain ⟨h1, h2⟩ := h p (by simp)
    rw [show ptsB (p :: l) = (numB p.x ++ numB p.y) ++ ptsB l from rfl, List.append_assoc, List.append_assoc, List.length_cons, Rd.ptsP, Rd.num_put h1, if_neg (by simp)]
    dsimp only
    rw [Rd.num_put h2]
    dsimp only
    rw [Rd.ptsP_put l r (fun m hm => h m (by simp [hm]))]
theorem getR_put {e : Ed} (h : e.wf) (r : List UInt8) : getR (e.put ++ r) = (e, ⟨r, 0⟩) := by
  have hL1 := length_ptsB e.S
  unfold getR Ed.put
  have f1 := Rd.fix_put e.f (lstB e.P ++ (numB (e.S.length : Int) ++ (ptsB e.S ++ (numsB e.m ++ lstB e.Q))) ++ r) h.f
  rw [h.fl] at f1
  have f5 := Rd.fix_put e.m (lstB e.Q ++ r) h.m
  rw [h.ml] at f5
  dsimp only
  rw [List.append_assoc, f1]
  dsimp only
  rw [List.append_assoc, Rd.nums_put h.Pl h.P]
  dsimp only
  rw [List.append_assoc, Rd.size_put h.Sl (by rw [List.append_assoc, List.length_append]; omega)]
  dsimp only
  rw [List.append_assoc, Rd.ptsP_put e.S _ h.S]
  dsimp only
  rw [List.append_assoc, f5]
  dsimp only
  rw [Rd.nums_put h.Ql h.Q]
theorem getE_put {e : Ed} (h : e.wf) : getE e.put = (e, 0) := by
  have := getR_put h []
  rw [List.append_nil] at this
  unfold getE
  rw [this]
  rfl
theorem put_inj {e e' : Ed} (h : e.wf) (h' : e'.wf) (hp : e.put = e'.put) : e = e' := by
  have := getE_put h
  rw [hp, getE_put h'] at this
  exact (Prod.mk.inj this).1.symm

/-! What is read was written so -/
theorem getU_was : ∀ (l : List UInt8) (k u u' : Nat) (r : List UInt8), k ≤ 9 → getU k u l = (u', r, 0) → ∃ v, u' = u + v * 2 ^ (7 * k) ∧ l = putU v ++ r ∧ v * 2 ^ (7 * k) < 18446744073709551616 ∧ (0 < k → 0 < v)
  | [], k, u, u', r, _, h => by simp [getU] at h
  | c :: l, k, u, u', r, hk, h => by
    rw [getU] at h
    split at h
    · simp at h
    · rename_i hc
      have h256 := c.toNat_lt
      split at h
      · rename_i hlt
        obtain ⟨rfl, rfl, _⟩ : u + c.toNat % 128 * 2 ^ (7 * k) = u' ∧ l = r ∧ True := by simpa using h
        refine ⟨c.toNat, by rw [Nat.mod_eq_of_lt hlt], ?_, ?_, fun _ => by omega⟩
        · rw [putU_lt hlt]; simp
        · rcases Nat.lt_or_ge k 9 with h9 | h9
          · have : 2 ^ (7 * k) ≤ 2 ^ 56 := Nat.pow_le_pow_right (by decide) (by omega)
            have := Nat.mul_le_mul (show c.toNat ≤ 127 by omega) this
            simp only [Nat.reducePow] at this
            omega
          · obtain rfl : k = 9 := by omega
            simp only [Nat.reduceMul, Nat.reducePow]
            omega
      · rename_i hge
        have h9 : k ≠ 9 := fun h => hc (.inl ⟨h, by omega⟩)
        obtain ⟨v, h1, h2, h3, h4⟩ := getU_was l (k + 1) _ u' r (by omega) h
        have hv := h4 (by omega)
        have e : 2 ^ (7 * (k + 1)) = 128 * 2 ^ (7 * k) := by rw [show 7 * (k + 1) = 7 + 7 * k by omega, Nat.pow_add]
        have hd : (v * 128 + c.toNat % 128) * 2 ^ (7 * k) = v * 2 ^ (7 * (k + 1)) + c.toNat % 128 * 2 ^ (7 * k) := by
          rw [e, ← Nat.mul_assoc, ← Nat.add_mul]
        refine ⟨v * 128 + c.toNat % 128, by rw [h1, hd]; omega, ?_, ?_, fun _ => by omega⟩
        · rw [putU_ge (by omega), show (v * 128 + c.toNat % 128) % 128 + 128 = c.toNat by omega, show (v * 128 + c.toNat % 128) / 128 = v by omega, h2]
          simp
        · -- below 2 ^ 64, for v * 2 ^ (7 (k + 1)) is a multiple of 2 ^ (7 (k + 1)), which divides 2 ^ 64 or k + 1 is 9 or less
          rw [hd]
          have hkk : 7 * (k + 1) ≤ 63 := by omega
          obtain ⟨j, hj⟩ : ∃ j, 64 = 7 * (k + 1) + j := ⟨64 - 7 * (k + 1), by omega⟩
          have e2 : (18446744073709551616 : Nat) = 2 ^ j * 2 ^ (7 * (k + 1)) := by rw [← Nat.pow_add, Nat.add_comm, ← hj]
          have h5 : v < 2 ^ j := by
            rw [e2] at h3
            exact Nat.lt_of_mul_lt_mul_right h3
          have h6 : (v + 1) * 2 ^ (7 * (k + 1)) ≤ 2 ^ j * 2 ^ (7 * (k + 1)) := Nat.mul_le_mul_right _ h5
          rw [← e2, Nat.add_mul, Nat.one_mul] at h6
          have h7 : c.toNat % 128 * 2 ^ (7 * k) < 2 ^ (7 * (k + 1)) := by
            rw [e]
            exact Nat.mul_lt_mul_of_pos_right (by omega) (Nat.two_pow_pos _)
          omega
theorem Rd.num_was {s : Rd} (h : s.num.2.e = 0) : s.e = 0 ∧ s.l = numB s.num.1 ++ s.num.2.l ∧ I64 s.num.1 := by
  obtain ⟨l, e⟩ := s
  by_cases h0 : e = 0
  · subst h0
    unfold Rd.num at h ⊢
    dsimp only at h ⊢
    rw [if_neg (by simp)] at h ⊢
    dsimp only at h ⊢
    rw [if_pos h]
    obtain ⟨v, h1, h2, h3, _⟩ := getU_was l 0 0 (getU 0 0 l).1 (getU 0 0 l).2.1 (by omega) (Prod.ext rfl (Prod.ext rfl h))
    rw [h1]
    have e0 : 0 + v * 2 ^ (7 * 0) = v := by simp
    rw [e0]
    simp only [Nat.mul_zero, Nat.pow_zero, Nat.mul_one] at h3
    refine ⟨rfl, ?_, unzz_in h3⟩
    unfold numB
    rw [zz_unzz]
    exact h2
  · unfold Rd.num at h
    rw [if_pos h0] at h
    exact absurd h h0
theorem Rd.fix_was : ∀ (k : Nat) (s : Rd), (Rd.fix k s).2.e = 0 → s.e = 0 ∧ s.l = numsB (Rd.fix k s).1 ++ (Rd.fix k s).2.l ∧ (∀ n ∈ (Rd.fix k s).1, I64 n) ∧ (Rd.fix k s).1.length = k
  | 0, s, h => ⟨h, rfl, by simp [Rd.fix], rfl⟩
  | k + 1, s, h => by
    rw [Rd.fix] at h ⊢
    dsimp only at h ⊢
    obtain ⟨h1, h2, h3, h4⟩ := Rd.fix_was k s.num.2 h
    obtain ⟨g1, g2, g3⟩ := Rd.num_was h1
    refine ⟨g1, ?_, fun n hn => ?_, by rw [List.length_cons, h4]⟩
    · rw [numsB_cons, List.append_assoc, ← h2]; exact g2
    · rcases List.mem_cons.1 hn with rfl | hn
      · exact g3
      · exact h3 n hn
theorem Rd.numsP_was : ∀ (k : Nat) (s : Rd), (Rd.numsP k s).2.e = 0 → s.e = 0 ∧ s.l = numsB (Rd.numsP k s).1 ++ (Rd.numsP k s).2.l ∧ (∀ n ∈ (Rd.numsP k s).1, I64 n) ∧ (Rd.numsP k s).1.length = k
  | 0, s, h => ⟨h, rfl, by simp [Rd.numsP], rfl⟩
  | k + 1, s, h => by
    by_cases h0 : s.e ≠ 0
    · rw [Rd.numsP, if_pos h0] at h
      exact absurd h h0
    rw [Rd.numsP, if_neg h0] at h ⊢
    dsimp only at h ⊢
    obtain ⟨h1, h2, h3, h4⟩ := Rd.numsP_was k s.num.2 h
    obtain ⟨g1, g2, g3⟩ := Rd.num_was h1
    refine ⟨g1, ?_, fun n hn => ?_, by rw [List.length_cons, h4]⟩
    · rw [numsB_cons, List.append_assoc, ← h2]; exact g2
    · rcases List.mem_cons.1 hn with rfl | hn
      · exact g3
      · exact h3 n hn
theorem Rd.ptsP_was : ∀ (k : Nat) (s : Rd), (Rd.ptsP k s).2.e = 0 → s.e = 0 ∧ s.l = ptsB (Rd.ptsP k s).1 ++ (Rd.ptsP k s).2.l ∧ (∀ p ∈ (Rd.ptsP k s).1, I64 p.x ∧ I64 p.y) ∧ (Rd.ptsP k s).1.length = k
  | 0, s, h => ⟨h, rfl, by simp [Rd.ptsP], rfl⟩
  | k + 1, s, h => by
    by_cases h0 : s.e ≠ 0
    · rw [Rd.ptsP, if_pos h0] at h
      exact absurd h h0
    rw [Rd.ptsP, if_neg h0] at h ⊢
    dsimp only at h ⊢
    obtain ⟨h1, h2, h3, h4⟩ := Rd.ptsP_was k s.num.2.num.2 h
    obtain ⟨f1, f2, f3⟩ := Rd.num_was h1
    obtain ⟨g1, g2, g3⟩ := Rd.num_was f1
    refine ⟨g1, ?_, fun n hn => ?_, by rw [List.length_cons, h4]⟩
    · show s.l = ((numB s.num.1 ++ numB s.num.2.num.1) ++ ptsB _) ++ _
      rw [List.append_assoc, List.append_assoc, ← h2, ← f2]
      exact g2
    · rcases List.mem_cons.1 hn with rfl | hn
      · exact ⟨g3, f3⟩
      · exact h3 n hn
theorem Rd.size_was {s : Rd} (h : s.size.2.e = 0) : s.e = 0 ∧ s.l = numB (s.size.1 : Int) ++ s.size.2.l ∧ s.size.1 ≤ s.size.2.l.length := by
  unfold Rd.size at h ⊢
  by_cases h1 : s.num.2.e ≠ 0
  · rw [if_pos h1] at h; exact absurd h h1
  rw [if_neg h1] at h ⊢
  by_cases h2 : s.num.1 < 0
  · rw [if_pos h2] at h; simp at h
  rw [if_neg h2] at h ⊢
  by_cases h3 : (s.num.2.l.length : Int) < s.num.1
  · rw [if_pos h3] at h; simp at h
  rw [if_neg h3] at h ⊢
  dsimp only at h ⊢
  obtain ⟨g1, g2, _⟩ := Rd.num_was h
  exact ⟨g1, by rw [show ((s.num.1.toNat : Nat) : Int) = s.num.1 by omega]; exact g2, by omega⟩
theorem Rd.nums_was {s : Rd} (h : s.nums.2.e = 0) : s.e = 0 ∧ s.l = lstB s.nums.1 ++ s.nums.2.l ∧ (∀ n ∈ s.nums.1, I64 n) ∧ s.nums.1.length ≤ s.l.length := by
  unfold Rd.nums at h ⊢
  obtain ⟨h1, h2, h3, h4⟩ := Rd.numsP_was _ _ h
  obtain ⟨g1, g2, g3⟩ := Rd.size_was h1
  refine ⟨g1, ?_, h3, ?_⟩
  · unfold lstB
    rw [h4, List.append_assoc, ← h2]
    exact g2
  · rw [h4, g2, List.length_append]; omega
attribute [irreducible] Rd.fix Rd.nums Rd.size Rd.ptsP Rd.num getU
theorem getR_was {b : List UInt8} (h : (getR b).2.e = 0) (hb : b.length ≤ 1000000) : b = (getR b).1.put ++ (getR b).2.l ∧ (getR b).1.wf := by
  unfold getR at h ⊢
  dsimp only at h ⊢
  obtain ⟨a1, a2, a3, a4⟩ := Rd.nums_was h
  obtain ⟨b1, b2, b3, b4⟩ := Rd.fix_was _ _ a1
  obtain ⟨c1, c2, c3, c4⟩ := Rd.ptsP_was _ _ b1
  obtain ⟨d1, d2, d3⟩ := Rd.size_was c1
  obtain ⟨e1, e2, e3, e4⟩ := Rd.nums_was d1
  obtain ⟨f1, f2, f3, f4⟩ := Rd.fix_was _ _ e1
  have l1 := congrArg List.length f2
  have l2 := congrArg List.length e2
  have l3 := congrArg List.length d2
  have l4 := congrArg List.length c2
  have l5 := congrArg List.length b2
  rw [List.length_append] at l1 l2 l3 l4 l5
  dsimp only at l1
  refine ⟨?_, f3, e3, c3, b3, a3, f4, b4, ?_, ?_, ?_⟩
  · unfold Ed.put
    dsimp only
    rw [c4]
    simp only [List.append_assoc]
    rw [← a2, ← b2, ← c2, ← d2, ← e2]
    exact f2
  all_goals dsimp only; omega
theorem getE_was {b : List UInt8} (h : (getE b).2 = 0) (hb : b.length ≤ 1000000) : b = (getE b).1.put ∧ (getE b).1.wf := by
  unfold getE at h ⊢
  by_cases h0 : (getR b).2.endE = 0
  · rw [if_pos h0]
    unfold Rd.endE at h0
    by_cases h1 : (getR b).2.e = 0 ∧ (getR b).2.l ≠ []
    · rw [if_pos h1] at h0; simp at h0
    · rw [if_neg h1] at h0
      have h2 : (getR b).2.l = [] := Classical.byContradiction fun h => h1 ⟨h0, h⟩
      obtain ⟨g1, g2⟩ := getR_was h0 hb
      rw [h2, List.append_nil] at g1
      exact ⟨g1, g2⟩
  · rw [if_neg h0] at h
    exact absurd h h0
end Go.Proofs.Ytoobhebbgbhahaa
