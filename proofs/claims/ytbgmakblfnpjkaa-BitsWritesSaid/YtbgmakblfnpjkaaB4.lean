/-
  Plain facts of bits: what is written reads back. No program.
-/
import Derived.Test.YtbgmakblfnpjkaaB3
namespace Go.Proofs.Ytbgmakblfnpjkaa
open Go.RowKit

theorem bit_of8 (b : Bool) (p q : Nat) (hp : p < 8) (hq : q < 8) : (((if b then 1 else 0) <<< UInt8.ofNat q : UInt8)).toNat.testBit p = (b && decide (p = q)) := by
  have h : ∀ b : Bool, ∀ p q : Fin 8, (((if b then 1 else 0) <<< UInt8.ofNat q.val : UInt8)).toNat.testBit p.val = (b && decide (p.val = q.val)) := by decide
  exact h b ⟨p, hp⟩ ⟨q, hq⟩
theorem bitPos_inj (i n : Nat) (high : Bool) (h : i / 8 = n / 8) : (bitPos i high = bitPos n high) ↔ i = n := by
  unfold bitPos
  cases high <;> simp <;> omega
theorem getD_pad (l : List UInt8) (j : Nat) (c : Prop) [Decidable c] : (if c then l ++ [0] else l).getD j 0 = l.getD j 0 := by
  split
  · simp only [List.getD_eq_getElem?_getD]
    rcases Nat.lt_trichotomy j l.length with h | h | h
    · rw [List.getElem?_append_left h]
    · subst h; simp
    · rw [List.getElem?_eq_none (by simp; omega), List.getElem?_eq_none (by omega)]
  · rfl
theorem bitAt_bput (bs : List UInt8) (n : Nat) (high b : Bool) (hl : bs.length = (n + 7) / 8) (hz : bitAt bs high n = false) (i : Nat) : bitAt (bput bs n high b) high i = if i = n then b else bitAt bs high i := by
  have hcl : n / 8 < (if n % 8 = 0 then bs ++ [0] else bs).length := by split <;> (try simp only [List.length_append, List.length_cons, List.length_nil]) <;> omega
  have hg : (bput bs n high b).getD (i / 8) 0 = if i / 8 = n / 8 then bs.getD (i / 8) 0 ||| ((if b then 1 else 0) <<< UInt8.ofNat (bitPos n high)) else bs.getD (i / 8) 0 := by
    unfold bput
    simp only [getD_pad]
    by_cases h : i / 8 = n / 8
    · rw [h, if_pos rfl]
      simp [List.getD_eq_getElem?_getD, List.getElem?_set, hcl]
    · rw [if_neg h, List.getD_eq_getElem?_getD, List.getElem?_set, if_neg (fun e => h e.symm), ← List.getD_eq_getElem?_getD, getD_pad]
  unfold bitAt at *
  rw [hg]
  by_cases h : i / 8 = n / 8
  · rw [if_pos h, UInt8.toNat_or, Nat.testBit_or, bit_of8 _ _ _ (bitPos_lt _ _) (bitPos_lt _ _)]
    by_cases hi : i = n
    · subst hi; rw [hz]; simp
    · have : ¬ bitPos i high = bitPos n high := fun e => hi ((bitPos_inj i n high h).1 e)
      simp [hi, this]
  · have : i ≠ n := fun e => h (by rw [e])
    rw [if_neg h, if_neg this]
theorem bitAt_bytesOf (high : Bool) (L : List Bool) (i : Nat) : bitAt (bytesOf high L) high i = L.getD i false := by
  rw [← List.reverse_reverse L]
  induction L.reverse generalizing i with
  | nil => simp [bytesOf, bitAt]
  | cons b r ih =>
    rw [List.reverse_cons, bytesOf_snoc, bitAt_bput _ _ _ _ (length_bytesOf _ _) (by rw [ih]; simp), ih]
    by_cases h : i = r.reverse.length
    · subst h; simp
    · rw [if_neg h]
      simp only [List.getD_eq_getElem?_getD]
      rcases Nat.lt_or_ge i r.reverse.length with h1 | h1
      · rw [List.getElem?_append_left h1]
      · rw [List.getElem?_eq_none h1, List.getElem?_eq_none (by simp at h ⊢; simp at h1; omega)]
theorem numL_bits (v n : Nat) : numL (numBits v n false) = v % 2 ^ n := by
  induction n with
  | zero => simp [numBits, numL]; omega
  | succ n ih =>
    have e : numBits v (n + 1) false = numBits v n false ++ [v.testBit n] := by simp [numBits, List.range_succ]
    rw [e, numL_snoc, ih, length_numBits, Nat.mod_pow_succ, Nat.mul_comm (2 ^ n)]
    congr 2
    rw [testBit_mod]
    have : v / 2 ^ n % 2 < 2 := Nat.mod_lt _ (by decide)
    generalize v / 2 ^ n % 2 = q at *
    match q, this with
    | 0, _ => rfl
    | 1, _ => rfl
theorem numH_bits (v n : Nat) : numH (numBits v n true) = v % 2 ^ n := by
  induction n generalizing v with
  | zero => simp [numBits, numH]; omega
  | succ n ih =>
    have e : numBits v (n + 1) true = numBits (v / 2) n true ++ [v.testBit 0] := by
      simp only [numBits, List.range_succ, List.map_append, List.map_cons, List.map_nil, if_true]
      congr 1
      · refine List.map_congr_left fun k hk => ?_
        rw [List.mem_range] at hk
        rw [← Nat.testBit_succ]
        congr 1
        omega
      · congr 2; omega
    rw [e, numH_snoc, ih, Nat.pow_succ, Nat.mul_comm (2 ^ n), Nat.mod_mul]
    have : (v.testBit 0).toNat = v % 2 := by
      rw [testBit_mod, Nat.pow_zero, Nat.div_one]
      have : v % 2 < 2 := Nat.mod_lt _ (by decide)
      generalize v % 2 = q at *
      match q, this with
      | 0, _ => rfl
      | 1, _ => rfl
    rw [this]; omega
theorem numOf_bits (v n : Nat) (high : Bool) (h : v < 2 ^ n) : numOf high (numBits v n high) = v := by
  cases high
  · exact (numL_bits v n).trans (Nat.mod_eq_of_lt h)
  · exact (numH_bits v n).trans (Nat.mod_eq_of_lt h)

/-- One number, or filling, more. -/
def numMore (high : Bool) (l : List Bool) (v n : Int) : List Bool := if Right v n then l ++ numBits v.toNat n.toNat high else l
def bitMore (high : Bool) (l : List Bool) (x : Num) : List Bool := if x.F then l ++ fillBits l.length (decide (x.V % 2 = 1)) else numMore high l x.V x.N
def bitsOf (high : Bool) (l : List Bool) (xs : List Num) : List Bool := xs.foldl (bitMore high) l
theorem length_numMore (high : Bool) (l : List Bool) (v n : Int) : l.length ≤ (numMore high l v n).length ∧ (numMore high l v n).length ≤ l.length + 24 := by
  unfold numMore
  split
  · rename_i h
    obtain ⟨h1, h2, _⟩ := h
    rw [List.length_append, length_numBits]; omega
  · omega
theorem length_bitMore (high : Bool) (l : List Bool) (x : Num) : (bitMore high l x).length ≤ l.length + 24 := by
  unfold bitMore
  split
  · rw [List.length_append, fillBits, List.length_replicate]; omega
  · exact (length_numMore high l _ _).2
theorem bitMore_pre (high : Bool) (l : List Bool) (x : Num) : ∃ t, bitMore high l x = l ++ t := by
  unfold bitMore numMore
  split
  · exact ⟨_, rfl⟩
  · split
    · exact ⟨_, rfl⟩
    · exact ⟨[], by simp⟩
theorem bitsOf_pre (high : Bool) (xs : List Num) (l : List Bool) : ∃ t, bitsOf high l xs = l ++ t := by
  induction xs generalizing l with
  | nil => exact ⟨[], by simp [bitsOf]⟩
  | cons x xs ih =>
    obtain ⟨t, ht⟩ := bitMore_pre high l x
    obtain ⟨u, hu⟩ := ih (bitMore high l x)
    exact ⟨t ++ u, by rw [show bitsOf high l (x :: xs) = bitsOf high (bitMore high l x) xs from rfl, hu, ht, List.append_assoc]⟩
theorem bitsOf_take (high : Bool) (xs : List Num) (k : Nat) (h : k < xs.length) : bitsOf high [] (xs.take (k + 1)) = bitMore high (bitsOf high [] (xs.take k)) xs[k] := by
  unfold bitsOf
  rw [List.take_succ_eq_append_getElem h, List.foldl_append]
  rfl
theorem length_bitsOf (high : Bool) (xs : List Num) (k : Nat) (h : k ≤ xs.length) : (bitsOf high [] (xs.take k)).length ≤ 24 * k := by
  induction k with
  | zero => simp [bitsOf]
  | succ k ih =>
    rw [bitsOf_take _ _ _ (by omega)]
    have := length_bitMore high (bitsOf high [] (xs.take k)) xs[k]
    have := ih (by omega)
    omega
/-- The number at its place is read back. -/
theorem bitsAt_num (high : Bool) (l t : List Bool) (v n : Nat) : bitsAt (bytesOf high (l ++ numBits v n high ++ t)) high l.length n = numBits v n high := by
  unfold bitsAt
  refine List.ext_getElem (by simp [numBits]) fun i h1 h2 => ?_
  simp only [List.length_map, List.length_range] at h1
  rw [List.getElem_map, List.getElem_range, bitAt_bytesOf, List.getD_eq_getElem?_getD, List.append_assoc, List.getElem?_append_right (by omega), show l.length + i - l.length = i by omega, List.getElem?_append_left (by rw [length_numBits]; omega), List.getElem?_eq_getElem h2]
  rfl

theorem Own.shed {e sz n : Nat} {v : Value} {C : List Value} {x : Ent} {F H : List Ent} (h : Own e sz v n C (x :: F) H) : ∃ H2, Imp H H2 ∧ Own e sz v n C F H2 := by
  rcases h with ⟨h1, h2, h3, h4⟩ | ⟨g, cap, h1, h2, h3, h4, h5⟩
  · exact ⟨F, Imp.perm h4 (Imp.drop (Imp.refl _)), .inl ⟨h1, h2, h3, List.Perm.refl _⟩⟩
  · exact ⟨_, Imp.perm (h5.trans (List.Perm.swap _ _ _)) (Imp.drop (Imp.refl _)), .inr ⟨g, cap, h1, h2, h3, h4, List.Perm.refl _⟩⟩
theorem Wrt.under {g n : Nat} {high : Bool} {l : List UInt8} {F H : List Ent} (h : Wrt g high l n F H) (x : Ent) : Wrt g high l n (x :: F) (x :: H) := by
  obtain ⟨sv, H1, h1, h2⟩ := h
  exact ⟨sv, x :: H1, (h1.cons _).trans (List.Perm.swap _ _ _), h2.under x⟩
theorem Wrt.shed {g n : Nat} {high : Bool} {l : List UInt8} {x : Ent} {F H : List Ent} (h : Wrt g high l n (x :: F) H) : ∃ H2, Imp H H2 ∧ Wrt g high l n F H2 := by
  obtain ⟨sv, H1, h1, h2⟩ := h
  rcases h2 with ⟨a, b, c, h4⟩ | ⟨g', cap, a, b, c, d, h5⟩
  · exact ⟨_, Imp.perm ((h1.trans (h4.cons _)).trans (List.Perm.swap _ _ _)) (Imp.drop (Imp.refl _)), sv, F, List.Perm.refl _, .inl ⟨a, b, c, List.Perm.refl _⟩⟩
  · exact ⟨_, Imp.perm (h1.trans (((h5.trans (List.Perm.swap _ _ _)).cons _).trans (List.Perm.swap _ _ _))) (Imp.drop (Imp.refl _)), sv, _, List.Perm.refl _, .inr ⟨g', cap, a, b, c, d, List.Perm.refl _⟩⟩
theorem Rdr.shed {g n : Nat} {high : Bool} {l : List UInt8} {x : Ent} {F H : List Ent} (h : Rdr g high l n (x :: F) H) : ∃ H2, Imp H H2 ∧ Rdr g high l n F H2 := by
  obtain ⟨sv, H1, h1, h2⟩ := h
  rcases h2 with ⟨a, b, c, h4⟩ | ⟨g', cap, a, b, c, d, h5⟩
  · exact ⟨_, Imp.perm ((h1.trans (h4.cons _)).trans (List.Perm.swap _ _ _)) (Imp.drop (Imp.refl _)), sv, F, List.Perm.refl _, .inl ⟨a, b, c, List.Perm.refl _⟩⟩
  · exact ⟨_, Imp.perm (h1.trans (((h5.trans (List.Perm.swap _ _ _)).cons _).trans (List.Perm.swap _ _ _))) (Imp.drop (Imp.refl _)), sv, _, List.Perm.refl _, .inr ⟨g', cap, a, b, c, d, List.Perm.refl _⟩⟩
theorem Own.permE {e sz n : Nat} {v : Value} {C : List Value} {F H : List Ent} (h : Own e sz v n C F H) : ∃ X : List Ent, H.Perm (X ++ F) ∧ ∀ F', Own e sz v n C F' (X ++ F') := by
  rcases h with ⟨h1, h2, h3, h4⟩ | ⟨g, cap, h1, h2, h3, h4, h5⟩
  · exact ⟨[], h4, fun F' => .inl ⟨h1, h2, h3, List.Perm.refl _⟩⟩
  · exact ⟨[_], h5, fun F' => .inr ⟨g, cap, h1, h2, h3, h4, List.Perm.refl _⟩⟩
theorem Wrt.open {g n : Nat} {high : Bool} {l : List UInt8} {F H : List Ent} (h : Wrt g high l n F H) : ∃ X : List Ent, H.Perm (X ++ F) ∧ ∀ F', Wrt g high l n F' (X ++ F') := by
  obtain ⟨sv, H1, h1, h2⟩ := h
  obtain ⟨X, hX, hY⟩ := h2.permE
  exact ⟨_ :: X, h1.trans (hX.cons _), fun F' => ⟨sv, _, List.Perm.refl _, hY F'⟩⟩
theorem Rdr.open {g n : Nat} {high : Bool} {l : List UInt8} {F H : List Ent} (h : Rdr g high l n F H) : ∃ X : List Ent, H.Perm (X ++ F) ∧ ∀ F', Rdr g high l n F' (X ++ F') := by
  obtain ⟨sv, H1, h1, h2⟩ := h
  obtain ⟨X, hX, hY⟩ := h2.permE
  exact ⟨_ :: X, h1.trans (hX.cons _), fun F' => ⟨sv, _, List.Perm.refl _, hY F'⟩⟩
theorem Imp.tail (X F : List Ent) : Imp (X ++ F) F := by
  induction X with
  | nil => exact Imp.refl _
  | cons x X ih => exact Imp.drop ih
/-- A reader over a list with a row told: the row may go. -/
theorem Rdr.cut {g n : Nat} {high : Bool} {l : List UInt8} {F F' H : List Ent} {e sz k : Nat} {v : Value} {C : List Value} (h : Rdr g high l n F H) (ho : Own e sz v k C F' F) : ∃ H2, Imp H H2 ∧ Rdr g high l n F' H2 := by
  obtain ⟨X, hX, hY⟩ := h.open
  obtain ⟨Z, hZ, _⟩ := ho.permE
  refine ⟨X ++ F', ?_, hY F'⟩
  have hp : H.Perm (Z ++ (X ++ F')) := by
    refine hX.trans ((hZ.append_left X).trans ?_)
    rw [← List.append_assoc, ← List.append_assoc]
    exact List.perm_append_comm.append_right F'
  exact Imp.perm hp (Imp.tail Z _)
/-- A writer below a reader. -/
theorem Rdr.wrt {g g' n n' : Nat} {high high' : Bool} {l l' : List UInt8} {F F' H : List Ent} (h : Rdr g high l n F H) (hw : Wrt g' high' l' n' F' F) : ∃ F1, Wrt g' high' l' n' F1 H := by
  obtain ⟨X, hX, hY⟩ := h.open
  obtain ⟨Z, hZ, hW⟩ := hw.open
  refine ⟨X ++ F', (hW _).perm (hX.trans ((hZ.append_left X).trans ?_))⟩
  rw [← List.append_assoc, ← List.append_assoc]
  exact List.perm_append_comm.append_right F'

section
variable {w0 : World} {B : Nat} {F H : List Ent}
theorem count_q {g n : Nat} {high : Bool} {l : List UInt8} (h : Wrt g high l n F H) :
    Fn Try.prog w0 B 13 [.pointer (some ⟨g, 0, none⟩)] H (fun v H' => v = .int .i64 (n : Int) ∧ H' = H) := by
  obtain ⟨sv, H1, hp, ho⟩ := h
  refine Fn.perm ?_ hp
  refine fn_intro Try.func13 rfl (by kernel_rfl) rfl ?_
  repeat (first | refine go_ ?_ | refine bx_ (fun _ => ?_))
  exact fin1I rfl rfl ⟨rfl, rfl⟩ (Imp.perm hp.symm (Imp.refl _))
theorem at_q {g n : Nat} {high : Bool} {l : List UInt8} (h : Rdr g high l n F H) : Fn Try.prog w0 B 19 [.pointer (some ⟨g, 0, none⟩)] H (fun v H' => v = .int .i64 (n : Int) ∧ H' = H) := by
  obtain ⟨sv, H1, hp, ho⟩ := h
  refine Fn.perm ?_ hp
  refine fn_intro Try.func19 rfl (by kernel_rfl) rfl ?_
  repeat (first | refine go_ ?_ | refine bx_ (fun _ => ?_))
  exact fin1I rfl rfl ⟨rfl, rfl⟩ (Imp.perm hp.symm (Imp.refl _))
theorem left_q {g n : Nat} {high : Bool} {l : List UInt8} (h : Rdr g high l n F H) (hn : n ≤ 8 * l.length) (hl : l.length ≤ 1000000000) : Fn Try.prog w0 B 20 [.pointer (some ⟨g, 0, none⟩)] H (fun v H' => v = .int .i64 (8 * l.length - n : Int) ∧ H' = H) := by
  obtain ⟨sv, H1, hp, ho⟩ := h
  refine Fn.perm ?_ hp
  obtain ⟨a, cap, rfl, _, _⟩ := ho.form
  refine fn_intro Try.func20 rfl (by kernel_rfl) rfl ?_
  repeat (first | refine go_ ?_ | refine bx_ (fun _ => ?_))
  (refine hc_draw (by kernel_rfl) (by kernel_rfl) ?_; repeat (first | refine gd_ ?_))
  repeat (first | refine go_ ?_ | refine bx_ (fun _ => ?_))
  exact fin1I rfl rfl ⟨rfl, rfl⟩ (Imp.perm hp.symm (Imp.refl _))
theorem right_any (v n : Int) (f : Bool) : Fn Try.prog w0 B 10 [.agg #[.int .i64 v, .int .i64 n, .bool f]] H (fun r H' => r = .bool (decide (Right v n)) ∧ H' = H) := by
  by_cases h : Right v n
  · rw [decide_eq_true h]; exact right_yes v n f h
  · rw [decide_eq_false h]; exact right_no v n f h
theorem Put_any {g : Nat} {high : Bool} {l : List Bool} (h : WrB g high l F H) (hl : l.length ≤ 100000000) (v n : Int) (hv : -9223372036854775808 ≤ v ∧ v ≤ 9223372036854775807) (hn : -9223372036854775808 ≤ n ∧ n ≤ 9223372036854775807) :
    Fn Try.prog w0 B 11 [.pointer (some ⟨g, 0, none⟩), .int .i64 v, .int .i64 n] H (fun r H' => r = .bool (decide (Right v n)) ∧ WrB g high (numMore high l v n) F H') := by
  unfold numMore
  by_cases hr : Right v n
  · rw [decide_eq_true hr, if_pos hr]
    obtain ⟨h1, h2, h3, h4⟩ := hr
    obtain ⟨n, rfl⟩ := Int.eq_ofNat_of_zero_le h1
    obtain ⟨v, rfl⟩ := Int.eq_ofNat_of_zero_le h3
    rw [Int.toNat_natCast, show ((2 : Int) ^ n) = ((2 ^ n : Nat) : Int) by simp] at h4
    exact Put_yes h hl v n (by omega) (by omega)
  · rw [decide_eq_false hr, if_neg hr]
    exact (Put_no _ v n hv hn hr).mono fun r H' ⟨h1, h2⟩ => ⟨h1, h2 ▸ h⟩
end
end Go.Proofs.Ytbgmakblfnpjkaa
