/-
  Contracts of the bits' reader. No condition.
-/
import Derived.Test.YtbgmakblfnpjkaaB1
namespace Go.Proofs.Ytbgmakblfnpjkaa
open Go.RowKit

/-- A reader: its own block, and its row. -/
def Rdr (g : Nat) (high : Bool) (l : List UInt8) (n : Nat) (F H : List Ent) : Prop :=
  ∃ sv H1, H.Perm (⟨g, 49, [sv, .int .i64 (n : Int), .bool high], 3⟩ :: H1) ∧ Own 5 1 sv l.length (l.map byteV) F H1
theorem Rdr.perm {g n : Nat} {high : Bool} {l : List UInt8} {F H H' : List Ent} (h : Rdr g high l n F H) (hp : H'.Perm H) : Rdr g high l n F H' := by
  obtain ⟨sv, H1, h1, h2⟩ := h
  exact ⟨sv, H1, hp.trans h1, h2⟩
theorem Rdr.under {g n : Nat} {high : Bool} {l : List UInt8} {F H : List Ent} (h : Rdr g high l n F H) (x : Ent) : Rdr g high l n (x :: F) (x :: H) := by
  obtain ⟨sv, H1, h1, h2⟩ := h
  exact ⟨sv, x :: H1, (h1.cons _).trans (List.Perm.swap _ _ _), h2.under x⟩

section
variable {w0 : World} {B : Nat} {F H : List Ent} {g n : Nat} {high : Bool} {l : List UInt8}
theorem open_fn {a : Option Addr} {len cap : Nat} (hl : l.length = len) (hs : len ≤ 1000000000) (hr : Rds w0 B H a (l.map byteV)) (high : Bool) :
    Fn Try.prog w0 B 16 [.slice a len cap, .bool high] H (fun v H' => ∃ g, v = .pointer (some ⟨g, 0, none⟩) ∧ Rdr g high l 0 H H') := by
  refine fn_intro Try.func16 rfl (by kernel_rfl) rfl ?_
  repeat (first | refine go_ ?_ | refine bx_ (fun _ => ?_))
  refine hl_call rfl rfl (clone_fn hl hs hr) (fun v H' h => ?_)
  obtain ⟨a', cap', rfl, _, _⟩ := h.form
  repeat (first | refine go_ ?_ | refine bx_ (fun _ => ?_))
  refine fin1P rfl rfl ⟨_, rfl, .slice a' len cap', H', List.Perm.refl _, ?_⟩
  rw [hl]; exact h
theorem at_fn (h : Rdr g high l n F H) : Fn Try.prog w0 B 19 [.pointer (some ⟨g, 0, none⟩)] H (fun v H' => v = .int .i64 (n : Int) ∧ Rdr g high l n F H') := by
  obtain ⟨sv, H1, hp, ho⟩ := h
  refine Fn.perm ?_ hp
  refine fn_intro Try.func19 rfl (by kernel_rfl) rfl ?_
  repeat (first | refine go_ ?_ | refine bx_ (fun _ => ?_))
  exact fin1I rfl rfl ⟨rfl, sv, H1, List.Perm.refl _, ho⟩
theorem left_fn (h : Rdr g high l n F H) (hn : n ≤ 8 * l.length) (hl : l.length ≤ 1000000000) : Fn Try.prog w0 B 20 [.pointer (some ⟨g, 0, none⟩)] H (fun v H' => v = .int .i64 (8 * l.length - n : Int) ∧ Rdr g high l n F H') := by
  obtain ⟨sv, H1, hp, ho⟩ := h
  refine Fn.perm ?_ hp
  obtain ⟨a, cap, rfl, _, _⟩ := ho.form
  refine fn_intro Try.func20 rfl (by kernel_rfl) rfl ?_
  repeat (first | refine go_ ?_ | refine bx_ (fun _ => ?_))
  (refine hc_draw (by kernel_rfl) (by kernel_rfl) ?_; repeat (first | refine gd_ ?_))
  repeat (first | refine go_ ?_ | refine bx_ (fun _ => ?_))
  exact fin1I rfl rfl ⟨rfl, _, H1, List.Perm.refl _, ho⟩
theorem align_fn (h : Rdr g high l n F H) (hn : n ≤ 8 * l.length) (hl : l.length ≤ 1000000000) : Fn Try.prog w0 B 17 [.pointer (some ⟨g, 0, none⟩)] H (fun _ H' => Rdr g high l ((n + 7) / 8 * 8) F H') := by
  obtain ⟨sv, H1, hp, ho⟩ := h
  refine Fn.perm ?_ hp
  refine fn_intro Try.func17 rfl (by kernel_rfl) rfl ?_
  repeat (first | refine go_ ?_ | refine bx_ (fun _ => ?_))
  exact fin0 rfl ⟨sv, H1, List.Perm.refl _, ho⟩

/-- A bit of bytes. -/
def bitAt (l : List UInt8) (high : Bool) (i : Nat) : Bool := (l.getD (i / 8) 0).toNat.testBit (bitPos i high)
def numH (l : List Bool) : Nat := l.foldl (fun v b => 2 * v + b.toNat) 0
def numL (l : List Bool) : Nat := l.foldr (fun b v => b.toNat + 2 * v) 0
def numOf (high : Bool) (l : List Bool) : Nat := if high then numH l else numL l
def bitsAt (l : List UInt8) (high : Bool) (i n : Nat) : List Bool := (List.range n).map fun k => bitAt l high (i + k)
theorem numH_snoc (l : List Bool) (b : Bool) : numH (l ++ [b]) = 2 * numH l + b.toNat := by simp [numH]
theorem numL_snoc (l : List Bool) (b : Bool) : numL (l ++ [b]) = numL l + b.toNat * 2 ^ l.length := by
  induction l with
  | nil => simp [numL]
  | cons c l ih =>
    simp only [numL, List.cons_append, List.foldr_cons, List.length_cons] at ih ⊢
    rw [ih, Nat.pow_succ]
    have : b.toNat * (2 ^ l.length * 2) = 2 * (b.toNat * 2 ^ l.length) := by rw [← Nat.mul_assoc, Nat.mul_comm]
    rw [this]; omega
theorem numH_lt (l : List Bool) : numH l < 2 ^ l.length := by
  rw [← List.reverse_reverse l]
  induction l.reverse with
  | nil => decide
  | cons b r ih =>
    rw [List.reverse_cons, numH_snoc, List.length_append, List.length_singleton, Nat.pow_succ]
    have : b.toNat ≤ 1 := by cases b <;> decide
    omega
theorem numL_lt (l : List Bool) : numL l < 2 ^ l.length := by
  rw [← List.reverse_reverse l]
  induction l.reverse with
  | nil => decide
  | cons b r ih =>
    rw [List.reverse_cons, numL_snoc, List.length_append, List.length_singleton, Nat.pow_succ]
    have : b.toNat * 2 ^ r.reverse.length ≤ 2 ^ r.reverse.length := by cases b <;> simp
    omega
theorem bitsAt_take (l : List UInt8) (high : Bool) (i n k : Nat) (h : k < n) : (bitsAt l high i n).take (k + 1) = (bitsAt l high i n).take k ++ [bitAt l high (i + k)] := by
  rw [List.take_succ_eq_append_getElem (by simp [bitsAt]; omega)]
  simp [bitsAt]
theorem length_bitsAt (l : List UInt8) (high : Bool) (i n : Nat) : (bitsAt l high i n).length = n := by simp [bitsAt]
theorem bit_val (u : UInt8) (p : Nat) : bits .and .i64 ((u.toNat : Int) / 2 ^ p) 1 = ((u.toNat.testBit p).toNat : Int) := by
  rw [bit64 _ _ (by have := u.toNat_lt; omega), testBit_mod]
  have : u.toNat / 2 ^ p % 2 < 2 := Nat.mod_lt _ (by decide)
  generalize u.toNat / 2 ^ p % 2 = q at *
  match q, this with
  | 0, _ => rfl
  | 1, _ => rfl

theorem or_high (v x : Nat) (hv : v < 2 ^ 24) (hx : x ≤ 1) : bits .or .i64 (IntKind.i64.wrap ((v : Int) * 2 ^ 1)) (x : Int) = ((2 * v + x : Nat) : Int) := by
  have h := join64 1 v x (by omega) (by omega) (by decide)
  rw [show IntKind.i64.wrap ((v : Int) * 2 ^ 1) = ((v * 2 ^ 1 : Nat) : Int) from by rw [IntWalk.i64_in _ (by omega)]; simp, h]
  omega
theorem or_low (v x j : Nat) (hv : v < 2 ^ j) (hx : x ≤ 1) (hj : j ≤ 24) : bits .or .i64 (v : Int) (IntKind.i64.wrap ((x : Int) * 2 ^ j)) = ((v + x * 2 ^ j : Nat) : Int) := by
  have h24 : 2 ^ j ≤ 2 ^ 24 := Nat.pow_le_pow_right (by decide) hj
  have hx2 : x * 2 ^ j ≤ 2 ^ j := by
    have := Nat.mul_le_mul_right (2 ^ j) hx
    omega
  have e : ((x : Int) * 2 ^ j) = ((x * 2 ^ j : Nat) : Int) := by simp
  rw [e, show IntKind.i64.wrap ((x * 2 ^ j : Nat) : Int) = ((x * 2 ^ j : Nat) : Int) from IntWalk.i64_in _ (by omega), or64 _ _ (by omega) (by omega), Nat.or_comm, Nat.mul_comm, ← Nat.two_pow_add_eq_or_of_lt hv]
  omega

theorem Get_no (h : Rdr g high l n F H) (hn : n ≤ 8 * l.length) (hl : l.length ≤ 1000000000) (k : Int) (hk : -9223372036854775808 ≤ k ∧ k ≤ 9223372036854775807) (hno : k < 0 ∨ 24 < k ∨ 8 * (l.length : Int) < n + k) :
    Fn Try.prog w0 B 18 [.pointer (some ⟨g, 0, none⟩), .int .i64 k] H (fun v H' => v = .tuple #[.int .i64 0, .bool false] ∧ Rdr g high l n F H') := by
  refine fn_intro Try.func18 rfl (by kernel_rfl) rfl ?_
  by_cases h1 : k < 0
  · repeat (first | refine go_ ?_ | refine bx_ (fun _ => ?_))
    exact fin2IB rfl rfl rfl ⟨rfl, h⟩
  · by_cases h2 : 24 < k
    · repeat (first | refine go_ ?_ | refine bx_ (fun _ => ?_))
      exact fin2IB rfl rfl rfl ⟨rfl, h⟩
    · repeat (first | refine go_ ?_ | refine bx_ (fun _ => ?_))
      refine hl_call rfl rfl (left_fn h hn hl) (fun v H' ⟨hv, h'⟩ => ?_)
      subst hv
      repeat (first | refine go_ ?_ | refine bx_ (fun _ => ?_))
      exact fin2IB rfl rfl rfl ⟨rfl, h'⟩
set_option maxHeartbeats 4000000 in
theorem Get_yes (h : Rdr g high l n F H) (hl : l.length ≤ 1000000000) (k : Nat) (hk : k ≤ 24) (hn : n + k ≤ 8 * l.length) :
    Fn Try.prog w0 B 18 [.pointer (some ⟨g, 0, none⟩), .int .i64 (k : Int)] H (fun v H' => v = .tuple #[.int .i64 (numOf high (bitsAt l high n k) : Nat), .bool true] ∧ Rdr g high l (n + k) F H') := by
  refine fn_intro Try.func18 rfl (by kernel_rfl) rfl ?_
  repeat (first | refine go_ ?_ | refine bx_ (fun _ => ?_))
  refine hl_call rfl rfl (left_fn h (by omega) hl) (fun v H' ⟨hv, h'⟩ => ?_)
  subst hv
  repeat (first | refine go_ ?_ | refine bx_ (fun _ => ?_))
  refine hc_loop (fun m fr H => ∃ j, j + m = k ∧ Agr fr [(0, .pointer (some ⟨g, 0, none⟩)), (21, .int .i64 (k : Int)), (22, .int .i64 (j : Int)), (6, .int .i64 (numOf high ((bitsAt l high n k).take j) : Nat))] ∧ Rdr g high l (n + j) F H) k ?_ ?_
  · exact ⟨0, by omega, ⟨rfl, rfl, rfl, by cases high <;> rfl, trivial⟩, h'⟩
  · rintro m fr H ⟨j, hj, hf, hw⟩
    obtain ⟨base, rfl⟩ := hf.out
    by_cases hlt : j < k
    · have hw := id hw
      obtain ⟨sv, H1, hp, ho⟩ := hw
      obtain ⟨gb, cap, rfl, h2, h3, h4, h5⟩ := ho.posn (by omega)
      refine HC.perm ?_ (hp.trans (h5.cons _))
      have hb := bitPos_lt (n + j) high
      have hlen : (n + j) / 8 < l.length := by omega
      repeat (first | refine go_ ?_ | refine bx_ (fun _ => ?_))
      have hq : 0 ≤ ((l.getD ((n + j) / 8) 0).toNat : Int) / 2 ^ bitPos (n + j) high ∧ ((l.getD ((n + j) / 8) 0).toNat : Int) / 2 ^ bitPos (n + j) high ≤ 255 := by
        rw [show ((2 : Int) ^ bitPos (n + j) high) = ((2 ^ bitPos (n + j) high : Nat) : Int) by simp, ← Int.natCast_ediv]
        have h1 := Nat.div_le_self (l.getD ((n + j) / 8) 0).toNat (2 ^ bitPos (n + j) high)
        have h2 := (l.getD ((n + j) / 8) 0).toNat_lt
        generalize (l.getD ((n + j) / 8) 0).toNat / 2 ^ bitPos (n + j) high = q at *
        omega
      (refine hc_draw (by kernel_rfl) (by kernel_rfl) ?_; repeat (first | refine gd_ ?_ | refine hd_call rfl rfl (bit_fn _ high (by omega)) ?_ | refine hl_load1 (v := byteV (l.getD ((n + j) / 8) 0)) rfl (.there .here) (by simp [hlen]) rfl ?_))
      rw [bit_val]
      have hbv : (bitAt l high (n + j)).toNat ≤ 1 := by cases bitAt l high (n + j) <;> decide
      have hN := numH_lt ((bitsAt l high n k).take j)
      have hL := numL_lt ((bitsAt l high n k).take j)
      have htl : ((bitsAt l high n k).take j).length = j := by rw [List.length_take, length_bitsAt]; omega
      rw [htl] at hN hL
      have h24 : 2 ^ j ≤ 2 ^ 24 := Nat.pow_le_pow_right (by decide) (by omega)
      cases high
      · repeat (first | refine go_ ?_ | refine bx_ (fun _ => ?_))
        refine ⟨m - 1, by omega, j + 1, by omega, ⟨rfl, rfl, rfl, ?_, trivial⟩, ?_⟩
        · refine congrArg (Value.int .i64) (?_ : bits .or .i64 ((numL ((bitsAt l false n k).take j) : Nat) : Int) (IntKind.i64.wrap (((bitAt l false (n + j)).toNat : Nat) * 2 ^ j : Int)) = ((numOf false ((bitsAt l false n k).take (j + 1)) : Nat) : Int))
          rw [bitsAt_take _ _ _ _ _ hlt]
          show _ = ((numL ((bitsAt l false n k).take j ++ [bitAt l false (n + j)]) : Nat) : Int)
          rw [numL_snoc]
          exact (by rw [htl]; exact or_low _ _ j hL hbv (by omega))
        · exact ⟨_, _, List.Perm.refl _, Own.mk h2 h3 h4 (List.Perm.refl _)⟩
      · repeat (first | refine go_ ?_ | refine bx_ (fun _ => ?_))
        refine ⟨m - 1, by omega, j + 1, by omega, ⟨rfl, rfl, rfl, ?_, trivial⟩, ?_⟩
        · refine congrArg (Value.int .i64) (?_ : bits .or .i64 (IntKind.i64.wrap (((numH ((bitsAt l true n k).take j) : Nat) : Int) * 2 ^ 1)) ((bitAt l true (n + j)).toNat : Nat) = ((numOf true ((bitsAt l true n k).take (j + 1)) : Nat) : Int))
          rw [bitsAt_take _ _ _ _ _ hlt]
          show _ = ((numH ((bitsAt l true n k).take j ++ [bitAt l true (n + j)]) : Nat) : Int)
          rw [numH_snoc]
          exact or_high _ _ (by exact Nat.lt_of_lt_of_le hN h24) hbv
        · exact ⟨_, _, List.Perm.refl _, Own.mk h2 h3 h4 (List.Perm.refl _)⟩
    · obtain rfl : j = k := by omega
      repeat (first | refine go_ ?_ | refine bx_ (fun _ => ?_))
      refine fin2IB rfl rfl rfl ⟨?_, hw⟩
      rw [List.take_of_length_le (by rw [length_bitsAt]; omega)]
end
end Go.Proofs.Ytbgmakblfnpjkaa
