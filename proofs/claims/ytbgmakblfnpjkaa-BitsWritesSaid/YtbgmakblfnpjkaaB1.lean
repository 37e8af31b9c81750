/-
  Contracts of the bits' small functions. No condition.
-/
import Derived.Test.YtbgmakblfnpjkaaTy
import Derived.Test.YtbgmakblfnpjkaaBitsPlain
namespace Go.Proofs.Ytbgmakblfnpjkaa
open Go.RowKit

theorem bit_fn {w0 : World} {B : Nat} {H : List Ent} (n : Nat) (high : Bool) (h1 : n ≤ 9223372036854775807) :
    Fn Try.prog w0 B 23 [.int .i64 n, .bool high] H (fun v H' => v = .int .i64 (bitPos n high : Nat) ∧ H' = H) := by
  refine fn_intro Try.func23 rfl (by kernel_rfl) rfl ?_
  cases high
  all_goals
    repeat (first | refine go_ ?_ | refine bx_ (fun _ => ?_))
    refine fin1I rfl rfl ⟨?_, rfl⟩
    simp [bitPos] <;> omega

/-- A writer: its own block, and its row. -/
def Wrt (g : Nat) (high : Bool) (l : List UInt8) (n : Nat) (F H : List Ent) : Prop :=
  ∃ sv H1, H.Perm (⟨g, 46, [sv, .int .i64 (n : Int), .bool high], 3⟩ :: H1) ∧ Own 5 1 sv l.length (l.map byteV) F H1

theorem Wrt.perm {g n : Nat} {high : Bool} {l : List UInt8} {F H H' : List Ent} (h : Wrt g high l n F H) (hp : H'.Perm H) : Wrt g high l n F H' := by
  obtain ⟨sv, H1, h1, h2⟩ := h
  exact ⟨sv, H1, hp.trans h1, h2⟩

theorem Wrt.imp {g n : Nat} {high : Bool} {l : List UInt8} {F H : List Ent} (h : Wrt g high l n F H) : Imp H F := by
  obtain ⟨sv, H1, h1, h2⟩ := h
  exact Imp.perm h1 (Imp.drop h2.imp)

theorem count_fn {w0 : World} {B : Nat} {F H : List Ent} {g n : Nat} {high : Bool} {l : List UInt8} (h : Wrt g high l n F H) :
    Fn Try.prog w0 B 13 [.pointer (some ⟨g, 0, none⟩)] H (fun v H' => v = .int .i64 (n : Int) ∧ Wrt g high l n F H') := by
  obtain ⟨sv, H1, hp, ho⟩ := h
  refine Fn.perm ?_ hp
  refine fn_intro Try.func13 rfl (by kernel_rfl) rfl ?_
  repeat (first | refine go_ ?_ | refine bx_ (fun _ => ?_))
  refine fin1I rfl rfl ⟨rfl, sv, H1, List.Perm.refl _, ho⟩

theorem and1_64 (v : Int) : bits .and .i64 v 1 = v % 2 := by
  have e : BitVec.ofInt 64 v &&& BitVec.ofInt 64 1 = BitVec.ofNat 64 ((v % 2).toNat) := by
    apply BitVec.eq_of_toNat_eq
    rw [BitVec.toNat_and, BitVec.toNat_ofInt, BitVec.toNat_ofNat]
    rw [show (BitVec.ofInt 64 1).toNat = 1 from rfl, Nat.and_one_is_mod]
    omega
  rw [show bits .and .i64 v 1 = IntKind.i64.wrap ((BitVec.ofInt 64 v &&& BitVec.ofInt 64 1).toNat : Int) from rfl, e, BitVec.toNat_ofNat]
  rw [IntWalk.i64_in _ (by omega)]; omega
theorem bits_or8 (a b : UInt8) : bits .or .u8 (a.toNat : Int) (b.toNat : Int) = ((a ||| b).toNat : Int) := by
  rw [show bits .or .u8 (a.toNat : Int) (b.toNat : Int) = IntKind.u8.wrap ((BitVec.ofInt 8 (a.toNat : Int) ||| BitVec.ofInt 8 (b.toNat : Int)).toNat : Int) from rfl,
    BitVec.ofInt_natCast, BitVec.ofInt_natCast]
  have h : (BitVec.ofNat 8 a.toNat ||| BitVec.ofNat 8 b.toNat).toNat = (a ||| b).toNat := by
    simp
  rw [h]; exact IntWalk.u8_in _ (by have := (a ||| b).toNat_lt; omega)

theorem shl_bit (v : Int) (p : Nat) (hp : p < 8) : IntKind.u8.wrap (IntKind.u8.wrap (v % 2) * 2 ^ p) = ((((if v % 2 = 1 then 1 else 0) <<< UInt8.ofNat p : UInt8)).toNat : Int) := by
  have h : ∀ b : Bool, ∀ p : Fin 8, IntKind.u8.wrap (IntKind.u8.wrap (if b then (1 : Int) else 0) * 2 ^ p.val) = ((((if b then 1 else 0) <<< UInt8.ofNat p.val : UInt8)).toNat : Int) := by decide
  have h1 := h (decide (v % 2 = 1)) ⟨p, hp⟩
  simp only [decide_eq_true_eq] at h1
  rw [← h1]
  congr 4
  split <;> omega
theorem bitPos_lt (n : Nat) (high : Bool) : bitPos n high < 8 := by unfold bitPos; split <;> omega

set_option maxHeartbeats 4000000 in
theorem put_fn {w0 : World} {B : Nat} {F H : List Ent} {g n : Nat} {high : Bool} {l : List UInt8} (h : Wrt g high l n F H) (hn : n ≤ 1000000000) (hl : l.length = (n + 7) / 8) (v : Int) (hv : -9223372036854775808 ≤ v ∧ v ≤ 9223372036854775807) :
    Fn Try.prog w0 B 21 [.pointer (some ⟨g, 0, none⟩), .int .i64 v] H (fun _ H' => Wrt g high (bput l n high (decide (v % 2 = 1))) (n + 1) F H') := by
  obtain ⟨sv, H1, hp, ho⟩ := h
  refine Fn.perm ?_ hp
  refine fn_intro Try.func21 rfl (by kernel_rfl) rfl ?_
  obtain ⟨c, hc⟩ : ∃ c, c = if n % 8 = 0 then l ++ [0] else l := ⟨_, rfl⟩
  have hcl : n / 8 < c.length := by rw [hc]; split <;> (try simp only [List.length_append, List.length_cons, List.length_nil]) <;> omega
  refine hc_cut (fun fr H => ∃ gb cap, Agr fr [(0, .pointer (some ⟨g, 0, none⟩)), (1, .int .i64 v)] ∧ c.length ≤ cap ∧ cap ≤ 9223372036854775807 ∧
    H.Perm (⟨gb, 5, c.map byteV, cap * 1⟩ :: ⟨g, 46, [.slice (some ⟨gb, 0, none⟩) c.length cap, .int .i64 (n : Int), .bool high], 3⟩ :: F)) ?_ ?_
  · by_cases h8 : n % 8 = 0
    · obtain ⟨a, cap, rfl, _, _⟩ := ho.form
      repeat (first | refine go_ ?_ | refine bx_ (fun _ => ?_))
      refine hl_append_own1 rfl rfl ((ho.under _).under _) (Rds.ent (n := 1) .here rfl (by simp [Value.oneCell'])) rfl rfl (by decide) (by decide) (by omega) (by omega) rfl (fun gb cap' h1 h2 => HL.keep ?_ (.there .here))
      repeat (first | refine go_ ?_ | refine bx_ (fun _ => ?_))
      have e : c = l ++ [0] := by rw [hc, if_pos h8]
      subst e
      exact ⟨gb, cap', ⟨rfl, rfl, trivial⟩, by simpa using h1, h2, by simpa [byteV] using List.Perm.swap _ _ _⟩
    · obtain ⟨gb, cap, rfl, h2, h3, h4, h5⟩ := ho.posn (by omega)
      refine HC.perm ?_ (h5.cons _)
      repeat (first | refine go_ ?_ | refine bx_ (fun _ => ?_))
      have e : c = l := by rw [hc, if_neg h8]
      subst e
      exact ⟨gb, cap, ⟨rfl, rfl, trivial⟩, h2, h3, List.Perm.swap _ _ _⟩
  · rintro fr H ⟨gb, cap, hf, h1, h2, hp⟩
    refine HC.perm ?_ hp
    obtain ⟨base, rfl⟩ := hf.out
    refine hc_seq ?_
    refine hc_drawT 26 (by kernel_rfl) (by kernel_rfl) ?_
    repeat (first | refine gd_ ?_)
    refine hl_load1 (v := byteV (c.getD (n / 8) 0)) rfl .here (by simp [hcl]) rfl ?_
    repeat (first | refine gd_ ?_)
    rw [and1_64]
    repeat (first | refine gd_ ?_)
    refine hd_call rfl rfl (bit_fn n high (by omega)) ?_
    have hb := bitPos_lt n high
    repeat (first | refine gd_ ?_)
    rw [shl_bit v _ hb]
    repeat (first | refine gd_ ?_)
    rw [bits_or8]
    refine hl_storeI rfl rfl .here (by simpa using hcl) rfl ?_
    repeat (first | refine go_ ?_ | refine bx_ (fun _ => ?_))
    refine fin0 rfl ?_
    have e : bput l n high (decide (v % 2 = 1)) = c.set (n / 8) (c.getD (n / 8) 0 ||| (if v % 2 = 1 then 1 else 0) <<< UInt8.ofNat (bitPos n high)) := by
      unfold bput; rw [← hc]; simp
    refine ⟨.slice (some ⟨gb, 0, none⟩) c.length cap, _, List.Perm.refl _, ?_⟩
    rw [e, List.length_set, List.map_set]
    exact Own.mk h1 h2 (by simp) (List.Perm.refl _)

theorem new_fn {w0 : World} {B : Nat} {H : List Ent} (high : Bool) :
    Fn Try.prog w0 B 9 [.bool high] H (fun v H' => ∃ g, v = .pointer (some ⟨g, 0, none⟩) ∧ Wrt g high [] 0 H H') := by
  refine fn_intro Try.func9 rfl (by kernel_rfl) rfl ?_
  repeat (first | refine go_ ?_ | refine bx_ (fun _ => ?_))
  refine fin1P rfl rfl ⟨_, rfl, _, _, List.Perm.refl _, Own.nil⟩

/-- A fresh row that reads as these bytes (or nil). -/
theorem clone_fn {w0 : World} {B : Nat} {H : List Ent} {a : Option Addr} {len cap : Nat} {l : List UInt8} (hl : l.length = len) (hs : len ≤ 1000000000) (hr : Rds w0 B H a (l.map byteV)) :
    Fn Try.prog w0 B 22 [.slice a len cap] H (fun v H' => Own 5 1 v len (l.map byteV) H H') := by
  refine fn_intro Try.func22 rfl (by kernel_rfl) rfl ?_
  cases a with
  | none =>
    have h0 := hr.nil rfl
    have h0 : l = [] := by simpa using h0
    subst h0
    simp only [List.length_nil] at hl
    subst hl
    repeat (first | refine go_ ?_ | refine bx_ (fun _ => ?_))
    exact fin1S rfl rfl Own.nil
  | some ad =>
    repeat (first | refine go_ ?_ | refine bx_ (fun _ => ?_))
    refine hl_append rfl rfl .here rfl hr.under (by simp [hl]) rfl (by decide) (by decide) (by omega) (by omega) rfl (fun g' cap' h1 h2 => ?_)
    repeat (first | refine go_ ?_ | refine bx_ (fun _ => ?_))
    refine fin1S rfl rfl ?_
    rw [Nat.zero_add] at h1 ⊢
    exact Own.mk h1 h2 (by simp [hl]) (List.Perm.refl _)

theorem bytes_fn {w0 : World} {B : Nat} {F H : List Ent} {g n : Nat} {high : Bool} {l : List UInt8} (h : Wrt g high l n F H) (hs : l.length ≤ 1000000000) :
    Fn Try.prog w0 B 12 [.pointer (some ⟨g, 0, none⟩)] H (fun v H' => Own 5 1 v l.length (l.map byteV) H H') := by
  obtain ⟨sv, H1, hp, ho⟩ := h
  refine Fn.perm (Fn.mono (R := fun v H' => Own 5 1 v l.length (l.map byteV) _ H') ?_ (fun v H' h => h.permF hp.symm)) hp
  obtain ⟨a, cap, rfl, h1, h2⟩ := ho.form
  refine fn_intro Try.func12 rfl (by kernel_rfl) rfl ?_
  repeat (first | refine go_ ?_ | refine bx_ (fun _ => ?_))
  refine hl_call rfl rfl (clone_fn rfl hs (ho.rds (by simp [Value.oneCell'])).under) ?_
  intro v H' h
  obtain ⟨a', cap', rfl, _, _⟩ := h.form
  repeat (first | refine go_ ?_ | refine bx_ (fun _ => ?_))
  exact fin1S rfl rfl h

/-- A writer of bits. -/
def WrB (g : Nat) (high : Bool) (l : List Bool) (F H : List Ent) : Prop := Wrt g high (bytesOf high l) l.length F H
theorem fold_count (high : Bool) (l : List Bool) (p : List UInt8 × Nat) : (l.foldl (fun (p : List UInt8 × Nat) b => (bput p.1 p.2 high b, p.2 + 1)) p).2 = p.2 + l.length := by
  induction l generalizing p with
  | nil => simp
  | cons b l ih => simp only [List.foldl_cons, ih, List.length_cons]; omega
theorem bytesOf_snoc (high : Bool) (l : List Bool) (b : Bool) : bytesOf high (l ++ [b]) = bput (bytesOf high l) l.length high b := by
  unfold bytesOf
  rw [List.foldl_append]
  simp only [List.foldl_cons, List.foldl_nil]
  rw [fold_count]; simp
theorem length_bput (bs : List UInt8) (n : Nat) (high b : Bool) (h : bs.length = (n + 7) / 8) : (bput bs n high b).length = (n + 1 + 7) / 8 := by
  unfold bput
  by_cases h8 : n % 8 = 0
  · simp [h8]; omega
  · simp [h8]; omega
theorem length_bytesOf (high : Bool) (l : List Bool) : (bytesOf high l).length = (l.length + 7) / 8 := by
  rw [← List.reverse_reverse l]
  induction l.reverse with
  | nil => rfl
  | cons b r ih => rw [List.reverse_cons, bytesOf_snoc, length_bput _ _ _ _ ih]; simp

theorem putB_fn {w0 : World} {B : Nat} {F H : List Ent} {g : Nat} {high : Bool} {l : List Bool} (h : WrB g high l F H) (hn : l.length ≤ 1000000000) (v : Int) (hv : -9223372036854775808 ≤ v ∧ v ≤ 9223372036854775807) :
    Fn Try.prog w0 B 21 [.pointer (some ⟨g, 0, none⟩), .int .i64 v] H (fun _ H' => WrB g high (l ++ [decide (v % 2 = 1)]) F H') :=
  (put_fn h hn (length_bytesOf high l) v hv).mono fun _ H' h => by unfold WrB; rw [bytesOf_snoc]; simpa using h

/-- The bits of a number, in the order in which they are written. -/
def numBits (v n : Nat) (high : Bool) : List Bool := (List.range n).map fun k => v.testBit (if high then n - 1 - k else k)
theorem numBits_take (v n k : Nat) (high : Bool) (hk : k < n) : (numBits v n high).take (k + 1) = (numBits v n high).take k ++ [v.testBit (if high then n - 1 - k else k)] := by
  rw [List.take_succ_eq_append_getElem (by simp [numBits]; omega)]
  simp [numBits]
theorem length_numBits (v n : Nat) (high : Bool) : (numBits v n high).length = n := by simp [numBits]
theorem bit_odd (v k : Nat) : (decide (((v : Int) / 2 ^ k) % 2 = 1)) = v.testBit k := by
  rw [testBit_mod]
  congr 1
  rw [show ((v : Int) / 2 ^ k) = ((v / 2 ^ k : Nat) : Int) by simp]
  simp only [eq_iff_iff]; omega

theorem dv (v k : Nat) (h : v < 16777216) : -9223372036854775808 ≤ (v : Int) / 2 ^ k ∧ (v : Int) / 2 ^ k ≤ 9223372036854775807 := by
  rw [show ((v : Int) / 2 ^ k) = ((v / 2 ^ k : Nat) : Int) by simp]
  have := Nat.div_le_self v (2 ^ k)
  generalize v / 2 ^ k = q at *
  omega
theorem wrap_pow (m : Nat) (h : m ≤ 24) : IntKind.i64.wrap (1 * 2 ^ m) = ((2 ^ m : Nat) : Int) := by
  have h24 : 2 ^ m ≤ 2 ^ 24 := Nat.pow_le_pow_right (by decide) h
  rw [Int.one_mul, show ((2 : Int) ^ m) = ((2 ^ m : Nat) : Int) by simp]
  generalize 2 ^ m = q at *
  exact IntWalk.i64_in _ (by omega)
set_option maxHeartbeats 4000000 in
theorem Put_yes {w0 : World} {B : Nat} {F H : List Ent} {g : Nat} {high : Bool} {l : List Bool} (h : WrB g high l F H) (hl : l.length ≤ 100000000) (v n : Nat) (hn : n ≤ 24) (hv : v < 2 ^ n) :
    Fn Try.prog w0 B 11 [.pointer (some ⟨g, 0, none⟩), .int .i64 (v : Int), .int .i64 (n : Int)] H (fun r H' => r = .bool true ∧ WrB g high (l ++ numBits v n high) F H') := by
  have h24 : 2 ^ n ≤ 2 ^ 24 := Nat.pow_le_pow_right (by decide) hn
  have hv' : v < 16777216 := by omega
  refine fn_intro Try.func11 rfl (by kernel_rfl) rfl ?_
  repeat (first | refine go_ ?_ | refine bx_ (fun _ => ?_))
  have hw := wrap_pow n hn
  rw [show decide (IntKind.i64.wrap (1 * 2 ^ n) ≤ (v : Int)) = false from decide_eq_false (by rw [hw]; omega)]
  repeat (first | refine go_ ?_ | refine bx_ (fun _ => ?_))
  refine hc_loop (fun m fr H => ∃ k, k + m = n ∧ Agr fr [(0, .pointer (some ⟨g, 0, none⟩)), (1, .int .i64 (v : Int)), (2, .int .i64 (n : Int)), (24, .int .i64 (n : Int)), (25, .int .i64 (k : Int))] ∧ WrB g high (l ++ (numBits v n high).take k) F H) n ?_ ?_
  · exact ⟨0, by omega, ⟨rfl, rfl, rfl, rfl, rfl, trivial⟩, by simpa using h⟩
  · rintro m fr H ⟨k, hk, hf, hw⟩
    obtain ⟨base, rfl⟩ := hf.out
    by_cases hlt : k < n
    · obtain ⟨sv, H1, hp, ho⟩ := id hw
      refine HC.perm ?_ hp
      cases high
      all_goals
        repeat (first | refine go_ ?_ | refine bx_ (fun _ => ?_))
        try rw [show ((n : Int) - 1 - (k : Int)) = ((n - 1 - k : Nat) : Int) by omega]
        repeat (first | refine go_ ?_ | refine bx_ (fun _ => ?_))
        refine hl_call rfl rfl (putB_fn (hw.perm hp.symm) (by simp [numBits]; omega) _ (dv _ _ hv')) (fun r H2 h2 => ?_)
        repeat (first | refine go_ ?_ | refine bx_ (fun _ => ?_))
        refine ⟨m - 1, by omega, k + 1, by omega, ⟨rfl, rfl, rfl, rfl, rfl, trivial⟩, ?_⟩
        rw [numBits_take _ _ _ _ hlt, ← List.append_assoc]
        rw [bit_odd] at h2
        simpa using h2
    · repeat (first | refine go_ ?_ | refine bx_ (fun _ => ?_))
      obtain rfl : k = n := by omega
      exact fin1B rfl rfl ⟨rfl, by simpa [List.take_of_length_le, length_numBits] using hw⟩

def Right (v n : Int) : Prop := 0 ≤ n ∧ n ≤ 24 ∧ 0 ≤ v ∧ v < 2 ^ n.toNat
theorem Put_no {w0 : World} {B : Nat} {H : List Ent} (p : Option Addr) (v n : Int) (hv : -9223372036854775808 ≤ v ∧ v ≤ 9223372036854775807) (hn : -9223372036854775808 ≤ n ∧ n ≤ 9223372036854775807) (h : ¬ Right v n) :
    Fn Try.prog w0 B 11 [.pointer p, .int .i64 v, .int .i64 n] H (fun r H' => r = .bool false ∧ H' = H) := by
  refine fn_intro Try.func11 rfl (by kernel_rfl) rfl ?_
  unfold Right at h
  by_cases h1 : n < 0
  · repeat (first | refine go_ ?_ | refine bx_ (fun _ => ?_))
    exact fin1B rfl rfl ⟨rfl, rfl⟩
  · by_cases h2 : 24 < n
    · repeat (first | refine go_ ?_ | refine bx_ (fun _ => ?_))
      exact fin1B rfl rfl ⟨rfl, rfl⟩
    · by_cases h3 : v < 0
      · repeat (first | refine go_ ?_ | refine bx_ (fun _ => ?_))
        exact fin1B rfl rfl ⟨rfl, rfl⟩
      · obtain ⟨m, rfl⟩ := Int.eq_ofNat_of_zero_le (show 0 ≤ n by omega)
        have h24 : 2 ^ m ≤ 2 ^ 24 := Nat.pow_le_pow_right (by decide) (by omega)
        have hw := wrap_pow m (by omega)
        rw [Int.toNat_natCast, show ((2 : Int) ^ m) = ((2 ^ m : Nat) : Int) by simp] at h
        repeat (first | refine go_ ?_ | refine bx_ (fun _ => ?_))
        try (rw [show decide (IntKind.i64.wrap (1 * 2 ^ m) ≤ v) = true from decide_eq_true (by rw [hw]; omega)]
             repeat (first | refine go_ ?_ | refine bx_ (fun _ => ?_)))
        exact fin1B rfl rfl ⟨rfl, rfl⟩

def fillBits (n : Nat) (b : Bool) : List Bool := List.replicate ((8 - n % 8) % 8) b
set_option maxHeartbeats 4000000 in
theorem fill_fn {w0 : World} {B : Nat} {F H : List Ent} {g : Nat} {high : Bool} {l : List Bool} (h : WrB g high l F H) (hl : l.length ≤ 100000000) (v : Int) (hv : -9223372036854775808 ≤ v ∧ v ≤ 9223372036854775807) :
    Fn Try.prog w0 B 14 [.pointer (some ⟨g, 0, none⟩), .int .i64 v] H (fun _ H' => WrB g high (l ++ fillBits l.length (decide (v % 2 = 1))) F H') := by
  refine fn_intro Try.func14 rfl (by kernel_rfl) rfl ?_
  repeat (first | refine go_ ?_ | refine bx_ (fun _ => ?_))
  refine hc_loop (fun m fr H => ∃ k, k + m = (8 - l.length % 8) % 8 ∧ Agr fr [(0, .pointer (some ⟨g, 0, none⟩)), (1, .int .i64 v)] ∧ WrB g high (l ++ List.replicate k (decide (v % 2 = 1))) F H) ((8 - l.length % 8) % 8) ?_ ?_
  · exact ⟨0, by omega, ⟨rfl, rfl, trivial⟩, by simpa using h⟩
  · rintro m fr H ⟨k, hk, hf, hw⟩
    obtain ⟨base, rfl⟩ := hf.out
    obtain ⟨sv, H1, hp, ho⟩ := id hw
    have hlen : (l ++ List.replicate k (decide (v % 2 = 1))).length = l.length + k := by simp
    rw [hlen] at hp
    refine HC.perm ?_ hp
    by_cases hm : m = 0
    · repeat (first | refine go_ ?_ | refine bx_ (fun _ => ?_))
      refine fin0 rfl ?_
      unfold fillBits
      obtain rfl : k = (8 - l.length % 8) % 8 := by omega
      exact hw.perm hp.symm
    · repeat (first | refine go_ ?_ | refine bx_ (fun _ => ?_))
      refine hl_call rfl rfl (putB_fn (hw.perm hp.symm) (by omega) v hv) (fun r H2 h2 => ?_)
      repeat (first | refine go_ ?_ | refine bx_ (fun _ => ?_))
      refine ⟨m - 1, by omega, k + 1, by omega, ⟨rfl, rfl, trivial⟩, ?_⟩
      rw [List.replicate_succ', ← List.append_assoc]
      exact h2
end Go.Proofs.Ytbgmakblfnpjkaa
