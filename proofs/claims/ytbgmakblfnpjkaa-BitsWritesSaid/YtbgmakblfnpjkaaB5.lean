/-
  Writers as rows of blocks, so that two of them stand side by side; numbers and bytes turned round. No condition.
-/
import Derived.Test.YtbgmakblfnpjkaaB4
namespace Go.Proofs.Ytbgmakblfnpjkaa
open Go.RowKit

theorem app_swap (A C D : List Ent) : (A ++ (C ++ D)).Perm (C ++ (A ++ D)) := by
  rw [← List.append_assoc, ← List.append_assoc]
  exact List.perm_append_comm.append_right D
theorem Fn.monoI {P : Program} {w0 : World} {B : Nat} {f : FuncId} {args : List Value} {H : List Ent} {R R' : Value → List Ent → Prop} (h : Fn P w0 B f args H R) (hr : ∀ v H', R v H' → ∃ H2, Imp H' H2 ∧ R' v H2) : Fn P w0 B f args H R' :=
  ⟨h.fn, fun w hw => (h.run w hw).mono fun e w' ⟨v, H', a, b, d⟩ => by
    obtain ⟨H2, hi, hr2⟩ := hr _ _ d
    exact ⟨v, H2, a, hi _ _ _ b, hr2⟩⟩

/-- The blocks of a writer. -/
def WrX (g : Nat) (high : Bool) (l : List Bool) (X : List Ent) : Prop := ∀ F, WrB g high l F (X ++ F)
theorem WrB.x {g : Nat} {high : Bool} {l : List Bool} {F H : List Ent} (h : WrB g high l F H) : ∃ X, H.Perm (X ++ F) ∧ WrX g high l X := Wrt.open h
section
variable {w0 : World} {B : Nat} {R H : List Ent} {g : Nat} {high : Bool} {l : List Bool} {X : List Ent}
theorem new_x (high : Bool) : Fn Try.prog w0 B 9 [.bool high] H (fun v H' => ∃ g X, v = .pointer (some ⟨g, 0, none⟩) ∧ H' = X ++ H ∧ WrX g high [] X) :=
  (new_fn high).monoI fun v H' ⟨g, hv, h⟩ => by
    obtain ⟨X, hX, hw⟩ := WrB.x (l := []) h
    exact ⟨X ++ H, Imp.perm hX (Imp.refl _), g, X, hv, rfl, hw⟩
theorem Put_x (h : WrX g high l X) (hl : l.length ≤ 100000000) (v n : Int) (hv : -9223372036854775808 ≤ v ∧ v ≤ 9223372036854775807) (hn : -9223372036854775808 ≤ n ∧ n ≤ 9223372036854775807) :
    Fn Try.prog w0 B 11 [.pointer (some ⟨g, 0, none⟩), .int .i64 v, .int .i64 n] (X ++ R) (fun r H' => r = .bool (decide (Right v n)) ∧ ∃ X', H' = X' ++ R ∧ WrX g high (numMore high l v n) X') :=
  (Put_any (h R) hl v n hv hn).monoI fun r H' ⟨hr, h⟩ => by
    obtain ⟨X', hX, hw⟩ := WrB.x h
    exact ⟨X' ++ R, Imp.perm hX (Imp.refl _), hr, X', rfl, hw⟩
theorem bytes_x (h : WrX g high l X) (hl : l.length ≤ 100000000) :
    Fn Try.prog w0 B 12 [.pointer (some ⟨g, 0, none⟩)] (X ++ R) (fun v H' => Own 5 1 v ((l.length + 7) / 8) ((bytesOf high l).map byteV) (X ++ R) H') := by
  have e := length_bytesOf high l
  have := bytes_fn (w0 := w0) (B := B) (h R) (by omega)
  rw [e] at this
  exact this
theorem count_x (h : WrX g high l X) : Fn Try.prog w0 B 13 [.pointer (some ⟨g, 0, none⟩)] (X ++ R) (fun v H' => v = .int .i64 (l.length : Int) ∧ H' = X ++ R) := count_q (h R)
end

theorem and8_bit (u : UInt8) (p : Nat) : bits .and .u8 ((u.toNat : Int) / 2 ^ p) 1 = ((u.toNat.testBit p).toNat : Int) := by
  have h : ∀ q : Fin 256, bits .and .u8 (q.val : Int) 1 = ((q.val % 2 : Nat) : Int) := by decide +kernel
  have hq : u.toNat / 2 ^ p < 256 := Nat.lt_of_le_of_lt (Nat.div_le_self _ _) u.toNat_lt
  have h1 := h ⟨u.toNat / 2 ^ p, hq⟩
  rw [show ((u.toNat : Int) / 2 ^ p) = ((u.toNat / 2 ^ p : Nat) : Int) by simp, h1, testBit_mod]
  have : u.toNat / 2 ^ p % 2 < 2 := Nat.mod_lt _ (by decide)
  generalize u.toNat / 2 ^ p % 2 = q at *
  match q, this with
  | 0, _ => rfl
  | 1, _ => rfl
theorem bit_valN (v p : Nat) (hv : v < 9223372036854775808) : bits .and .i64 ((v : Int) / 2 ^ p) 1 = ((v.testBit p).toNat : Int) := by
  rw [bit64 _ _ hv, testBit_mod]
  have : v / 2 ^ p % 2 < 2 := Nat.mod_lt _ (by decide)
  generalize v / 2 ^ p % 2 = q at *
  match q, this with
  | 0, _ => rfl
  | 1, _ => rfl

theorem numBits_succ_high (v n : Nat) : numBits v (n + 1) true = numBits (v / 2) n true ++ [v.testBit 0] := by
  simp only [numBits, List.range_succ, List.map_append, List.map_cons, List.map_nil, if_true]
  congr 1
  · refine List.map_congr_left fun k hk => ?_
    rw [List.mem_range] at hk
    rw [← Nat.testBit_succ]
    congr 1
    omega
  · congr 2; omega
/-- A number's bits, from its bits. -/
theorem numBits_numH (bs : List Bool) : numBits (numH bs) bs.length true = bs := by
  rw [← List.reverse_reverse bs]
  induction bs.reverse with
  | nil => rfl
  | cons b r ih =>
    have hb : b.toNat ≤ 1 := by cases b <;> decide
    rw [List.reverse_cons, numH_snoc, List.length_append, List.length_singleton, numBits_succ_high, show (2 * numH r.reverse + b.toNat) / 2 = numH r.reverse by omega, ih]
    congr 2
    rw [testBit_mod, Nat.pow_zero, Nat.div_one, show (2 * numH r.reverse + b.toNat) % 2 = b.toNat by omega]
    cases b <;> rfl
/-- A byte turned round. -/
theorem byte_turned (L : List Bool) (i : Nat) : numH (numBits ((bytesOf false L).getD i 0).toNat 8 false) = ((bytesOf true L).getD i 0).toNat := by
  have e : numBits ((bytesOf false L).getD i 0).toNat 8 false = numBits ((bytesOf true L).getD i 0).toNat 8 true := by
    unfold numBits
    refine List.map_congr_left fun k hk => ?_
    rw [List.mem_range] at hk
    have h1 := bitAt_bytesOf false L (8 * i + k)
    have h2 := bitAt_bytesOf true L (8 * i + k)
    unfold bitAt bitPos at h1 h2
    simp only [show (8 * i + k) / 8 = i by omega, show (8 * i + k) % 8 = k by omega, if_true, Bool.false_eq_true, if_false] at h1 h2 ⊢
    rw [h1, show 8 - 1 - k = 7 - k by omega, h2]
  rw [e, numH_bits]
  exact Nat.mod_eq_of_lt ((bytesOf true L).getD i 0).toNat_lt
end Go.Proofs.Ytbgmakblfnpjkaa
