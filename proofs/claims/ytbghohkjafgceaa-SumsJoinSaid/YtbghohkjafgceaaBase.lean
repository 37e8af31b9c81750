/-
  Plain lemmas for the walks of this seat: bytes and numbers that lie in a slice, and bit operations as bit vectors. No condition.
-/
import Derived.Test.YtbghohkjafgceaaRows
import Derived.WalkKit
import Derived.ProofKit
import Derived.OpenShut
import Derived.ChangeOld
import Derived.Below
import Derived.Lib.Hide
import Derived.Lib.SlBytesConst
import Derived.Laws.AppendOwnNone
namespace Go.Proofs.Ytbghohkjafgceaa
open Go.RowKit

/-- To stop a walk at an operation: 'go_wp2_with (at_builtin; refine stopHere ?_)'; then 'refine unhide ?_'. -/
theorem stopHere {p : Prop} (h : Hid p) : p := h
theorem unhide {p : Prop} (h : p) : Hid p := h

/-- A slice's elements, read: every element stands in memory. 'f' makes the cell's value out of an element. -/
def RowAt {α : Type} (f : α → Value) (w : World) (a : Option Addr) (l : List α) : Prop :=
  ∀ i (h : i < l.length), ∃ b off, a = some ⟨b, off, none⟩ ∧ w.cell? ⟨b, off + i, none⟩ = some (f l[i])

theorem RowAt.mono {α : Type} {f : α → Value} {w w' : World} {a : Option Addr} {l : List α} (h : RowAt f w a l)
    (hw : ∀ p : Addr, p.block < w.heap.size → w'.cell? p = w.cell? p) : RowAt f w' a l := by
  intro i hi
  obtain ⟨b, off, ha, hc⟩ := h i hi
  refine ⟨b, off, ha, ?_⟩
  rw [hw _ ?_]
  · exact hc
  · show b < _
    simp only [World.cell?] at hc
    rcases Nat.lt_or_ge b w.heap.size with h1 | h1
    · exact h1
    · rw [Array.getElem?_eq_none h1] at hc; cases hc

theorem RowAt.below {α : Type} {f : α → Value} {w w' : World} {a : Option Addr} {l : List α} (h : RowAt f w a l)
    (hb : Below w.heap.size w w') : RowAt f w' a l := h.mono fun _ hp => hb.cell hp

/-- A byte as the model holds it. -/
abbrev byteV (u : UInt8) : Value := .int .u8 (u.toNat : Int)
abbrev intV (n : Int) : Value := .int .i64 n

/-- A slice value of one-cell elements that reads as this list. -/
structure Sl {α : Type} (f : α → Value) (w : World) (a : Option Addr) (len cap : Nat) (l : List α) : Prop where
  size_eq : l.length = len
  le : len ≤ cap
  small : cap ≤ 9223372036854775807
  nil : a = none → cap = 0
  row : RowAt f w a l

theorem Sl.below {α : Type} {f : α → Value} {w w' : World} {a : Option Addr} {len cap : Nat} {l : List α} (h : Sl f w a len cap l) (hb : Below w.heap.size w w') : Sl f w' a len cap l :=
  ⟨h.size_eq, h.le, h.small, h.nil, h.row.below hb⟩

theorem Sl.nil_mk {α : Type} (f : α → Value) (w : World) : Sl f w none 0 0 [] :=
  ⟨rfl, by omega, by omega, fun _ => rfl, fun i h => absurd h (by simp)⟩

/-- One slice of bytes among several. -/
structure Part where
  a : Option Addr
  len : Nat
  cap : Nat
  bs : List UInt8

def partV (p : Part) : Value := .slice p.a p.len p.cap

/-- A slice value that reads as these slices of bytes. -/
structure Parts (w : World) (a : Option Addr) (len cap : Nat) (ps : List Part) : Prop where
  sl : Sl partV w a len cap ps
  each : ∀ p ∈ ps, Sl byteV w p.a p.len p.cap p.bs

theorem Parts.below {w w' : World} {a : Option Addr} {len cap : Nat} {ps : List Part} (h : Parts w a len cap ps) (hb : Below w.heap.size w w') : Parts w' a len cap ps :=
  ⟨h.sl.below hb, fun p hp => (h.each p hp).below hb⟩

/-- A new block, written out. -/
theorem Sl.lit {α : Type} (f : α → Value) (w : World) (C : Array Value) (t : TypeId) (fr : Nat × Nat) (g n : Nat) (l : List α) (hg : g = w.heap.size) (hC : C.toList = l.map f) (hn : l.length = n) (hm : n ≤ 9223372036854775807) :
    Sl f (w.alloc (.cells C t fr)) (some ⟨g, 0, none⟩) n n l := by
  subst hg
  refine ⟨hn, Nat.le_refl _, hm, (fun h => by cases h), ?_⟩
  intro i hi
  refine ⟨_, 0, rfl, ?_⟩
  rw [Nat.zero_add, World.cell?_alloc_mark]
  have := congrArg (·[i]?) hC
  simp only [List.getElem?_map] at this
  rw [← Array.getElem?_toList, this, List.getElem?_eq_getElem hi]; rfl

theorem Parts.lit (w : World) (C : Array Value) (t : TypeId) (fr : Nat × Nat) (g n : Nat) (ps : List Part) (hg : g = w.heap.size) (hC : C.toList = ps.map partV) (hn : ps.length = n) (hm : n ≤ 9223372036854775807)
    (he : ∀ p ∈ ps, Sl byteV w p.a p.len p.cap p.bs) : Parts (w.alloc (.cells C t fr)) (some ⟨g, 0, none⟩) n n ps :=
  ⟨Sl.lit _ _ _ _ _ _ _ _ hg hC hn hm, fun p hp => (he p hp).below ((Below.refl _ _).alloc (Nat.le_refl _) _)⟩

theorem Parts.none (w : World) : Parts w none 0 0 [] := ⟨Sl.nil_mk _ _, fun p hp => by cases hp⟩

/-- What a part of a slice reads as: 's[i:j]'. -/
theorem Sl.sub {α : Type} {f : α → Value} {w : World} {a : Option Addr} {len cap : Nat} {l : List α} (h : Sl f w a len cap l) (i j : Nat) (hij : i ≤ j) (hj : j ≤ len) :
    Sl f w (if cap = i then a else a.map (·.add i)) (j - i) (cap - i) ((l.drop i).take (j - i)) := by
  have hlc := h.le
  have hs := h.size_eq
  have hm := h.small
  refine ⟨by simp only [List.length_take, List.length_drop]; omega, by omega, by omega, ?_, ?_⟩
  · intro hn
    split at hn
    · have := h.nil hn; omega
    · cases a with
      | none => have := h.nil rfl; omega
      | some x => cases hn
  · intro k hk
    simp only [List.length_take, List.length_drop] at hk
    obtain ⟨b, off, ha, hc⟩ := h.row (i + k) (by omega)
    subst ha
    rw [if_neg (by omega)]
    refine ⟨b, off + i, ?_, ?_⟩
    · simp only [Option.map_some, Addr.add]
      split
      · rename_i h0; subst h0; rfl
      · rfl
    · rw [Nat.add_assoc, hc]; simp

theorem Sl.take {α : Type} {f : α → Value} {w : World} {a : Option Addr} {len cap : Nat} {l : List α} (h : Sl f w a len cap l) (k : Nat) (hk : k ≤ len) : Sl f w a k cap (l.take k) := by
  have hs := h.size_eq
  have hlc := h.le
  refine ⟨by simp only [List.length_take]; omega, by omega, h.small, h.nil, fun i hi => ?_⟩
  simp only [List.length_take] at hi
  obtain ⟨b, off, ha, hc⟩ := h.row i (by omega)
  exact ⟨b, off, ha, by rw [hc]; simp⟩

theorem Sl.drop {α : Type} {f : α → Value} {w : World} {a : Option Addr} {len cap : Nat} {l : List α} (h : Sl f w a len cap l) (k : Nat) (hk : k ≤ len) :
    Sl f w (if cap = k then a else Option.map (fun x => x.add k) a) (len - k) (cap - k) (l.drop k) := by
  have := h.sub k len hk (Nat.le_refl _)
  rwa [List.take_of_length_le (by simp only [List.length_drop]; have := h.size_eq; omega)] at this

theorem Sl.drew {α : Type} {f : α → Value} {w : World} {a : Option Addr} {len cap : Nat} {l : List α} (h : Sl f w a len cap l) : Sl f w.drew a len cap l := h.below (Below.refl _ _).drew
theorem Sl.alloc {α : Type} {f : α → Value} {w : World} {a : Option Addr} {len cap : Nat} {l : List α} (h : Sl f w a len cap l) (o : Obj) : Sl f (w.alloc o) a len cap l := h.below ((Below.refl _ _).alloc (Nat.le_refl _) _)

/-- What the call owns reads as a slice. -/
theorem Sl.of_owns {α : Type} {f : α → Value} {w : World} {base : Nat} {e : TypeId} {v : Value} {n : Nat} {l : List α} (h : w.ownsRow base e 1 v n (l.map f)) :
    ∃ a cap, v = .slice a n cap ∧ Sl f w a n cap l ∧ (∀ x, a = some x → base ≤ x.block) := by
  have hl : l.length = n := by simpa using h.1
  rcases h.2 with ⟨hv, hn⟩ | ⟨g, cap, cur, hv, hg, hh, hnc, hcm, hcs, ht⟩
  · subst hn
    have : l = [] := List.eq_nil_of_length_eq_zero hl
    subst this
    exact ⟨none, 0, hv, Sl.nil_mk f w, fun x hx => by cases hx⟩
  · refine ⟨_, cap, hv, ⟨hl, hnc, (by unfold maxLen at hcm; omega), (fun h => by cases h), ?_⟩, (fun x hx => by cases hx; exact hg)⟩
    intro i hi
    refine ⟨g, 0, rfl, ?_⟩
    rw [cell_of_row w g _ cur e (0, 0) hh, Nat.zero_add]
    have := congrArg (·[i]?) ht
    simp only [List.getElem?_take, List.getElem?_map, Nat.mul_one] at this
    rw [if_pos (by omega)] at this
    simpa [hi] using this

theorem owns_pos {w : World} {base : Nat} {e : TypeId} {v : Value} {n : Nat} {l : List Value} (h : w.ownsRow base e 1 v n l) (hn : 0 < n) :
    ∃ g cap, v = .slice (some ⟨g, 0, none⟩) n cap ∧ base ≤ g := by
  rcases h.2 with ⟨_, hn0⟩ | ⟨g, cap, cur, hv, hg, _⟩
  · omega
  · exact ⟨g, cap, hv, hg⟩

section
variable {P : Program} {w : World} {α : Type}
/-- 'append(s, x...)': s the call's own, x any slice that reads as a list (nil, too). -/
theorem wpl_append {ops : Array Oper} {rest : List Oper} {o : Oper} {a : Act} {Q : Exit → Act → World → Prop} (hgd : o.guard = none) (s x : Operand) (t : TypeId)
    (ho : o.op = .call { callee := .builtin .append, args := #[s, x], argTypes := #[t, t] })
    (base : Nat) (e : TypeId) (i : TypeInfo) (z : Value) (bytes : Nat) (ht : P.underlying t = some (.slice e)) (hi : P.info? e = some i) (hz : i.zero = some z)
    (hsize : i.size = 1) (hby : i.bytes = bytes) (hzs : z.cells.size = 1)
    (f : α → Value) (hf : ∀ y, (f y).oneCell' = true) (v : Value) (n : Nat) (xs : List α) (hs : a.eval s = v) (hown : w.ownsRow base e 1 v n (xs.map f))
    (ao : Option Addr) (m c : Nat) (l : List α) (hx : a.eval x = .slice ao m c) (hl : Sl f w ao m c l)
    (hbytes : (n + m) * bytes ≤ 140737488355328) (hmax : n + m ≤ 9223372036854775807) (hbase : base ≤ w.heap.size)
    (h : ∀ v' w', w'.ownsRow base e 1 v' (n + m) ((xs ++ l).map f) → w.grownBy w' v.ownBlock → (v' = .slice none 0 0 ↔ v = .slice none 0 0 ∧ m = 0) → wpList P ops Q rest (a.put o.dst v') w') : wpList P ops Q (o :: rest) a w := by
  cases ao with
  | none =>
    have hc := hl.nil rfl
    have hm : m = 0 := by have := hl.le; omega
    subst hc hm
    have hl0 : l = [] := List.eq_nil_of_length_eq_zero hl.size_eq
    subst hl0
    refine wpList_append_own_none hgd s x t ho base e i 1 ht hi v n (xs.map f) hs hown hx ?_
    exact h v w (by simpa using hown) (World.grownBy.refl _ _) (by simp)
  | some ad =>
    refine wpList_append_own w hgd s x t ho base e i z 1 bytes ht hi hz hsize hby hzs (by omega) v n (xs.map f) hs hown ad m c (l.map f) hx (by simpa using hl.size_eq) ?_ ?_
      (by unfold maxLen; omega) hbytes hbase fun v' w' h1 h2 h3 => h v' w' (by simpa using h1) h2 h3
    · intro j u hu
      have hj : j < l.length := by
        rcases Nat.lt_or_ge j l.length with h1 | h1
        · exact h1
        · rw [List.getElem?_eq_none (by simpa using h1)] at hu; cases hu
      obtain ⟨b, off, ha, hc⟩ := hl.row j hj
      cases ha
      rw [List.getElem?_map, List.getElem?_eq_getElem hj] at hu
      simp only [Option.map_some, Option.some.injEq] at hu
      subst hu
      rw [← hc]; congr 1
      simp only [Addr.add]
      split
      · rename_i h0; subst h0; rfl
      · rfl
    · intro u hu
      obtain ⟨y, _, rfl⟩ := List.mem_map.1 hu
      exact hf y
end

/-- Behind an append: the world below is as it was. -/
theorem below_append {B : Nat} {a w w' : World} {v : Value} (h : Below B a w) (hg : w.grownBy w' v.ownBlock) (hB : B ≤ w.heap.size) {e : TypeId} {n : Nat} {xs : List Value} (hown : w.ownsRow B e 1 v n xs) : Below B a w' :=
  h.grown hg hB fun k hk => (hown.lt k hk).1

/-- The call hands back a slice in memory of its own that reads as this list; what was there stays. -/
def Fresh {α : Type} (f : α → Value) (l : List α) (w : World) (e : Ending) (w' : World) : Prop :=
  ∃ a len cap, e = .returned (.slice a len cap) ∧ Sl f w' a len cap l ∧ (∀ x, a = some x → w.heap.size ≤ x.block) ∧ Below w.heap.size w w'

/-- '[]byte("..")' of a constant: the block bears a mark behind its end. -/
theorem run_conv_lit {P : Program} (t e : TypeId) (ht : P.underlying t = some (.slice e)) (he : P.underlying e = some (.int .u8)) (w : World) (C : Array Value) (g n c : Nat) (hg : g = w.heap.size) :
    (convert t t (.slice (some ⟨g, 0, none⟩) n c)).run P (w.alloc (.cells C e)) = .ok (.slice (some ⟨g, 0, none⟩) n c) (w.alloc (.cells C e (C.size, C.size + 1))) := by
  subst hg; exact Lib.run_convert_bytes_const w t e C n c ht he

theorem list_choose {α : Type} {p : Nat → α → Prop} : ∀ {n : Nat}, (∀ i, i < n → ∃ x, p i x) → ∃ l : List α, l.length = n ∧ ∀ i (hi : i < l.length), p i l[i]
  | 0, _ => ⟨[], rfl, fun i hi => absurd hi (by simp)⟩
  | k + 1, h => by
    obtain ⟨l, hl, hl2⟩ := list_choose (n := k) (p := p) (fun i hi => h i (by omega))
    obtain ⟨x, hx⟩ := h k (by omega)
    refine ⟨l ++ [x], by simp [hl], fun i hi => ?_⟩
    simp only [List.length_append, List.length_cons, List.length_nil] at hi
    by_cases h : i < l.length
    · rw [List.getElem_append_left h]; exact hl2 i h
    · obtain rfl : i = l.length := by omega
      rw [List.getElem_concat_length rfl]; rw [hl]; exact hx

theorem ret_int {k : IntKind} {a b : Int} (h : a = b) : Ending.returned (.int k a) = .returned (.int k b) := by rw [h]

theorem ofInt_bv {n : Nat} (c : BitVec n) : BitVec.ofInt n (c.toNat : Int) = c := by
  rw [BitVec.ofInt_natCast, BitVec.ofNat_toNat, BitVec.setWidth_eq]

theorem bits_xor8 (a b : UInt8) : bits .xor .u8 (a.toNat : Int) (b.toNat : Int) = ((a ^^^ b).toNat : Int) := by
  rw [u8_xor_nat _ _ a.toNat_lt b.toNat_lt, UInt8.toNat_xor]

theorem bits_u32 (op : BinOp) (c d : BitVec 32) : bits op .u32 (c.toNat : Int) (d.toNat : Int) =
    (match op with | .and => ((c &&& d).toNat : Int) | .or => ((c ||| d).toNat : Int) | .xor => ((c ^^^ d).toNat : Int) | _ => ((c &&& ~~~d).toNat : Int)) := by
  have e : ∀ r : BitVec 32, IntKind.u32.wrap (r.toNat : Int) = (r.toNat : Int) := fun r => IntWalk.u32_in _ (by have := r.isLt; omega)
  cases op <;> simp only [bits, IntKind.bits, ofInt_bv, e] <;> rfl

theorem bits_and32 (c d : BitVec 32) : bits .and .u32 (c.toNat : Int) (d.toNat : Int) = ((c &&& d).toNat : Int) := bits_u32 .and c d
theorem bits_or32 (c d : BitVec 32) : bits .or .u32 (c.toNat : Int) (d.toNat : Int) = ((c ||| d).toNat : Int) := bits_u32 .or c d
theorem bits_xor32 (c d : BitVec 32) : bits .xor .u32 (c.toNat : Int) (d.toNat : Int) = ((c ^^^ d).toNat : Int) := bits_u32 .xor c d

theorem and64 (a b : Nat) (ha : a < 9223372036854775808) (hb : b < 9223372036854775808) : bits .and .i64 (a : Int) (b : Int) = ((a &&& b : Nat) : Int) :=
  (bits_nat .i64 63 (by decide) (fun n h0 h1 => IntWalk.i64_in n (by omega)) a b ha hb).1
theorem or64 (a b : Nat) (ha : a < 9223372036854775808) (hb : b < 9223372036854775808) : bits .or .i64 (a : Int) (b : Int) = ((a ||| b : Nat) : Int) :=
  (bits_nat .i64 63 (by decide) (fun n h0 h1 => IntWalk.i64_in n (by omega)) a b ha hb).2
theorem xor64 (a b : Nat) (ha : a < 9223372036854775808) (hb : b < 9223372036854775808) : bits .xor .i64 (a : Int) (b : Int) = ((a ^^^ b : Nat) : Int) := by
  have ha' : a % 2 ^ 64 = a := Nat.mod_eq_of_lt (by omega)
  have hb' : b % 2 ^ 64 = b := Nat.mod_eq_of_lt (by omega)
  have hx : a ^^^ b < 2 ^ 63 := Nat.xor_lt_two_pow (by omega) (by omega)
  rw [show bits .xor .i64 (a : Int) (b : Int) = IntKind.i64.wrap (((BitVec.ofInt 64 (a : Int)) ^^^ (BitVec.ofInt 64 (b : Int))).toNat : Int) from rfl,
    BitVec.ofInt_natCast, BitVec.ofInt_natCast, BitVec.toNat_xor, BitVec.toNat_ofNat, BitVec.toNat_ofNat, ha', hb']
  exact IntWalk.i64_in ((a ^^^ b : Nat) : Int) (by omega)
theorem mask64 (a k : Nat) (ha : a < 9223372036854775808) (hk : k ≤ 62) : bits .and .i64 (a : Int) ((2 ^ k - 1 : Nat) : Int) = ((a % 2 ^ k : Nat) : Int) := by
  have h : 2 ^ k ≤ 2 ^ 62 := Nat.pow_le_pow_right (by omega) hk
  rw [and64 _ _ ha (by omega), Nat.and_two_pow_sub_one_eq_mod]
theorem join64 (k x y : Nat) (hx : x * 2 ^ k < 9223372036854775808) (hy : y < 2 ^ k) (hk : k ≤ 62) : bits .or .i64 ((x * 2 ^ k : Nat) : Int) (y : Int) = ((x * 2 ^ k + y : Nat) : Int) := by
  have h : 2 ^ k ≤ 2 ^ 62 := Nat.pow_le_pow_right (by omega) hk
  rw [or64 _ _ hx (by omega), Nat.mul_comm, ← Nat.two_pow_add_eq_or_of_lt hy]

theorem bit64 (q k : Nat) (hq : q < 9223372036854775808) : bits .and .i64 ((q : Int) / 2 ^ k) 1 = ((q / 2 ^ k % 2 : Nat) : Int) := by
  have h : q / 2 ^ k ≤ q := Nat.div_le_self _ _
  have := mask64 (q / 2 ^ k) 1 (by omega) (by omega)
  rw [show ((2 ^ 1 - 1 : Nat) : Int) = 1 from rfl] at this
  rw [← Nat.pow_one 2] at this
  rw [Nat.pow_one] at this
  rw [← this]; congr 1
  all_goals simp
theorem testBit_mod (q k : Nat) : q.testBit k = decide (q / 2 ^ k % 2 = 1) := by
  rw [Nat.testBit_eq_decide_div_mod_eq]

end Go.Proofs.Ytbghohkjafgceaa
