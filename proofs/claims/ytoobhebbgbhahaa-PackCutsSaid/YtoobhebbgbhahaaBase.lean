/-
  Plain lemmas for the walks of this seat: bytes and numbers that lie in a slice, and bit operations as bit vectors. No condition.
-/
import Derived.Test.YtoobhebbgbhahaaRows
import Derived.WalkKit
import Derived.ProofKit
import Derived.OpenShut
import Derived.ChangeOld
import Derived.Below
import Derived.Lib.Hide
import Derived.Lib.SlBytesConst
import Derived.Laws.AppendOwnNone
namespace Go.Proofs.Ytoobhebbgbhahaa
open Go.RowKit

/-- To stop a walk at an operation: 'go_wp2_with (at_builtin; refine stopHere ?_)'; then 'refine unhide ?_'. -/
theorem stopHere {p : Prop} (h : Hid p) : p := h
theorem unhide {p : Prop} (h : p) : Hid p := h

/-- To stop a walk at a load of a whole array, or at a store of one. -/
theorem stopLoad {P : Program} {rest : List Oper} {os : Array Oper} {dst : Option Tmp} {ty ty2 : TypeId} {x : Operand} {pos : String} {after : Array Edge} {g : Option (Nat × Bool)} {a : Act} {w : World} {Q : Exit → Act → World → Prop} {n : Nat} {e : TypeId}
    (_ht : P.underlying ty = some (.array n e)) (h : Hid (wpList P os Q ({ dst := dst, op := .load ty x, type := ty2, pos := pos, after := after, guard := g } :: rest) a w)) : wpList P os Q ({ dst := dst, op := .load ty x, type := ty2, pos := pos, after := after, guard := g } :: rest) a w := h

/-- A slice's elements, read: every element stands in memory. 'f' makes the cell's value out of an element. -/
def RowAt {α : Type} (f : α → Value) (w : World) (a : Option Addr) (l : List α) : Prop :=
  ∀ i (h : i < l.length), ∃ b off, a = some ⟨b, off, none⟩ ∧ w.cell? ⟨b, off + i, none⟩ = some (f l[i])

theorem RowAt.mono {α : Type} {f : α → Value} {w w' : World} {a : Option Addr} {l : List α} (h : RowAt f w a l)
    (hw : ∀ p : Addr, p.block < w.heap.size → w'.cell? p = w.cell? p) : RowAt f w' a l := by
  intro i hi
  obtain ⟨b, off, ha, hc⟩ := h i hi
  refine ⟨b, off, ha, ?_⟩
  rw [hw _ ?_]
  · exact hc
  · show b < _
    simp only [World.cell?] at hc
    rcases Nat.lt_or_ge b w.heap.size with h1 | h1
    · exact h1
    · rw [Array.getElem?_eq_none h1] at hc; cases hc

theorem RowAt.below {α : Type} {f : α → Value} {w w' : World} {a : Option Addr} {l : List α} (h : RowAt f w a l)
    (hb : Below w.heap.size w w') : RowAt f w' a l := h.mono fun _ hp => hb.cell hp

/-- A byte as the model holds it. -/
abbrev byteV (u : UInt8) : Value := .int .u8 (u.toNat : Int)
abbrev intV (n : Int) : Value := .int .i64 n
/-- An array of numbers, by value. -/
abbrev arrV (l : List Int) : Value := .agg (l.map intV).toArray

/-- A slice value of one-cell elements that reads as this list. -/
structure Sl {α : Type} (f : α → Value) (w : World) (a : Option Addr) (len cap : Nat) (l : List α) : Prop where
  size_eq : l.length = len
  le : len ≤ cap
  small : cap ≤ 9223372036854775807
  nil : a = none → cap = 0
  row : RowAt f w a l

theorem Sl.below {α : Type} {f : α → Value} {w w' : World} {a : Option Addr} {len cap : Nat} {l : List α} (h : Sl f w a len cap l) (hb : Below w.heap.size w w') : Sl f w' a len cap l :=
  ⟨h.size_eq, h.le, h.small, h.nil, h.row.below hb⟩

theorem Sl.nil_mk {α : Type} (f : α → Value) (w : World) : Sl f w none 0 0 [] :=
  ⟨rfl, by omega, by omega, fun _ => rfl, fun i h => absurd h (by simp)⟩

/-- One slice of bytes among several. -/
structure Part where
  a : Option Addr
  len : Nat
  cap : Nat
  bs : List UInt8

def partV (p : Part) : Value := .slice p.a p.len p.cap

/-- A slice value that reads as these slices of bytes. -/
structure Parts (w : World) (a : Option Addr) (len cap : Nat) (ps : List Part) : Prop where
  sl : Sl partV w a len cap ps
  each : ∀ p ∈ ps, Sl byteV w p.a p.len p.cap p.bs

theorem Parts.below {w w' : World} {a : Option Addr} {len cap : Nat} {ps : List Part} (h : Parts w a len cap ps) (hb : Below w.heap.size w w') : Parts w' a len cap ps :=
  ⟨h.sl.below hb, fun p hp => (h.each p hp).below hb⟩

/-- A new block, written out. -/
theorem Sl.lit {α : Type} (f : α → Value) (w : World) (C : Array Value) (t : TypeId) (fr : Nat × Nat) (g n : Nat) (l : List α) (hg : g = w.heap.size) (hC : C.toList = l.map f) (hn : l.length = n) (hm : n ≤ 9223372036854775807) :
    Sl f (w.alloc (.cells C t fr)) (some ⟨g, 0, none⟩) n n l := by
  subst hg
  refine ⟨hn, Nat.le_refl _, hm, (fun h => by cases h), ?_⟩
  intro i hi
  refine ⟨_, 0, rfl, ?_⟩
  rw [Nat.zero_add, World.cell?_alloc_mark]
  have := congrArg (·[i]?) hC
  simp only [List.getElem?_map] at this
  rw [← Array.getElem?_toList, this, List.getElem?_eq_getElem hi]; rfl

theorem Parts.lit (w : World) (C : Array Value) (t : TypeId) (fr : Nat × Nat) (g n : Nat) (ps : List Part) (hg : g = w.heap.size) (hC : C.toList = ps.map partV) (hn : ps.length = n) (hm : n ≤ 9223372036854775807)
    (he : ∀ p ∈ ps, Sl byteV w p.a p.len p.cap p.bs) : Parts (w.alloc (.cells C t fr)) (some ⟨g, 0, none⟩) n n ps :=
  ⟨Sl.lit _ _ _ _ _ _ _ _ hg hC hn hm, fun p hp => (he p hp).below ((Below.refl _ _).alloc (Nat.le_refl _) _)⟩

theorem Parts.none (w : World) : Parts w none 0 0 [] := ⟨Sl.nil_mk _ _, fun p hp => by cases hp⟩

/-- What a part of a slice reads as: 's[i:j]'. -/
theorem Sl.sub {α : Type} {f : α → Value} {w : World} {a : Option Addr} {len cap : Nat} {l : List α} (h : Sl f w a len cap l) (i j : Nat) (hij : i ≤ j) (hj : j ≤ len) :
    Sl f w (if cap = i then a else a.map (·.add i)) (j - i) (cap - i) ((l.drop i).take (j - i)) := by
  have hlc := h.le
  have hs := h.size_eq
  have hm := h.small
  refine ⟨by simp only [List.length_take, List.length_drop]; omega, by omega, by omega, ?_, ?_⟩
  · intro hn
    split at hn
    · have := h.nil hn; omega
    · cases a with
      | none => have := h.nil rfl; omega
      | some x => cases hn
  · intro k hk
    simp only [List.length_take, List.length_drop] at hk
    obtain ⟨b, off, ha, hc⟩ := h.row (i + k) (by omega)
    subst ha
    rw [if_neg (by omega)]
    refine ⟨b, off + i, ?_, ?_⟩
    · simp only [Option.map_some, Addr.add]
      split
      · rename_i h0; subst h0; rfl
      · rfl
    · rw [Nat.add_assoc, hc]; simp

theorem Sl.take {α : Type} {f : α → Value} {w : World} {a : Option Addr} {len cap : Nat} {l : List α} (h : Sl f w a len cap l) (k : Nat) (hk : k ≤ len) : Sl f w a k cap (l.take k) := by
  have hs := h.size_eq
  have hlc := h.le
  refine ⟨by simp only [List.length_take]; omega, by omega, h.small, h.nil, fun i hi => ?_⟩
  simp only [List.length_take] at hi
  obtain ⟨b, off, ha, hc⟩ := h.row i (by omega)
  exact ⟨b, off, ha, by rw [hc]; simp⟩

theorem Sl.drop {α : Type} {f : α → Value} {w : World} {a : Option Addr} {len cap : Nat} {l : List α} (h : Sl f w a len cap l) (k : Nat) (hk : k ≤ len) :
    Sl f w (if cap = k then a else Option.map (fun x => x.add k) a) (len - k) (cap - k) (l.drop k) := by
  have := h.sub k len hk (Nat.le_refl _)
  rwa [List.take_of_length_le (by simp only [List.length_drop]; have := h.size_eq; omega)] at this

theorem Sl.drew {α : Type} {f : α → Value} {w : World} {a : Option Addr} {len cap : Nat} {l : List α} (h : Sl f w a len cap l) : Sl f w.drew a len cap l := h.below (Below.refl _ _).drew
theorem Sl.alloc {α : Type} {f : α → Value} {w : World} {a : Option Addr} {len cap : Nat} {l : List α} (h : Sl f w a len cap l) (o : Obj) : Sl f (w.alloc o) a len cap l := h.below ((Below.refl _ _).alloc (Nat.le_refl _) _)

/-- What the call owns reads as a slice. -/
theorem Sl.of_owns {α : Type} {f : α → Value} {w : World} {base : Nat} {e : TypeId} {v : Value} {n : Nat} {l : List α} (h : w.ownsRow base e 1 v n (l.map f)) :
    ∃ a cap, v = .slice a n cap ∧ Sl f w a n cap l ∧ (∀ x, a = some x → base ≤ x.block) := by
  have hl : l.length = n := by simpa using h.1
  rcases h.2 with ⟨hv, hn⟩ | ⟨g, cap, cur, hv, hg, hh, hnc, hcm, hcs, ht⟩
  · subst hn
    have : l = [] := List.eq_nil_of_length_eq_zero hl
    subst this
    exact ⟨none, 0, hv, Sl.nil_mk f w, fun x hx => by cases hx⟩
  · refine ⟨_, cap, hv, ⟨hl, hnc, (by unfold maxLen at hcm; omega), (fun h => by cases h), ?_⟩, (fun x hx => by cases hx; exact hg)⟩
    intro i hi
    refine ⟨g, 0, rfl, ?_⟩
    rw [cell_of_row w g _ cur e (0, 0) hh, Nat.zero_add]
    have := congrArg (·[i]?) ht
    simp only [List.getElem?_take, List.getElem?_map, Nat.mul_one] at this
    rw [if_pos (by omega)] at this
    simpa [hi] using this

theorem owns_pos {w : World} {base : Nat} {e : TypeId} {v : Value} {n : Nat} {l : List Value} (h : w.ownsRow base e 1 v n l) (hn : 0 < n) :
    ∃ g cap, v = .slice (some ⟨g, 0, none⟩) n cap ∧ base ≤ g := by
  rcases h.2 with ⟨_, hn0⟩ | ⟨g, cap, cur, hv, hg, _⟩
  · omega
  · exact ⟨g, cap, hv, hg⟩

section
variable {P : Program} {w : World} {α : Type}
/-- 'append(s, x...)': s the call's own, x any slice that reads as a list (nil, too). -/
theorem wpl_append {ops : Array Oper} {rest : List Oper} {o : Oper} {a : Act} {Q : Exit → Act → World → Prop} (hgd : o.guard = none) (s x : Operand) (t : TypeId)
    (ho : o.op = .call { callee := .builtin .append, args := #[s, x], argTypes := #[t, t] })
    (base : Nat) (e : TypeId) (i : TypeInfo) (z : Value) (bytes : Nat) (ht : P.underlying t = some (.slice e)) (hi : P.info? e = some i) (hz : i.zero = some z)
    (hsize : i.size = 1) (hby : i.bytes = bytes) (hzs : z.cells.size = 1)
    (f : α → Value) (hf : ∀ y, (f y).oneCell' = true) (v : Value) (n : Nat) (xs : List α) (hs : a.eval s = v) (hown : w.ownsRow base e 1 v n (xs.map f))
    (ao : Option Addr) (m c : Nat) (l : List α) (hx : a.eval x = .slice ao m c) (hl : Sl f w ao m c l)
    (hbytes : (n + m) * bytes ≤ 140737488355328) (hmax : n + m ≤ 9223372036854775807) (hbase : base ≤ w.heap.size)
    (h : ∀ v' w', w'.ownsRow base e 1 v' (n + m) ((xs ++ l).map f) → w.grownBy w' v.ownBlock → (v' = .slice none 0 0 ↔ v = .slice none 0 0 ∧ m = 0) → wpList P ops Q rest (a.put o.dst v') w') : wpList P ops Q (o :: rest) a w := by
  cases ao with
  | none =>
    have hc := hl.nil rfl
    have hm : m = 0 := by have := hl.le; omega
    subst hc hm
    have hl0 : l = [] := List.eq_nil_of_length_eq_zero hl.size_eq
    subst hl0
    refine wpList_append_own_none hgd s x t ho base e i 1 ht hi v n (xs.map f) hs hown hx ?_
    exact h v w (by simpa using hown) (World.grownBy.refl _ _) (by simp)
  | some ad =>
    refine wpList_append_own w hgd s x t ho base e i z 1 bytes ht hi hz hsize hby hzs (by omega) v n (xs.map f) hs hown ad m c (l.map f) hx (by simpa using hl.size_eq) ?_ ?_
      (by unfold maxLen; omega) hbytes hbase fun v' w' h1 h2 h3 => h v' w' (by simpa using h1) h2 h3
    · intro j u hu
      have hj : j < l.length := by
        rcases Nat.lt_or_ge j l.length with h1 | h1
        · exact h1
        · rw [List.getElem?_eq_none (by simpa using h1)] at hu; cases hu
      obtain ⟨b, off, ha, hc⟩ := hl.row j hj
      cases ha
      rw [List.getElem?_map, List.getElem?_eq_getElem hj] at hu
      simp only [Option.map_some, Option.some.injEq] at hu
      subst hu
      rw [← hc]; congr 1
      simp only [Addr.add]
      split
      · rename_i h0; subst h0; rfl
      · rfl
    · intro u hu
      obtain ⟨y, _, rfl⟩ := List.mem_map.1 hu
      exact hf y
end

/-- Behind an append: the world below is as it was. -/
theorem below_append {B : Nat} {a w w' : World} {v : Value} (h : Below B a w) (hg : w.grownBy w' v.ownBlock) (hB : B ≤ w.heap.size) {e : TypeId} {n : Nat} {xs : List Value} (hown : w.ownsRow B e 1 v n xs) : Below B a w' :=
  h.grown hg hB fun k hk => (hown.lt k hk).1

/-- The call hands back a slice in memory of its own that reads as this list; what was there stays. -/
def Fresh {α : Type} (f : α → Value) (l : List α) (w : World) (e : Ending) (w' : World) : Prop :=
  ∃ a len cap, e = .returned (.slice a len cap) ∧ Sl f w' a len cap l ∧ (∀ x, a = some x → w.heap.size ≤ x.block) ∧ Below w.heap.size w w'

/-- '[]byte("..")' of a constant: the block bears a mark behind its end. -/
theorem run_conv_lit {P : Program} (t e : TypeId) (ht : P.underlying t = some (.slice e)) (he : P.underlying e = some (.int .u8)) (w : World) (C : Array Value) (g n c : Nat) (hg : g = w.heap.size) :
    (convert t t (.slice (some ⟨g, 0, none⟩) n c)).run P (w.alloc (.cells C e)) = .ok (.slice (some ⟨g, 0, none⟩) n c) (w.alloc (.cells C e (C.size, C.size + 1))) := by
  subst hg; exact Lib.run_convert_bytes_const w t e C n c ht he

theorem list_choose {α : Type} {p : Nat → α → Prop} : ∀ {n : Nat}, (∀ i, i < n → ∃ x, p i x) → ∃ l : List α, l.length = n ∧ ∀ i (hi : i < l.length), p i l[i]
  | 0, _ => ⟨[], rfl, fun i hi => absurd hi (by simp)⟩
  | k + 1, h => by
    obtain ⟨l, hl, hl2⟩ := list_choose (n := k) (p := p) (fun i hi => h i (by omega))
    obtain ⟨x, hx⟩ := h k (by omega)
    refine ⟨l ++ [x], by simp [hl], fun i hi => ?_⟩
    simp only [List.length_append, List.length_cons, List.length_nil] at hi
    by_cases h : i < l.length
    · rw [List.getElem_append_left h]; exact hl2 i h
    · obtain rfl : i = l.length := by omega
      rw [List.getElem_concat_length rfl]; rw [hl]; exact hx

/-- A block known whole. -/
def Blk (w : World) (g : Nat) (T : TypeId) (C : List Value) : Prop := w.heap[g]? = some (.cells C.toArray T (0, 0))

theorem Blk.cell {w : World} {g : Nat} {T : TypeId} {C : List Value} (h : Blk w g T C) (i : Nat) (hi : i < C.length) : w.cell? ⟨g, i, none⟩ = some C[i] := by
  rw [cell_of_row w g i _ T (0, 0) h]; simp [hi]
theorem Blk.frozen {w : World} {g : Nat} {T : TypeId} {C : List Value} (h : Blk w g T C) (i : Nat) : w.frozen? ⟨g, i, none⟩ = false := frozen_of_row w g i _ T h
theorem Blk.set {w : World} {g : Nat} {T : TypeId} {C : List Value} (h : Blk w g T C) (i : Nat) (v : Value) : Blk (w.setCell ⟨g, i, none⟩ v) g T (C.set i v) := by
  have := heap_setCell_same w g i _ T v h
  unfold Blk; rw [this]; simp
theorem Blk.other {w : World} {g : Nat} {T : TypeId} {C : List Value} (h : Blk w g T C) {a : Addr} (ha : g ≠ a.block) (v : Value) : Blk (w.setCell a v) g T C := by
  unfold Blk; rw [heap_setCell_other w a g v ha]; exact h
theorem Blk.drew {w : World} {g : Nat} {T : TypeId} {C : List Value} (h : Blk w g T C) : Blk w.drew g T C := h
theorem Blk.lt {w : World} {g : Nat} {T : TypeId} {C : List Value} (h : Blk w g T C) : g < w.heap.size := by
  rcases Nat.lt_or_ge g w.heap.size with h1 | h1
  · exact h1
  · unfold Blk at h; rw [Array.getElem?_eq_none h1] at h; cases h
theorem Blk.alloc {w : World} {g : Nat} {T : TypeId} {C : List Value} (h : Blk w g T C) (o : Obj) : Blk (w.alloc o) g T C := by
  unfold Blk; rw [Below.heap_alloc w o g h.lt]; exact h
theorem Blk.new (w : World) (A : Array Value) (T : TypeId) (g : Nat) (hg : g = w.heap.size) (C : List Value) (hC : A = C.toArray) : Blk (w.alloc (.cells A T)) g T C := by
  subst hg hC; show (w.heap.push _)[w.heap.size]? = _; simp
theorem Blk.below {w w' : World} {g : Nat} {T : TypeId} {C : List Value} (h : Blk w g T C) (hb : Below w.heap.size w w') : Blk w' g T C := by
  unfold Blk; rw [hb.block g h.lt]; exact h
theorem Blk.mono {w w' : World} {g B : Nat} {T : TypeId} {C : List Value} (h : Blk w g T C) (hb : Below B w w') (hg : g < B) : Blk w' g T C := by
  unfold Blk; rw [hb.block g hg]; exact h

theorem oneCell_arr (l : List Int) : (l.map intV).toArray.all (·.oneCell') = true := by
  rw [Array.all_eq_true_iff_forall_mem]; intro v hv; simp at hv; obtain ⟨n, _, rfl⟩ := hv; rfl

theorem Blk.row {w : World} {g : Nat} {T : TypeId} {C : List Value} (h : Blk w g T C) (C' : List Value) : Blk (w.setRow g C'.toArray) g T C' := setRow_heap w g _ _ T _ h
theorem Blk.row_other {w : World} {g k : Nat} {T : TypeId} {C : List Value} (h : Blk w g T C) (hk : g ≠ k) (cs : Array Value) : Blk (w.setRow k cs) g T C := by
  unfold Blk; rw [setRow_other w k g cs hk]; exact h
theorem below_row {B : Nat} {a w : World} (h : Below B a w) {g : Nat} (hg : B ≤ g) (cs : Array Value) : Below B a (w.setRow g cs) :=
  h.trans ⟨rfl, rfl, rfl, by simp, fun k hk => setRow_other w g k cs (by omega)⟩

section
variable {P : Program} {ops : Array Oper} {rest : List Oper} {o : Oper} {a : Act} {w : World} {Q : Exit → Act → World → Prop}
/-- A whole array read out of a block that is known whole. -/
theorem wpl_load (hgd : o.guard = none) (ty : TypeId) (x : Operand) (ho : o.op = .load ty x) (g : Nat) (hx : a.eval x = .pointer (some ⟨g, 0, none⟩)) (T : TypeId) (C : List Value) (h : Blk w g T C)
    (n : Nat) (e : TypeId) (hu : P.underlying ty = some (.array n e)) (hi : (P.info? ty).map (·.size) = some C.length)
    (k : wpList P ops Q rest (a.put o.dst (.agg C.toArray)) w) : wpList P ops Q (o :: rest) a w :=
  wpList_load_row hgd ty x ho g hx T C.toArray (0, 0) _ h hu rfl (by simpa using hi) k
/-- A whole array written into a block that is known whole. -/
theorem wpl_store (hgd : o.guard = none) (ty : TypeId) (x y : Operand) (ho : o.op = .store ty x y) (g : Nat) (hx : a.eval x = .pointer (some ⟨g, 0, none⟩)) (l : List Int) (hy : a.eval y = .agg (l.map intV).toArray)
    (T : TypeId) (C : List Value) (h : Blk w g T C) (hl : C.length = l.length) (hi : (P.info? ty).map (·.size) = some l.length)
    (k : wpList P ops Q rest (a.put o.dst undef) (w.setRow g (l.map intV).toArray)) : wpList P ops Q (o :: rest) a w :=
  wpList_store_row hgd ty x y ho g _ hx hy T C.toArray h (by simpa using hi) (by simpa using hl) (oneCell_arr l) k
end
/-- A result that lies in a block that is known whole. -/
theorem results_blk {P : Program} {fn : Func} {p : Tmp} {ty : TypeId} (h : fn.results = #[.cell p ty]) (tmps : Array Value) (w : World) (g : Nat) (T : TypeId) (C : List Value)
    (hp : tmps.getD p undef = .pointer (some ⟨g, 0, none⟩)) (hg : Blk w g T C) (n : Nat) (e : TypeId) (hu : P.underlying ty = some (.array n e)) (hi : (P.info? ty).map (·.size) = some C.length) :
    (results fn tmps).run P w = .ok (.agg C.toArray) w :=
  results_cell_row h tmps w g T C.toArray (0, 0) _ hp hg hu rfl (by simpa using hi)

theorem bcell {W w1 : World} (hb : Below W.heap.size W w1) : ∀ b o, b < W.heap.size → w1.cell? ⟨b, o, none⟩ = W.cell? ⟨b, o, none⟩ := fun b o h => hb.cell (p := ⟨b, o, none⟩) h
/-- Four cells of a block. -/
def Four (w : World) (g : Nat) (a b c d : Int) : Prop :=
  w.cell? ⟨g, 0, none⟩ = some (.int .i64 a) ∧ w.cell? ⟨g, 1, none⟩ = some (.int .i64 b) ∧ w.cell? ⟨g, 2, none⟩ = some (.int .i64 c) ∧ w.cell? ⟨g, 3, none⟩ = some (.int .i64 d)
theorem Blk.four {w : World} {g : Nat} {T : TypeId} {a b c d : Int} (h : Blk w g T ([a, b, c, d].map intV)) : Four w g a b c d :=
  ⟨h.cell 0 (by simp), h.cell 1 (by simp), h.cell 2 (by simp), h.cell 3 (by simp)⟩

theorem ret_int {k : IntKind} {a b : Int} (h : a = b) : Ending.returned (.int k a) = .returned (.int k b) := by rw [h]

theorem ofInt_bv {n : Nat} (c : BitVec n) : BitVec.ofInt n (c.toNat : Int) = c := by
  rw [BitVec.ofInt_natCast, BitVec.ofNat_toNat, BitVec.setWidth_eq]

theorem bits_xor8 (a b : UInt8) : bits .xor .u8 (a.toNat : Int) (b.toNat : Int) = ((a ^^^ b).toNat : Int) := by
  rw [u8_xor_nat _ _ a.toNat_lt b.toNat_lt, UInt8.toNat_xor]

theorem bits_u32 (op : BinOp) (c d : BitVec 32) : bits op .u32 (c.toNat : Int) (d.toNat : Int) =
    (match op with | .and => ((c &&& d).toNat : Int) | .or => ((c ||| d).toNat : Int) | .xor => ((c ^^^ d).toNat : Int) | _ => ((c &&& ~~~d).toNat : Int)) := by
  have e : ∀ r : BitVec 32, IntKind.u32.wrap (r.toNat : Int) = (r.toNat : Int) := fun r => IntWalk.u32_in _ (by have := r.isLt; omega)
  cases op <;> simp only [bits, IntKind.bits, ofInt_bv, e] <;> rfl

theorem bits_and32 (c d : BitVec 32) : bits .and .u32 (c.toNat : Int) (d.toNat : Int) = ((c &&& d).toNat : Int) := bits_u32 .and c d
theorem bits_or32 (c d : BitVec 32) : bits .or .u32 (c.toNat : Int) (d.toNat : Int) = ((c ||| d).toNat : Int) := bits_u32 .or c d
theorem bits_xor32 (c d : BitVec 32) : bits .xor .u32 (c.toNat : Int) (d.toNat : Int) = ((c ^^^ d).toNat : Int) := bits_u32 .xor c d

theorem and64 (a b : Nat) (ha : a < 9223372036854775808) (hb : b < 9223372036854775808) : bits .and .i64 (a : Int) (b : Int) = ((a &&& b : Nat) : Int) :=
  (bits_nat .i64 63 (by decide) (fun n h0 h1 => IntWalk.i64_in n (by omega)) a b ha hb).1
theorem or64 (a b : Nat) (ha : a < 9223372036854775808) (hb : b < 9223372036854775808) : bits .or .i64 (a : Int) (b : Int) = ((a ||| b : Nat) : Int) :=
  (bits_nat .i64 63 (by decide) (fun n h0 h1 => IntWalk.i64_in n (by omega)) a b ha hb).2
theorem xor64 (a b : Nat) (ha : a < 9223372036854775808) (hb : b < 9223372036854775808) : bits .xor .i64 (a : Int) (b : Int) = ((a ^^^ b : Nat) : Int) := by
  have ha' : a % 2 ^ 64 = a := Nat.mod_eq_of_lt (by omega)
  have hb' : b % 2 ^ 64 = b := Nat.mod_eq_of_lt (by omega)
  have hx : a ^^^ b < 2 ^ 63 := Nat.xor_lt_two_pow (by omega) (by omega)
  rw [show bits .xor .i64 (a : Int) (b : Int) = IntKind.i64.wrap (((BitVec.ofInt 64 (a : Int)) ^^^ (BitVec.ofInt 64 (b : Int))).toNat : Int) from rfl,
    BitVec.ofInt_natCast, BitVec.ofInt_natCast, BitVec.toNat_xor, BitVec.toNat_ofNat, BitVec.toNat_ofNat, ha', hb']
  exact IntWalk.i64_in ((a ^^^ b : Nat) : Int) (by omega)
theorem mask64 (a k : Nat) (ha : a < 9223372036854775808) (hk : k ≤ 62) : bits .and .i64 (a : Int) ((2 ^ k - 1 : Nat) : Int) = ((a % 2 ^ k : Nat) : Int) := by
  have h : 2 ^ k ≤ 2 ^ 62 := Nat.pow_le_pow_right (by omega) hk
  rw [and64 _ _ ha (by omega), Nat.and_two_pow_sub_one_eq_mod]
theorem join64 (k x y : Nat) (hx : x * 2 ^ k < 9223372036854775808) (hy : y < 2 ^ k) (hk : k ≤ 62) : bits .or .i64 ((x * 2 ^ k : Nat) : Int) (y : Int) = ((x * 2 ^ k + y : Nat) : Int) := by
  have h : 2 ^ k ≤ 2 ^ 62 := Nat.pow_le_pow_right (by omega) hk
  rw [or64 _ _ hx (by omega), Nat.mul_comm, ← Nat.two_pow_add_eq_or_of_lt hy]

theorem bit64 (q k : Nat) (hq : q < 9223372036854775808) : bits .and .i64 ((q : Int) / 2 ^ k) 1 = ((q / 2 ^ k % 2 : Nat) : Int) := by
  have h : q / 2 ^ k ≤ q := Nat.div_le_self _ _
  have := mask64 (q / 2 ^ k) 1 (by omega) (by omega)
  rw [show ((2 ^ 1 - 1 : Nat) : Int) = 1 from rfl] at this
  rw [← Nat.pow_one 2] at this
  rw [Nat.pow_one] at this
  rw [← this]; congr 1
  all_goals simp
theorem testBit_mod (q k : Nat) : q.testBit k = decide (q / 2 ^ k % 2 = 1) := by
  rw [Nat.testBit_eq_decide_div_mod_eq]

section
variable {P : Program} {w : World}
theorem run_part_int {e : TypeId} (he : P.underlying e = some (.int .i64)) (l : List Int) (i : Nat) (hi : i < l.length) :
    (part e (l.map intV).toArray i).run P w = .ok (intV l[i]) w := by
  have ha : (isAgg e).run P w = .ok false w := by
    unfold isAgg; simp [run_underlying he]
  unfold part
  simp [ha, hi]

theorem run_sizeOf_int {e : TypeId} (hs : (P.info? e).map (·.size) = some 1) : (sizeOf e).run P w = .ok 1 w := by
  obtain ⟨i, hi, h1⟩ := Option.map_eq_some_iff.1 hs
  simp [sizeOf, typeInfo, hi, h1]

theorem run_equalIn_arr (d : Nat) (t e : TypeId) (n : Nat) (ht : P.underlying t = some (.array n e)) (he : P.underlying e = some (.int .i64)) (hs : (P.info? e).map (·.size) = some 1)
    (l m : List Int) (hl : l.length = n) (hm : m.length = n) : (Op.equalIn (d + 2) t (arrV l) (arrV m)).run P w = .ok (l == m) w := by
  unfold Op.equalIn
  simp only [Sem.run_bind, run_underlying ht, Result.andThen_ok, run_sizeOf_int hs]
  simp only [Std.Legacy.Range.forIn_eq_forIn_range', Std.Legacy.Range.size, Nat.sub_zero, Nat.add_sub_cancel, Nat.div_one]
  have key : ∀ (k : Nat) (j : Nat), j + k = n → 
      (forIn (m := Sem) (List.range' j k) ((none, ()) : Option Bool × Unit) (fun i r => do
        let a ← part e (l.map intV).toArray (i * 1)
        let b ← part e (m.map intV).toArray (i * 1)
        let c ← Op.equalIn (d + 1) e a b
        if (!c) = true then pure (ForInStep.done (some false, ())) else pure (ForInStep.yield (none, ())))).run P w = .ok (if l.drop j = m.drop j then (none, ()) else (some false, ())) w := by
    intro k
    induction k with
    | zero =>
      intro j hj
      rw [List.drop_of_length_le (by omega), List.drop_of_length_le (by omega)]
      simp
    | succ k ih =>
      intro j hj
      rw [List.range'_succ, List.forIn_cons]
      have h1 := run_part_int (P := P) (w := w) he l j (by omega)
      have h2 := run_part_int (P := P) (w := w) he m j (by omega)
      simp only [Sem.run_bind, Nat.mul_one, h1, h2, Result.andThen_ok, run_equalIn_int w d e .i64 .i64 _ _ he, Sem.run_ite, Sem.run_pure]
      rw [List.drop_eq_getElem_cons (show j < l.length by omega), List.drop_eq_getElem_cons (show j < m.length by omega)]
      by_cases hc : l[j]'(by omega) = m[j]'(by omega)
      · simp only [hc, BEq.rfl, Bool.not_true, Bool.false_eq_true, if_false, Result.andThen_ok, List.cons.injEq, true_and]
        simpa using ih (j + 1) (by omega)
      · have : (l[j]'(by omega) == m[j]'(by omega)) = false := by simpa using hc
        simp only [this, Bool.not_false, if_true, Result.andThen_ok]
        rw [if_neg (fun h => hc (List.cons.inj h).1)]; rfl
  have := key n 0 (by omega)
  simp only [List.drop_zero] at this
  rw [this]
  simp only [Result.andThen_ok]
  by_cases h : l = m
  · simp [h]
  · have hb : (l == m) = false := by simpa using h
    simp [h]
/-- '==' between two arrays of numbers: as a rule for the walk. -/
theorem run_eq_arr (t e : TypeId) (n : Nat) (ht : P.underlying t = some (.array n e)) (he : P.underlying e = some (.int .i64)) (hs : (P.info? e).map (·.size) = some 1)
    (l m : List Int) (hl : l.length = n) (hm : m.length = n) (w : World) : (Op.equalIn 10000 t (.agg (l.map intV).toArray) (.agg (m.map intV).toArray)).run P w = .ok (l == m) w :=
  run_equalIn_arr 9998 t e n ht he hs l m hl hm
/-- An element of an array of numbers, by value. -/
theorem run_index_arr (t e : TypeId) (n : Nat) (ht : P.underlying t = some (.array n e)) (he : P.underlying e = some (.int .i64)) (hs : (P.info? e).map (·.size) = some 1)
    (l : List Int) (hl : l.length = n) (i : Nat) (hi : i < l.length) (w : World) : (Instr.index t (.agg (l.map intV).toArray) (.int .i64 (i : Int))).run P w = .ok (.int .i64 l[i]) w := by
  have h1 := run_part_int (P := P) (w := w) he l i hi
  have h2 : (0 : Int) ≤ (i : Int) ∧ (i : Int) < (n : Int) := by omega
  unfold Instr.index
  simp only [asIntOf, Sem.run_bind, Sem.run_pure, Result.andThen_ok, run_underlying ht, h2, and_self, if_true, run_sizeOf_int hs, Int.toNat_natCast, Nat.mul_one, h1]
end

end Go.Proofs.Ytoobhebbgbhahaa
