/-
  Plain lemmas for the walks of this seat: bytes and numbers that lie in a slice, and bit operations as bit vectors. No condition.
-/
import Derived.Test.YtoobhebbgbhahaaRows
import Derived.WalkKit
import Derived.ProofKit
import Derived.OpenShut
import Derived.ChangeOld
import Derived.Below
import Derived.Lib.Hide
import Derived.Lib.SlBytesConst
import Derived.Laws.AppendOwnNone
import Derived.Maps.AppendAt
import Derived.StillTailTactics
import Derived.Deep.LoopGhost
import Derived.Laws.CopyRow
namespace Go.Proofs.Ytoobhebbgbhahaa
open Go.RowKit

/-- To stop a walk at an operation: 'go_wp2_with (at_builtin; refine stopHere ?_)'; then 'refine unhide ?_'. -/
theorem stopHere {p : Prop} (h : Hid p) : p := h
theorem unhide {p : Prop} (h : p) : Hid p := h

/-- To stop a walk at a load of a whole array, or at a store of one. -/
theorem stopLoad {P : Program} {rest : List Oper} {os : Array Oper} {dst : Option Tmp} {ty ty2 : TypeId} {x : Operand} {pos : String} {after : Array Edge} {g : Option (Nat × Bool)} {a : Act} {w : World} {Q : Exit → Act → World → Prop} {n : Nat} {e : TypeId}
    (_ht : P.underlying ty = some (.array n e)) (h : Hid (wpList P os Q ({ dst := dst, op := .load ty x, type := ty2, pos := pos, after := after, guard := g } :: rest) a w)) : wpList P os Q ({ dst := dst, op := .load ty x, type := ty2, pos := pos, after := after, guard := g } :: rest) a w := h

/-- A slice's elements, read: every element stands in memory. 'f' makes the cell's value out of an element. -/
def RowAt {α : Type} (f : α → Value) (w : World) (a : Option Addr) (l : List α) : Prop :=
  ∀ i (h : i < l.length), ∃ b off, a = some ⟨b, off, none⟩ ∧ w.cell? ⟨b, off + i, none⟩ = some (f l[i])

theorem RowAt.mono {α : Type} {f : α → Value} {w w' : World} {a : Option Addr} {l : List α} (h : RowAt f w a l)
    (hw : ∀ p : Addr, p.block < w.heap.size → w'.cell? p = w.cell? p) : RowAt f w' a l := by
  intro i hi
  obtain ⟨b, off, ha, hc⟩ := h i hi
  refine ⟨b, off, ha, ?_⟩
  rw [hw _ ?_]
  · exact hc
  · show b < _
    simp only [World.cell?] at hc
    rcases Nat.lt_or_ge b w.heap.size with h1 | h1
    · exact h1
    · rw [Array.getElem?_eq_none h1] at hc; cases hc

theorem RowAt.below {α : Type} {f : α → Value} {w w' : World} {a : Option Addr} {l : List α} (h : RowAt f w a l)
    (hb : Below w.heap.size w w') : RowAt f w' a l := h.mono fun _ hp => hb.cell hp

/-- A byte as the model holds it. -/
abbrev byteV (u : UInt8) : Value := .int .u8 (u.toNat : Int)
abbrev intV (n : Int) : Value := .int .i64 n
/-- An array of numbers, by value. -/
abbrev arrV (l : List Int) : Value := .agg (l.map intV).toArray

/-- A slice value of one-cell elements that reads as this list. -/
structure Sl {α : Type} (f : α → Value) (w : World) (a : Option Addr) (len cap : Nat) (l : List α) : Prop where
  size_eq : l.length = len
  le : len ≤ cap
  small : cap ≤ 9223372036854775807
  nil : a = none → cap = 0
  row : RowAt f w a l

theorem Sl.below {α : Type} {f : α → Value} {w w' : World} {a : Option Addr} {len cap : Nat} {l : List α} (h : Sl f w a len cap l) (hb : Below w.heap.size w w') : Sl f w' a len cap l :=
  ⟨h.size_eq, h.le, h.small, h.nil, h.row.below hb⟩

theorem Sl.nil_mk {α : Type} (f : α → Value) (w : World) : Sl f w none 0 0 [] :=
  ⟨rfl, by omega, by omega, fun _ => rfl, fun i h => absurd h (by simp)⟩

/-- One slice of bytes among several. -/
structure Part where
  a : Option Addr
  len : Nat
  cap : Nat
  bs : List UInt8

def partV (p : Part) : Value := .slice p.a p.len p.cap

/-- A slice value that reads as these slices of bytes. -/
structure Parts (w : World) (a : Option Addr) (len cap : Nat) (ps : List Part) : Prop where
  sl : Sl partV w a len cap ps
  each : ∀ p ∈ ps, Sl byteV w p.a p.len p.cap p.bs

theorem Parts.below {w w' : World} {a : Option Addr} {len cap : Nat} {ps : List Part} (h : Parts w a len cap ps) (hb : Below w.heap.size w w') : Parts w' a len cap ps :=
  ⟨h.sl.below hb, fun p hp => (h.each p hp).below hb⟩

/-- A new block, written out. -/
theorem Sl.lit {α : Type} (f : α → Value) (w : World) (C : Array Value) (t : TypeId) (fr : Nat × Nat) (g n : Nat) (l : List α) (hg : g = w.heap.size) (hC : C.toList = l.map f) (hn : l.length = n) (hm : n ≤ 9223372036854775807) :
    Sl f (w.alloc (.cells C t fr)) (some ⟨g, 0, none⟩) n n l := by
  subst hg
  refine ⟨hn, Nat.le_refl _, hm, (fun h => by cases h), ?_⟩
  intro i hi
  refine ⟨_, 0, rfl, ?_⟩
  rw [Nat.zero_add, World.cell?_alloc_mark]
  have := congrArg (·[i]?) hC
  simp only [List.getElem?_map] at this
  rw [← Array.getElem?_toList, this, List.getElem?_eq_getElem hi]; rfl

theorem Parts.lit (w : World) (C : Array Value) (t : TypeId) (fr : Nat × Nat) (g n : Nat) (ps : List Part) (hg : g = w.heap.size) (hC : C.toList = ps.map partV) (hn : ps.length = n) (hm : n ≤ 9223372036854775807)
    (he : ∀ p ∈ ps, Sl byteV w p.a p.len p.cap p.bs) : Parts (w.alloc (.cells C t fr)) (some ⟨g, 0, none⟩) n n ps :=
  ⟨Sl.lit _ _ _ _ _ _ _ _ hg hC hn hm, fun p hp => (he p hp).below ((Below.refl _ _).alloc (Nat.le_refl _) _)⟩

theorem Parts.none (w : World) : Parts w none 0 0 [] := ⟨Sl.nil_mk _ _, fun p hp => by cases hp⟩

/-- What a part of a slice reads as: 's[i:j]'. -/
theorem Sl.sub {α : Type} {f : α → Value} {w : World} {a : Option Addr} {len cap : Nat} {l : List α} (h : Sl f w a len cap l) (i j : Nat) (hij : i ≤ j) (hj : j ≤ len) :
    Sl f w (if cap = i then a else a.map (·.add i)) (j - i) (cap - i) ((l.drop i).take (j - i)) := by
  have hlc := h.le
  have hs := h.size_eq
  have hm := h.small
  refine ⟨by simp only [List.length_take, List.length_drop]; omega, by omega, by omega, ?_, ?_⟩
  · intro hn
    split at hn
    · have := h.nil hn; omega
    · cases a with
      | none => have := h.nil rfl; omega
      | some x => cases hn
  · intro k hk
    simp only [List.length_take, List.length_drop] at hk
    obtain ⟨b, off, ha, hc⟩ := h.row (i + k) (by omega)
    subst ha
    rw [if_neg (by omega)]
    refine ⟨b, off + i, ?_, ?_⟩
    · simp only [Option.map_some, Addr.add]
      split
      · rename_i h0; subst h0; rfl
      · rfl
    · rw [Nat.add_assoc, hc]; simp

theorem Sl.take {α : Type} {f : α → Value} {w : World} {a : Option Addr} {len cap : Nat} {l : List α} (h : Sl f w a len cap l) (k : Nat) (hk : k ≤ len) : Sl f w a k cap (l.take k) := by
  have hs := h.size_eq
  have hlc := h.le
  refine ⟨by simp only [List.length_take]; omega, by omega, h.small, h.nil, fun i hi => ?_⟩
  simp only [List.length_take] at hi
  obtain ⟨b, off, ha, hc⟩ := h.row i (by omega)
  exact ⟨b, off, ha, by rw [hc]; simp⟩

theorem Sl.drop {α : Type} {f : α → Value} {w : World} {a : Option Addr} {len cap : Nat} {l : List α} (h : Sl f w a len cap l) (k : Nat) (hk : k ≤ len) :
    Sl f w (if cap = k then a else Option.map (fun x => x.add k) a) (len - k) (cap - k) (l.drop k) := by
  have := h.sub k len hk (Nat.le_refl _)
  rwa [List.take_of_length_le (by simp only [List.length_drop]; have := h.size_eq; omega)] at this

theorem Sl.drew {α : Type} {f : α → Value} {w : World} {a : Option Addr} {len cap : Nat} {l : List α} (h : Sl f w a len cap l) : Sl f w.drew a len cap l := h.below (Below.refl _ _).drew
theorem Sl.alloc {α : Type} {f : α → Value} {w : World} {a : Option Addr} {len cap : Nat} {l : List α} (h : Sl f w a len cap l) (o : Obj) : Sl f (w.alloc o) a len cap l := h.below ((Below.refl _ _).alloc (Nat.le_refl _) _)

/-- What the call owns reads as a slice. -/
theorem Sl.of_owns {α : Type} {f : α → Value} {w : World} {base : Nat} {e : TypeId} {v : Value} {n : Nat} {l : List α} (h : w.ownsRow base e 1 v n (l.map f)) :
    ∃ a cap, v = .slice a n cap ∧ Sl f w a n cap l ∧ (∀ x, a = some x → base ≤ x.block) := by
  have hl : l.length = n := by simpa using h.1
  rcases h.2 with ⟨hv, hn⟩ | ⟨g, cap, cur, hv, hg, hh, hnc, hcm, hcs, ht⟩
  · subst hn
    have : l = [] := List.eq_nil_of_length_eq_zero hl
    subst this
    exact ⟨none, 0, hv, Sl.nil_mk f w, fun x hx => by cases hx⟩
  · refine ⟨_, cap, hv, ⟨hl, hnc, (by unfold maxLen at hcm; omega), (fun h => by cases h), ?_⟩, (fun x hx => by cases hx; exact hg)⟩
    intro i hi
    refine ⟨g, 0, rfl, ?_⟩
    rw [cell_of_row w g _ cur e (0, 0) hh, Nat.zero_add]
    have := congrArg (·[i]?) ht
    simp only [List.getElem?_take, List.getElem?_map, Nat.mul_one] at this
    rw [if_pos (by omega)] at this
    simpa [hi] using this

theorem owns_pos {w : World} {base : Nat} {e : TypeId} {v : Value} {n : Nat} {l : List Value} (h : w.ownsRow base e 1 v n l) (hn : 0 < n) :
    ∃ g cap, v = .slice (some ⟨g, 0, none⟩) n cap ∧ base ≤ g := by
  rcases h.2 with ⟨_, hn0⟩ | ⟨g, cap, cur, hv, hg, _⟩
  · omega
  · exact ⟨g, cap, hv, hg⟩

section
variable {P : Program} {w : World} {α : Type}
/-- 'append(s, x...)': s the call's own, x any slice that reads as a list (nil, too). -/
theorem wpl_append {ops : Array Oper} {rest : List Oper} {o : Oper} {a : Act} {Q : Exit → Act → World → Prop} (hgd : o.guard = none) (s x : Operand) (t : TypeId)
    (ho : o.op = .call { callee := .builtin .append, args := #[s, x], argTypes := #[t, t] })
    (base : Nat) (e : TypeId) (i : TypeInfo) (z : Value) (bytes : Nat) (ht : P.underlying t = some (.slice e)) (hi : P.info? e = some i) (hz : i.zero = some z)
    (hsize : i.size = 1) (hby : i.bytes = bytes) (hzs : z.cells.size = 1)
    (f : α → Value) (hf : ∀ y, (f y).oneCell' = true) (v : Value) (n : Nat) (xs : List α) (hs : a.eval s = v) (hown : w.ownsRow base e 1 v n (xs.map f))
    (ao : Option Addr) (m c : Nat) (l : List α) (hx : a.eval x = .slice ao m c) (hl : Sl f w ao m c l)
    (hbytes : (n + m) * bytes ≤ 140737488355328) (hmax : n + m ≤ 9223372036854775807) (hbase : base ≤ w.heap.size)
    (h : ∀ v' w', w'.ownsRow base e 1 v' (n + m) ((xs ++ l).map f) → w.grownBy w' v.ownBlock → (v' = .slice none 0 0 ↔ v = .slice none 0 0 ∧ m = 0) → wpList P ops Q rest (a.put o.dst v') w') : wpList P ops Q (o :: rest) a w := by
  cases ao with
  | none =>
    have hc := hl.nil rfl
    have hm : m = 0 := by have := hl.le; omega
    subst hc hm
    have hl0 : l = [] := List.eq_nil_of_length_eq_zero hl.size_eq
    subst hl0
    refine wpList_append_own_none hgd s x t ho base e i 1 ht hi v n (xs.map f) hs hown hx ?_
    exact h v w (by simpa using hown) (World.grownBy.refl _ _) (by simp)
  | some ad =>
    refine wpList_append_own w hgd s x t ho base e i z 1 bytes ht hi hz hsize hby hzs (by omega) v n (xs.map f) hs hown ad m c (l.map f) hx (by simpa using hl.size_eq) ?_ ?_
      (by unfold maxLen; omega) hbytes hbase fun v' w' h1 h2 h3 => h v' w' (by simpa using h1) h2 h3
    · intro j u hu
      have hj : j < l.length := by
        rcases Nat.lt_or_ge j l.length with h1 | h1
        · exact h1
        · rw [List.getElem?_eq_none (by simpa using h1)] at hu; cases hu
      obtain ⟨b, off, ha, hc⟩ := hl.row j hj
      cases ha
      rw [List.getElem?_map, List.getElem?_eq_getElem hj] at hu
      simp only [Option.map_some, Option.some.injEq] at hu
      subst hu
      rw [← hc]; congr 1
      simp only [Addr.add]
      split
      · rename_i h0; subst h0; rfl
      · rfl
    · intro u hu
      obtain ⟨y, _, rfl⟩ := List.mem_map.1 hu
      exact hf y
end

/-- Behind an append: the world below is as it was. -/
theorem below_append {B : Nat} {a w w' : World} {v : Value} (h : Below B a w) (hg : w.grownBy w' v.ownBlock) (hB : B ≤ w.heap.size) {e : TypeId} {n : Nat} {xs : List Value} (hown : w.ownsRow B e 1 v n xs) : Below B a w' :=
  h.grown hg hB fun k hk => (hown.lt k hk).1

/-- The call hands back a slice in memory of its own that reads as this list; what was there stays. -/
def Fresh {α : Type} (f : α → Value) (l : List α) (w : World) (e : Ending) (w' : World) : Prop :=
  ∃ a len cap, e = .returned (.slice a len cap) ∧ Sl f w' a len cap l ∧ (∀ x, a = some x → w.heap.size ≤ x.block) ∧ Below w.heap.size w w'

/-- '[]byte("..")' of a constant: the block bears a mark behind its end. -/
theorem run_conv_lit {P : Program} (t e : TypeId) (ht : P.underlying t = some (.slice e)) (he : P.underlying e = some (.int .u8)) (w : World) (C : Array Value) (g n c : Nat) (hg : g = w.heap.size) :
    (convert t t (.slice (some ⟨g, 0, none⟩) n c)).run P (w.alloc (.cells C e)) = .ok (.slice (some ⟨g, 0, none⟩) n c) (w.alloc (.cells C e (C.size, C.size + 1))) := by
  subst hg; exact Lib.run_convert_bytes_const w t e C n c ht he

theorem list_choose {α : Type} {p : Nat → α → Prop} : ∀ {n : Nat}, (∀ i, i < n → ∃ x, p i x) → ∃ l : List α, l.length = n ∧ ∀ i (hi : i < l.length), p i l[i]
  | 0, _ => ⟨[], rfl, fun i hi => absurd hi (by simp)⟩
  | k + 1, h => by
    obtain ⟨l, hl, hl2⟩ := list_choose (n := k) (p := p) (fun i hi => h i (by omega))
    obtain ⟨x, hx⟩ := h k (by omega)
    refine ⟨l ++ [x], by simp [hl], fun i hi => ?_⟩
    simp only [List.length_append, List.length_cons, List.length_nil] at hi
    by_cases h : i < l.length
    · rw [List.getElem_append_left h]; exact hl2 i h
    · obtain rfl : i = l.length := by omega
      rw [List.getElem_concat_length rfl]; rw [hl]; exact hx

/-- A block known whole. -/
def Blk (w : World) (g : Nat) (T : TypeId) (C : List Value) : Prop := w.heap[g]? = some (.cells C.toArray T (0, 0))

theorem Blk.cell {w : World} {g : Nat} {T : TypeId} {C : List Value} (h : Blk w g T C) (i : Nat) (hi : i < C.length) : w.cell? ⟨g, i, none⟩ = some C[i] := by
  rw [cell_of_row w g i _ T (0, 0) h]; simp [hi]
theorem Blk.frozen {w : World} {g : Nat} {T : TypeId} {C : List Value} (h : Blk w g T C) (i : Nat) : w.frozen? ⟨g, i, none⟩ = false := frozen_of_row w g i _ T h
theorem Blk.set {w : World} {g : Nat} {T : TypeId} {C : List Value} (h : Blk w g T C) (i : Nat) (v : Value) : Blk (w.setCell ⟨g, i, none⟩ v) g T (C.set i v) := by
  have := heap_setCell_same w g i _ T v h
  unfold Blk; rw [this]; simp
theorem Blk.other {w : World} {g : Nat} {T : TypeId} {C : List Value} (h : Blk w g T C) {a : Addr} (ha : g ≠ a.block) (v : Value) : Blk (w.setCell a v) g T C := by
  unfold Blk; rw [heap_setCell_other w a g v ha]; exact h
theorem Blk.drew {w : World} {g : Nat} {T : TypeId} {C : List Value} (h : Blk w g T C) : Blk w.drew g T C := h
theorem Blk.lt {w : World} {g : Nat} {T : TypeId} {C : List Value} (h : Blk w g T C) : g < w.heap.size := by
  rcases Nat.lt_or_ge g w.heap.size with h1 | h1
  · exact h1
  · unfold Blk at h; rw [Array.getElem?_eq_none h1] at h; cases h
theorem Blk.alloc {w : World} {g : Nat} {T : TypeId} {C : List Value} (h : Blk w g T C) (o : Obj) : Blk (w.alloc o) g T C := by
  unfold Blk; rw [Below.heap_alloc w o g h.lt]; exact h
theorem Blk.new (w : World) (A : Array Value) (T : TypeId) (g : Nat) (hg : g = w.heap.size) (C : List Value) (hC : A = C.toArray) : Blk (w.alloc (.cells A T)) g T C := by
  subst hg hC; show (w.heap.push _)[w.heap.size]? = _; simp
theorem Blk.below {w w' : World} {g : Nat} {T : TypeId} {C : List Value} (h : Blk w g T C) (hb : Below w.heap.size w w') : Blk w' g T C := by
  unfold Blk; rw [hb.block g h.lt]; exact h
theorem Blk.mono {w w' : World} {g B : Nat} {T : TypeId} {C : List Value} (h : Blk w g T C) (hb : Below B w w') (hg : g < B) : Blk w' g T C := by
  unfold Blk; rw [hb.block g hg]; exact h

theorem oneCell_arr (l : List Int) : (l.map intV).toArray.all (·.oneCell') = true := by
  rw [Array.all_eq_true_iff_forall_mem]; intro v hv; simp at hv; obtain ⟨n, _, rfl⟩ := hv; rfl

theorem Blk.row {w : World} {g : Nat} {T : TypeId} {C : List Value} (h : Blk w g T C) (C' : List Value) : Blk (w.setRow g C'.toArray) g T C' := setRow_heap w g _ _ T _ h
theorem Blk.row_other {w : World} {g k : Nat} {T : TypeId} {C : List Value} (h : Blk w g T C) (hk : g ≠ k) (cs : Array Value) : Blk (w.setRow k cs) g T C := by
  unfold Blk; rw [setRow_other w k g cs hk]; exact h
theorem below_row {B : Nat} {a w : World} (h : Below B a w) {g : Nat} (hg : B ≤ g) (cs : Array Value) : Below B a (w.setRow g cs) :=
  h.trans ⟨rfl, rfl, rfl, by simp, fun k hk => setRow_other w g k cs (by omega)⟩

section
variable {P : Program} {ops : Array Oper} {rest : List Oper} {o : Oper} {a : Act} {w : World} {Q : Exit → Act → World → Prop}
/-- A whole array read out of a block that is known whole. -/
theorem wpl_load (hgd : o.guard = none) (ty : TypeId) (x : Operand) (ho : o.op = .load ty x) (g : Nat) (hx : a.eval x = .pointer (some ⟨g, 0, none⟩)) (T : TypeId) (C : List Value) (h : Blk w g T C)
    (n : Nat) (e : TypeId) (hu : P.underlying ty = some (.array n e)) (hi : (P.info? ty).map (·.size) = some C.length)
    (k : wpList P ops Q rest (a.put o.dst (.agg C.toArray)) w) : wpList P ops Q (o :: rest) a w :=
  wpList_load_row hgd ty x ho g hx T C.toArray (0, 0) _ h hu rfl (by simpa using hi) k
/-- A whole array written into a block that is known whole. -/
theorem wpl_store (hgd : o.guard = none) (ty : TypeId) (x y : Operand) (ho : o.op = .store ty x y) (g : Nat) (hx : a.eval x = .pointer (some ⟨g, 0, none⟩)) (l : List Int) (hy : a.eval y = .agg (l.map intV).toArray)
    (T : TypeId) (C : List Value) (h : Blk w g T C) (hl : C.length = l.length) (hi : (P.info? ty).map (·.size) = some l.length)
    (k : wpList P ops Q rest (a.put o.dst undef) (w.setRow g (l.map intV).toArray)) : wpList P ops Q (o :: rest) a w :=
  wpList_store_row hgd ty x y ho g _ hx hy T C.toArray h (by simpa using hi) (by simpa using hl) (oneCell_arr l) k
end
/-- A result that lies in a block that is known whole. -/
theorem results_blk {P : Program} {fn : Func} {p : Tmp} {ty : TypeId} (h : fn.results = #[.cell p ty]) (tmps : Array Value) (w : World) (g : Nat) (T : TypeId) (C : List Value)
    (hp : tmps.getD p undef = .pointer (some ⟨g, 0, none⟩)) (hg : Blk w g T C) (n : Nat) (e : TypeId) (hu : P.underlying ty = some (.array n e)) (hi : (P.info? ty).map (·.size) = some C.length) :
    (results fn tmps).run P w = .ok (.agg C.toArray) w :=
  results_cell_row h tmps w g T C.toArray (0, 0) _ hp hg hu rfl (by simpa using hi)

theorem bcell {W w1 : World} (hb : Below W.heap.size W w1) : ∀ b o, b < W.heap.size → w1.cell? ⟨b, o, none⟩ = W.cell? ⟨b, o, none⟩ := fun b o h => hb.cell (p := ⟨b, o, none⟩) h
/-- Four cells of a block. -/
def Four (w : World) (g : Nat) (a b c d : Int) : Prop :=
  w.cell? ⟨g, 0, none⟩ = some (.int .i64 a) ∧ w.cell? ⟨g, 1, none⟩ = some (.int .i64 b) ∧ w.cell? ⟨g, 2, none⟩ = some (.int .i64 c) ∧ w.cell? ⟨g, 3, none⟩ = some (.int .i64 d)
theorem Blk.four {w : World} {g : Nat} {T : TypeId} {a b c d : Int} (h : Blk w g T ([a, b, c, d].map intV)) : Four w g a b c d :=
  ⟨h.cell 0 (by simp), h.cell 1 (by simp), h.cell 2 (by simp), h.cell 3 (by simp)⟩

theorem ret_int {k : IntKind} {a b : Int} (h : a = b) : Ending.returned (.int k a) = .returned (.int k b) := by rw [h]

theorem ofInt_bv {n : Nat} (c : BitVec n) : BitVec.ofInt n (c.toNat : Int) = c := by
  rw [BitVec.ofInt_natCast, BitVec.ofNat_toNat, BitVec.setWidth_eq]

theorem bits_xor8 (a b : UInt8) : bits .xor .u8 (a.toNat : Int) (b.toNat : Int) = ((a ^^^ b).toNat : Int) := by
  rw [u8_xor_nat _ _ a.toNat_lt b.toNat_lt, UInt8.toNat_xor]

theorem bits_u32 (op : BinOp) (c d : BitVec 32) : bits op .u32 (c.toNat : Int) (d.toNat : Int) =
    (match op with | .and => ((c &&& d).toNat : Int) | .or => ((c ||| d).toNat : Int) | .xor => ((c ^^^ d).toNat : Int) | _ => ((c &&& ~~~d).toNat : Int)) := by
  have e : ∀ r : BitVec 32, IntKind.u32.wrap (r.toNat : Int) = (r.toNat : Int) := fun r => IntWalk.u32_in _ (by have := r.isLt; omega)
  cases op <;> simp only [bits, IntKind.bits, ofInt_bv, e] <;> rfl

theorem bits_and32 (c d : BitVec 32) : bits .and .u32 (c.toNat : Int) (d.toNat : Int) = ((c &&& d).toNat : Int) := bits_u32 .and c d
theorem bits_or32 (c d : BitVec 32) : bits .or .u32 (c.toNat : Int) (d.toNat : Int) = ((c ||| d).toNat : Int) := bits_u32 .or c d
theorem bits_xor32 (c d : BitVec 32) : bits .xor .u32 (c.toNat : Int) (d.toNat : Int) = ((c ^^^ d).toNat : Int) := bits_u32 .xor c d

theorem and64 (a b : Nat) (ha : a < 9223372036854775808) (hb : b < 9223372036854775808) : bits .and .i64 (a : Int) (b : Int) = ((a &&& b : Nat) : Int) :=
  (bits_nat .i64 63 (by decide) (fun n h0 h1 => IntWalk.i64_in n (by omega)) a b ha hb).1
theorem or64 (a b : Nat) (ha : a < 9223372036854775808) (hb : b < 9223372036854775808) : bits .or .i64 (a : Int) (b : Int) = ((a ||| b : Nat) : Int) :=
  (bits_nat .i64 63 (by decide) (fun n h0 h1 => IntWalk.i64_in n (by omega)) a b ha hb).2
theorem xor64 (a b : Nat) (ha : a < 9223372036854775808) (hb : b < 9223372036854775808) : bits .xor .i64 (a : Int) (b : Int) = ((a ^^^ b : Nat) : Int) := by
  have ha' : a % 2 ^ 64 = a := Nat.mod_eq_of_lt (by omega)
  have hb' : b % 2 ^ 64 = b := Nat.mod_eq_of_lt (by omega)
  have hx : a ^^^ b < 2 ^ 63 := Nat.xor_lt_two_pow (by omega) (by omega)
  rw [show bits .xor .i64 (a : Int) (b : Int) = IntKind.i64.wrap (((BitVec.ofInt 64 (a : Int)) ^^^ (BitVec.ofInt 64 (b : Int))).toNat : Int) from rfl,
    BitVec.ofInt_natCast, BitVec.ofInt_natCast, BitVec.toNat_xor, BitVec.toNat_ofNat, BitVec.toNat_ofNat, ha', hb']
  exact IntWalk.i64_in ((a ^^^ b : Nat) : Int) (by omega)
theorem mask64 (a k : Nat) (ha : a < 9223372036854775808) (hk : k ≤ 62) : bits .and .i64 (a : Int) ((2 ^ k - 1 : Nat) : Int) = ((a % 2 ^ k : Nat) : Int) := by
  have h : 2 ^ k ≤ 2 ^ 62 := Nat.pow_le_pow_right (by omega) hk
  rw [and64 _ _ ha (by omega), Nat.and_two_pow_sub_one_eq_mod]
theorem join64 (k x y : Nat) (hx : x * 2 ^ k < 9223372036854775808) (hy : y < 2 ^ k) (hk : k ≤ 62) : bits .or .i64 ((x * 2 ^ k : Nat) : Int) (y : Int) = ((x * 2 ^ k + y : Nat) : Int) := by
  have h : 2 ^ k ≤ 2 ^ 62 := Nat.pow_le_pow_right (by omega) hk
  rw [or64 _ _ hx (by omega), Nat.mul_comm, ← Nat.two_pow_add_eq_or_of_lt hy]

theorem bit64 (q k : Nat) (hq : q < 9223372036854775808) : bits .and .i64 ((q : Int) / 2 ^ k) 1 = ((q / 2 ^ k % 2 : Nat) : Int) := by
  have h : q / 2 ^ k ≤ q := Nat.div_le_self _ _
  have := mask64 (q / 2 ^ k) 1 (by omega) (by omega)
  rw [show ((2 ^ 1 - 1 : Nat) : Int) = 1 from rfl] at this
  rw [← Nat.pow_one 2] at this
  rw [Nat.pow_one] at this
  rw [← this]; congr 1
  all_goals simp
theorem testBit_mod (q k : Nat) : q.testBit k = decide (q / 2 ^ k % 2 = 1) := by
  rw [Nat.testBit_eq_decide_div_mod_eq]

section
variable {P : Program} {w : World}
theorem run_part_int {e : TypeId} (he : P.underlying e = some (.int .i64)) (l : List Int) (i : Nat) (hi : i < l.length) :
    (part e (l.map intV).toArray i).run P w = .ok (intV l[i]) w := by
  have ha : (isAgg e).run P w = .ok false w := by
    unfold isAgg; simp [run_underlying he]
  unfold part
  simp [ha, hi]

theorem run_sizeOf_int {e : TypeId} (hs : (P.info? e).map (·.size) = some 1) : (sizeOf e).run P w = .ok 1 w := by
  obtain ⟨i, hi, h1⟩ := Option.map_eq_some_iff.1 hs
  simp [sizeOf, typeInfo, hi, h1]

theorem run_equalIn_arr (d : Nat) (t e : TypeId) (n : Nat) (ht : P.underlying t = some (.array n e)) (he : P.underlying e = some (.int .i64)) (hs : (P.info? e).map (·.size) = some 1)
    (l m : List Int) (hl : l.length = n) (hm : m.length = n) : (Op.equalIn (d + 2) t (arrV l) (arrV m)).run P w = .ok (l == m) w := by
  unfold Op.equalIn
  simp only [Sem.run_bind, run_underlying ht, Result.andThen_ok, run_sizeOf_int hs]
  simp only [Std.Legacy.Range.forIn_eq_forIn_range', Std.Legacy.Range.size, Nat.sub_zero, Nat.add_sub_cancel, Nat.div_one]
  have key : ∀ (k : Nat) (j : Nat), j + k = n → 
      (forIn (m := Sem) (List.range' j k) ((none, ()) : Option Bool × Unit) (fun i r => do
        let a ← part e (l.map intV).toArray (i * 1)
        let b ← part e (m.map intV).toArray (i * 1)
        let c ← Op.equalIn (d + 1) e a b
        if (!c) = true then pure (ForInStep.done (some false, ())) else pure (ForInStep.yield (none, ())))).run P w = .ok (if l.drop j = m.drop j then (none, ()) else (some false, ())) w := by
    intro k
    induction k with
    | zero =>
      intro j hj
      rw [List.drop_of_length_le (by omega), List.drop_of_length_le (by omega)]
      simp
    | succ k ih =>
      intro j hj
      rw [List.range'_succ, List.forIn_cons]
      have h1 := run_part_int (P := P) (w := w) he l j (by omega)
      have h2 := run_part_int (P := P) (w := w) he m j (by omega)
      simp only [Sem.run_bind, Nat.mul_one, h1, h2, Result.andThen_ok, run_equalIn_int w d e .i64 .i64 _ _ he, Sem.run_ite, Sem.run_pure]
      rw [List.drop_eq_getElem_cons (show j < l.length by omega), List.drop_eq_getElem_cons (show j < m.length by omega)]
      by_cases hc : l[j]'(by omega) = m[j]'(by omega)
      · simp only [hc, BEq.rfl, Bool.not_true, Bool.false_eq_true, if_false, Result.andThen_ok, List.cons.injEq, true_and]
        simpa using ih (j + 1) (by omega)
      · have : (l[j]'(by omega) == m[j]'(by omega)) = false := by simpa using hc
        simp only [this, Bool.not_false, if_true, Result.andThen_ok]
        rw [if_neg (fun h => hc (List.cons.inj h).1)]; rfl
  have := key n 0 (by omega)
  simp only [List.drop_zero] at this
  rw [this]
  simp only [Result.andThen_ok]
  by_cases h : l = m
  · simp [h]
  · have hb : (l == m) = false := by simpa using h
    simp [h]
/-- '==' between two arrays of numbers: as a rule for the walk. -/
theorem run_eq_arr (t e : TypeId) (n : Nat) (ht : P.underlying t = some (.array n e)) (he : P.underlying e = some (.int .i64)) (hs : (P.info? e).map (·.size) = some 1)
    (l m : List Int) (hl : l.length = n) (hm : m.length = n) (w : World) : (Op.equalIn 10000 t (.agg (l.map intV).toArray) (.agg (m.map intV).toArray)).run P w = .ok (l == m) w :=
  run_equalIn_arr 9998 t e n ht he hs l m hl hm
/-- An element of an array of numbers, by value. -/
theorem run_index_arr (t e : TypeId) (n : Nat) (ht : P.underlying t = some (.array n e)) (he : P.underlying e = some (.int .i64)) (hs : (P.info? e).map (·.size) = some 1)
    (l : List Int) (hl : l.length = n) (i : Nat) (hi : i < l.length) (w : World) : (Instr.index t (.agg (l.map intV).toArray) (.int .i64 (i : Int))).run P w = .ok (.int .i64 l[i]) w := by
  have h1 := run_part_int (P := P) (w := w) he l i hi
  have h2 : (0 : Int) ≤ (i : Int) ∧ (i : Int) < (n : Int) := by omega
  unfold Instr.index
  simp only [asIntOf, Sem.run_bind, Sem.run_pure, Result.andThen_ok, run_underlying ht, h2, and_self, if_true, run_sizeOf_int hs, Int.toNat_natCast, Nat.mul_one, h1]
end

end Go.Proofs.Ytoobhebbgbhahaa
namespace Go.Proofs.Ytoobhebbgbhahaa
open Go.RowKit

/-! Frames -/
abbrev Fr := Nat → Value
def upd (fr : Fr) (d : Nat) (v : Value) : Fr := fun t => if t = d then v else fr t
def updO (fr : Fr) : Option Nat → Value → Fr
  | some d, v => upd fr d v
  | none, _ => fr
def ev (fr : Fr) : Operand → Value
  | .tmp t => fr t
  | .const v => v
  | .global g => .pointer (some ⟨g, 0, none⟩)
  | .func f => .func (.func f) #[] #[]
def evs (fr : Fr) : List Operand → List Value
  | [] => []
  | x :: l => ev fr x :: evs fr l
theorem evs_eq (fr : Fr) (l : List Operand) : evs fr l = l.map (ev fr) := by induction l <;> simp [evs, *]

/-- A frame of which some slots are told. -/
def ofL : List (Nat × Value) → Fr → Fr
  | [], b => b
  | (t, v) :: l, b => fun s => if s = t then v else ofL l b s
def Agr (fr : Fr) : List (Nat × Value) → Prop
  | [] => True
  | (t, v) :: l => fr t = v ∧ Agr fr l
theorem Agr.base {fr : Fr} : ∀ {l : List (Nat × Value)}, Agr fr l → fr = ofL l fr
  | [], _ => rfl
  | (t, v) :: l, h => by
    funext s
    unfold ofL
    by_cases e : s = t
    · rw [if_pos e, e]; exact h.1
    · rw [if_neg e]; exact congrFun (Agr.base h.2) s
theorem Agr.out {fr : Fr} {l : List (Nat × Value)} (h : Agr fr l) : ∃ b, fr = ofL l b := ⟨fr, h.base⟩
/-- The frame at the beginning: the arguments, from slot 0 on. -/
def argFr : List Value → Fr
  | [], _ => undef
  | v :: l, t => match t with | 0 => v | t + 1 => argFr l t
theorem argFr_eq : ∀ (l : List Value) (t : Nat), argFr l t = l.getD t undef
  | [], t => by simp [argFr]
  | v :: l, 0 => by simp [argFr]
  | v :: l, t + 1 => by simp [argFr, argFr_eq l t]

structure Sees (n : Nat) (a : Act) (fr : Fr) : Prop where
  defers : a.defers = []
  size : a.tmps.size = n
  slot : ∀ t, a.tmps.getD t undef = fr t

theorem Sees.eval {n : Nat} {a : Act} {fr : Fr} (h : Sees n a fr) : a.eval = ev fr := by
  funext x
  cases x with
  | tmp t => exact h.slot t
  | _ => rfl
def dOk (n : Nat) : Option Nat → Bool
  | none => true
  | some d => Nat.blt d n
theorem Sees.put {n : Nat} {a : Act} {fr : Fr} (h : Sees n a fr) {dst : Option Nat} (hd : dOk n dst = true) (v : Value) : Sees n (a.put dst v) (updO fr dst v) := by
  cases dst with
  | none => exact h
  | some d =>
    have hd : d < n := by simpa [dOk] using hd
    refine ⟨h.defers, by simpa [Act.put] using h.size, fun t => ?_⟩
    have := h.slot t
    have hs := h.size
    simp only [Array.getD_eq_getD_getElem?] at this
    simp only [Act.put, updO, upd, Array.getD_eq_getD_getElem?, Array.getElem?_setIfInBounds]
    by_cases e : d = t
    · subst e; simp [hs, hd]
    · rw [if_neg e, if_neg (fun h => e h.symm)]; exact this

/-! Memory -/
/-- A block of the call's own: its first cells are C; it has k cells. -/
structure Ent where
  g : Nat
  T : TypeId
  C : List Value
  k : Nat
/-- No type of a program's: marks a block that is a map. -/
def mapTag : Nat := 1000000007
/-- A map of numbers, all true: those whose bit in k is set. -/
def mapIs (es : Array MapEntry) (k : Nat) : Prop := (∀ en ∈ es.toList, ∃ a : Nat, en.key = .int .i64 (a : Int) ∧ en.val = .bool true) ∧ ∀ a : Nat, k.testBit a = true ↔ ∃ en ∈ es.toList, en.key = .int .i64 (a : Int)
def Ent.cellsH (w : World) (e : Ent) : Prop := ∃ (A : Array Value) (m : Nat × Nat), w.heap[e.g]? = some (.cells A e.T m) ∧ ((m = (0, 0) ∧ A.size = e.k) ∨ (e.k = 0 ∧ e.C ≠ [] ∧ A.size ≤ m.1)) ∧ e.C <+: A.toList
def Ent.holds (w : World) (e : Ent) : Prop := (e.T ≠ mapTag ∧ e.cellsH w) ∨ (e.T = mapTag ∧ e.C = [] ∧ ∃ es clock, w.heap[e.g]? = some (.map es clock) ∧ mapIs es e.k)
theorem Ent.holds.cells {w : World} {e : Ent} (h : e.holds w) (hT : e.T ≠ mapTag) : e.cellsH w := by
  rcases h with ⟨_, h⟩ | ⟨h, _⟩
  · exact h
  · exact absurd h hT
theorem Ent.holds.cellsC {w : World} {e : Ent} (h : e.holds w) (hC : e.C ≠ []) : e.T ≠ mapTag ∧ e.cellsH w := by
  rcases h with h | ⟨_, h, _⟩
  · exact h
  · exact absurd h hC
structure Hp (w0 : World) (B : Nat) (H : List Ent) (w : World) : Prop where
  below : Below B w0 w
  lt : B ≤ w.heap.size
  nodup : (H.map Ent.g).Nodup
  own : ∀ e ∈ H, B ≤ e.g ∧ e.holds w

theorem Ent.holds.lt {w : World} {e : Ent} (h : e.holds w) : e.g < w.heap.size := by
  rcases Nat.lt_or_ge e.g w.heap.size with h2 | h2
  · exact h2
  · rcases h with ⟨_, A, m, h1, _⟩ | ⟨_, _, es, cl, h1, _⟩ <;> rw [Array.getElem?_eq_none h2] at h1 <;> cases h1
theorem Ent.holds.of_block {w w' : World} {e : Ent} (h : e.holds w) (hb : w'.heap[e.g]? = w.heap[e.g]?) : e.holds w' := by
  rcases h with ⟨h0, A, m, h1, h2⟩ | ⟨h0, h3, es, cl, h1, h2⟩
  · exact .inl ⟨h0, A, m, hb.trans h1, h2⟩
  · exact .inr ⟨h0, h3, es, cl, hb.trans h1, h2⟩
theorem Hp.perm {w0 w : World} {B : Nat} {H H' : List Ent} (h : Hp w0 B H w) (hp : H.Perm H') : Hp w0 B H' w :=
  ⟨h.below, h.lt, (hp.map _).nodup_iff.1 h.nodup, fun e he => h.own e (hp.mem_iff.2 he)⟩
theorem Hp.start (w : World) : Hp w w.heap.size [] w := ⟨Below.refl _ _, Nat.le_refl _, by simp, fun e he => by cases he⟩
theorem Hp.drop {w0 w : World} {B : Nat} {e : Ent} {H : List Ent} (h : Hp w0 B (e :: H) w) : Hp w0 B H w :=
  ⟨h.below, h.lt, (List.nodup_cons.1 h.nodup).2, fun x hx => h.own x (by simp [hx])⟩
/-- Whatever turns no block that was there leaves all as it was. -/
theorem Hp.grow {w0 w w' : World} {B : Nat} {H : List Ent} (h : Hp w0 B H w) (hb : Below w.heap.size w w') : Hp w0 B H w' :=
  ⟨h.below.trans (hb.mono h.lt), Nat.le_trans h.lt hb.size, h.nodup, fun e he => ⟨(h.own e he).1, (h.own e he).2.of_block (hb.block _ (h.own e he).2.lt)⟩⟩
/-- A block is written, or a new one made. -/
theorem Hp.cons {w0 w w' : World} {B : Nat} {H : List Ent} (h : Hp w0 B H w) (e : Ent) (hB : B ≤ e.g) (hn : e.g ∉ H.map Ent.g) (he : e.holds w') (hb : Below B w w')
    (hk : ∀ k, k < w.heap.size → k ≠ e.g → w'.heap[k]? = w.heap[k]?) : Hp w0 B (e :: H) w' :=
  ⟨h.below.trans hb, Nat.le_trans h.lt hb.size, List.nodup_cons.2 ⟨hn, h.nodup⟩, fun x hx => by
    rcases List.mem_cons.1 hx with rfl | hx
    · exact ⟨hB, he⟩
    · have hlt := (h.own x hx).2.lt
      refine ⟨(h.own x hx).1, (h.own x hx).2.of_block (hk _ hlt fun e => hn (e ▸ List.mem_map_of_mem hx))⟩⟩
theorem Hp.new {w0 w : World} {B : Nat} {H : List Ent} (h : Hp w0 B H w) (A : Array Value) (T : TypeId) (C : List Value) (k : Nat) (hC : C <+: A.toList) (hk : A.size = k) (hT : T ≠ mapTag) :
    Hp w0 B (⟨w.heap.size, T, C, k⟩ :: H) (w.alloc (.cells A T)) :=
  h.cons ⟨w.heap.size, T, C, k⟩ h.lt (fun hm => by obtain ⟨x, hx, e⟩ := List.mem_map.1 hm; have := (h.own x hx).2.lt; rw [e] at this; exact absurd this (Nat.lt_irrefl _))
    (.inl ⟨hT, A, (0, 0), heap_alloc_new w _, .inl ⟨rfl, hk⟩, hC⟩) ((Below.refl _ _).alloc h.lt _) (fun j hj _ => Below.heap_alloc w _ j hj)
theorem Hp.notin {w0 w : World} {B : Nat} {e : Ent} {H : List Ent} (h : Hp w0 B (e :: H) w) : e.g ∉ H.map Ent.g := (List.nodup_cons.1 h.nodup).1
/-- A block's cells are written. -/
theorem Hp.row {w0 w : World} {B : Nat} {g T k : Nat} {C : List Value} {H : List Ent} (h : Hp w0 B (⟨g, T, C, k⟩ :: H) w) (A : Array Value) (C' : List Value) (hk : ∀ A0 m, w.heap[g]? = some (.cells A0 T m) → (m = (0, 0) ∧ A.size = k) ∨ (k = 0 ∧ C' ≠ [] ∧ A.size ≤ m.1)) (hC : C' <+: A.toList) (hT : T ≠ mapTag) :
    Hp w0 B (⟨g, T, C', k⟩ :: H) (w.setRow g A) := by
  obtain ⟨hB, hh⟩ := h.own _ (List.mem_cons_self ..)
  obtain ⟨A0, m, h0, _, _⟩ := hh.cells hT
  exact h.drop.cons ⟨g, T, C', k⟩ hB h.notin (.inl ⟨hT, A, m, setRow_heap w g A0 A T _ h0, hk A0 m h0, hC⟩) (below_row (Below.refl _ _) hB A) (fun j _ hj => setRow_other w g j A hj)

/-- One block taken out of the list. -/
inductive Take : List Ent → Ent → List Ent → Prop
  | here {e : Ent} {H : List Ent} : Take (e :: H) e H
  | there {x e : Ent} {H H' : List Ent} (h : Take H e H') : Take (x :: H) e (x :: H')
theorem Take.perm {H H' : List Ent} {e : Ent} (h : Take H e H') : H.Perm (e :: H') := by
  induction h with
  | here => exact List.Perm.refl _
  | there _ ih => exact (List.Perm.cons _ ih).trans (List.Perm.swap _ _ _)
theorem Take.mem {H H' : List Ent} {e : Ent} (h : Take H e H') : e ∈ H := h.perm.mem_iff.2 (List.mem_cons_self ..)
theorem Hp.take {w0 w : World} {B : Nat} {H H' : List Ent} {e : Ent} (h : Hp w0 B H w) (t : Take H e H') : Hp w0 B (e :: H') w := h.perm t.perm
theorem Ent.holds.cell {w : World} {g T k : Nat} {C : List Value} (h : Ent.holds w ⟨g, T, C, k⟩) {i : Nat} {v : Value} (hi : C[i]? = some v) : w.cell? ⟨g, i, none⟩ = some v := by
  obtain ⟨_, A, m, h1, h2, h3⟩ := h.cellsC (by intro e; dsimp only at e; subst e; simp at hi)
  rw [cell_of_row w g i A T m h1, ← Array.getElem?_toList]
  obtain ⟨S, hS⟩ := h3
  rw [← hS, List.getElem?_append_left]
  · exact hi
  · exact (List.getElem?_eq_some_iff.1 hi).1

/-! What is shown of code -/
abbrev Pst := Exit → Fr → List Ent → Prop
def lft (n : Nat) (w0 : World) (B : Nat) (Q : Pst) : Exit → Act → World → Prop := fun e a w => ∃ fr H, Sees n a fr ∧ Hp w0 B H w ∧ Q e fr H
structure Cx where
  P : Program
  n : Nat
  w0 : World
  B : Nat
structure HC (c : Cx) (code : Code) (Q : Pst) (fr : Fr) (H : List Ent) : Prop where
  of : ∀ a w, Sees c.n a fr → Hp c.w0 c.B H w → code.wp c.P (lft c.n c.w0 c.B Q) a w
structure HL (c : Cx) (ops : Array Oper) (Q : Pst) (l : List Oper) (fr : Fr) (H : List Ent) : Prop where
  of : ∀ a w, Sees c.n a fr → Hp c.w0 c.B H w → wpList c.P ops (lft c.n c.w0 c.B Q) l a w
/-- A call: what it hands back, and the memory behind it. -/
structure Fn (P : Program) (w0 : World) (B : Nat) (f : FuncId) (args : List Value) (H : List Ent) (R : Value → List Ent → Prop) : Prop where
  fn : ∃ fn, P.funcs[f]? = some fn ∧ (fn.name == "runtime.NumGoroutine") = false ∧ fn.body.isNone = false
  run : ∀ w, Hp w0 B H w → Calls P f args.toArray w fun e w' => ∃ v H', e = .returned v ∧ Hp w0 B H' w' ∧ R v H'

def thn (K : Fr → List Ent → Prop) (Q : Pst) : Pst
  | .normal, fr, H => K fr H
  | e, fr, H => Q e fr H
def inB (id : Nat) (Q : Pst) : Pst
  | .exit j, fr, H => if j = id then Q .normal fr H else Q (.exit j) fr H
  | e, fr, H => Q e fr H

section
variable {c : Cx} {Q : Pst} {fr : Fr} {H : List Ent}
theorem HC.mono {code : Code} {Q' : Pst} (h : HC c code Q fr H) (hq : ∀ e fr H, Q e fr H → Q' e fr H) : HC c code Q' fr H :=
  ⟨fun a w hs hh => wp_mono (h.of a w hs hh) fun e a w ⟨f, h, x, y, z⟩ => ⟨f, h, x, y, hq _ _ _ z⟩⟩
theorem hc_seq {x y : Code} (h : HC c x (thn (HC c y Q) Q) fr H) : HC c (.seq x y) Q fr H := ⟨fun a w hs hh =>
  wp_seq (wp_mono (h.of a w hs hh) fun e a w ⟨f, k, x, y, z⟩ => by
    cases e with
    | normal => exact z.of a w x y
    | _ => exact ⟨f, k, x, y, z⟩)⟩
theorem hc_skip (h : Q .normal fr H) : HC c .skip Q fr H := ⟨fun _ _ hs hh => wp_skip ⟨_, _, hs, hh, h⟩⟩
theorem hc_ret (h : Q .ret fr H) : HC c .ret Q fr H := ⟨fun _ _ hs hh => wp_ret ⟨_, _, hs, hh, h⟩⟩
theorem hc_exit {id : Nat} (h : Q (.exit id) fr H) : HC c (.exit id) Q fr H := ⟨fun _ _ hs hh => wp_exit ⟨_, _, hs, hh, h⟩⟩
theorem hc_block {id : Nat} {b : Code} (h : HC c b (inB id Q) fr H) : HC c (.block id b) Q fr H := ⟨fun a w hs hh =>
  wp_block (wp_mono (h.of a w hs hh) fun e a w ⟨f, k, x, y, z⟩ => by
    cases e with
    | exit j =>
      unfold Exit.inBlock
      by_cases e : j = id
      · simp only [e, if_true]; refine ⟨f, k, x, y, ?_⟩; simpa [inB, e] using z
      · simp only [e, if_false]; refine ⟨f, k, x, y, ?_⟩; simpa [inB, e] using z
    | _ => exact ⟨f, k, x, y, z⟩)⟩
theorem hc_cond {x : Operand} {t e : Code} {b : Bool} (hx : ev fr x = .bool b) (h1 : b = true → HC c t Q fr H) (h2 : b = false → HC c e Q fr H) : HC c (.cond x t e) Q fr H := ⟨fun a w hs hh =>
  wp_cond_split (t := b) (by rw [hs.eval]; exact hx) (fun h => (h1 h).of a w hs hh) (fun h => (h2 h).of a w hs hh)⟩
theorem hc_true {x : Operand} {t e : Code} (hx : ev fr x = .bool true) (h1 : HC c t Q fr H) : HC c (.cond x t e) Q fr H := hc_cond hx (fun _ => h1) (fun h => by cases h)
theorem hc_false {x : Operand} {t e : Code} (hx : ev fr x = .bool false) (h1 : HC c e Q fr H) : HC c (.cond x t e) Q fr H := hc_cond hx (fun h => by cases h) (fun _ => h1)
/-- A loop: what holds at each round's head, by a number that every round lowers. -/
theorem hc_loop {b : Code} (I : Nat → Fr → List Ent → Prop) (m : Nat) (h0 : I m fr H)
    (round : ∀ m fr H, I m fr H → HC c b (thn (fun fr H => ∃ m', m' < m ∧ I m' fr H) Q) fr H) : HC c (.loop b) Q fr H := by
  constructor
  intro a w hs hh
  refine wp_loop_ghost (fun m a w => ∃ fr H, Sees c.n a fr ∧ Hp c.w0 c.B H w ∧ I m fr H) m ⟨fr, H, hs, hh, h0⟩ ?_
  rintro m a w ⟨fr, H, hs, hh, hI⟩
  refine wp_mono ((round m fr H hI).of a w hs hh) fun e a' w' ⟨f, k, x, y, z⟩ => ?_
  cases e with
  | normal => obtain ⟨m', hlt, hI'⟩ := z; exact ⟨m', hlt, f, k, x, y, hI'⟩
  | _ => exact ⟨f, k, x, y, z⟩
theorem hc_region {id : Nat} {l : List Oper} (h : HL c l.toArray Q l fr H) : HC c (.region id l.toArray false) Q fr H := ⟨fun a w hs hh => wp_region_lit (h.of a w hs hh)⟩
end

/-! Operations -/
section
variable {c : Cx} {Q : Pst} {fr : Fr} {H : List Ent} {ops : Array Oper} {rest : List Oper} {dst : Option Nat} {ty : TypeId} {pos : String} {after : Array Edge}
theorem hl_nil (h : Q .normal fr H) : HL c ops Q [] fr H := ⟨fun _ _ hs hh => ⟨_, _, hs, hh, h⟩⟩
theorem hl_nil_thn {K : Fr → List Ent → Prop} (h : K fr H) : HL c ops (thn K Q) [] fr H := hl_nil h
/-- An operation that gives a value and leaves the world. -/
theorem hl_pure0 {op : Op} (hd : dOk c.n dst = true) (v : Value)
    (h : ∀ w, Hp c.w0 c.B H w → (execOp (ev fr) ⟨dst, op, ty, pos, after, none⟩).run c.P w = .ok (.value v) w)
    (k : HL c ops Q rest (updO fr dst v) H) : HL c ops Q (⟨dst, op, ty, pos, after, none⟩ :: rest) fr H := ⟨fun a w hs hh =>
  wpList_plain rfl fun K hK => by
    unfold Oper.wp
    rw [hs.eval, h w hh]
    exact hK _ _ (k.of _ _ (hs.put hd v) hh)⟩
/-- An operation whose value and world the memory behind it tells. -/
theorem hl_some {op : Op} (hd : dOk c.n dst = true)
    (h : ∀ w, Hp c.w0 c.B H w → ∃ v w' H', (execOp (ev fr) ⟨dst, op, ty, pos, after, none⟩).run c.P w = .ok (.value v) w' ∧ Hp c.w0 c.B H' w' ∧ HL c ops Q rest (updO fr dst v) H') :
    HL c ops Q (⟨dst, op, ty, pos, after, none⟩ :: rest) fr H := ⟨fun a w hs hh =>
  wpList_plain rfl fun K hK => by
    obtain ⟨v, w', H', h1, h2, h3⟩ := h w hh
    unfold Oper.wp
    rw [hs.eval, h1]
    exact hK _ _ (h3.of _ _ (hs.put hd v) h2)⟩
theorem hl_skipv {op : Op} (hd : dOk c.n dst = true)
    (h : ∀ w, Hp c.w0 c.B H w → ∃ w' H', (execOp (ev fr) ⟨dst, op, ty, pos, after, none⟩).run c.P w = .ok .skip w' ∧ Hp c.w0 c.B H' w' ∧ HL c ops Q rest (updO fr dst undef) H') :
    HL c ops Q (⟨dst, op, ty, pos, after, none⟩ :: rest) fr H := ⟨fun a w hs hh =>
  wpList_plain rfl fun K hK => by
    obtain ⟨w', H', h1, h2, h3⟩ := h w hh
    unfold Oper.wp
    rw [hs.eval, h1]
    exact hK _ _ (h3.of _ _ (hs.put hd undef) h2)⟩
/-- A guard: the operation runs, or is passed over. -/
theorem hl_guard0 {op : Op} {j d : Nat} {b x : Bool} (hj : (ops[j]?).bind (·.dst) = some d) (hx : fr d = .bool x) (hd : dOk c.n dst = true)
    (h1 : x = b → HL c ops Q (⟨dst, op, ty, pos, after, none⟩ :: rest) fr H) (h2 : x = (!b) → HL c ops Q rest (updO fr dst undef) H) :
    HL c ops Q (⟨dst, op, ty, pos, after, some (j, b)⟩ :: rest) fr H := ⟨fun a w hs hh => by
  have hy : yielded ops a.tmps j = some x := by
    have := hs.slot d
    rw [hx] at this
    simp [yielded, hj]
    have h3 : a.tmps[d]? = some (.bool x) := by
      rw [Array.getD_eq_getD_getElem?] at this
      cases h4 : a.tmps[d]? with
      | none => rw [h4] at this; simp [undef] at this
      | some u => rw [h4] at this; simpa using this
    simp [h3]
  unfold wpList
  by_cases e : x = b
  · subst e
    rw [if_pos (by simp [Region.wanted, hy])]
    have := (h1 rfl).of a w hs hh
    unfold wpList at this
    rw [if_pos (by simp [Region.wanted])] at this
    exact this
  · rw [if_neg (by simp [Region.wanted, hy, e])]
    exact (h2 (by cases x <;> cases b <;> simp_all)).of _ _ (hs.put hd undef) hh⟩
/-- A guard whose own operation was passed over. -/
theorem yielded_undef {n : Nat} {a : Act} {fr : Fr} {ops : Array Oper} {j d : Nat} (hs : Sees n a fr) (hj : (ops[j]?).bind (·.dst) = some d) (hx : fr d = undef) : yielded ops a.tmps j = none := by
  have := hs.slot d
  rw [hx] at this
  simp [yielded, hj]
  rw [Array.getD_eq_getD_getElem?] at this
  cases h4 : a.tmps[d]? with
  | none => rfl
  | some u => rw [h4] at this; simp only [Option.getD_some] at this; subst this; rfl
theorem hl_guardU0 {op : Op} {j d : Nat} {b : Bool} (hj : (ops[j]?).bind (·.dst) = some d) (hx : fr d = undef) (hd : dOk c.n dst = true)
    (h2 : HL c ops Q rest (updO fr dst undef) H) : HL c ops Q (⟨dst, op, ty, pos, after, some (j, b)⟩ :: rest) fr H := ⟨fun a w hs hh => by
  have hy := yielded_undef hs hj hx
  unfold wpList
  rw [if_neg (by simp [Region.wanted, hy])]
  exact h2.of _ _ (hs.put hd undef) hh⟩
/-- A way of stepping over operations that leave the world (in text order, or in whatever order). -/
class Stp (c : outParam Cx) (ops : outParam (Array Oper)) (S : List Oper → Fr → List Ent → Prop) : Prop where
  pure : ∀ {fr : Fr} {H : List Ent} {rest : List Oper} {dst : Option Nat} {ty : TypeId} {pos : String} {after : Array Edge} {op : Op} (_hd : dOk c.n dst = true) (v : Value)
    (_h : ∀ w, Hp c.w0 c.B H w → (execOp (ev fr) ⟨dst, op, ty, pos, after, none⟩).run c.P w = .ok (.value v) w), S rest (updO fr dst v) H → S (⟨dst, op, ty, pos, after, none⟩ :: rest) fr H
  guard : ∀ {fr : Fr} {H : List Ent} {rest : List Oper} {dst : Option Nat} {ty : TypeId} {pos : String} {after : Array Edge} {op : Op} {j d : Nat} {b x : Bool} (_hj : (ops[j]?).bind (·.dst) = some d) (_hx : fr d = .bool x) (_hd : dOk c.n dst = true)
    (_h1 : x = b → S (⟨dst, op, ty, pos, after, none⟩ :: rest) fr H) (_h2 : x = (!b) → S rest (updO fr dst undef) H), S (⟨dst, op, ty, pos, after, some (j, b)⟩ :: rest) fr H
  guardU : ∀ {fr : Fr} {H : List Ent} {rest : List Oper} {dst : Option Nat} {ty : TypeId} {pos : String} {after : Array Edge} {op : Op} {j d : Nat} {b : Bool} (_hj : (ops[j]?).bind (·.dst) = some d) (_hx : fr d = undef) (_hd : dOk c.n dst = true)
    (_h2 : S rest (updO fr dst undef) H), S (⟨dst, op, ty, pos, after, some (j, b)⟩ :: rest) fr H
instance : Stp c ops (HL c ops Q) := ⟨hl_pure0, hl_guard0, hl_guardU0⟩
section
variable {S : List Oper → Fr → List Ent → Prop} [hS : Stp c ops S]
include hS
theorem hl_pure {op : Op} (hd : dOk c.n dst = true) (v : Value)
    (h : ∀ w, Hp c.w0 c.B H w → (execOp (ev fr) ⟨dst, op, ty, pos, after, none⟩).run c.P w = .ok (.value v) w)
    (k : S rest (updO fr dst v) H) : S (⟨dst, op, ty, pos, after, none⟩ :: rest) fr H := Stp.pure hd v h k
theorem hl_guard {op : Op} {j d : Nat} {b x : Bool} (hj : (ops[j]?).bind (·.dst) = some d) (hx : fr d = .bool x) (hd : dOk c.n dst = true)
    (h1 : x = b → S (⟨dst, op, ty, pos, after, none⟩ :: rest) fr H) (h2 : x = (!b) → S rest (updO fr dst undef) H) :
    S (⟨dst, op, ty, pos, after, some (j, b)⟩ :: rest) fr H := Stp.guard hj hx hd h1 h2
theorem hl_run {op : Op} {j d : Nat} {b : Bool} (hj : (ops[j]?).bind (·.dst) = some d) (hx : fr d = .bool b) (hd : dOk c.n dst = true)
    (h1 : S (⟨dst, op, ty, pos, after, none⟩ :: rest) fr H) : S (⟨dst, op, ty, pos, after, some (j, b)⟩ :: rest) fr H :=
  hl_guard hj hx hd (fun _ => h1) (fun h => by cases b <;> cases h)
theorem hl_pass {op : Op} {j d : Nat} {b x : Bool} (hj : (ops[j]?).bind (·.dst) = some d) (hx : fr d = .bool x) (hne : x = !b) (hd : dOk c.n dst = true)
    (h1 : S rest (updO fr dst undef) H) : S (⟨dst, op, ty, pos, after, some (j, b)⟩ :: rest) fr H :=
  hl_guard hj hx hd (fun h => by subst hne; cases b <;> cases h) (fun _ => h1)

theorem hl_passU {op : Op} {j d : Nat} {b : Bool} (hj : (ops[j]?).bind (·.dst) = some d) (hx : fr d = undef) (hd : dOk c.n dst = true)
    (h1 : S rest (updO fr dst undef) H) : S (⟨dst, op, ty, pos, after, some (j, b)⟩ :: rest) fr H := Stp.guardU hj hx hd h1

theorem hl_move {x : Operand} {v : Value} (hx : ev fr x = v) (hd : dOk c.n dst = true) (k : S rest (updO fr dst v) H) : S (⟨dst, .move x, ty, pos, after, none⟩ :: rest) fr H :=
  hl_pure hd v (fun w _ => by simp [execOp, hx]) k
theorem hl_assign {x : Operand} {v : Value} (hx : ev fr x = v) (hd : dOk c.n dst = true) (k : S rest (updO fr dst v) H) : S (⟨dst, .assign x, ty, pos, after, none⟩ :: rest) fr H :=
  hl_pure hd v (fun w _ => by simp [execOp, hx]) k
theorem hl_pick {x y z : Operand} {b : Bool} {u v : Value} (hx : ev fr x = .bool b) (hy : ev fr y = u) (hz : ev fr z = v) (hd : dOk c.n dst = true) (k : S rest (updO fr dst (if b then u else v)) H) :
    S (⟨dst, .pick x y z, ty, pos, after, none⟩ :: rest) fr H :=
  hl_pure hd _ (fun w _ => by simp [execOp, hx, hy, hz, asBool]) k
theorem hl_pickT {x y z : Operand} {u : Value} (hx : ev fr x = .bool true) (hy : ev fr y = u) (hd : dOk c.n dst = true) (k : S rest (updO fr dst u) H) :
    S (⟨dst, .pick x y z, ty, pos, after, none⟩ :: rest) fr H := hl_pick hx hy rfl hd k
theorem hl_pickF {x y z : Operand} {u : Value} (hx : ev fr x = .bool false) (hz : ev fr z = u) (hd : dOk c.n dst = true) (k : S rest (updO fr dst u) H) :
    S (⟨dst, .pick x y z, ty, pos, after, none⟩ :: rest) fr H := hl_pick hx rfl hz hd k
theorem hl_not {x : Operand} {t : TypeId} {b : Bool} (hx : ev fr x = .bool b) (hd : dOk c.n dst = true) (k : S rest (updO fr dst (.bool !b)) H) : S (⟨dst, .unOp .not t x, ty, pos, after, none⟩ :: rest) fr H :=
  hl_pure hd _ (fun w _ => by simp [execOp, hx, Op.unary]) k
theorem hl_neg {x : Operand} {t : TypeId} {k' : IntKind} {n : Int} (hx : ev fr x = .int k' n) (hd : dOk c.n dst = true) (k : S rest (updO fr dst (.int k' (k'.wrap (0 - n)))) H) : S (⟨dst, .unOp .neg t x, ty, pos, after, none⟩ :: rest) fr H :=
  hl_pure hd _ (fun w _ => by simp [execOp, hx, Op.unary, Op.intArith]) k
theorem hl_neg64 {x : Operand} {t : TypeId} {n : Int} (hx : ev fr x = .int .i64 n) (h1 : -9223372036854775807 ≤ n) (h2 : n ≤ 9223372036854775808) (hd : dOk c.n dst = true) (k : S rest (updO fr dst (.int .i64 (-n))) H) : S (⟨dst, .unOp .neg t x, ty, pos, after, none⟩ :: rest) fr H :=
  hl_neg hx hd (by rw [IntWalk.i64_in _ (by omega), Int.zero_sub]; exact k)
section
variable {x y : Operand} {t u : TypeId} {a b : Int}
theorem hl_bin (op : BinOp) {p q r : Value} (hx : ev fr x = p) (hy : ev fr y = q) (hd : dOk c.n dst = true) (hg : ∀ w, (eqGuard op t x y p q).run c.P w = .ok () w) (h : ∀ w, (binOp op t p q).run c.P w = .ok r w) (k : S rest (updO fr dst r) H) :
    S (⟨dst, .binOp op t x y u, ty, pos, after, none⟩ :: rest) fr H :=
  hl_pure hd _ (fun w _ => by simp [execOp, hx, hy, hg, h]) k
variable {i : IntKind}
theorem hl_add (hx : ev fr x = .int i a) (hy : ev fr y = .int i b) (hd : dOk c.n dst = true) (k : S rest (updO fr dst (.int i (i.wrap (a + b)))) H) : S (⟨dst, .binOp .add t x y u, ty, pos, after, none⟩ :: rest) fr H :=
  hl_bin .add hx hy hd (fun w => by simp [eqGuard_add]) (fun w => by simp [binOp_add, Op.intArith]) k
theorem hl_sub (hx : ev fr x = .int i a) (hy : ev fr y = .int i b) (hd : dOk c.n dst = true) (k : S rest (updO fr dst (.int i (i.wrap (a - b)))) H) : S (⟨dst, .binOp .sub t x y u, ty, pos, after, none⟩ :: rest) fr H :=
  hl_bin .sub hx hy hd (fun w => by simp [eqGuard_sub]) (fun w => by simp [binOp_sub, Op.intArith]) k
theorem hl_mul (hx : ev fr x = .int i a) (hy : ev fr y = .int i b) (hd : dOk c.n dst = true) (k : S rest (updO fr dst (.int i (i.wrap (a * b)))) H) : S (⟨dst, .binOp .mul t x y u, ty, pos, after, none⟩ :: rest) fr H :=
  hl_bin .mul hx hy hd (fun w => by simp [eqGuard_mul]) (fun w => by simp [binOp_mul, Op.intArith]) k
theorem hl_add64 (hx : ev fr x = .int .i64 a) (hy : ev fr y = .int .i64 b) (h1 : -9223372036854775808 ≤ a + b) (h2 : a + b ≤ 9223372036854775807) (hd : dOk c.n dst = true) (k : S rest (updO fr dst (.int .i64 (a + b))) H) : S (⟨dst, .binOp .add t x y u, ty, pos, after, none⟩ :: rest) fr H :=
  hl_add hx hy hd (by rw [IntWalk.i64_in _ ⟨h1, h2⟩]; exact k)
theorem hl_sub64 (hx : ev fr x = .int .i64 a) (hy : ev fr y = .int .i64 b) (h1 : -9223372036854775808 ≤ a - b) (h2 : a - b ≤ 9223372036854775807) (hd : dOk c.n dst = true) (k : S rest (updO fr dst (.int .i64 (a - b))) H) : S (⟨dst, .binOp .sub t x y u, ty, pos, after, none⟩ :: rest) fr H :=
  hl_sub hx hy hd (by rw [IntWalk.i64_in _ ⟨h1, h2⟩]; exact k)
theorem hl_mul64 (hx : ev fr x = .int .i64 a) (hy : ev fr y = .int .i64 b) (h1 : -9223372036854775808 ≤ a * b) (h2 : a * b ≤ 9223372036854775807) (hd : dOk c.n dst = true) (k : S rest (updO fr dst (.int .i64 (a * b))) H) : S (⟨dst, .binOp .mul t x y u, ty, pos, after, none⟩ :: rest) fr H :=
  hl_mul hx hy hd (by rw [IntWalk.i64_in _ ⟨h1, h2⟩]; exact k)
/-- Of two numerals. -/
theorem hl_add64e {r : Int} (hx : ev fr x = .int .i64 a) (hy : ev fr y = .int .i64 b) (hr : a + b = r) (h1 : -9223372036854775808 ≤ r) (h2 : r ≤ 9223372036854775807) (hd : dOk c.n dst = true) (k : S rest (updO fr dst (.int .i64 r)) H) : S (⟨dst, .binOp .add t x y u, ty, pos, after, none⟩ :: rest) fr H :=
  hl_add64 hx hy (by omega) (by omega) hd (by rw [hr]; exact k)
/-- Of two numerals. -/
theorem hl_sub64e {r : Int} (hx : ev fr x = .int .i64 a) (hy : ev fr y = .int .i64 b) (hr : a - b = r) (h1 : -9223372036854775808 ≤ r) (h2 : r ≤ 9223372036854775807) (hd : dOk c.n dst = true) (k : S rest (updO fr dst (.int .i64 r)) H) : S (⟨dst, .binOp .sub t x y u, ty, pos, after, none⟩ :: rest) fr H :=
  hl_sub64 hx hy (by omega) (by omega) hd (by rw [hr]; exact k)
/-- Of two numerals. -/
theorem hl_mul64e {r : Int} (hx : ev fr x = .int .i64 a) (hy : ev fr y = .int .i64 b) (hr : a * b = r) (h1 : -9223372036854775808 ≤ r) (h2 : r ≤ 9223372036854775807) (hd : dOk c.n dst = true) (k : S rest (updO fr dst (.int .i64 r)) H) : S (⟨dst, .binOp .mul t x y u, ty, pos, after, none⟩ :: rest) fr H :=
  hl_mul64 hx hy (by omega) (by omega) hd (by rw [hr]; exact k)
theorem hl_quo (hx : ev fr x = .int i a) (hy : ev fr y = .int i b) (hb : b ≠ 0) (hd : dOk c.n dst = true) (k : S rest (updO fr dst (.int i (i.wrap (a.tdiv b)))) H) : S (⟨dst, .binOp .quo t x y u, ty, pos, after, none⟩ :: rest) fr H :=
  hl_bin .quo hx hy hd (fun w => by simp [eqGuard_quo]) (fun w => by simp [binOp_quo, Op.intDiv, hb]) k
theorem hl_rem (hx : ev fr x = .int i a) (hy : ev fr y = .int i b) (hb : b ≠ 0) (hd : dOk c.n dst = true) (k : S rest (updO fr dst (.int i (a.tmod b))) H) : S (⟨dst, .binOp .rem t x y u, ty, pos, after, none⟩ :: rest) fr H :=
  hl_bin .rem hx hy hd (fun w => by simp [eqGuard_rem]) (fun w => by simp [binOp_rem, Op.intDiv, hb]) k
theorem hl_quo64 (hx : ev fr x = .int .i64 a) (hy : ev fr y = .int .i64 b) (ha : 0 ≤ a) (ha' : a ≤ 9223372036854775807) (hb : 0 < b) (hd : dOk c.n dst = true) (k : S rest (updO fr dst (.int .i64 (a / b))) H) : S (⟨dst, .binOp .quo t x y u, ty, pos, after, none⟩ :: rest) fr H :=
  hl_quo hx hy (by omega) hd (by
    rw [Int.tdiv_eq_ediv_of_nonneg ha, IntWalk.i64_in _ ⟨by have := Int.ediv_nonneg ha (Int.le_of_lt hb); omega, by have := Int.ediv_le_self b ha; omega⟩]; exact k)
theorem hl_rem64 (hx : ev fr x = .int i a) (hy : ev fr y = .int i b) (ha : 0 ≤ a) (hb : 0 < b) (hd : dOk c.n dst = true) (k : S rest (updO fr dst (.int i (a % b))) H) : S (⟨dst, .binOp .rem t x y u, ty, pos, after, none⟩ :: rest) fr H :=
  hl_rem hx hy (by omega) hd (by rw [Int.tmod_eq_emod_of_nonneg ha]; exact k)
theorem hl_eql (hx : ev fr x = .int i a) (hy : ev fr y = .int i b) (hd : dOk c.n dst = true) (k : S rest (updO fr dst (.bool (decide (a = b)))) H) : S (⟨dst, .binOp .eql t x y u, ty, pos, after, none⟩ :: rest) fr H :=
  hl_bin .eql hx hy hd (fun w => by simp [eqGuard_at_int]) (fun w => by simp only [binOp_eql, Sem.run_pure]; rfl) k
theorem hl_neq (hx : ev fr x = .int i a) (hy : ev fr y = .int i b) (hd : dOk c.n dst = true) (k : S rest (updO fr dst (.bool (!decide (a = b)))) H) : S (⟨dst, .binOp .neq t x y u, ty, pos, after, none⟩ :: rest) fr H :=
  hl_bin .neq hx hy hd (fun w => by simp [eqGuard_at_int]) (fun w => by simp only [binOp_neq, Sem.run_pure]; rfl) k
theorem hl_lss (hx : ev fr x = .int i a) (hy : ev fr y = .int i b) (hd : dOk c.n dst = true) (k : S rest (updO fr dst (.bool (decide (a < b)))) H) : S (⟨dst, .binOp .lss t x y u, ty, pos, after, none⟩ :: rest) fr H :=
  hl_bin .lss hx hy hd (fun w => by simp [eqGuard_lss]) (fun w => by simp [binOp_lss]) k
theorem hl_leq (hx : ev fr x = .int i a) (hy : ev fr y = .int i b) (hd : dOk c.n dst = true) (k : S rest (updO fr dst (.bool (decide (a ≤ b)))) H) : S (⟨dst, .binOp .leq t x y u, ty, pos, after, none⟩ :: rest) fr H :=
  hl_bin .leq hx hy hd (fun w => by simp [eqGuard_leq]) (fun w => by simp [binOp_leq]) k
theorem hl_gtr (hx : ev fr x = .int i a) (hy : ev fr y = .int i b) (hd : dOk c.n dst = true) (k : S rest (updO fr dst (.bool (decide (b < a)))) H) : S (⟨dst, .binOp .gtr t x y u, ty, pos, after, none⟩ :: rest) fr H :=
  hl_bin .gtr hx hy hd (fun w => by simp [eqGuard_gtr]) (fun w => by simp [binOp_gtr]) k
theorem hl_geq (hx : ev fr x = .int i a) (hy : ev fr y = .int i b) (hd : dOk c.n dst = true) (k : S rest (updO fr dst (.bool (decide (b ≤ a)))) H) : S (⟨dst, .binOp .geq t x y u, ty, pos, after, none⟩ :: rest) fr H :=
  hl_bin .geq hx hy hd (fun w => by simp [eqGuard_geq]) (fun w => by simp [binOp_geq]) k
theorem hl_bits (op : BinOp) (ho : op = .and ∨ op = .or ∨ op = .xor ∨ op = .andNot) (hx : ev fr x = .int i a) (hy : ev fr y = .int i b) (hd : dOk c.n dst = true) (k : S rest (updO fr dst (.int i (bits op i a b))) H) : S (⟨dst, .binOp op t x y u, ty, pos, after, none⟩ :: rest) fr H :=
  hl_bin op hx hy hd (fun w => by rcases ho with rfl | rfl | rfl | rfl <;> simp [eqGuard_and, eqGuard_or, eqGuard_xor, eqGuard_andNot])
    (fun w => by rcases ho with rfl | rfl | rfl | rfl <;> simp [binOp_and, binOp_or, binOp_xor, binOp_andNot, intBits_and, intBits_or, intBits_xor, intBits_andNot]) k
theorem hl_and (hx : ev fr x = .int i a) (hy : ev fr y = .int i b) (hd : dOk c.n dst = true) (k : S rest (updO fr dst (.int i (bits .and i a b))) H) : S (⟨dst, .binOp .and t x y u, ty, pos, after, none⟩ :: rest) fr H := hl_bits .and (.inl rfl) hx hy hd k
theorem hl_or (hx : ev fr x = .int i a) (hy : ev fr y = .int i b) (hd : dOk c.n dst = true) (k : S rest (updO fr dst (.int i (bits .or i a b))) H) : S (⟨dst, .binOp .or t x y u, ty, pos, after, none⟩ :: rest) fr H := hl_bits .or (.inr (.inl rfl)) hx hy hd k
theorem hl_xor (hx : ev fr x = .int i a) (hy : ev fr y = .int i b) (hd : dOk c.n dst = true) (k : S rest (updO fr dst (.int i (bits .xor i a b))) H) : S (⟨dst, .binOp .xor t x y u, ty, pos, after, none⟩ :: rest) fr H := hl_bits .xor (.inr (.inr (.inl rfl))) hx hy hd k
variable {yk : IntKind}
theorem hl_shr (hx : ev fr x = .int i a) (hy : ev fr y = .int yk b) (h0 : 0 ≤ b) (hd : dOk c.n dst = true) (k : S rest (updO fr dst (.int i (a.fdiv (2 ^ (min b.toNat i.bits))))) H) : S (⟨dst, .binOp .shr t x y u, ty, pos, after, none⟩ :: rest) fr H :=
  hl_bin .shr hx hy hd (fun w => by simp [eqGuard_shr]) (fun w => by simp [binOp_shr, Op.shift, Int.not_lt.2 h0]) k
theorem hl_shl (hx : ev fr x = .int i a) (hy : ev fr y = .int yk b) (h0 : 0 ≤ b) (hd : dOk c.n dst = true) (k : S rest (updO fr dst (.int i (i.wrap (a * 2 ^ (min b.toNat i.bits))))) H) : S (⟨dst, .binOp .shl t x y u, ty, pos, after, none⟩ :: rest) fr H :=
  hl_bin .shl hx hy hd (fun w => by simp [eqGuard_shl]) (fun w => by simp [binOp_shl, Op.shift, Int.not_lt.2 h0]) k
/-- A shift by a small number that is told. -/
theorem hl_shr' {m : Nat} (hx : ev fr x = .int i a) (hy : ev fr y = .int yk b) (hm : b = (m : Int)) (h1 : m ≤ i.bits) (hd : dOk c.n dst = true) (k : S rest (updO fr dst (.int i (a / 2 ^ m))) H) : S (⟨dst, .binOp .shr t x y u, ty, pos, after, none⟩ :: rest) fr H :=
  hl_shr hx hy (by omega) hd (by rw [hm, Int.toNat_natCast, Nat.min_eq_left h1, Int.fdiv_eq_ediv_of_nonneg _ (by exact_mod_cast Nat.zero_le (2 ^ m))]; exact k)
theorem hl_shl' {m : Nat} (hx : ev fr x = .int i a) (hy : ev fr y = .int yk b) (hm : b = (m : Int)) (h1 : m ≤ i.bits) (hd : dOk c.n dst = true) (k : S rest (updO fr dst (.int i (i.wrap (a * 2 ^ m)))) H) : S (⟨dst, .binOp .shl t x y u, ty, pos, after, none⟩ :: rest) fr H :=
  hl_shl hx hy (by omega) hd (by rw [hm, Int.toNat_natCast, Nat.min_eq_left h1]; exact k)
end
end
end

end Go.Proofs.Ytoobhebbgbhahaa
namespace Go.Proofs.Ytoobhebbgbhahaa
open Go.RowKit

/-! What is asked of types, each a closed fact. -/
def oneB (P : Program) (T : TypeId) : Bool := match P.underlying T with | some (.struct _) | some (.array _ _) | none => false | _ => true
def aggB (P : Program) (T : TypeId) : Bool := match P.underlying T with | some (.struct _) | some (.array _ _) => true | _ => false
def fldB (P : Program) (S : TypeId) (f : Nat) : Option Nat :=
  match P.underlying S with
  | some (.struct fs) => match fs[f]? with
    | some fd => match P.info? fd.type with | some i => if i.size = 0 then none else some fd.offset | none => none
    | none => none
  | _ => none
class TOne (P : Program) (T : TypeId) : Prop where h : oneB P T = true
class TAgg (P : Program) (T : TypeId) : Prop where h : aggB P T = true
class TSz (P : Program) (T : TypeId) (n : outParam Nat) : Prop where h : (P.info? T).map (·.size) = some n
class TByt (P : Program) (T : TypeId) (n : outParam Nat) : Prop where h : (P.info? T).map (·.bytes) = some n
class TZero (P : Program) (T : TypeId) (z : outParam Value) : Prop where h : ((P.info? T).bind (·.zero)) = some z
class TSlc (P : Program) (T : TypeId) (e : outParam TypeId) : Prop where h : P.underlying T = some (.slice e)
class TArr (P : Program) (T : TypeId) (n : outParam Nat) (e : outParam TypeId) : Prop where h : P.underlying T = some (.array n e)
class TFld (P : Program) (S : TypeId) (f : Nat) (o : outParam Nat) : Prop where h : fldB P S f = some o
class TInt (P : Program) (T : TypeId) (k : outParam IntKind) : Prop where h : P.underlying T = some (.int k)
class TStr (P : Program) (T : TypeId) : Prop where h : P.underlying T = some .string
class TPtr (P : Program) (T : TypeId) (e : outParam TypeId) : Prop where h : P.underlying T = some (.pointer e)

section
variable {P : Program} {T : TypeId} {w : World}
theorem isAgg_one [h : TOne P T] : (isAgg T).run P w = .ok false w := by
  have h := h.h
  unfold oneB at h
  cases hd : P.underlying T with
  | none => simp [hd] at h
  | some d =>
    cases d <;> first | (simp [hd] at h; done) | (unfold isAgg; simp [run_underlying hd])
theorem isAgg_agg [h : TAgg P T] : (isAgg T).run P w = .ok true w := by
  have h := h.h
  unfold aggB at h
  cases hd : P.underlying T with
  | none => simp [hd] at h
  | some d =>
    cases d <;> first | (simp [hd] at h; done) | (unfold isAgg; simp [run_underlying hd])
theorem sizeOf_sz {n : Nat} [h : TSz P T n] : (sizeOf T).run P w = .ok n w := by
  obtain ⟨i, hi, h1⟩ := Option.map_eq_some_iff.1 h.h
  simp [sizeOf, typeInfo, hi, h1]
theorem TSz.info {n : Nat} (h : TSz P T n) : ∃ i, P.info? T = some i ∧ i.size = n := Option.map_eq_some_iff.1 h.h
end

/-! The conversions of a slice's cells. -/
/-- In every world that the list tells the cells from this address on are these. -/
structure Rds (w0 : World) (B : Nat) (H : List Ent) (a : Option Addr) (l : List Value) : Prop where
  cell : ∀ w, Hp w0 B H w → ∀ ad, a = some ad → ∀ (j : Nat) u, l[j]? = some u → w.cell? (ad.add j) = some u
  nil : a = none → l = []
  one : ∀ u ∈ l, u.oneCell' = true

section
variable {c : Cx} {Q : Pst} {fr : Fr} {H F : List Ent} {ops : Array Oper} {rest : List Oper} {dst : Option Nat} {ty : TypeId} {pos : String} {after : Array Edge}
variable {x y : Operand} {T : TypeId} {g i k : Nat} {T' : TypeId} {C : List Value} {S : List Oper → Fr → List Ent → Prop}

theorem Rds.weak {w0 : World} {B : Nat} {H H' : List Ent} {a : Option Addr} {l : List Value} (h : Rds w0 B H a l) (hw : ∀ w, Hp w0 B H' w → Hp w0 B H w) : Rds w0 B H' a l := ⟨fun w h' => h.cell w (hw w h'), h.nil, h.one⟩
theorem Rds.under {w0 : World} {B : Nat} {H : List Ent} {a : Option Addr} {l : List Value} (h : Rds w0 B H a l) {x : Ent} : Rds w0 B (x :: H) a l := h.weak fun _ h => h.drop
theorem Rds.perm {w0 : World} {B : Nat} {H H' : List Ent} {a : Option Addr} {l : List Value} (h : Rds w0 B H a l) (hp : H'.Perm H) : Rds w0 B H' a l := h.weak fun _ h => h.perm hp
theorem Rds.ent {n : Nat} {l : List Value} (ht : Take H ⟨g, T', C, k⟩ F) (hl : (C.drop i).take n = l) (h1 : ∀ u ∈ l, u.oneCell' = true) : Rds c.w0 c.B H (some ⟨g, i, none⟩) l := by
  refine ⟨fun w hw ad ha j u hu => ?_, (fun h => by cases h), h1⟩
  cases ha
  rw [Addr.add_lit]
  refine ((hw.take ht).own _ (List.mem_cons_self ..)).2.cell ?_
  rw [← hl, List.getElem?_take] at hu
  split at hu
  · rw [List.getElem?_drop] at hu; exact hu
  · cases hu
theorem Rds.sl {α : Type} {f : α → Value} {a : Option Addr} {len cap : Nat} {l : List α} (h : Sl f c.w0 a len cap l) (hB : c.w0.heap.size ≤ c.B) (hf : ∀ y, (f y).oneCell' = true) : Rds c.w0 c.B H a (l.map f) := by
  refine ⟨fun w hw ad ha j u hu => ?_, fun hn => ?_, fun u hu => ?_⟩
  · rw [List.getElem?_map] at hu
    cases hj : l[j]? with
    | none => rw [hj] at hu; cases hu
    | some x =>
      rw [hj] at hu
      simp only [Option.map_some, Option.some.injEq] at hu
      obtain ⟨hlt, rfl⟩ := List.getElem?_eq_some_iff.1 hj
      obtain ⟨b, off, hb, hcell⟩ := h.row j hlt
      rw [ha] at hb; cases hb
      rw [Addr.add_lit, ← hu]
      have hblk : b < c.B := by
        refine Nat.lt_of_lt_of_le ?_ hB
        simp only [World.cell?] at hcell
        rcases Nat.lt_or_ge b c.w0.heap.size with h1 | h1
        · exact h1
        · rw [Array.getElem?_eq_none h1] at hcell; cases hcell
      rw [hw.below.cell (p := ⟨b, off + j, none⟩) hblk]; exact hcell
  · have := h.nil hn
    have h2 := h.le
    have h3 := h.size_eq
    have : l = [] := List.eq_nil_of_length_eq_zero (by omega)
    rw [this]; rfl
  · obtain ⟨y, _, rfl⟩ := List.mem_map.1 hu; exact hf y

theorem hl_nilCheck [Stp c ops S] {a : Addr} (hx : ev fr x = .pointer (some a)) (hd : dOk c.n dst = true) (k : S rest (updO fr dst (.pointer (some a))) H) : S (⟨dst, .nilCheck x, ty, pos, after, none⟩ :: rest) fr H :=
  hl_pure hd _ (fun w _ => by simp [execOp, hx]) k
theorem hl_fieldAddr [Stp c ops S] {f o : Nat} {b off : Nat} [hf : TFld c.P T f o] (hx : ev fr x = .pointer (some ⟨b, off, none⟩)) (hd : dOk c.n dst = true) (k : S rest (updO fr dst (.pointer (some ⟨b, off + o, none⟩))) H) :
    S (⟨dst, .fieldAddr T x f, ty, pos, after, none⟩ :: rest) fr H :=
  hl_pure hd _ (fun w _ => by
    have hf := hf.h
    unfold fldB at hf
    cases hu : c.P.underlying T with
    | none => rw [hu] at hf; cases hf
    | some d =>
      cases d with
      | struct fs =>
        simp only [hu] at hf
        cases hfs : fs[f]? with
        | none => simp only [hfs] at hf; cases hf
        | some fd =>
          simp only [hfs] at hf
          cases hi : c.P.info? fd.type with
          | none => simp only [hi] at hf; cases hf
          | some inf =>
            simp only [hi] at hf
            split at hf
            · cases hf
            · rename_i hs
              cases hf
              simp [execOp, hx, Instr.fieldAt, Instr.sureAddr, run_underlying hu, hfs, fieldPlace, sizeOf, typeInfo, hi, hs, Addr.add_lit]
      | _ => simp only [hu] at hf; cases hf) k
/-- Beginning a block: the offset without the 0. -/
theorem hl_fieldAddr0 [Stp c ops S] {f o : Nat} {b : Nat} [hf : TFld c.P T f o] (hx : ev fr x = .pointer (some ⟨b, 0, none⟩)) (hd : dOk c.n dst = true) (k : S rest (updO fr dst (.pointer (some ⟨b, o, none⟩))) H) :
    S (⟨dst, .fieldAddr T x f, ty, pos, after, none⟩ :: rest) fr H := hl_fieldAddr hx hd (by rw [Nat.zero_add]; exact k)
theorem hl_indexAddr [Stp c ops S] {e s m b off len cap : Nat} {ik : IntKind} {j : Int} [hT : TSlc c.P T e] [TSz c.P e s] (hx : ev fr x = .slice (some ⟨b, off, none⟩) len cap) (hy : ev fr y = .int ik j) (hj : j = (m : Int)) (hm : m < len) (hd : dOk c.n dst = true)
    (k : S rest (updO fr dst (.pointer (some ⟨b, off + m * s, none⟩))) H) : S (⟨dst, .indexAddr T x y, ty, pos, after, none⟩ :: rest) fr H :=
  hl_pure hd _ (fun w _ => by
    subst hj
    have h1 : (m : Int) < (len : Int) := by omega
    simp [execOp, hx, hy, Instr.indexAt, asIntOf, run_underlying hT.h, h1, Nat.not_le.2 hm, hm, sizeOf_sz (T := e) (n := s), Addr.add_lit]) k
theorem hl_indexAddr1 [Stp c ops S] {e m b off len cap : Nat} {ik : IntKind} {j : Int} [hT : TSlc c.P T e] [TSz c.P e 1] (hx : ev fr x = .slice (some ⟨b, off, none⟩) len cap) (hy : ev fr y = .int ik j) (hj : j = (m : Int)) (hm : m < len) (hd : dOk c.n dst = true)
    (k : S rest (updO fr dst (.pointer (some ⟨b, off + m, none⟩))) H) : S (⟨dst, .indexAddr T x y, ty, pos, after, none⟩ :: rest) fr H := hl_indexAddr hx hy hj hm hd (by rw [Nat.mul_one]; exact k)
/-- The same in a row that begins its block. -/
theorem hl_indexAddr0 [Stp c ops S] {e m b len cap : Nat} {ik : IntKind} {j : Int} [hT : TSlc c.P T e] [TSz c.P e 1] (hx : ev fr x = .slice (some ⟨b, 0, none⟩) len cap) (hy : ev fr y = .int ik j) (hj : j = (m : Int)) (hm : m < len) (hd : dOk c.n dst = true)
    (k : S rest (updO fr dst (.pointer (some ⟨b, m, none⟩))) H) : S (⟨dst, .indexAddr T x y, ty, pos, after, none⟩ :: rest) fr H := hl_indexAddr1 hx hy hj hm hd (by rw [Nat.zero_add]; exact k)
theorem hl_indexArr [Stp c ops S] {e s m b off len : Nat} {ik : IntKind} {j : Int} [hT : TArr c.P T len e] [TSz c.P e s] (hx : ev fr x = .pointer (some ⟨b, off, none⟩)) (hy : ev fr y = .int ik j) (hj : j = (m : Int)) (hm : m < len) (hd : dOk c.n dst = true)
    (k : S rest (updO fr dst (.pointer (some ⟨b, off + m * s, none⟩))) H) : S (⟨dst, .indexAddr T x y, ty, pos, after, none⟩ :: rest) fr H :=
  hl_pure hd _ (fun w _ => by
    subst hj
    have h1 : (m : Int) < (len : Int) := by omega
    simp [execOp, hx, hy, Instr.indexAt, Instr.sureAddr, asIntOf, run_underlying hT.h, h1, Nat.not_le.2 hm, hm, sizeOf_sz (T := e) (n := s), Addr.add_lit]) k
theorem hl_indexArr0 [Stp c ops S] {e m b len : Nat} {ik : IntKind} {j : Int} [hT : TArr c.P T len e] [TSz c.P e 1] (hx : ev fr x = .pointer (some ⟨b, 0, none⟩)) (hy : ev fr y = .int ik j) (hj : j = (m : Int)) (hm : m < len) (hd : dOk c.n dst = true)
    (k : S rest (updO fr dst (.pointer (some ⟨b, m, none⟩))) H) : S (⟨dst, .indexAddr T x y, ty, pos, after, none⟩ :: rest) fr H := hl_indexArr hx hy hj hm hd (by rw [Nat.mul_one, Nat.zero_add]; exact k)

/-- An array's element of one cell. -/
theorem hl_indexArr1 [Stp c ops S] {e m b off len : Nat} {ik : IntKind} {j : Int} [hT : TArr c.P T len e] [TSz c.P e 1] (hx : ev fr x = .pointer (some ⟨b, off, none⟩)) (hy : ev fr y = .int ik j) (hj : j = (m : Int)) (hm : m < len) (hd : dOk c.n dst = true)
    (k : S rest (updO fr dst (.pointer (some ⟨b, off + m, none⟩))) H) : S (⟨dst, .indexAddr T x y, ty, pos, after, none⟩ :: rest) fr H := hl_indexArr hx hy hj hm hd (by rw [Nat.mul_one]; exact k)
/-- Of an array that begins its block. -/
theorem hl_indexArrZ [Stp c ops S] {e s m b len : Nat} {ik : IntKind} {j : Int} [hT : TArr c.P T len e] [TSz c.P e s] (hx : ev fr x = .pointer (some ⟨b, 0, none⟩)) (hy : ev fr y = .int ik j) (hj : j = (m : Int)) (hm : m < len) (hd : dOk c.n dst = true)
    (k : S rest (updO fr dst (.pointer (some ⟨b, m * s, none⟩))) H) : S (⟨dst, .indexAddr T x y, ty, pos, after, none⟩ :: rest) fr H := hl_indexArr hx hy hj hm hd (by rw [Nat.zero_add]; exact k)

theorem hl_load1 [Stp c ops S] {v : Value} [TOne c.P T] (hx : ev fr x = .pointer (some ⟨g, i, none⟩)) (ht : Take H ⟨g, T', C, k⟩ F) (hv : C[i]? = some v) (hd : dOk c.n dst = true) (h : S rest (updO fr dst v) H) :
    S (⟨dst, .load T x, ty, pos, after, none⟩ :: rest) fr H :=
  hl_pure hd _ (fun w hw => by
    have hc := ((hw.take ht).own _ (List.mem_cons_self ..)).2.cell hv
    simp [execOp, hx, Instr.loadAt, Instr.sureAddr, loadVar, isAgg_one (T := T), load, Sem.run, hc]) h
/-- Out of memory that was there ahead of the call. -/
theorem hl_load1r [Stp c ops S] {b : Nat} {v : Value} [TOne c.P T] (hx : ev fr x = .pointer (some ⟨b, i, none⟩)) (hv : c.w0.cell? ⟨b, i, none⟩ = some v) (hb : b < c.B) (hd : dOk c.n dst = true) (h : S rest (updO fr dst v) H) :
    S (⟨dst, .load T x, ty, pos, after, none⟩ :: rest) fr H :=
  hl_pure hd _ (fun w hw => by
    have hc : w.cell? ⟨b, i, none⟩ = some v := by rw [hw.below.cell (p := ⟨b, i, none⟩) hb]; exact hv
    simp [execOp, hx, Instr.loadAt, Instr.sureAddr, loadVar, isAgg_one (T := T), load, Sem.run, hc]) h
/-- By what is known to lie there. -/
theorem hl_load1s [Stp c ops S] {a : Addr} {l : List Value} {j : Nat} {v : Value} [TOne c.P T] (hx : ev fr x = .pointer (some (a.add j))) (hr : Rds c.w0 c.B H (some a) l) (hv : l[j]? = some v) (hd : dOk c.n dst = true) (h : S rest (updO fr dst v) H) :
    S (⟨dst, .load T x, ty, pos, after, none⟩ :: rest) fr H :=
  hl_pure hd _ (fun w hw => by
    have hc : w.cell? (a.add j) = some v := hr.cell w hw a rfl j v hv
    simp [execOp, hx, Instr.loadAt, Instr.sureAddr, loadVar, isAgg_one (T := T), load, Sem.run, hc]) h
theorem hl_loadN [Stp c ops S] {n : Nat} {vs : List Value} [TAgg c.P T] [TSz c.P T n] (hx : ev fr x = .pointer (some ⟨g, i, none⟩)) (ht : Take H ⟨g, T', C, k⟩ F) (hv : (C.drop i).take n = vs) (hn : vs.length = n) (hd : dOk c.n dst = true) (h : S rest (updO fr dst (.agg vs.toArray)) H) :
    S (⟨dst, .load T x, ty, pos, after, none⟩ :: rest) fr H :=
  hl_pure hd _ (fun w hw => by
    have hc := run_loadCells_list (P := c.P) w ⟨g, i, none⟩ vs (fun j v hj => by
      rw [Addr.add_lit]
      refine ((hw.take ht).own _ (List.mem_cons_self ..)).2.cell ?_
      rw [← hv, List.getElem?_take] at hj
      split at hj
      · rw [List.getElem?_drop] at hj; exact hj
      · cases hj)
    rw [hn] at hc
    simp [execOp, hx, Instr.loadAt, Instr.sureAddr, loadVar, isAgg_agg (T := T), sizeOf_sz (T := T) (n := n), hc]) h
theorem hl_loadNr [Stp c ops S] {n b : Nat} {vs : List Value} [TAgg c.P T] [TSz c.P T n] (hx : ev fr x = .pointer (some ⟨b, i, none⟩)) (hv : ∀ (j : Nat) u, vs[j]? = some u → c.w0.cell? ⟨b, i + j, none⟩ = some u) (hb : b < c.B) (hn : vs.length = n) (hd : dOk c.n dst = true) (h : S rest (updO fr dst (.agg vs.toArray)) H) :
    S (⟨dst, .load T x, ty, pos, after, none⟩ :: rest) fr H :=
  hl_pure hd _ (fun w hw => by
    have hc := run_loadCells_list (P := c.P) w ⟨b, i, none⟩ vs (fun j v hj => by
      rw [Addr.add_lit, hw.below.cell (p := ⟨b, i + j, none⟩) hb]; exact hv j v hj)
    rw [hn] at hc
    simp [execOp, hx, Instr.loadAt, Instr.sureAddr, loadVar, isAgg_agg (T := T), sizeOf_sz (T := T) (n := n), hc]) h

theorem prefix_set {C S : List Value} (v : Value) (h : i < C.length) : (C ++ S).take i ++ [v] ++ (C ++ S).drop (i + 1) = C.set i v ++ S := by
  rw [← List.set_append_left i v h, List.set_eq_take_append_cons_drop, if_pos (by rw [List.length_append]; omega)]; simp
theorem splice_prefix {C S vs : List Value} {n : Nat} (hn : vs.length = n) (h : i + n ≤ C.length) : (C ++ S).take i ++ vs ++ (C ++ S).drop (i + n) = (C.take i ++ vs ++ C.drop (i + n)) ++ S := by
  rw [List.take_append_of_le_length (by omega), List.drop_append_of_le_length (by omega)]; simp
/-- A row is written whose mark, if it has one, lies behind its cells. -/
theorem run_storeCells_m (P : Program) (g o : Nat) (t : TypeId) (fz : Nat × Nat) : ∀ (vs : List Value) (i : Nat) (cur : Array Value) (w : World), w.heap[g]? = some (.cells cur t fz) → (fz = (0, 0) ∨ cur.size ≤ fz.1) → o + i + vs.length ≤ cur.size → (∀ v ∈ vs, v.oneCell' = true) →
    (storeCells ⟨g, o, none⟩ vs i).run P w = .ok () (w.setRow g (cur.toList.take (o + i) ++ vs ++ cur.toList.drop (o + i + vs.length)).toArray)
  | [], i, cur, w, hg, _, _, _ => by
    simp only [storeCells, List.append_nil, List.length_nil, Nat.add_zero, List.take_append_drop, Array.toArray_toList]
    rw [setRow_self w g cur t fz hg]
    rfl
  | v :: rest, i, cur, w, hg, hfz, hl, h1 => by
    have hi : o + i < cur.size := by simp at hl; omega
    have hcell : w.cell? ⟨g, o + i, none⟩ = some cur[o + i] := by simp [World.cell?, hg, hi]
    have hfro : w.frozen? ⟨g, o + i, none⟩ = false := by
      obtain ⟨lo, hi'⟩ := fz
      simp only [World.frozen?, hg, Bool.and_eq_false_iff, decide_eq_false_iff_not]
      rcases hfz with h | h
      · cases h; right; omega
      · simp only at h; left; omega
    have hst : (store ((⟨g, o, none⟩ : Addr).add i) v).run P w = .ok () (w.setRow g (cur.setIfInBounds (o + i) v)) := by
      rw [Addr.add_lit, run_store P w _ v _ (h1 v (by simp)), hcell]
      simp [hfro, setCell_eq_setRow w g (o + i) cur t fz v hg]
    have ih := run_storeCells_m P g o t fz rest (i + 1) (cur.setIfInBounds (o + i) v) (w.setRow g (cur.setIfInBounds (o + i) v)) (setRow_heap w g cur _ t _ hg) (by simpa using hfz) (by simp at hl ⊢; omega) (fun x hx => h1 x (by simp [hx]))
    simp only [storeCells, Sem.run_bind, hst, Result.andThen_ok, ih, setRow_setRow]
    congr 3
    have e := list_seg_step cur.toList (o + i) v rest (by simp at hl ⊢; omega)
    simpa [Array.toList_setIfInBounds, Nat.add_assoc] using e
theorem run_store_ent {w : World} {n : Nat} {v : Value} {vs : List Value} [TSz c.P T n] (hw : Hp c.w0 c.B (⟨g, T', C, k⟩ :: F) w) (hcs : v.cells.toList = vs) (hn : vs.length = n) (h1 : ∀ u ∈ vs, u.oneCell' = true) (hi : i + n ≤ C.length) (hn0 : 0 < n) :
    ∃ w', (storeVar T ⟨g, i, none⟩ v).run c.P w = .ok () w' ∧ Hp c.w0 c.B (⟨g, T', C.take i ++ vs ++ C.drop (i + n), k⟩ :: F) w' := by
  obtain ⟨hB, hh⟩ := hw.own _ (List.mem_cons_self ..)
  obtain ⟨hT9, A, mk, hA, hk, S, hS⟩ := hh.cellsC (by intro e; dsimp only at e; subst e; simp at hi; omega)
  dsimp only at hA hk hS hT9
  have hs : v.cells.size = n := by rw [← Array.length_toList, hcs, hn]
  have hlen : C.length + S.length = A.size := by rw [← Array.length_toList, ← hS, List.length_append]
  have hst := run_storeCells_m c.P g i T' mk vs 0 A w hA (by rcases hk with ⟨h, _⟩ | ⟨_, _, h⟩; exact .inl h; exact .inr h) (by simp only [Nat.add_zero]; omega) h1
  simp only [Nat.add_zero] at hst
  refine ⟨_, by simp [storeVar, sizeOf_sz (T := T) (n := n), hs, hcs, hst]; rfl, hw.row _ _ ?_ ?_ hT9⟩
  · intro A0 m0 h0
    rw [hA] at h0
    cases h0
    simp only [List.size_toArray, List.length_append, List.length_take, List.length_drop, Array.length_toList]
    rcases hk with ⟨h, hk⟩ | ⟨h2, h3, h⟩
    · exact .inl ⟨h, by rw [← hk]; omega⟩
    · refine .inr ⟨h2, fun h4 => ?_, by omega⟩
      have h5 := congrArg List.length h4
      simp only [List.length_append, List.length_take, List.length_drop, List.length_nil] at h5
      exact h3 (List.eq_nil_of_length_eq_zero (by omega))
  · rw [← hS, hn]
    show _ <+: (C ++ S).take i ++ _
    rw [← List.append_assoc, splice_prefix hn hi]
    exact ⟨S, rfl⟩
theorem hl_store1 {v : Value} [TSz c.P T 1] (hx : ev fr x = .pointer (some ⟨g, i, none⟩)) (hy : ev fr y = v) (hv : v.oneCell' = true) (ht : Take H ⟨g, T', C, k⟩ F) (hi : i < C.length) (hd : dOk c.n dst = true) (h : HL c ops Q rest (updO fr dst undef) (⟨g, T', C.set i v, k⟩ :: F)) :
    HL c ops Q (⟨dst, .store T x y, ty, pos, after, none⟩ :: rest) fr H :=
  hl_skipv hd (fun w hw => by
    obtain ⟨w', h1, h2⟩ := run_store_ent (c := c) (T := T) (n := 1) (v := v) (vs := [v]) (hw.take ht) (by cases v <;> first | rfl | (simp [Value.oneCell'] at hv)) rfl (by simpa using hv) hi (by decide)
    refine ⟨w', _, ?_, h2, ?_⟩
    · simp [execOp, hx, hy, Instr.storeAt, Instr.sureAddr, h1]
    · have := prefix_set (i := i) (C := C) (S := []) v hi
      simp only [List.append_nil] at this
      rw [this]; exact h)
theorem hl_storeN {n : Nat} {vs : List Value} [TSz c.P T n] (hx : ev fr x = .pointer (some ⟨g, i, none⟩)) (hy : ev fr y = .agg vs.toArray) (hn : vs.length = n) (hv : ∀ u ∈ vs, u.oneCell' = true) (ht : Take H ⟨g, T', C, k⟩ F) (hi : i + n ≤ C.length) (hd : dOk c.n dst = true)
    (h : HL c ops Q rest (updO fr dst undef) (⟨g, T', C.take i ++ vs ++ C.drop (i + n), k⟩ :: F)) (hn0 : 0 < n := by first | assumption | decide | omega) :
    HL c ops Q (⟨dst, .store T x y, ty, pos, after, none⟩ :: rest) fr H :=
  hl_skipv hd (fun w hw => by
    obtain ⟨w', h1, h2⟩ := run_store_ent (c := c) (T := T) (n := n) (v := .agg vs.toArray) (vs := vs) (hw.take ht) rfl hn hv hi hn0
    exact ⟨w', _, by simp [execOp, hx, hy, Instr.storeAt, Instr.sureAddr, h1], h2, h⟩)
/-- A whole block is written. -/
theorem hl_storeW {n : Nat} {vs : List Value} [TSz c.P T n] (hx : ev fr x = .pointer (some ⟨g, 0, none⟩)) (hy : ev fr y = .agg vs.toArray) (hn : vs.length = n) (hv : ∀ u ∈ vs, u.oneCell' = true) (ht : Take H ⟨g, T', C, k⟩ F) (hi : C.length = n) (hd : dOk c.n dst = true)
    (h : HL c ops Q rest (updO fr dst undef) (⟨g, T', vs, k⟩ :: F)) (hn0 : 0 < n := by first | assumption | decide | omega) :
    HL c ops Q (⟨dst, .store T x y, ty, pos, after, none⟩ :: rest) fr H :=
  hl_storeN hx hy hn hv ht (by omega) hd (by rw [List.take_zero, List.nil_append, Nat.zero_add, List.drop_of_length_le (by omega), List.append_nil]; exact h) hn0

theorem hl_alloc {z : Value} {zs : List Value} [hz : TZero c.P T z] (hzs : z.cells.toList = zs) (hd : dOk c.n dst = true) (h : ∀ g, HL c ops Q rest (updO fr dst (.pointer (some ⟨g, 0, none⟩))) (⟨g, T, zs, zs.length⟩ :: H)) (hT9 : T ≠ mapTag := by first | assumption | decide) :
    HL c ops Q (⟨dst, .alloc T, ty, pos, after, none⟩ :: rest) fr H :=
  hl_some hd (fun w hw => by
    obtain ⟨inf, hi, h0⟩ := Option.bind_eq_some_iff.1 hz.h
    refine ⟨_, _, _, ?_, hw.new z.cells T zs zs.length (by rw [hzs]; exact List.prefix_refl _) (by rw [← Array.length_toList, hzs]) hT9, h _⟩
    simp [execOp, Instr.alloc, zeroValue, typeInfo, hi, h0, newVar, newRow, newObj, Sem.run])
theorem hl_box {v : Value} {vs : List Value} (hx : ev fr x = v) (hvs : v.cells.toList = vs) (hd : dOk c.n dst = true) (h : ∀ g, HL c ops Q rest (updO fr dst (.pointer (some ⟨g, 0, none⟩))) (⟨g, T, vs, vs.length⟩ :: H)) (hT9 : T ≠ mapTag := by first | assumption | decide) :
    HL c ops Q (⟨dst, .box T x, ty, pos, after, none⟩ :: rest) fr H :=
  hl_some hd (fun w hw => by
    refine ⟨_, _, _, ?_, hw.new v.cells T vs vs.length (by rw [hvs]; exact List.prefix_refl _) (by rw [← Array.length_toList, hvs]) hT9, h _⟩
    simp [execOp, hx, Instr.box, newVar, newRow, newObj, Sem.run])
def evP (fr : Fr) : List (Nat × Operand) → List (Nat × Value)
  | [] => []
  | (i, x) :: l => (i, ev fr x) :: evP fr l
theorem evP_eq (fr : Fr) (l : List (Nat × Operand)) : evP fr l = l.map (fun p => (p.1, ev fr p.2)) := by induction l <;> simp [evP, *]
theorem hl_buildSlice {e s len : Nat} {z : Value} {ps : List (Nat × Operand)} {vs : List (Nat × Value)} {cells : List Value} [hT : TSlc c.P T e] [TSz c.P e s] [hz : TZero c.P e z] (hps : evP fr ps = vs) (hl : len * s ≤ 16777216)
    (hf : Instr.fill (fun i => some (i * s, s)) (madeCells z.cells (len * s)) vs = some cells.toArray) (hlc : cells.length = len * s) (hd : dOk c.n dst = true)
    (h : ∀ g, HL c ops Q rest (updO fr dst (.slice (some ⟨g, 0, none⟩) len len)) (⟨g, e, cells, len * s⟩ :: H)) (hT9 : e ≠ mapTag := by first | assumption | decide) : HL c ops Q (⟨dst, .buildSlice T len ps.toArray, ty, pos, after, none⟩ :: rest) fr H :=
  hl_some hd (fun w hw => by
    obtain ⟨inf, hi, h0⟩ := Option.bind_eq_some_iff.1 hz.h
    refine ⟨_, _, _, ?_, hw.new cells.toArray e cells (len * s) (List.prefix_refl _) (by simpa using hlc) hT9, h _⟩
    have hn : ¬ (16777216 < len * s) := by omega
    rw [evP_eq] at hps
    by_cases hz0 : len * s = 0
    · rw [hz0] at hf hlc
      have hfill : Instr.fill (fun i => some (i * s, s)) #[] vs = some cells.toArray := by
        rw [← hf]; simp [madeCells, Array.range_zero']
      simp [execOp, Instr.buildSlice, run_underlying hT.h, sizeOf_sz (T := e) (n := s), hz0, hps, newRow, newObj, Array.range_zero', hfill, Sem.run]
    · have hfill : Instr.fill (fun i => some (i * s, s)) ((Array.range (len * s)).map (z.cells[· % z.cells.size]!)) vs = some cells.toArray := hf
      simp [execOp, Instr.buildSlice, run_underlying hT.h, sizeOf_sz (T := e) (n := s), hn, hz0, hps, zeroValue, typeInfo, hi, h0, hfill, newRow, newObj, Sem.run])

theorem hl_len [Stp c ops S] {e len cap : Nat} {a : Option Addr} [hT : TSlc c.P T e] (hx : ev fr x = .slice a len cap) (hd : dOk c.n dst = true) (h : S rest (updO fr dst (.int .i64 (len : Int))) H) :
    S (⟨dst, .call { callee := .builtin .len, args := #[x], argTypes := #[T] }, ty, pos, after, none⟩ :: rest) fr H :=
  hl_pure hd _ (fun w _ => by simp [execOp, resolve, invoke, builtin, Builtin.len_, hx, run_underlying hT.h, goInt]) h
theorem hl_lenArr [Stp c ops S] {e n : Nat} [hT : TArr c.P T n e] (hd : dOk c.n dst = true) (h : S rest (updO fr dst (.int .i64 (n : Int))) H) :
    S (⟨dst, .call { callee := .builtin .len, args := #[x], argTypes := #[T] }, ty, pos, after, none⟩ :: rest) fr H :=
  hl_pure hd _ (fun w _ => by simp [execOp, resolve, invoke, builtin, Builtin.len_, run_underlying hT.h, goInt]) h
theorem hl_convInt [Stp c ops S] {ik jk : IntKind} {n : Int} {U : TypeId} [hS : TInt c.P U jk] [hT : TInt c.P T ik] (hx : ev fr x = .int jk n) (hd : dOk c.n dst = true) (h : S rest (updO fr dst (.int ik (ik.wrap n))) H) :
    S (⟨dst, .convert U T x, ty, pos, after, none⟩ :: rest) fr H :=
  hl_pure hd _ (fun w _ => by simp [execOp, convert, hx, run_underlying hS.h, run_underlying hT.h, Conv.intToInt]) h
/-- To int: nothing turns. -/
theorem hl_convI64 [Stp c ops S] {jk : IntKind} {n : Int} {U : TypeId} [hS : TInt c.P U jk] [hT : TInt c.P T .i64] (hx : ev fr x = .int jk n) (h1 : -9223372036854775808 ≤ n) (h2 : n ≤ 9223372036854775807) (hd : dOk c.n dst = true) (h : S rest (updO fr dst (.int .i64 n)) H) :
    S (⟨dst, .convert U T x, ty, pos, after, none⟩ :: rest) fr H := hl_convInt hx hd (by rw [IntWalk.i64_in _ ⟨h1, h2⟩]; exact h)
theorem hl_convStr [Stp c ops S] {e cap : Nat} {a : Option Addr} {l : List UInt8} {U : TypeId} [hS : TSlc c.P U e] [he : TInt c.P e .u8] [hT : TStr c.P T] (hx : ev fr x = .slice a l.length cap) (hr : Rds c.w0 c.B H a (l.map byteV)) (hd : dOk c.n dst = true) (h : S rest (updO fr dst (.string ⟨l.toArray⟩)) H) :
    S (⟨dst, .convert U T x, ty, pos, after, none⟩ :: rest) fr H :=
  hl_pure hd _ (fun w hw => by
    cases a with
    | none =>
      have := hr.nil rfl
      have hl : l = [] := by simpa using this
      subst hl
      simp [execOp, hx, convert, run_underlying hS.h, run_underlying hT.h, run_underlying he.h, Conv.bytesToString]; rfl
    | some ad =>
      have := run_convert_bytes_back (P := c.P) w U T e ad cap l hS.h he.h hT.h (fun j hj => hr.cell w hw ad rfl j _ (by rw [List.getElem?_map, List.getElem?_eq_getElem hj]; rfl))
      simp [execOp, hx, this]) h
theorem hl_strEq [Stp c ops S] {a b : ByteArray} {u : TypeId} (hx : ev fr x = .string a) (hy : ev fr y = .string b) (hd : dOk c.n dst = true) (k : S rest (updO fr dst (.bool (a.toList == b.toList))) H) : S (⟨dst, .binOp .eql T x y u, ty, pos, after, none⟩ :: rest) fr H :=
  hl_bin .eql hx hy hd (fun w => by simp [eqGuard_at_string]) (fun w => by simp [binOp, Op.stringOp]) k
theorem hl_strNe [Stp c ops S] {a b : ByteArray} {u : TypeId} (hx : ev fr x = .string a) (hy : ev fr y = .string b) (hd : dOk c.n dst = true) (k : S rest (updO fr dst (.bool (!(a.toList == b.toList)))) H) : S (⟨dst, .binOp .neq T x y u, ty, pos, after, none⟩ :: rest) fr H :=
  hl_bin .neq hx hy hd (fun w => by simp [eqGuard_at_string]) (fun w => by simp [binOp, Op.stringOp]) k

/-! Calls. -/
theorem hl_call {f : FuncId} {xs : List Operand} {ts : Array TypeId} {args : List Value} {R : Value → List Ent → Prop} (hxs : evs fr xs = args) (hd : dOk c.n dst = true) (hf : Fn c.P c.w0 c.B f args H R)
    (h : ∀ v H', R v H' → HL c ops Q rest (updO fr dst v) H') : HL c ops Q (⟨dst, .call { callee := .value (.func f), args := xs.toArray, argTypes := ts }, ty, pos, after, none⟩ :: rest) fr H := ⟨fun a w hs hh =>
  wpList_plain rfl fun K hK => by
    obtain ⟨⟨fn, h1, h2, h3⟩, hc⟩ := hf
    have hargs : (xs.toArray.map a.eval) = args.toArray := by rw [hs.eval, ← hxs, evs_eq]; simp
    have hrun : (execOp a.eval ⟨dst, .call { callee := .value (.func f), args := xs.toArray, argTypes := ts }, ty, pos, after, none⟩).run c.P w = .ok (.enter f args.toArray) w := by
      simp only [execOp, resolve, hargs]
      have h2' : ¬ (fn.name = "runtime.NumGoroutine") := by simpa using h2
      have h3' : ¬ (fn.body = none) := by intro h; rw [h] at h3; cases h3
      simp [Act.eval, Deferred.ofValue, invoke, callFunc, program, Sem.run, h1, h2', h3']
    unfold Oper.wp
    rw [hrun]
    refine (hc w hh).mono fun e w' ⟨v, H', he, hw', hR⟩ => ?_
    subst he
    exact hK _ _ ((h v H' hR).of _ _ (hs.put hd v) hw')⟩
theorem Fn.mono {P : Program} {w0 : World} {B : Nat} {f : FuncId} {args : List Value} {R R' : Value → List Ent → Prop} (h : Fn P w0 B f args H R) (hr : ∀ v H', R v H' → R' v H') : Fn P w0 B f args H R' :=
  ⟨h.fn, fun w hw => (h.run w hw).mono fun e w' ⟨v, H', a, b, d⟩ => ⟨v, H', a, b, hr _ _ d⟩⟩
theorem Fn.perm {P : Program} {w0 : World} {B : Nat} {f : FuncId} {args : List Value} {H' : List Ent} {R : Value → List Ent → Prop} (h : Fn P w0 B f args H' R) (hp : H.Perm H') : Fn P w0 B f args H R :=
  ⟨h.fn, fun w hw => h.run w (hw.perm hp)⟩

/-- What a function hands back. -/
inductive ResV (P : Program) (fr : Fr) (H : List Ent) : List ResultVar → List Value → Prop
  | nil : ResV P fr H [] []
  | tmp {t : Nat} {l : List ResultVar} {vs : List Value} (h : ResV P fr H l vs) : ResV P fr H (.tmp t :: l) (fr t :: vs)
  | cell {t T g T' k : Nat} {C : List Value} {F : List Ent} {l : List ResultVar} {vs : List Value} (hp : fr t = .pointer (some ⟨g, 0, none⟩)) (ht : Take H ⟨g, T', C, k⟩ F) [TAgg P T] [TSz P T C.length] (h : ResV P fr H l vs) : ResV P fr H (.cell t T :: l) (.agg C.toArray :: vs)
  | cell1 {t T g T' k : Nat} {v : Value} {C : List Value} {F : List Ent} {l : List ResultVar} {vs : List Value} (hp : fr t = .pointer (some ⟨g, 0, none⟩)) (ht : Take H ⟨g, T', v :: C, k⟩ F) [TOne P T] (h : ResV P fr H l vs) : ResV P fr H (.cell t T :: l) (v :: vs)
def pack : List Value → Value
  | [v] => v
  | vs => .tuple vs.toArray
theorem run_results {P : Program} {w0 w : World} {B n : Nat} {fn : Func} {a : Act} (hs : Sees n a fr) (hw : Hp w0 B H w) {vs : List Value} (h : ResV P fr H fn.results.toList vs) : (results fn a.tmps).run P w = .ok (pack vs) w := by
  have key : ∀ (l : List ResultVar) (vs : List Value), ResV P fr H l vs → (l.mapM (m := Sem) fun r => (match r with | .tmp t => pure (fr t) | .cell x t => do loadVar t (← asAddr (fr x)) : Sem Value)).run P w = .ok vs w := by
    intro l vs h
    induction h with
    | nil => simp
    | tmp _ ih => simp only [List.mapM_cons, Sem.run_bind, Sem.run_pure, Result.andThen_ok, ih]
    | @cell t T g T' k C F l vs hp ht _ _ _ ih =>
      have hl := run_loadCells_list (P := P) w ⟨g, 0, none⟩ C (fun j v hj => by
        rw [Addr.add_lit, Nat.zero_add]
        exact ((hw.take ht).own _ (List.mem_cons_self ..)).2.cell hj)
      have h1 : (do loadVar T (← asAddr (fr t)) : Sem Value).run P w = .ok (.agg C.toArray) w := by
        simp only [hp, asAddr, loadVar, Sem.run_bind, Sem.run_pure, Result.andThen_ok, isAgg_agg (T := T), if_true, sizeOf_sz (T := T) (n := C.length), hl]
      simp only [List.mapM_cons, Sem.run_bind (x := (do loadVar T (← asAddr (fr t)) : Sem Value)), h1, Result.andThen_ok]
      simp only [Sem.run_bind, ih, Result.andThen_ok, Sem.run_pure]
    | @cell1 t T g T' k v C F l vs hp ht _ _ ih =>
      have hc : w.cell? ⟨g, 0, none⟩ = some v := ((hw.take ht).own _ (List.mem_cons_self ..)).2.cell rfl
      have h1 : (do loadVar T (← asAddr (fr t)) : Sem Value).run P w = .ok v w := by
        simp only [hp, asAddr, loadVar, Sem.run_bind, Sem.run_pure, Result.andThen_ok, isAgg_one (T := T), Bool.false_eq_true, if_false, load, Sem.run, hc]
      simp only [List.mapM_cons, Sem.run_bind (x := (do loadVar T (← asAddr (fr t)) : Sem Value)), h1, Result.andThen_ok]
      simp only [Sem.run_bind, ih, Result.andThen_ok, Sem.run_pure]
  have h2 := key _ _ h
  have h3 : (fn.results.mapM (m := Sem) fun r => (match r with | .tmp t => pure (a.tmps.getD t undef) | .cell x t => do loadVar t (← asAddr (a.tmps.getD x undef)) : Sem Value)).run P w = .ok vs.toArray w := by
    rw [Array.mapM_eq_mapM_toList]
    simp only [hs.slot]
    show ((List.toArray <$> (fn.results.toList.mapM (m := Sem) _)).run P w) = _
    simp only [map_eq_pure_bind, Sem.run_bind, h2, Result.andThen_ok, Sem.run_pure]
  unfold results
  simp only [Sem.run_bind, Sem.run_pure]
  refine Eq.trans (congrArg (fun r : Result (Array Value) => r.andThen fun (a : Array Value) w' => Result.ok (if h : a.size = 1 then a[0] else Value.tuple a) w') h3) ?_
  simp only [Result.andThen_ok]
  congr 1
  match vs with
  | [] => rfl
  | [v] => rfl
  | u :: v :: l => simp [pack]
/-- What the one list tells the other tells, too. -/
def Imp (H H2 : List Ent) : Prop := ∀ w0 B w, Hp w0 B H w → Hp w0 B H2 w
theorem Imp.refl (H : List Ent) : Imp H H := fun _ _ _ h => h
theorem Imp.drop {x : Ent} {H H2 : List Ent} (h : Imp H H2) : Imp (x :: H) H2 := fun _ _ _ hw => h _ _ _ hw.drop
theorem Imp.perm {H H1 H2 : List Ent} (hp : H.Perm H1) (h : Imp H1 H2) : Imp H H2 := fun _ _ _ hw => h _ _ _ (hw.perm hp)
theorem Imp.keep {x : Ent} {H H2 : List Ent} (h : ∀ w0 B w, Hp w0 B (x :: H) w → Hp w0 B (x :: H2) w) : Imp (x :: H) (x :: H2) := h
def Pfn (P : Program) (fn : Func) (R : Value → List Ent → Prop) : Pst := fun e fr' H' => (e = .normal ∨ e = .ret) ∧ ∃ vs H2, ResV P fr' H' fn.results.toList vs ∧ Imp H' H2 ∧ R (pack vs) H2
/-- A function's contract, out of its text. -/
theorem fn_intro {P : Program} {w0 : World} {B f : Nat} {fn : Func} {code : Code} {args : List Value} {R : Value → List Ent → Prop} (hf : P.funcs[f]? = some fn) (hb : fn.body = some code) (hn : (fn.name == "runtime.NumGoroutine") = false) (hs : Nat.ble args.length fn.ntmps = true)
    (h : HC ⟨P, fn.ntmps, w0, B⟩ code (Pfn P fn R) (argFr args) H) : Fn P w0 B f args H R := by
  refine ⟨⟨fn, hf, hn, by rw [hb]; rfl⟩, fun w hw => ?_⟩
  have hs : args.length ≤ fn.ntmps := by simpa using hs
  refine calls_of_wp hf hb (wp_mono (h.of _ w ⟨rfl, ?_, fun t => ?_⟩ hw) ?_)
  · simp; omega
  · rw [argFr_eq]
    simp only [Array.getD_eq_getD_getElem?, List.getD_eq_getElem?_getD, Array.getElem?_append, List.size_toArray, List.getElem?_toArray]
    split
    · rfl
    · rename_i hlt
      rw [List.getElem?_eq_none (by omega), Array.getElem?_replicate]
      split <;> rfl
  · rintro e a w' ⟨fr', H', hs', hh', he, vs, H2, hv, hi, hR⟩
    have hr := run_results (fn := fn) hs' hh' hv
    rcases he with rfl | rfl
    · exact ⟨hs'.defers, _, hr, _, _, rfl, hi _ _ _ hh', hR⟩
    · exact ⟨hs'.defers, _, hr, _, _, rfl, hi _ _ _ hh', hR⟩
end

end Go.Proofs.Ytoobhebbgbhahaa
namespace Go.Proofs.Ytoobhebbgbhahaa
open Go.RowKit

/-- The operation gives this value in every world of which the list tells the memory, and leaves such a world. -/
def YI (c : Cx) (ops : Array Oper) (H : List Ent) (o : Oper) (v : Value) (a : Act) : Prop :=
  (Region.wanted o (yielded ops a.tmps) = true ∧
    ((∀ w, Hp c.w0 c.B H w → ∃ w', (execOp a.eval o).run c.P w = .ok (.value v) w' ∧ Hp c.w0 c.B H w') ∨
     ∃ f args, ∀ w, Hp c.w0 c.B H w → (execOp a.eval o).run c.P w = .ok (.enter f args) w ∧ Calls c.P f args w (fun e w' => e = .returned v ∧ Hp c.w0 c.B H w'))) ∨
  (Region.wanted o (yielded ops a.tmps) = false ∧ v = undef)

section
variable {c : Cx} {Q : Pst} {fr : Fr} {H : List Ent} {ops : Array Oper} {md : Region.Mode}
theorem YI.of_same {o : Oper} {v : Value} {a a' : Act} (hy : YI c ops H o v a) (he : execOp a'.eval o = execOp a.eval o)
    (hw : Region.wanted o (yielded ops a'.tmps) = Region.wanted o (yielded ops a.tmps)) : YI c ops H o v a' := by
  unfold YI at *; rw [he, hw]; exact hy

def anyI (c : Cx) (ops : Array Oper) (md : Region.Mode) (H : List Ent) (n : Nat) (L : Array Bool → Act → Prop) : Nat → Array Bool → Act → Prop
  | 0, listed, a => L listed a
  | f + 1, listed, a => Region.ready md ops listed ≠ [] ∧ ∀ i ∈ Region.ready md ops listed, i < n ∧ ∃ o v, ops[i]? = some o ∧ YI c ops H o v a ∧ anyI c ops md H n L f (listed.setIfInBounds i true) (a.put o.dst v)

theorem any_of_head {n g : Nat} {L : Array Bool → Act → Prop} {Q' : Exit → Act → World → Prop} (hL : ∀ listed a w, Hp c.w0 c.B H w → L listed a → wpAny c.P md ops Q' g listed a w) :
    ∀ (f : Nat) (listed : Array Bool) (a : Act) (w : World), Hp c.w0 c.B H w → anyI c ops md H n L f listed a → wpAny c.P md ops Q' (f + g) listed a w
  | 0, listed, a, w, hw, h => by rw [Nat.zero_add]; exact hL _ _ _ hw h
  | f + 1, listed, a, w, hw, h => by
    rw [show f + 1 + g = (f + g) + 1 by omega]
    refine ⟨fun h0 => absurd h0 h.1, fun i hi => ?_⟩
    obtain ⟨_, o, v, ho, hy, hK⟩ := h.2 i hi
    unfold wpOp
    simp only [ho]
    rcases hy with ⟨hwd, hv | ⟨f', args, hv⟩⟩ | ⟨hwd, rfl⟩
    · rw [if_pos hwd]
      obtain ⟨w', h1, h2⟩ := hv w hw
      refine .inl ?_
      unfold Oper.wp
      rw [h1]
      exact any_of_head hL f _ _ _ h2 hK
    · rw [if_pos hwd]
      obtain ⟨h1, h2⟩ := hv w hw
      refine .inl ?_
      unfold Oper.wp
      rw [h1]
      exact h2.mono fun e w' ⟨he, hw'⟩ => by subst he; exact any_of_head hL f _ _ _ hw' hK
    · rw [if_neg (by simp [hwd])]
      exact any_of_head hL f _ _ _ hw hK

theorem anyI_first {n i : Nat} {oi : Oper} {v : Value} {L : Array Bool → Act → Prop} (hi : ops[i]? = some oi) (hsel : ∀ (j : Nat) (o : Oper) cs b, ops[j]? = some o → o.op ≠ .select cs b) (hin : i < n)
    (htail : ∀ listed, HeadInv md ops n listed → i ∈ Region.ready md ops listed → ∀ j ∈ Region.ready md ops listed, j < n)
    (hdone : ∀ listed a, L listed a → ∀ j ∈ Region.ready md ops listed, n ≤ j) :
    ∀ (f : Nat) (listed : Array Bool) (a : Act), HeadInv md ops n listed →
      (∀ j oj, ops[j]? = some oj → j ≠ i → listed.getD j true = false → (∀ e ∈ oj.after, Region.binds md e = true → e.on ≠ i) → oi.apart ops oj = true) →
      i ∈ Region.ready md ops listed → YI c ops H oi v a →
      anyI c ops md H n L f (listed.setIfInBounds i true) (a.put oi.dst v) → anyI c ops md H n L (f + 1) listed a := by
  intro f
  induction f with
  | zero =>
    intro listed a inv _ hr hy K
    refine ⟨fun h => (by rw [h] at hr; cases hr), fun j hj => ?_⟩
    have hjn := htail listed inv hr j hj
    refine ⟨hjn, ?_⟩
    by_cases hji : j = i
    · subst hji; exact ⟨oi, v, hi, hy, K⟩
    · have := hdone _ _ K j (ready_mono hj hji)
      omega
  | succ f ih =>
    intro listed a inv hfree hr hy K
    refine ⟨fun h => (by rw [h] at hr; cases hr), fun j hj => ?_⟩
    have hjn := htail listed inv hr j hj
    refine ⟨hjn, ?_⟩
    by_cases hji : j = i
    · subst hji; exact ⟨oi, v, hi, hy, K⟩
    · obtain ⟨_, oj, u, hoj, hyj, hK⟩ := K.2 j (ready_mono hj hji)
      obtain ⟨hjun, oj', hoj', hall⟩ := mem_ready.1 hj
      obtain rfl : oj' = oj := Option.some.inj (hoj'.symm.trans hoj)
      have hnot : ∀ e ∈ oj'.after, Region.binds md e = true → e.on ≠ i := fun e he hb heq => by
        have h1 := hall e he hb
        have h0 := (mem_ready.1 hr).1
        rw [heq, getD_both h0] at h1; cases h1
      obtain ⟨h1, h2, h3⟩ := Oper.apart_spec (hfree j oj' hoj hji hjun hnot)
      have hsi : ∀ cs b, oi.op ≠ .select cs b := fun cs b => hsel i oi cs b hi
      have hsj : ∀ cs b, oj'.op ≠ .select cs b := fun cs b => hsel j oj' cs b hoj
      refine ⟨oj', u, hoj, hyj.of_same (execOp_put oj' hsj a oi.dst v h1).symm (wanted_put oj' a oi.dst v h1).symm, ?_⟩
      refine ih (listed.setIfInBounds j true) _ (inv.set hj hjn) (fun k ok hk hki hun hno => ?_) (ready_mono hr (Ne.symm hji)) (hy.of_same (execOp_put oi hsi a oj'.dst u h3) (wanted_put oi a oj'.dst u h3)) ?_
      · refine hfree k ok hk hki ?_ hno
        by_cases hjk : j = k
        · subst hjk; exact hjun
        · rw [getD_set_ne true hjk] at hun; exact hun
      · rw [Array.setIfInBounds_comm _ _ hji, ← Act.put_comm a v u h2]
        exact hK

/-- The operations one behind the other, each as above. -/
def DI (c : Cx) (ops : Array Oper) (H : List Ent) (L : Act → Prop) : List Oper → Act → Prop
  | [], a => L a
  | o :: rest, a => ∃ v, YI c ops H o v a ∧ DI c ops H L rest (a.put o.dst v)

theorem anyI_lex {n g : Nat} {Lq : Act → Prop} (hsel : Region.noSelect ops = true) (htail : ∀ i, i < n → ∀ listed, HeadInv md ops n listed → i ∈ Region.ready md ops listed → ∀ j ∈ Region.ready md ops listed, j < n) :
    ∀ (l : List Oper) (k : Nat) (listed : Array Bool) (a : Act), (∀ j, j < l.length → l[j]? = ops[k + j]?) → k + l.length = n → HeadInv md ops n listed →
    Region.lexHead md ops g l.length k listed = true → DI c ops H Lq l a →
    anyI c ops md H n (fun listed' a' => Region.seqB md ops g n listed' = true ∧ Lq a') l.length listed a
  | [], k, listed, a, _, hk, _, hB, h => by
    have : k = n := by simpa using hk
    subst this
    exact ⟨by simpa [Region.lexHead] using hB, h⟩
  | o :: l, k, listed, a, hl, hk, inv, hB, h => by
    have h0 : ops[k]? = some o := by simpa using (hl 0 (by simp)).symm
    simp only [List.length_cons, Region.lexHead, Bool.and_eq_true] at hB
    obtain ⟨⟨hr, hf⟩, hB'⟩ := hB
    have hkn : k < n := by simp only [List.length_cons] at hk; omega
    have hr' : k ∈ Region.ready md ops listed := by simpa using hr
    obtain ⟨v, hy, hK⟩ := h
    exact anyI_first h0 (Region.noSelect_spec hsel) hkn (htail k hkn) (fun listed' a' hL => seqB_ready hL.1) l.length listed a inv (Region.free_spec h0 hf) hr' hy
      (anyI_lex hsel htail l (k + 1) _ _ (fun j hj => by have := hl (j + 1) (by simp; omega); simpa [Nat.add_assoc, Nat.add_comm 1 j] using this) (by simp only [List.length_cons] at hk; omega) (inv.set hr' hkn) hB' hK)

theorem wp_drawT {id : Nat} {Q : Exit → Act → World → Prop} {a : Act} {w : World} {l : List Oper} (n : Nat) (hm : c.P.follows .mixedOrders = true) (hB : Region.lexTailB .any l.toArray n = true) (hw : Hp c.w0 c.B H w)
    (h : DI c l.toArray H (fun a' => ∀ w', Hp c.w0 c.B H w' → wpList c.P l.toArray Q (l.drop n) a' w') (l.take n) a) : (Code.region id l.toArray true).wp c.P Q a w := by
  simp only [Region.lexTailB, Bool.and_eq_true, decide_eq_true_eq] at hB
  obtain ⟨⟨⟨⟨hsel, hn⟩, hs⟩, hc⟩, hlex⟩ := hB
  have hn' : n < l.length := by simpa using hn
  have htl : (l.take n).length = n := by simp; omega
  have hdl : (l.drop n).length = l.toArray.size - n := by simp
  have inv0 : HeadInv .any l.toArray n (Array.replicate l.toArray.size false) :=
    ⟨by simp, fun j oj _ hl => (by rw [getD_replicate_false] at hl; cases hl), fun t _ ht => getD_in (by simpa using ht) (getD_replicate_false _ _)⟩
  have K := anyI_lex (md := .any) (g := l.toArray.size - n) hsel (fun i hin listed inv hr j hj => by
      rcases Nat.lt_or_ge j n with h | h
      · exact h
      · exact absurd hj (tail_waits hs hc hn inv _ i rfl hin (mem_ready.1 hr).1 j h)) (l.take n) 0 _ a (fun j hj => by
    have hj' : j < n := by rw [htl] at hj; exact hj
    simp [hj']) (by simpa using htl) inv0 (by rw [htl]; exact hlex) h
  refine wp_region_any hm ?_
  have := any_of_head (Q' := Q) (g := l.toArray.size - n) (fun listed a' w' hw' hL => by
    have := wpAny_of_seq (md := .any) (Q' := Q) (l.drop n) n listed a' w' (fun j => by simp [List.getElem?_drop]) (by rw [hdl]; exact hL.1) (hL.2 w' hw')
    rwa [hdl] at this) _ _ _ _ (hw.grow (Below.refl _ _).drew) K
  rw [htl, show n + (l.toArray.size - n) = l.toArray.size by omega] at this
  exact this

theorem lexHead_of_from : ∀ (f k : Nat) (listed : Array Bool), Region.lexFrom md ops f k listed = true → Region.lexHead md ops 0 f k listed = true
  | 0, k, listed, h => by simpa [Region.lexFrom, Region.lexHead, Region.seqB] using h
  | f + 1, k, listed, h => by
    simp only [Region.lexFrom, Region.lexHead, Bool.and_eq_true] at *
    exact ⟨h.1, lexHead_of_from f _ _ h.2⟩
theorem wp_draw {id : Nat} {Q : Exit → Act → World → Prop} {a : Act} {w : World} {l : List Oper} (hm : c.P.follows .mixedOrders = true) (hB : Region.lexB .any l.toArray = true) (hw : Hp c.w0 c.B H w)
    (h : DI c l.toArray H (fun a' => ∀ w', Hp c.w0 c.B H w' → Q .normal a' w') l a) : (Code.region id l.toArray true).wp c.P Q a w := by
  simp only [Region.lexB, Bool.and_eq_true] at hB
  have inv0 : HeadInv .any l.toArray l.length (Array.replicate l.toArray.size false) :=
    ⟨by simp, fun j oj _ hl => (by rw [getD_replicate_false] at hl; cases hl), fun t h1 h2 => absurd h2 (by simp; omega)⟩
  have K := anyI_lex (md := .any) (g := 0) hB.1 (fun i hin listed inv hr j hj => by
      obtain ⟨_, o, ho, _⟩ := mem_ready.1 hj
      have := (Array.getElem?_eq_some_iff.1 ho).1
      simpa using this) l 0 _ a (fun j hj => by simp) (by simp) inv0 (lexHead_of_from _ _ _ (by simpa using hB.2)) h
  refine wp_region_any hm ?_
  have := any_of_head (Q' := Q) (g := 0) (fun listed a' w' hw' hL => ⟨by simpa [Region.seqB] using hL.1, hL.2 w' hw'⟩) _ _ _ _ (hw.grow (Below.refl _ _).drew) K
  simpa using this

/-! The same, of frames. -/
structure HD (c : Cx) (ops : Array Oper) (K : Fr → Prop) (l : List Oper) (fr : Fr) (H : List Ent) : Prop where
  of : ∀ a, Sees c.n a fr → DI c ops H (fun a' => ∃ fr', Sees c.n a' fr' ∧ K fr') l a
variable {rest : List Oper} {dst : Option Nat} {ty : TypeId} {pos : String} {after : Array Edge} {K : Fr → Prop}
theorem hd_nil (h : K fr) : HD c ops K [] fr H := ⟨fun _ hs => ⟨fr, hs, h⟩⟩
theorem DI.guard {op : Op} {L : Act → Prop} {a : Act} {j : Nat} {b : Bool} (hy : yielded ops a.tmps j = some b) (h : DI c ops H L (⟨dst, op, ty, pos, after, none⟩ :: rest) a) : DI c ops H L (⟨dst, op, ty, pos, after, some (j, b)⟩ :: rest) a := by
  obtain ⟨v, hv, hK⟩ := h
  refine ⟨v, ?_, hK⟩
  rcases hv with ⟨_, hv⟩ | ⟨hw, _⟩
  · exact .inl ⟨by simp [Region.wanted, hy], hv⟩
  · simp [Region.wanted] at hw
instance : Stp c ops (HD c ops K) where
  pure := fun hd v h k => ⟨fun a hs => ⟨v, .inl ⟨by simp [Region.wanted], .inl fun w hw => ⟨w, by rw [hs.eval]; exact h w hw, hw⟩⟩, k.of _ (hs.put hd v)⟩⟩
  guard := fun {fr H rest dst ty pos after op j d b x} hj hx hd h1 h2 => by
    constructor
    intro a hs
    have hy : yielded ops a.tmps j = some x := by
      have := hs.slot d
      rw [hx] at this
      simp [yielded, hj]
      have h3 : a.tmps[d]? = some (.bool x) := by
        rw [Array.getD_eq_getD_getElem?] at this
        cases h4 : a.tmps[d]? with
        | none => rw [h4] at this; simp [undef] at this
        | some u => rw [h4] at this; simpa using this
      simp [h3]
    by_cases e : x = b
    · subst e; exact ((h1 rfl).of a hs).guard hy
    · exact ⟨undef, .inr ⟨by simp [Region.wanted, hy, e], rfl⟩, (h2 (by cases x <;> cases b <;> simp_all)).of _ (hs.put hd undef)⟩
  guardU := fun hj hx hd h2 => ⟨fun a hs => ⟨undef, .inr ⟨by simp [Region.wanted, yielded_undef hs hj hx], rfl⟩, h2.of _ (hs.put hd undef)⟩⟩
/-- A call that hands back just this value, and of whose memory nothing need be told. -/
theorem hd_call {f : FuncId} {xs : List Operand} {ts : Array TypeId} {args : List Value} {v : Value} (hxs : evs fr xs = args) (hd : dOk c.n dst = true) (hf : Fn c.P c.w0 c.B f args H (fun u H' => u = v ∧ H' = H))
    (h : HD c ops K rest (updO fr dst v) H) : HD c ops K (⟨dst, .call { callee := .value (.func f), args := xs.toArray, argTypes := ts }, ty, pos, after, none⟩ :: rest) fr H := ⟨fun a hs => by
  obtain ⟨⟨fn, h1, h2, h3⟩, hc⟩ := hf
  refine ⟨v, .inl ⟨by simp [Region.wanted], .inr ⟨f, args.toArray, fun w hw => ⟨?_, (hc w hw).mono fun e w' ⟨u, H', he, hw', hu, hH⟩ => ⟨by rw [he, hu], by rw [← hH]; exact hw'⟩⟩⟩⟩, h.of _ (hs.put hd v)⟩
  have hargs : (xs.toArray.map a.eval) = args.toArray := by rw [hs.eval, ← hxs, evs_eq]; simp
  simp only [execOp, resolve, hargs]
  have h2' : ¬ (fn.name = "runtime.NumGoroutine") := by simpa using h2
  have h3' : ¬ (fn.body = none) := by intro h; rw [h] at h3; cases h3
  simp [Act.eval, Deferred.ofValue, invoke, callFunc, program, Sem.run, h1, h2', h3']⟩
theorem DI.mono {L L' : Act → Prop} (hL : ∀ a, L a → L' a) : ∀ {l : List Oper} {a : Act}, DI c ops H L l a → DI c ops H L' l a
  | [], _, h => hL _ h
  | _ :: _, _, ⟨v, h1, h2⟩ => ⟨v, h1, DI.mono hL h2⟩
theorem hc_draw {id : Nat} {l : List Oper} (hm : c.P.follows .mixedOrders = true) (hB : Region.lexB .any l.toArray = true) (h : HD c l.toArray (fun fr' => Q .normal fr' H) l fr H) : HC c (.region id l.toArray true) Q fr H := ⟨fun a w hs hw =>
  wp_draw hm hB hw ((h.of a hs).mono fun a' ⟨fr', hs', hQ⟩ w' hw' => ⟨fr', H, hs', hw', hQ⟩)⟩
/-- The last operations, from the n-th on, go in the text's order: those may write. -/
theorem hc_drawT {id : Nat} {l : List Oper} (n : Nat) (hm : c.P.follows .mixedOrders = true) (hB : Region.lexTailB .any l.toArray n = true) (h : HD c l.toArray (fun fr' => HL c l.toArray Q (l.drop n) fr' H) (l.take n) fr H) :
    HC c (.region id l.toArray true) Q fr H := ⟨fun a w hs hw =>
  wp_drawT n hm hB hw ((h.of a hs).mono fun a' ⟨fr', hs', hQ⟩ w' hw' => hQ.of a' w' hs' hw')⟩
/-- Only the last operation may write. -/
theorem hc_drawS {id : Nat} {l : List Oper} (hm : c.P.follows .mixedOrders = true) (hB : Region.lexTailB .any l.toArray (l.length - 1) = true) (h : HD c l.toArray (fun fr' => HL c l.toArray Q (l.drop (l.length - 1)) fr' H) (l.take (l.length - 1)) fr H) :
    HC c (.region id l.toArray true) Q fr H := hc_drawT _ hm hB h
end

end Go.Proofs.Ytoobhebbgbhahaa
namespace Go.Proofs.Ytoobhebbgbhahaa
open Go.RowKit

theorem Hp.cons2 {w0 w w' : World} {B : Nat} {H : List Ent} (h : Hp w0 B H w) (e : Ent) (hB : B ≤ e.g) (hn : e.g ∉ H.map Ent.g) (he : e.holds w') (hb : Below B w w')
    (hk : ∀ x ∈ H, w'.heap[x.g]? = w.heap[x.g]?) : Hp w0 B (e :: H) w' :=
  ⟨h.below.trans hb, Nat.le_trans h.lt hb.size, List.nodup_cons.2 ⟨hn, h.nodup⟩, fun x hx => by
    rcases List.mem_cons.1 hx with rfl | hx
    · exact ⟨hB, he⟩
    · exact ⟨(h.own x hx).1, (h.own x hx).2.of_block (hk x hx)⟩⟩
theorem Hp.fresh {w0 w : World} {B : Nat} {H : List Ent} (h : Hp w0 B H w) {g : Nat} (hg : w.heap.size ≤ g) : g ∉ H.map Ent.g := fun hm => by
  obtain ⟨x, hx, e⟩ := List.mem_map.1 hm
  have := (h.own x hx).2.lt
  omega

theorem made_one {z : Value} {zs : List Value} (hz : z.cells.toList = zs) (h1 : zs.length = 1) (n : Nat) : (madeCells z.cells n).toList = List.replicate n (zs.getD 0 undef) := by
  have hs : z.cells.size = 1 := by rw [← Array.length_toList, hz, h1]
  unfold madeCells
  rw [hs]
  simp only [Nat.mod_one]
  have : z.cells[0]! = zs.getD 0 undef := by
    rw [← hz]
    have h0 : 0 < z.cells.size := by omega
    simp [h0]
  rw [this]
  simp [Array.toList_map, Array.toList_range, List.map_const']

section
variable {c : Cx} {Q : Pst} {fr : Fr} {H F : List Ent} {ops : Array Oper} {rest : List Oper} {dst : Option Nat} {ty : TypeId} {pos : String} {after : Array Edge}
variable {x y s : Operand} {T e : TypeId} {g sz k by_ : Nat} {C : List Value} {z : Value} {S : List Oper → Fr → List Ent → Prop}

theorem run_append_ent [hT : TSlc c.P T e] [hsz : TSz c.P e sz] [hby : TByt c.P e by_] [hz : TZero c.P e z] {n cap m cx : Nat} {a : Option Addr} {news : List Value} {w : World} (hw : Hp c.w0 c.B H w) (h0 : 0 < sz) (hzs : z.cells.size = sz)
    (ht : Take H ⟨g, e, C, cap * sz⟩ F) (hC : C.length = n * sz) (hcap : cap ≤ 9223372036854775807) (hr : Rds c.w0 c.B H a news) (hn : news.length = m * sz) (hb : (n + m) * by_ ≤ 140737488355328) (hmx : n + m ≤ 9223372036854775807) (ty : TypeId) (hnc : n ≤ cap) (hT9 : e ≠ mapTag) :
    ∃ g' cap' w', (Builtin.append_ #[T, T] ty #[.slice (some ⟨g, 0, none⟩) n cap, .slice a m cx]).run c.P w = .ok (.slice (some ⟨g', 0, none⟩) (n + m) cap') w' ∧ n + m ≤ cap' ∧ cap' ≤ 9223372036854775807 ∧
      Hp c.w0 c.B (⟨g', e, C ++ news, cap' * sz⟩ :: F) w' := by
  obtain ⟨inf, hi, hs⟩ := hsz.info
  obtain ⟨inf2, hi2, hzz⟩ := Option.bind_eq_some_iff.1 hz.h
  have e2 := Option.some.inj (hi2.symm.trans hi)
  subst e2
  obtain ⟨inf3, hi3, hbb⟩ := Option.map_eq_some_iff.1 hby.h
  have e3 := Option.some.inj (hi3.symm.trans hi)
  subst e3
  have hwt := hw.take ht
  obtain ⟨hB, hh9⟩ := hwt.own _ (List.mem_cons_self ..)
  obtain ⟨A, mk, hA, hk, hP⟩ := hh9.cells hT9
  dsimp only at hA hk hP hB
  have hncap : n ≤ cap := hnc
  replace hk : mk = (0, 0) ∧ A.size = cap * sz := by
    rcases hk with h | ⟨h1, h2, _⟩
    · exact h
    · refine absurd (List.eq_nil_of_length_eq_zero ?_) h2
      have h3 : n * sz ≤ cap * sz := Nat.mul_le_mul_right _ hnc
      rw [h1] at h3
      omega
  obtain ⟨rfl, hk⟩ := hk
  have hown : w.ownsRow c.B e sz (.slice (some ⟨g, 0, none⟩) n cap) n C :=
    ⟨hC, .inr ⟨g, cap, A, rfl, hB, hA, hncap, by unfold maxLen; exact hcap, hk, by rw [← hC]; exact List.prefix_iff_eq_take.1 hP |>.symm⟩⟩
  cases a with
  | none =>
    have hnil := hr.nil rfl
    subst hnil
    have hm : m = 0 := by
      have : m * sz = 0 := by simpa using hn.symm
      rcases Nat.mul_eq_zero.1 this with h | h
      · exact h
      · omega
    subst hm
    refine ⟨g, cap, w, ?_, by omega, hcap, ?_⟩
    · simp [Builtin.append_, run_underlying hT.h, sizeOf_sz (T := e) (n := sz), Builtin.lenOf, hncap, Builtin.firstCells, storeCells]
    · rw [List.append_nil]; exact hwt
  | some ad =>
    obtain ⟨v', w', hrun, h2, h3, h4, h5⟩ := run_append_own_at (P := c.P) w c.B T ty e _ z sz by_ hT.h hi hzz hs hbb hzs h0 _ n C hown ad m cx news hn (fun j u hu => hr.cell w hw ad rfl j u hu) hr.one (by unfold maxLen; exact hmx) hb hw.lt
    rcases h2.2 with ⟨rfl, _⟩ | ⟨g', cap', cur, rfl, hg', hcur, hle, hmax, hsize, htake⟩
    · have := (h4.1 rfl).1; cases this
    · refine ⟨g', cap', w', hrun, hle, by unfold maxLen at hmax; exact hmax, ?_⟩
      refine hwt.drop.cons2 ⟨g', e, C ++ news, cap' * sz⟩ hg' ?_ (.inl ⟨hT9, cur, (0, 0), hcur, .inl ⟨rfl, hsize⟩, ?_⟩) ⟨h3.os, h3.tape, h3.output, h3.size, fun k hk => h3.block k (by have := hw.lt; omega) (fun he => by simp only [Value.ownBlock, Option.some.injEq] at he; omega)⟩
        (fun x hx => h3.block x.g (hwt.drop.own x hx).2.lt (fun he => by
          simp only [Value.ownBlock, Option.some.injEq] at he
          exact hwt.notin (List.mem_map.2 ⟨x, hx, he⟩)))
      · simp only [Value.ownBlock, Option.some.injEq] at h5
        rcases h5 with h5 | h5
        · rw [h5]; exact hwt.notin
        · exact hwt.drop.fresh (by rw [h5]; exact Nat.le_refl _)
      · dsimp only; rw [← htake]; exact List.take_prefix _ _

theorem run_append_nil' [hT : TSlc c.P T e] [hsz : TSz c.P e sz] [hby : TByt c.P e by_] [hz : TZero c.P e z] {m cx : Nat} {a : Option Addr} {news : List Value} {w : World} (hw : Hp c.w0 c.B H w) (h0 : 0 < sz) (hzs : z.cells.size = sz)
    (hr : Rds c.w0 c.B H a news) (hn : news.length = m * sz) (hb : m * by_ ≤ 140737488355328) (hmx : m ≤ 9223372036854775807) (ty : TypeId) (hT9 : e ≠ mapTag) :
    (m = 0 ∧ (Builtin.append_ #[T, T] ty #[.slice none 0 0, .slice a m cx]).run c.P w = .ok (.slice none 0 0) w) ∨ (0 < m ∧ ∃ g' cap' w', (Builtin.append_ #[T, T] ty #[.slice none 0 0, .slice a m cx]).run c.P w = .ok (.slice (some ⟨g', 0, none⟩) m cap') w' ∧ m ≤ cap' ∧ cap' ≤ 9223372036854775807 ∧
      Hp c.w0 c.B (⟨g', e, news, cap' * sz⟩ :: H) w') := by
  obtain ⟨inf, hi, hs⟩ := hsz.info
  obtain ⟨inf2, hi2, hzz⟩ := Option.bind_eq_some_iff.1 hz.h
  have e2 := Option.some.inj (hi2.symm.trans hi)
  subst e2
  obtain ⟨inf3, hi3, hbb⟩ := Option.map_eq_some_iff.1 hby.h
  have e3 := Option.some.inj (hi3.symm.trans hi)
  subst e3
  by_cases hm : m = 0
  · subst hm
    refine .inl ⟨rfl, ?_⟩
    have hnl : news = [] := List.eq_nil_of_length_eq_zero (by simpa using hn)
    cases a <;> simp [Builtin.append_, run_underlying hT.h, sizeOf_sz (T := e) (n := sz), Builtin.lenOf, Builtin.firstCells, loadCells, loadCellsFrom]
  · refine .inr ⟨by omega, ?_⟩
    cases a with
    | none =>
      have hnil := hr.nil rfl
      subst hnil
      have : m * sz = 0 := by simpa using hn.symm
      rcases Nat.mul_eq_zero.1 this with h | h <;> omega
    | some ad =>
      obtain ⟨v', w', hrun, h2, h3, h4, h5⟩ := run_append_own_at (P := c.P) w c.B T ty e _ z sz by_ hT.h hi hzz hs hbb hzs h0 _ 0 [] (World.ownsRow_nil w c.B e sz) ad m cx news hn (fun j u hu => hr.cell w hw ad rfl j u hu) hr.one (by unfold maxLen; omega) (by rw [Nat.zero_add]; exact hb) hw.lt
      rw [Nat.zero_add] at h2
      rw [List.nil_append] at h2
      rcases h2.2 with ⟨rfl, h6⟩ | ⟨g', cap', cur, rfl, hg', hcur, hle, hmax, hsize, htake⟩
      · exact absurd h6 hm
      · refine ⟨g', cap', w', hrun, hle, by unfold maxLen at hmax; exact hmax, ?_⟩
        refine hw.cons2 ⟨g', e, news, cap' * sz⟩ hg' ?_ (.inl ⟨hT9, cur, (0, 0), hcur, .inl ⟨rfl, hsize⟩, ?_⟩) ⟨h3.os, h3.tape, h3.output, h3.size, fun k hk => h3.block k (by have := hw.lt; omega) (fun he => by simp [Value.ownBlock] at he)⟩
          (fun x hx => h3.block x.g (hw.own x hx).2.lt (fun he => by simp [Value.ownBlock] at he))
        · have h5 : g' = w.heap.size := by simpa [Value.ownBlock] using h5
          exact hw.fresh (by rw [h5]; exact Nat.le_refl _)
        · dsimp only; rw [← htake]; exact List.take_prefix _ _

theorem hl_append [TSlc c.P T e] [TSz c.P e sz] [TByt c.P e by_] [TZero c.P e z] {n cap m cx : Nat} {a : Option Addr} {news : List Value} (hs : ev fr s = .slice (some ⟨g, 0, none⟩) n cap) (hx : ev fr x = .slice a m cx)
    (ht : Take H ⟨g, e, C, cap * sz⟩ F) (hC : C.length = n * sz) (hr : Rds c.w0 c.B H a news) (hn : news.length = m * sz) (hzs : z.cells.size = sz) (h0 : 0 < sz) (hcap : cap ≤ 9223372036854775807) (hb : (n + m) * by_ ≤ 140737488355328) (hmx : n + m ≤ 9223372036854775807) (hd : dOk c.n dst = true)
    (h : ∀ g' cap', n + m ≤ cap' → cap' ≤ 9223372036854775807 → HL c ops Q rest (updO fr dst (.slice (some ⟨g', 0, none⟩) (n + m) cap')) (⟨g', e, C ++ news, cap' * sz⟩ :: F)) (hnc : n ≤ cap := by omega) (hT9 : e ≠ mapTag := by first | assumption | decide) :
    HL c ops Q (⟨dst, .call { callee := .builtin .append, args := #[s, x], argTypes := #[T, T] }, ty, pos, after, none⟩ :: rest) fr H :=
  hl_some hd fun w hw => by
    obtain ⟨g', cap', w', h1, h2, h3, h4⟩ := run_append_ent (T := T) (e := e) (cx := cx) hw h0 hzs ht hC hcap hr hn hb hmx ty hnc hT9
    exact ⟨_, w', _, by simp only [execOp, resolve, invoke, builtin, Sem.run_bind, Sem.run_pure, Result.andThen_ok, List.map_toArray, List.map_cons, List.map_nil, hs, hx, h1], h4, h g' cap' h2 h3⟩
theorem hl_append_nil [TSlc c.P T e] [TSz c.P e sz] [TByt c.P e by_] [TZero c.P e z] {m cx : Nat} {a : Option Addr} {news : List Value} (hs : ev fr s = .slice none 0 0) (hx : ev fr x = .slice a m cx)
    (hr : Rds c.w0 c.B H a news) (hn : news.length = m * sz) (hzs : z.cells.size = sz) (h0 : 0 < sz) (hb : m * by_ ≤ 140737488355328) (hmx : m ≤ 9223372036854775807) (hd : dOk c.n dst = true)
    (hz : m = 0 → HL c ops Q rest (updO fr dst (.slice none 0 0)) H)
    (h : 0 < m → ∀ g' cap', m ≤ cap' → cap' ≤ 9223372036854775807 → HL c ops Q rest (updO fr dst (.slice (some ⟨g', 0, none⟩) m cap')) (⟨g', e, news, cap' * sz⟩ :: H)) (hT9 : e ≠ mapTag := by first | assumption | decide) :
    HL c ops Q (⟨dst, .call { callee := .builtin .append, args := #[s, x], argTypes := #[T, T] }, ty, pos, after, none⟩ :: rest) fr H :=
  hl_some hd fun w hw => by
    rcases run_append_nil' (T := T) (e := e) (cx := cx) hw h0 hzs hr hn hb hmx ty hT9 with ⟨h1, h2⟩ | ⟨h1, g', cap', w', h2, h3, h4, h5⟩
    · exact ⟨_, w, _, by simp only [execOp, resolve, invoke, builtin, Sem.run_bind, Sem.run_pure, Result.andThen_ok, List.map_toArray, List.map_cons, List.map_nil, hs, hx, h2], hw, hz h1⟩
    · exact ⟨_, w', _, by simp only [execOp, resolve, invoke, builtin, Sem.run_bind, Sem.run_pure, Result.andThen_ok, List.map_toArray, List.map_cons, List.map_nil, hs, hx, h2], h5, h h1 g' cap' h3 h4⟩

/-- A slice that is nil, or a row of the call's own. -/
def Own (e : TypeId) (sz : Nat) (v : Value) (n : Nat) (C : List Value) (F H : List Ent) : Prop :=
  (v = .slice none 0 0 ∧ n = 0 ∧ C = [] ∧ H.Perm F) ∨ ∃ g cap, v = .slice (some ⟨g, 0, none⟩) n cap ∧ n ≤ cap ∧ cap ≤ 9223372036854775807 ∧ C.length = n * sz ∧ H.Perm (⟨g, e, C, cap * sz⟩ :: F)
theorem Own.nil : Own e sz (.slice none 0 0) 0 [] H H := .inl ⟨rfl, rfl, rfl, List.Perm.refl _⟩
theorem Own.mk {n cap : Nat} (h1 : n ≤ cap) (h2 : cap ≤ 9223372036854775807) (h3 : C.length = n * sz) (hp : H.Perm (⟨g, e, C, cap * sz⟩ :: F)) : Own e sz (.slice (some ⟨g, 0, none⟩) n cap) n C F H :=
  .inr ⟨g, cap, rfl, h1, h2, h3, hp⟩
theorem Own.len {v : Value} {n : Nat} (h : Own e sz v n C F H) : C.length = n * sz := by
  rcases h with ⟨_, h1, h2, _⟩ | ⟨_, _, _, _, _, h, _⟩
  · subst h1 h2; simp
  · exact h
theorem Own.form {v : Value} {n : Nat} (h : Own e sz v n C F H) : ∃ a cap, v = .slice a n cap ∧ n ≤ cap ∧ cap ≤ 9223372036854775807 := by
  rcases h with ⟨h1, h2, _, _⟩ | ⟨g, cap, h1, h2, h3, _⟩
  · exact ⟨none, 0, by rw [h1, h2], by omega, by omega⟩
  · exact ⟨_, cap, h1, h2, h3⟩
theorem Own.posn {v : Value} {n : Nat} (h : Own e sz v n C F H) (hn : 0 < n) : ∃ g cap, v = .slice (some ⟨g, 0, none⟩) n cap ∧ n ≤ cap ∧ cap ≤ 9223372036854775807 ∧ C.length = n * sz ∧ H.Perm (⟨g, e, C, cap * sz⟩ :: F) := by
  rcases h with ⟨_, h, _⟩ | h
  · omega
  · exact h
theorem Own.perm {v : Value} {n : Nat} {H' : List Ent} (h : Own e sz v n C F H) (hp : H'.Perm H) : Own e sz v n C F H' := by
  rcases h with ⟨h1, h2, h3, h4⟩ | ⟨g, cap, h1, h2, h3, h4, h5⟩
  · exact .inl ⟨h1, h2, h3, hp.trans h4⟩
  · exact .inr ⟨g, cap, h1, h2, h3, h4, hp.trans h5⟩
theorem Own.permF {v : Value} {n : Nat} {F' : List Ent} (h : Own e sz v n C F H) (hp : F.Perm F') : Own e sz v n C F' H := by
  rcases h with ⟨h1, h2, h3, h4⟩ | ⟨g, cap, h1, h2, h3, h4, h5⟩
  · exact .inl ⟨h1, h2, h3, h4.trans hp⟩
  · exact .inr ⟨g, cap, h1, h2, h3, h4, h5.trans (hp.cons _)⟩
theorem Own.under {v : Value} {n : Nat} (h : Own e sz v n C F H) (x : Ent) : Own e sz v n C (x :: F) (x :: H) := by
  rcases h with ⟨h1, h2, h3, h4⟩ | ⟨g, cap, h1, h2, h3, h4, h5⟩
  · exact .inl ⟨h1, h2, h3, h4.cons _⟩
  · exact .inr ⟨g, cap, h1, h2, h3, h4, (h5.cons _).trans (List.Perm.swap _ _ _)⟩
theorem Own.rds {a : Option Addr} {n cap : Nat} (h : Own e sz (.slice a n cap) n C F H) (h1 : ∀ u ∈ C, u.oneCell' = true) : Rds c.w0 c.B H a C := by
  rcases h with ⟨h2, h3, h4, h5⟩ | ⟨g, cap', h2, _, _, h3, h4⟩
  · cases h2; subst h4; exact ⟨fun _ _ _ h => (by cases h), fun _ => rfl, fun _ h => (by cases h)⟩
  · cases h2
    exact (Rds.ent (i := 0) (n := C.length) .here (by simp) h1).perm h4
theorem Own.hp {v : Value} {n : Nat} (h : Own e sz v n C F H) {w0 w : World} {B : Nat} (hw : Hp w0 B H w) : Hp w0 B F w := by
  rcases h with ⟨_, _, _, h⟩ | ⟨g, cap, _, _, _, _, h⟩
  · exact hw.perm h
  · exact (hw.perm h).drop
theorem HC.perm {code : Code} {H' : List Ent} (h : HC c code Q fr H') (hp : H.Perm H') : HC c code Q fr H := ⟨fun a w hs hw => h.of a w hs (hw.perm hp)⟩
theorem HL.perm {l : List Oper} {H' : List Ent} (h : HL c ops Q l fr H') (hp : H.Perm H') : HL c ops Q l fr H := ⟨fun a w hs hw => h.of a w hs (hw.perm hp)⟩
theorem HC.drop {code : Code} {x : Ent} (h : HC c code Q fr H) : HC c code Q fr (x :: H) := ⟨fun a w hs hw => h.of a w hs hw.drop⟩
theorem HL.drop {l : List Oper} {x : Ent} (h : HL c ops Q l fr H) : HL c ops Q l fr (x :: H) := ⟨fun a w hs hw => h.of a w hs hw.drop⟩
theorem HL.keep {l : List Oper} {x : Ent} (h : HL c ops Q l fr H) {H' : List Ent} (t : Take H' x H) : HL c ops Q l fr H' := h.drop.perm t.perm
theorem HC.keep {code : Code} {x : Ent} (h : HC c code Q fr H) {H' : List Ent} (t : Take H' x H) : HC c code Q fr H' := h.drop.perm t.perm
theorem hl_append_own [TSlc c.P T e] [TSz c.P e sz] [TByt c.P e by_] [TZero c.P e z] {n m cx : Nat} {v : Value} {a : Option Addr} {news : List Value} (hs : ev fr s = v) (hx : ev fr x = .slice a m cx)
    (ho : Own e sz v n C F H) (hr : Rds c.w0 c.B H a news) (hn : news.length = m * sz) (hzs : z.cells.size = sz) (h0 : 0 < sz) (hb : (n + m) * by_ ≤ 140737488355328) (hmx : n + m ≤ 9223372036854775807) (hd : dOk c.n dst = true)
    (h : ∀ v' H', Own e sz v' (n + m) (C ++ news) F H' → HL c ops Q rest (updO fr dst v') H') (hT9 : e ≠ mapTag := by first | assumption | decide) :
    HL c ops Q (⟨dst, .call { callee := .builtin .append, args := #[s, x], argTypes := #[T, T] }, ty, pos, after, none⟩ :: rest) fr H := by
  rcases ho with ⟨rfl, rfl, rfl, hp⟩ | ⟨g, cap, rfl, h1, h2, h3, hp⟩
  · simp only [Nat.zero_add] at hb hmx h
    refine hl_append_nil hs hx hr hn hzs h0 hb hmx hd (fun h1 => ?_) (fun h1 g' cap' h2 h3 => ?_)
    · subst h1
      have : news = [] := List.eq_nil_of_length_eq_zero (by simpa using hn)
      subst this
      exact h _ _ (.inl ⟨rfl, rfl, rfl, hp⟩)
    · exact h _ _ (.inr ⟨g', cap', rfl, h2, h3, by rw [List.nil_append]; exact hn, by rw [List.nil_append]; exact hp.cons _⟩)
  · exact (hl_append (hnc := h1) hs hx .here h3 (hr.perm hp.symm) hn hzs h0 h2 hb hmx hd fun g' cap' h4 h5 => h _ _ (.inr ⟨g', cap', rfl, h4, h5, by rw [List.length_append, h3, hn, Nat.add_mul], List.Perm.refl _⟩)).perm hp
/-- Something is appended: the row is told. -/
theorem hl_append_own1 [TSlc c.P T e] [TSz c.P e sz] [TByt c.P e by_] [TZero c.P e z] {n m cx : Nat} {v : Value} {a : Option Addr} {news : List Value} (hs : ev fr s = v) (hx : ev fr x = .slice a m cx)
    (ho : Own e sz v n C F H) (hr : Rds c.w0 c.B H a news) (hn : news.length = m * sz) (hzs : z.cells.size = sz) (h0 : 0 < sz) (hm : 0 < m) (hb : (n + m) * by_ ≤ 140737488355328) (hmx : n + m ≤ 9223372036854775807) (hd : dOk c.n dst = true)
    (h : ∀ g' cap', n + m ≤ cap' → cap' ≤ 9223372036854775807 → HL c ops Q rest (updO fr dst (.slice (some ⟨g', 0, none⟩) (n + m) cap')) (⟨g', e, C ++ news, cap' * sz⟩ :: F)) (hT9 : e ≠ mapTag := by first | assumption | decide) :
    HL c ops Q (⟨dst, .call { callee := .builtin .append, args := #[s, x], argTypes := #[T, T] }, ty, pos, after, none⟩ :: rest) fr H :=
  hl_append_own hs hx ho hr hn hzs h0 hb hmx hd (fun v' H' h1 => by
    obtain ⟨g', cap', rfl, h2, h3, h4, h5⟩ := h1.posn (by omega)
    exact (h g' cap' h2 h3).perm h5) hT9

theorem hl_make [hT : TSlc c.P T e] [hsz : TSz c.P e sz] [hby : TByt c.P e by_] [hz : TZero c.P e z] {n : Nat} (hx : ev fr x = .int .i64 (n : Int)) (hy : ev fr y = .int .i64 (n : Int)) (hb : by_ * n ≤ 281474976710656) (hmx : n ≤ 9223372036854775807) (hd : dOk c.n dst = true)
    (h : ∀ g, HL c ops Q rest (updO fr dst (.slice (some ⟨g, 0, none⟩) n n)) (⟨g, e, (madeCells z.cells (n * sz)).toList, n * sz⟩ :: H)) (hT9 : e ≠ mapTag := by first | assumption | decide) :
    HL c ops Q (⟨dst, .makeSlice T x y, ty, pos, after, none⟩ :: rest) fr H :=
  hl_some hd fun w hw => by
    obtain ⟨inf, hi, hs⟩ := hsz.info
    obtain ⟨inf2, hi2, hzz⟩ := Option.bind_eq_some_iff.1 hz.h
    have e2 := Option.some.inj (hi2.symm.trans hi)
    subst e2
    obtain ⟨inf3, hi3, hbb⟩ := Option.map_eq_some_iff.1 hby.h
    have e3 := Option.some.inj (hi3.symm.trans hi)
    subst e3
    have hb' : (inf3.bytes : Int) * (n : Int) ≤ 281474976710656 := by
      rw [hbb]
      have h1 : ((by_ * n : Nat) : Int) ≤ 281474976710656 := by omega
      rwa [Int.natCast_mul] at h1
    have hr := run_make (P := c.P) w T e _ z hT.h hi hzz .i64 .i64 n n (by omega) (by omega) hb' (by omega)
    rw [hs, Int.toNat_natCast] at hr
    exact ⟨_, _, _, by simp [execOp, hx, hy, hr], hw.new _ e _ (n * sz) (List.prefix_refl _) (by rw [size_madeCells]) hT9, h _⟩
theorem hl_make1 [TSlc c.P T e] [TSz c.P e 1] [TByt c.P e by_] [TZero c.P e z] {n : Nat} {z0 : Value} (hx : ev fr x = .int .i64 (n : Int)) (hy : ev fr y = .int .i64 (n : Int)) (hz0 : z.cells.toList = [z0]) (hb : by_ * n ≤ 281474976710656) (hmx : n ≤ 9223372036854775807) (hd : dOk c.n dst = true)
    (h : ∀ g, HL c ops Q rest (updO fr dst (.slice (some ⟨g, 0, none⟩) n n)) (⟨g, e, List.replicate n z0, n * 1⟩ :: H)) (hT9 : e ≠ mapTag := by first | assumption | decide) :
    HL c ops Q (⟨dst, .makeSlice T x y, ty, pos, after, none⟩ :: rest) fr H :=
  hl_make hx hy hb hmx hd (fun g => by rw [made_one hz0 rfl, Nat.mul_one]; simpa using h g) hT9

theorem hl_extract {vs : List Value} {i : Nat} {v : Value} [Stp c ops S] (hx : ev fr x = .tuple vs.toArray) (hv : vs[i]? = some v) (hd : dOk c.n dst = true) (h : S rest (updO fr dst v) H) :
    S (⟨dst, .extract x i, ty, pos, after, none⟩ :: rest) fr H :=
  hl_pure hd v (fun w _ => by simp [execOp, hx, Instr.extract, hv]) h
theorem hl_index {vs : List Value} {n m : Nat} {ik : IntKind} {j : Int} {v : Value} [Stp c ops S] [hT : TArr c.P T n e] [TOne c.P e] [TSz c.P e 1] (hx : ev fr x = .agg vs.toArray) (hy : ev fr y = .int ik j) (hj : j = (m : Int)) (hm : m < n) (hv : vs[m]? = some v) (hd : dOk c.n dst = true) (h : S rest (updO fr dst v) H) :
    S (⟨dst, .index T x y, ty, pos, after, none⟩ :: rest) fr H :=
  hl_pure hd v (fun w _ => by
    subst hj
    have h1 : (m : Int) < (n : Int) := by omega
    simp [execOp, hx, hy, Instr.index, asIntOf, run_underlying hT.h, h1, hm, sizeOf_sz (T := e) (n := 1), part, isAgg_one (T := e), hv]) h
theorem hl_min {k' : IntKind} {a b : Int} {ts : Array TypeId} [Stp c ops S] (hx : ev fr x = .int k' a) (hy : ev fr y = .int k' b) (hd : dOk c.n dst = true) (h : S rest (updO fr dst (.int k' (min a b))) H) :
    S (⟨dst, .call { callee := .builtin .min, args := #[x, y], argTypes := ts }, ty, pos, after, none⟩ :: rest) fr H :=
  hl_pure hd _ (fun w _ => by
    have : (if b < a then b else a) = min a b := by split <;> omega
    simp [execOp, resolve, invoke, builtin, Builtin.min_, Builtin.min2, hx, hy, this]) h
theorem hl_max {k' : IntKind} {a b : Int} {ts : Array TypeId} [Stp c ops S] (hx : ev fr x = .int k' a) (hy : ev fr y = .int k' b) (hd : dOk c.n dst = true) (h : S rest (updO fr dst (.int k' (max a b))) H) :
    S (⟨dst, .call { callee := .builtin .max, args := #[x, y], argTypes := ts }, ty, pos, after, none⟩ :: rest) fr H :=
  hl_pure hd _ (fun w _ => by
    have : (if b > a then b else a) = max a b := by split <;> omega
    have h2 : (if a < b then b else a) = max a b := by split <;> omega
    simp [execOp, resolve, invoke, builtin, Builtin.max_, Builtin.max2, hx, hy, this, h2]) h
/-- 's[i:j]', of a slice that is not nil. -/
theorem hl_slice {b off len cap i j : Nat} {lo hi : Option Operand} {ki kj : IntKind} [hT : TSlc c.P T e] [TSz c.P e sz] [Stp c ops S] (hx : ev fr x = .slice (some ⟨b, off, none⟩) len cap)
    (hlo : match lo with | some o => ev fr o = .int ki (i : Int) | none => i = 0) (hhi : match hi with | some o => ev fr o = .int kj (j : Int) | none => j = len) (hij : i ≤ j) (hj : j ≤ cap) (hd : dOk c.n dst = true)
    (h : ∀ off', (i < cap → off' = off + i * sz) → S rest (updO fr dst (.slice (some ⟨b, off', none⟩) (j - i) (cap - i))) H) :
    S (⟨dst, .slice T x lo hi none, ty, pos, after, none⟩ :: rest) fr H := by
  refine hl_pure hd _ (fun w _ => ?_) (h (if cap = i then off else off + i * sz) (fun h => by rw [if_neg (by omega)]))
  have h1 : ((i : Int) ≤ (j : Int)) := by omega
  have h2 : ((j : Int) ≤ (cap : Int)) := by omega
  have h3 : (0 : Int) ≤ (i : Int) := by omega
  have h4 : (0 : Int) ≤ (j : Int) := by omega
  have hb : (Instr.sliceBounds true len cap (lo.map (ev fr)) (hi.map (ev fr)) none).run c.P w = .ok (i, j, cap) w := by
    cases hi with
    | none =>
      dsimp only at hhi; subst hhi
      cases lo with
      | none => dsimp only at hlo; subst hlo; simp [Instr.sliceBounds]
      | some o => dsimp only at hlo; simp [Instr.sliceBounds, Instr.sliceBound, asIntOf, hlo, hij]
    | some o2 =>
      dsimp only at hhi
      cases lo with
      | none => dsimp only at hlo; subst hlo; simp [Instr.sliceBounds, Instr.sliceBound, asIntOf, hhi, hj]
      | some o => dsimp only at hlo; simp [Instr.sliceBounds, Instr.sliceBound, asIntOf, hlo, hhi, hij, hj]
  have hs : (Instr.sliceAt T (ev fr x) (lo.map (ev fr)) (hi.map (ev fr)) none).run c.P w = .ok (.slice (some ⟨b, (if cap = i then off else off + i * sz), none⟩) (j - i) (cap - i)) w := by
    simp only [Instr.sliceAt, Instr.slice, Sem.run_bind, run_underlying hT.h, Result.andThen_ok, hx, hb, sizeOf_sz (T := e) (n := sz), Sem.run_pure]
    by_cases hc : cap = i
    · simp [hc]
    · simp [hc, Addr.add_lit]
  simp [execOp, hs]
end

end Go.Proofs.Ytoobhebbgbhahaa
namespace Go.Proofs.Ytoobhebbgbhahaa
open Go.RowKit
theorem litc (n : Nat) : (@OfNat.ofNat Int n instOfNat) = ((@OfNat.ofNat Nat n (instOfNatNat n) : Nat) : Int) := rfl
class TEqG (P : Program) (T : TypeId) : Prop where h : P.eqGuardType P.depth T = false
class TBool (P : Program) (T : TypeId) : Prop where h : P.underlying T = some .bool
section
variable {c : Cx} {Q : Pst} {fr : Fr} {H F : List Ent} {ops : Array Oper} {rest : List Oper} {dst : Option Nat} {ty : TypeId} {pos : String} {after : Array Edge}
variable {x y z : Operand} {T u : TypeId} {S : List Oper → Fr → List Ent → Prop} [hS : Stp c ops S]
theorem is_move  (h : S (⟨dst, .move x, ty, pos, after, none⟩ :: rest) fr H) : S (⟨dst, .move x, ty, pos, after, none⟩ :: rest) fr H := h
theorem is_assign  (h : S (⟨dst, .assign x, ty, pos, after, none⟩ :: rest) fr H) : S (⟨dst, .assign x, ty, pos, after, none⟩ :: rest) fr H := h
theorem is_pick  (h : S (⟨dst, .pick x y z, ty, pos, after, none⟩ :: rest) fr H) : S (⟨dst, .pick x y z, ty, pos, after, none⟩ :: rest) fr H := h
theorem is_load  (h : S (⟨dst, .load T x, ty, pos, after, none⟩ :: rest) fr H) : S (⟨dst, .load T x, ty, pos, after, none⟩ :: rest) fr H := h
theorem is_nilCheck  (h : S (⟨dst, .nilCheck x, ty, pos, after, none⟩ :: rest) fr H) : S (⟨dst, .nilCheck x, ty, pos, after, none⟩ :: rest) fr H := h
theorem is_index (h : S (⟨dst, .index T x y, ty, pos, after, none⟩ :: rest) fr H) : S (⟨dst, .index T x y, ty, pos, after, none⟩ :: rest) fr H := h
theorem is_fieldAddr {f : Nat} (h : S (⟨dst, .fieldAddr T x f, ty, pos, after, none⟩ :: rest) fr H) : S (⟨dst, .fieldAddr T x f, ty, pos, after, none⟩ :: rest) fr H := h
theorem is_indexAddr  (h : S (⟨dst, .indexAddr T x y, ty, pos, after, none⟩ :: rest) fr H) : S (⟨dst, .indexAddr T x y, ty, pos, after, none⟩ :: rest) fr H := h
theorem is_conv  (h : S (⟨dst, .convert T u x, ty, pos, after, none⟩ :: rest) fr H) : S (⟨dst, .convert T u x, ty, pos, after, none⟩ :: rest) fr H := h
theorem is_un {o : UnOp} (h : S (⟨dst, .unOp o T x, ty, pos, after, none⟩ :: rest) fr H) : S (⟨dst, .unOp o T x, ty, pos, after, none⟩ :: rest) fr H := h
theorem is_call {k : Call} (h : S (⟨dst, .call k, ty, pos, after, none⟩ :: rest) fr H) : S (⟨dst, .call k, ty, pos, after, none⟩ :: rest) fr H := h
theorem is_build {ps : Array (Nat × Operand)} (h : S (⟨dst, .build T ps, ty, pos, after, none⟩ :: rest) fr H) : S (⟨dst, .build T ps, ty, pos, after, none⟩ :: rest) fr H := h
theorem is_extract {n : Nat} (h : S (⟨dst, .extract x n, ty, pos, after, none⟩ :: rest) fr H) : S (⟨dst, .extract x n, ty, pos, after, none⟩ :: rest) fr H := h
theorem is_add  (h : S (⟨dst, .binOp .add T x y u, ty, pos, after, none⟩ :: rest) fr H) : S (⟨dst, .binOp .add T x y u, ty, pos, after, none⟩ :: rest) fr H := h
theorem is_sub  (h : S (⟨dst, .binOp .sub T x y u, ty, pos, after, none⟩ :: rest) fr H) : S (⟨dst, .binOp .sub T x y u, ty, pos, after, none⟩ :: rest) fr H := h
theorem is_mul  (h : S (⟨dst, .binOp .mul T x y u, ty, pos, after, none⟩ :: rest) fr H) : S (⟨dst, .binOp .mul T x y u, ty, pos, after, none⟩ :: rest) fr H := h
theorem is_quo  (h : S (⟨dst, .binOp .quo T x y u, ty, pos, after, none⟩ :: rest) fr H) : S (⟨dst, .binOp .quo T x y u, ty, pos, after, none⟩ :: rest) fr H := h
theorem is_rem  (h : S (⟨dst, .binOp .rem T x y u, ty, pos, after, none⟩ :: rest) fr H) : S (⟨dst, .binOp .rem T x y u, ty, pos, after, none⟩ :: rest) fr H := h
theorem is_and  (h : S (⟨dst, .binOp .and T x y u, ty, pos, after, none⟩ :: rest) fr H) : S (⟨dst, .binOp .and T x y u, ty, pos, after, none⟩ :: rest) fr H := h
theorem is_or  (h : S (⟨dst, .binOp .or T x y u, ty, pos, after, none⟩ :: rest) fr H) : S (⟨dst, .binOp .or T x y u, ty, pos, after, none⟩ :: rest) fr H := h
theorem is_xor  (h : S (⟨dst, .binOp .xor T x y u, ty, pos, after, none⟩ :: rest) fr H) : S (⟨dst, .binOp .xor T x y u, ty, pos, after, none⟩ :: rest) fr H := h
theorem is_shl  (h : S (⟨dst, .binOp .shl T x y u, ty, pos, after, none⟩ :: rest) fr H) : S (⟨dst, .binOp .shl T x y u, ty, pos, after, none⟩ :: rest) fr H := h
theorem is_shr  (h : S (⟨dst, .binOp .shr T x y u, ty, pos, after, none⟩ :: rest) fr H) : S (⟨dst, .binOp .shr T x y u, ty, pos, after, none⟩ :: rest) fr H := h
theorem is_eql  (h : S (⟨dst, .binOp .eql T x y u, ty, pos, after, none⟩ :: rest) fr H) : S (⟨dst, .binOp .eql T x y u, ty, pos, after, none⟩ :: rest) fr H := h
theorem is_neq  (h : S (⟨dst, .binOp .neq T x y u, ty, pos, after, none⟩ :: rest) fr H) : S (⟨dst, .binOp .neq T x y u, ty, pos, after, none⟩ :: rest) fr H := h
theorem is_lss  (h : S (⟨dst, .binOp .lss T x y u, ty, pos, after, none⟩ :: rest) fr H) : S (⟨dst, .binOp .lss T x y u, ty, pos, after, none⟩ :: rest) fr H := h
theorem is_leq  (h : S (⟨dst, .binOp .leq T x y u, ty, pos, after, none⟩ :: rest) fr H) : S (⟨dst, .binOp .leq T x y u, ty, pos, after, none⟩ :: rest) fr H := h
theorem is_gtr  (h : S (⟨dst, .binOp .gtr T x y u, ty, pos, after, none⟩ :: rest) fr H) : S (⟨dst, .binOp .gtr T x y u, ty, pos, after, none⟩ :: rest) fr H := h
theorem is_geq  (h : S (⟨dst, .binOp .geq T x y u, ty, pos, after, none⟩ :: rest) fr H) : S (⟨dst, .binOp .geq T x y u, ty, pos, after, none⟩ :: rest) fr H := h
theorem is_guard {op : Op} {j : Nat} {b : Bool} (h : S (⟨dst, op, ty, pos, after, some (j, b)⟩ :: rest) fr H) : S (⟨dst, op, ty, pos, after, some (j, b)⟩ :: rest) fr H := h
theorem is_cons {o : Oper} (h : S (o :: rest) fr H) : S (o :: rest) fr H := h
include hS
theorem hl_moveI {i : IntKind} {a : Int} (hx : ev fr x = .int i a) (hd : dOk c.n dst = true) (k : S rest (updO fr dst (.int i a)) H) : S (⟨dst, .move x, ty, pos, after, none⟩ :: rest) fr H := hl_move hx hd k
theorem hl_assignI {i : IntKind} {a : Int} (hx : ev fr x = .int i a) (hd : dOk c.n dst = true) (k : S rest (updO fr dst (.int i a)) H) : S (⟨dst, .assign x, ty, pos, after, none⟩ :: rest) fr H := hl_assign hx hd k
theorem hl_moveB {b : Bool} (hx : ev fr x = .bool b) (hd : dOk c.n dst = true) (k : S rest (updO fr dst (.bool b)) H) : S (⟨dst, .move x, ty, pos, after, none⟩ :: rest) fr H := hl_move hx hd k
theorem hl_assignB {b : Bool} (hx : ev fr x = .bool b) (hd : dOk c.n dst = true) (k : S rest (updO fr dst (.bool b)) H) : S (⟨dst, .assign x, ty, pos, after, none⟩ :: rest) fr H := hl_assign hx hd k
theorem hl_moveP {a : Option Addr} (hx : ev fr x = .pointer a) (hd : dOk c.n dst = true) (k : S rest (updO fr dst (.pointer a)) H) : S (⟨dst, .move x, ty, pos, after, none⟩ :: rest) fr H := hl_move hx hd k
theorem hl_assignP {a : Option Addr} (hx : ev fr x = .pointer a) (hd : dOk c.n dst = true) (k : S rest (updO fr dst (.pointer a)) H) : S (⟨dst, .assign x, ty, pos, after, none⟩ :: rest) fr H := hl_assign hx hd k
theorem hl_moveS {a : Option Addr} {m n : Nat} (hx : ev fr x = .slice a m n) (hd : dOk c.n dst = true) (k : S rest (updO fr dst (.slice a m n)) H) : S (⟨dst, .move x, ty, pos, after, none⟩ :: rest) fr H := hl_move hx hd k
theorem hl_assignS {a : Option Addr} {m n : Nat} (hx : ev fr x = .slice a m n) (hd : dOk c.n dst = true) (k : S rest (updO fr dst (.slice a m n)) H) : S (⟨dst, .assign x, ty, pos, after, none⟩ :: rest) fr H := hl_assign hx hd k
theorem hl_moveT {s : ByteArray} (hx : ev fr x = .string s) (hd : dOk c.n dst = true) (k : S rest (updO fr dst (.string s)) H) : S (⟨dst, .move x, ty, pos, after, none⟩ :: rest) fr H := hl_move hx hd k
theorem hl_assignT {s : ByteArray} (hx : ev fr x = .string s) (hd : dOk c.n dst = true) (k : S rest (updO fr dst (.string s)) H) : S (⟨dst, .assign x, ty, pos, after, none⟩ :: rest) fr H := hl_assign hx hd k
theorem hl_moveA {l : Array Value} (hx : ev fr x = .agg l) (hd : dOk c.n dst = true) (k : S rest (updO fr dst (.agg l)) H) : S (⟨dst, .move x, ty, pos, after, none⟩ :: rest) fr H := hl_move hx hd k
theorem hl_assignA {l : Array Value} (hx : ev fr x = .agg l) (hd : dOk c.n dst = true) (k : S rest (updO fr dst (.agg l)) H) : S (⟨dst, .assign x, ty, pos, after, none⟩ :: rest) fr H := hl_assign hx hd k
theorem hl_moveU {l : Array Value} (hx : ev fr x = .tuple l) (hd : dOk c.n dst = true) (k : S rest (updO fr dst (.tuple l)) H) : S (⟨dst, .move x, ty, pos, after, none⟩ :: rest) fr H := hl_move hx hd k
theorem hl_assignU {l : Array Value} (hx : ev fr x = .tuple l) (hd : dOk c.n dst = true) (k : S rest (updO fr dst (.tuple l)) H) : S (⟨dst, .assign x, ty, pos, after, none⟩ :: rest) fr H := hl_assign hx hd k
theorem hl_pickTB {b : Bool} (hx : ev fr x = .bool true) (hy : ev fr y = .bool b) (hd : dOk c.n dst = true) (k : S rest (updO fr dst (.bool b)) H) : S (⟨dst, .pick x y z, ty, pos, after, none⟩ :: rest) fr H := hl_pickT hx hy hd k
theorem hl_pickFB {b : Bool} (hx : ev fr x = .bool false) (hz : ev fr z = .bool b) (hd : dOk c.n dst = true) (k : S rest (updO fr dst (.bool b)) H) : S (⟨dst, .pick x y z, ty, pos, after, none⟩ :: rest) fr H := hl_pickF hx hz hd k
theorem hl_pickTI {i : IntKind} {a : Int} (hx : ev fr x = .bool true) (hy : ev fr y = .int i a) (hd : dOk c.n dst = true) (k : S rest (updO fr dst (.int i a)) H) : S (⟨dst, .pick x y z, ty, pos, after, none⟩ :: rest) fr H := hl_pickT hx hy hd k
theorem hl_pickFI {i : IntKind} {a : Int} (hx : ev fr x = .bool false) (hz : ev fr z = .int i a) (hd : dOk c.n dst = true) (k : S rest (updO fr dst (.int i a)) H) : S (⟨dst, .pick x y z, ty, pos, after, none⟩ :: rest) fr H := hl_pickF hx hz hd k
theorem hl_lssT {i : IntKind} {a b : Int} (hx : ev fr x = .int i a) (hy : ev fr y = .int i b) (h : a < b) (hd : dOk c.n dst = true) (k : S rest (updO fr dst (.bool true)) H) : S (⟨dst, .binOp .lss T x y u, ty, pos, after, none⟩ :: rest) fr H := hl_lss hx hy hd (by rw [show (decide (a < b)) = true from decide_eq_true h]; exact k)
theorem hl_lssF {i : IntKind} {a b : Int} (hx : ev fr x = .int i a) (hy : ev fr y = .int i b) (h : b ≤ a) (hd : dOk c.n dst = true) (k : S rest (updO fr dst (.bool false)) H) : S (⟨dst, .binOp .lss T x y u, ty, pos, after, none⟩ :: rest) fr H := hl_lss hx hy hd (by rw [show (decide (a < b)) = false from decide_eq_false (by omega)]; exact k)
theorem hl_leqT {i : IntKind} {a b : Int} (hx : ev fr x = .int i a) (hy : ev fr y = .int i b) (h : a ≤ b) (hd : dOk c.n dst = true) (k : S rest (updO fr dst (.bool true)) H) : S (⟨dst, .binOp .leq T x y u, ty, pos, after, none⟩ :: rest) fr H := hl_leq hx hy hd (by rw [show (decide (a ≤ b)) = true from decide_eq_true h]; exact k)
theorem hl_leqF {i : IntKind} {a b : Int} (hx : ev fr x = .int i a) (hy : ev fr y = .int i b) (h : b < a) (hd : dOk c.n dst = true) (k : S rest (updO fr dst (.bool false)) H) : S (⟨dst, .binOp .leq T x y u, ty, pos, after, none⟩ :: rest) fr H := hl_leq hx hy hd (by rw [show (decide (a ≤ b)) = false from decide_eq_false (by omega)]; exact k)
theorem hl_gtrT {i : IntKind} {a b : Int} (hx : ev fr x = .int i a) (hy : ev fr y = .int i b) (h : b < a) (hd : dOk c.n dst = true) (k : S rest (updO fr dst (.bool true)) H) : S (⟨dst, .binOp .gtr T x y u, ty, pos, after, none⟩ :: rest) fr H := hl_gtr hx hy hd (by rw [show (decide (b < a)) = true from decide_eq_true h]; exact k)
theorem hl_gtrF {i : IntKind} {a b : Int} (hx : ev fr x = .int i a) (hy : ev fr y = .int i b) (h : a ≤ b) (hd : dOk c.n dst = true) (k : S rest (updO fr dst (.bool false)) H) : S (⟨dst, .binOp .gtr T x y u, ty, pos, after, none⟩ :: rest) fr H := hl_gtr hx hy hd (by rw [show (decide (b < a)) = false from decide_eq_false (by omega)]; exact k)
theorem hl_geqT {i : IntKind} {a b : Int} (hx : ev fr x = .int i a) (hy : ev fr y = .int i b) (h : b ≤ a) (hd : dOk c.n dst = true) (k : S rest (updO fr dst (.bool true)) H) : S (⟨dst, .binOp .geq T x y u, ty, pos, after, none⟩ :: rest) fr H := hl_geq hx hy hd (by rw [show (decide (b ≤ a)) = true from decide_eq_true h]; exact k)
theorem hl_geqF {i : IntKind} {a b : Int} (hx : ev fr x = .int i a) (hy : ev fr y = .int i b) (h : a < b) (hd : dOk c.n dst = true) (k : S rest (updO fr dst (.bool false)) H) : S (⟨dst, .binOp .geq T x y u, ty, pos, after, none⟩ :: rest) fr H := hl_geq hx hy hd (by rw [show (decide (b ≤ a)) = false from decide_eq_false (by omega)]; exact k)
theorem hl_eqlT {i : IntKind} {a b : Int} (hx : ev fr x = .int i a) (hy : ev fr y = .int i b) (h : a = b) (hd : dOk c.n dst = true) (k : S rest (updO fr dst (.bool true)) H) : S (⟨dst, .binOp .eql T x y u, ty, pos, after, none⟩ :: rest) fr H := hl_eql hx hy hd (by rw [show (decide (a = b)) = true from decide_eq_true h]; exact k)
theorem hl_eqlF {i : IntKind} {a b : Int} (hx : ev fr x = .int i a) (hy : ev fr y = .int i b) (h : a ≠ b) (hd : dOk c.n dst = true) (k : S rest (updO fr dst (.bool false)) H) : S (⟨dst, .binOp .eql T x y u, ty, pos, after, none⟩ :: rest) fr H := hl_eql hx hy hd (by rw [show (decide (a = b)) = false from decide_eq_false h]; exact k)
theorem hl_neqT {i : IntKind} {a b : Int} (hx : ev fr x = .int i a) (hy : ev fr y = .int i b) (h : a ≠ b) (hd : dOk c.n dst = true) (k : S rest (updO fr dst (.bool true)) H) : S (⟨dst, .binOp .neq T x y u, ty, pos, after, none⟩ :: rest) fr H := hl_neq hx hy hd (by rw [show (!decide (a = b)) = true from by rw [decide_eq_false h]; rfl]; exact k)
theorem hl_neqF {i : IntKind} {a b : Int} (hx : ev fr x = .int i a) (hy : ev fr y = .int i b) (h : a = b) (hd : dOk c.n dst = true) (k : S rest (updO fr dst (.bool false)) H) : S (⟨dst, .binOp .neq T x y u, ty, pos, after, none⟩ :: rest) fr H := hl_neq hx hy hd (by rw [show (!decide (a = b)) = false from by rw [decide_eq_true h]; rfl]; exact k)
omit hS in
theorem eqi_Pnil (d : Nat) {e : TypeId} {a : Option Addr} {w : World} [hT : TPtr c.P T e] : (Op.equalIn (d + 1) T (.pointer a) (.pointer none)).run c.P w = .ok a.isNone w := by
  cases a <;> simp [Op.equalIn, run_underlying hT.h]
omit hS in
theorem eqi_Snil (d : Nat) {m n e : Nat} {a : Option Addr} {w : World} [hT : TSlc c.P T e] : (Op.equalIn (d + 1) T (.slice a m n) (.slice none 0 0)).run c.P w = .ok a.isNone w := by
  cases a <;> simp [Op.equalIn, run_underlying hT.h]
theorem hl_eqPnil {a : Addr} {e : TypeId} [hT : TPtr c.P T e] (hx : ev fr x = .pointer (some a)) (hy : ev fr y = .pointer none) (hd : dOk c.n dst = true) (k : S rest (updO fr dst (.bool false)) H) : S (⟨dst, .binOp .eql T x y u, ty, pos, after, none⟩ :: rest) fr H :=
  hl_bin .eql hx hy hd (fun w => by simp [eqGuard_at_pointer]) (fun w => by
    show ((do pure (Value.bool (← Op.equalIn (9999 + 1) T (.pointer (some a)) (.pointer none))) : Sem Value).run c.P w) = _
    simp only [Sem.run_bind, eqi_Pnil, Result.andThen_ok, Sem.run_pure, Option.isNone_some]) k
theorem hl_nePnil {a : Addr} {e : TypeId} [hT : TPtr c.P T e] (hx : ev fr x = .pointer (some a)) (hy : ev fr y = .pointer none) (hd : dOk c.n dst = true) (k : S rest (updO fr dst (.bool true)) H) : S (⟨dst, .binOp .neq T x y u, ty, pos, after, none⟩ :: rest) fr H :=
  hl_bin .neq hx hy hd (fun w => by simp [eqGuard_at_pointer]) (fun w => by
    show ((do pure (Value.bool (!(← Op.equalIn (9999 + 1) T (.pointer (some a)) (.pointer none)))) : Sem Value).run c.P w) = _
    simp only [Sem.run_bind, eqi_Pnil, Result.andThen_ok, Sem.run_pure, Option.isNone_some, Bool.not_false]) k
theorem hl_eqPnn {e : TypeId} [hT : TPtr c.P T e] (hx : ev fr x = .pointer none) (hy : ev fr y = .pointer none) (hd : dOk c.n dst = true) (k : S rest (updO fr dst (.bool true)) H) : S (⟨dst, .binOp .eql T x y u, ty, pos, after, none⟩ :: rest) fr H :=
  hl_bin .eql hx hy hd (fun w => by simp [eqGuard_at_pointer]) (fun w => by
    show ((do pure (Value.bool (← Op.equalIn (9999 + 1) T (.pointer none) (.pointer none))) : Sem Value).run c.P w) = _
    simp only [Sem.run_bind, eqi_Pnil, Result.andThen_ok, Sem.run_pure, Option.isNone_none]) k
theorem hl_eqSnil {a : Addr} {m n e : Nat} [hT : TSlc c.P T e] (hx : ev fr x = .slice (some a) m n) (hy : ev fr y = .slice none 0 0) (hd : dOk c.n dst = true) (k : S rest (updO fr dst (.bool false)) H) : S (⟨dst, .binOp .eql T x y u, ty, pos, after, none⟩ :: rest) fr H :=
  hl_bin .eql hx hy hd (fun w => by simp [eqGuard_at_slice]) (fun w => by
    show ((do pure (Value.bool (← Op.equalIn (9999 + 1) T (.slice (some a) m n) (.slice none 0 0))) : Sem Value).run c.P w) = _
    simp only [Sem.run_bind, eqi_Snil, Result.andThen_ok, Sem.run_pure, Option.isNone_some]) k
theorem hl_eqSnn {m n e : Nat} [hT : TSlc c.P T e] (hx : ev fr x = .slice none m n) (hy : ev fr y = .slice none 0 0) (hd : dOk c.n dst = true) (k : S rest (updO fr dst (.bool true)) H) : S (⟨dst, .binOp .eql T x y u, ty, pos, after, none⟩ :: rest) fr H :=
  hl_bin .eql hx hy hd (fun w => by simp [eqGuard_at_slice]) (fun w => by
    show ((do pure (Value.bool (← Op.equalIn (9999 + 1) T (.slice none m n) (.slice none 0 0))) : Sem Value).run c.P w) = _
    simp only [Sem.run_bind, eqi_Snil, Result.andThen_ok, Sem.run_pure, Option.isNone_none]) k
theorem hl_eqB {a b : Bool} [hT : TBool c.P T] (hx : ev fr x = .bool a) (hy : ev fr y = .bool b) (hd : dOk c.n dst = true) (k : S rest (updO fr dst (.bool (a == b))) H) : S (⟨dst, .binOp .eql T x y u, ty, pos, after, none⟩ :: rest) fr H :=
  hl_bin .eql hx hy hd (fun w => by simp [eqGuard_at_bool]) (fun w => run_eql_bool w T a b hT.h) k
theorem hl_neB {a b : Bool} [hT : TBool c.P T] (hx : ev fr x = .bool a) (hy : ev fr y = .bool b) (hd : dOk c.n dst = true) (k : S rest (updO fr dst (.bool (!(a == b)))) H) : S (⟨dst, .binOp .neq T x y u, ty, pos, after, none⟩ :: rest) fr H :=
  hl_bin .neq hx hy hd (fun w => by simp [eqGuard_at_bool]) (fun w => run_neq_bool w T a b hT.h) k
/-- A whole block is read. -/
theorem hl_loadW {n g k T' : Nat} {C : List Value} [TAgg c.P T] [TSz c.P T n] (hx : ev fr x = .pointer (some ⟨g, 0, none⟩)) (ht : Take H ⟨g, T', C, k⟩ F) (hn : C.length = n) (hd : dOk c.n dst = true) (h : S rest (updO fr dst (.agg C.toArray)) H) : S (⟨dst, .load T x, ty, pos, after, none⟩ :: rest) fr H :=
  hl_loadN hx ht (by rw [List.drop_zero, List.take_of_length_le (by omega)]) hn hd h
/-- '==' between arrays of numbers. -/
theorem hl_eqArr {l m : List Int} {n e : Nat} [hT : TArr c.P T n e] [he : TInt c.P e .i64] [hs : TSz c.P e 1] (hx : ev fr x = arrV l) (hy : ev fr y = arrV m) [hG : TEqG c.P T] (hl : l.length = n) (hm : m.length = n) (hd : dOk c.n dst = true)
    (k : S rest (updO fr dst (.bool (l == m))) H) : S (⟨dst, .binOp .eql T x y u, ty, pos, after, none⟩ :: rest) fr H :=
  hl_bin .eql hx hy hd (fun w => by simp [eqGuard, arrV, program, Sem.run, hG.h]) (fun w => by
    rw [arrV, arrV, run_eql_struct, run_eq_arr (P := c.P) T e n hT.h he.h hs.h l m hl hm w]; rfl) k
theorem hl_eqArrT {l m : List Int} {n e : Nat} [TArr c.P T n e] [TInt c.P e .i64] [TSz c.P e 1] [TEqG c.P T] (hx : ev fr x = arrV l) (hy : ev fr y = arrV m) (hl : l.length = n) (hlm : l = m) (hd : dOk c.n dst = true)
    (k : S rest (updO fr dst (.bool true)) H) : S (⟨dst, .binOp .eql T x y u, ty, pos, after, none⟩ :: rest) fr H := hl_eqArr hx hy hl (hlm ▸ hl) hd (by rw [hlm, show (m == m) = true by simp]; exact k)
theorem hl_neArr {l m : List Int} {n e : Nat} [hT : TArr c.P T n e] [he : TInt c.P e .i64] [hs : TSz c.P e 1] (hx : ev fr x = arrV l) (hy : ev fr y = arrV m) [hG : TEqG c.P T] (hl : l.length = n) (hm : m.length = n) (hd : dOk c.n dst = true)
    (k : S rest (updO fr dst (.bool (!(l == m)))) H) : S (⟨dst, .binOp .neq T x y u, ty, pos, after, none⟩ :: rest) fr H :=
  hl_bin .neq hx hy hd (fun w => by simp [eqGuard, arrV, program, Sem.run, hG.h]) (fun w => by
    rw [arrV, arrV, run_neq_struct, run_eq_arr (P := c.P) T e n hT.h he.h hs.h l m hl hm w]; rfl) k
theorem hl_neArrF {l m : List Int} {n e : Nat} [TArr c.P T n e] [TInt c.P e .i64] [TSz c.P e 1] [TEqG c.P T] (hx : ev fr x = arrV l) (hy : ev fr y = arrV m) (hl : l.length = n) (hlm : l = m) (hd : dOk c.n dst = true)
    (k : S rest (updO fr dst (.bool false)) H) : S (⟨dst, .binOp .neq T x y u, ty, pos, after, none⟩ :: rest) fr H := hl_neArr hx hy hl (hlm ▸ hl) hd (by rw [hlm, show (m == m) = true by simp]; exact k)
end
section
variable {c : Cx} {Q : Pst} {fr : Fr} {H F : List Ent} {ops : Array Oper} {rest : List Oper} {dst : Option Nat} {ty : TypeId} {pos : String} {after : Array Edge} {x y : Operand} {T g j k T' : Nat} {C : List Value}
theorem is_store (h : HL c ops Q (⟨dst, .store T x y, ty, pos, after, none⟩ :: rest) fr H) : HL c ops Q (⟨dst, .store T x y, ty, pos, after, none⟩ :: rest) fr H := h
theorem is_box (h : HL c ops Q (⟨dst, .box T x, ty, pos, after, none⟩ :: rest) fr H) : HL c ops Q (⟨dst, .box T x, ty, pos, after, none⟩ :: rest) fr H := h
theorem hl_storeI {i : IntKind} {a : Int} [TSz c.P T 1] (hx : ev fr x = .pointer (some ⟨g, j, none⟩)) (hy : ev fr y = .int i a) (ht : Take H ⟨g, T', C, k⟩ F) (hi : j < C.length) (hd : dOk c.n dst = true) (h : HL c ops Q rest (updO fr dst undef) (⟨g, T', C.set j (.int i a), k⟩ :: F)) : HL c ops Q (⟨dst, .store T x y, ty, pos, after, none⟩ :: rest) fr H := hl_store1 hx hy rfl ht hi hd h
theorem hl_storeB {b : Bool} [TSz c.P T 1] (hx : ev fr x = .pointer (some ⟨g, j, none⟩)) (hy : ev fr y = .bool b) (ht : Take H ⟨g, T', C, k⟩ F) (hi : j < C.length) (hd : dOk c.n dst = true) (h : HL c ops Q rest (updO fr dst undef) (⟨g, T', C.set j (.bool b), k⟩ :: F)) : HL c ops Q (⟨dst, .store T x y, ty, pos, after, none⟩ :: rest) fr H := hl_store1 hx hy rfl ht hi hd h
theorem hl_boxB {b : Bool} (hx : ev fr x = .bool b) (hd : dOk c.n dst = true) (h : ∀ g, HL c ops Q rest (updO fr dst (.pointer (some ⟨g, 0, none⟩))) (⟨g, T, [.bool b], 1⟩ :: H)) (hT9 : T ≠ mapTag := by first | assumption | decide) : HL c ops Q (⟨dst, .box T x, ty, pos, after, none⟩ :: rest) fr H := hl_box hx rfl hd h hT9
theorem hl_storeP {a : Option Addr} [TSz c.P T 1] (hx : ev fr x = .pointer (some ⟨g, j, none⟩)) (hy : ev fr y = .pointer a) (ht : Take H ⟨g, T', C, k⟩ F) (hi : j < C.length) (hd : dOk c.n dst = true) (h : HL c ops Q rest (updO fr dst undef) (⟨g, T', C.set j (.pointer a), k⟩ :: F)) : HL c ops Q (⟨dst, .store T x y, ty, pos, after, none⟩ :: rest) fr H := hl_store1 hx hy rfl ht hi hd h
theorem hl_boxP {a : Option Addr} (hx : ev fr x = .pointer a) (hd : dOk c.n dst = true) (h : ∀ g, HL c ops Q rest (updO fr dst (.pointer (some ⟨g, 0, none⟩))) (⟨g, T, [.pointer a], 1⟩ :: H)) (hT9 : T ≠ mapTag := by first | assumption | decide) : HL c ops Q (⟨dst, .box T x, ty, pos, after, none⟩ :: rest) fr H := hl_box hx rfl hd h hT9
theorem hl_storeS {a : Option Addr} {m n : Nat} [TSz c.P T 1] (hx : ev fr x = .pointer (some ⟨g, j, none⟩)) (hy : ev fr y = .slice a m n) (ht : Take H ⟨g, T', C, k⟩ F) (hi : j < C.length) (hd : dOk c.n dst = true) (h : HL c ops Q rest (updO fr dst undef) (⟨g, T', C.set j (.slice a m n), k⟩ :: F)) : HL c ops Q (⟨dst, .store T x y, ty, pos, after, none⟩ :: rest) fr H := hl_store1 hx hy rfl ht hi hd h
theorem hl_boxS {a : Option Addr} {m n : Nat} (hx : ev fr x = .slice a m n) (hd : dOk c.n dst = true) (h : ∀ g, HL c ops Q rest (updO fr dst (.pointer (some ⟨g, 0, none⟩))) (⟨g, T, [.slice a m n], 1⟩ :: H)) (hT9 : T ≠ mapTag := by first | assumption | decide) : HL c ops Q (⟨dst, .box T x, ty, pos, after, none⟩ :: rest) fr H := hl_box hx rfl hd h hT9
theorem hl_storeT {s : ByteArray} [TSz c.P T 1] (hx : ev fr x = .pointer (some ⟨g, j, none⟩)) (hy : ev fr y = .string s) (ht : Take H ⟨g, T', C, k⟩ F) (hi : j < C.length) (hd : dOk c.n dst = true) (h : HL c ops Q rest (updO fr dst undef) (⟨g, T', C.set j (.string s), k⟩ :: F)) : HL c ops Q (⟨dst, .store T x y, ty, pos, after, none⟩ :: rest) fr H := hl_store1 hx hy rfl ht hi hd h
theorem hl_boxT {s : ByteArray} (hx : ev fr x = .string s) (hd : dOk c.n dst = true) (h : ∀ g, HL c ops Q rest (updO fr dst (.pointer (some ⟨g, 0, none⟩))) (⟨g, T, [.string s], 1⟩ :: H)) (hT9 : T ≠ mapTag := by first | assumption | decide) : HL c ops Q (⟨dst, .box T x, ty, pos, after, none⟩ :: rest) fr H := hl_box hx rfl hd h hT9
theorem hl_storeA {n : Nat} {l : List Value} [TSz c.P T n] (hx : ev fr x = .pointer (some ⟨g, 0, none⟩)) (hy : ev fr y = .agg l.toArray) (hn : l.length = n) (hv : ∀ u ∈ l, u.oneCell' = true) (ht : Take H ⟨g, T', C, k⟩ F) (hi : C.length = n) (hd : dOk c.n dst = true) (h : HL c ops Q rest (updO fr dst undef) (⟨g, T', l, k⟩ :: F)) (hn0 : 0 < n := by first | assumption | decide | omega) : HL c ops Q (⟨dst, .store T x y, ty, pos, after, none⟩ :: rest) fr H := hl_storeW hx hy hn hv ht hi hd h
end
section
variable {c : Cx} {Q : Pst} {fr : Fr} {H F : List Ent} {ops : Array Oper} {rest : List Oper} {dst : Option Nat} {ty : TypeId} {pos : String} {after : Array Edge} {x : Operand} {T : TypeId}
theorem hl_boxA {vs : List Value} (hx : ev fr x = .agg vs.toArray) (hd : dOk c.n dst = true) (h : ∀ g, HL c ops Q rest (updO fr dst (.pointer (some ⟨g, 0, none⟩))) (⟨g, T, vs, vs.length⟩ :: H)) (hT9 : T ≠ mapTag := by first | assumption | decide) :
    HL c ops Q (⟨dst, .box T x, ty, pos, after, none⟩ :: rest) fr H := hl_box hx rfl hd h hT9
theorem hl_boxI {i : IntKind} {a : Int} (hx : ev fr x = .int i a) (hd : dOk c.n dst = true) (h : ∀ g, HL c ops Q rest (updO fr dst (.pointer (some ⟨g, 0, none⟩))) (⟨g, T, [.int i a], 1⟩ :: H)) (hT9 : T ≠ mapTag := by first | assumption | decide) :
    HL c ops Q (⟨dst, .box T x, ty, pos, after, none⟩ :: rest) fr H := hl_box hx rfl hd h hT9
variable {K : Fr → List Ent → Prop} {i j : Nat}
theorem HC.imp {code : Code} {H' : List Ent} (h : HC c code Q fr H') (hi : Imp H H') : HC c code Q fr H := ⟨fun a w hs hw => h.of a w hs (hi _ _ _ hw)⟩
theorem HL.imp {l : List Oper} {H' : List Ent} (h : HL c ops Q l fr H') (hi : Imp H H') : HL c ops Q l fr H := ⟨fun a w hs hw => h.of a w hs (hi _ _ _ hw)⟩
theorem Imp.trans {H1 H2 H3 : List Ent} (h : Imp H1 H2) (h' : Imp H2 H3) : Imp H1 H3 := fun _ _ _ hw => h' _ _ _ (h _ _ _ hw)
theorem Own.imp {e sz n : Nat} {v : Value} {C : List Value} {F H : List Ent} (h : Own e sz v n C F H) : Imp H F := fun _ _ _ hw => h.hp hw
theorem Fn.imp {P : Program} {w0 : World} {B f : Nat} {args : List Value} {R : Value → List Ent → Prop} {H H' : List Ent} (h : Fn P w0 B f args H' R) (hi : Imp H H') : Fn P w0 B f args H R := ⟨h.fn, fun w hw => h.run w (hi _ _ _ hw)⟩
/-- A loop whose rounds leave blocks behind that nobody needs. -/
theorem hc_loopd {b : Code} (I : Nat → Fr → List Ent → Prop) (m : Nat) (h0 : I m fr H)
    (round : ∀ m fr H, I m fr H → HC c b (thn (fun fr H => ∃ m', m' < m ∧ ∃ H2, Imp H H2 ∧ I m' fr H2) Q) fr H) : HC c (.loop b) Q fr H :=
  hc_loop (fun m fr H => ∃ H2, Imp H H2 ∧ I m fr H2) m ⟨H, Imp.refl _, h0⟩ fun m fr H ⟨_, hi, h⟩ => HC.imp (round m fr _ h) hi
theorem thn_ret (h : Q .ret fr H) : thn K Q .ret fr H := h
theorem thn_exit (h : Q (.exit i) fr H) : thn K Q (.exit i) fr H := h
theorem thn_norm (h : K fr H) : thn K Q .normal fr H := h
theorem inB_ret (h : Q .ret fr H) : inB i Q .ret fr H := h
theorem inB_norm (h : Q .normal fr H) : inB i Q .normal fr H := h
theorem inB_here (h : Q .normal fr H) : inB i Q (.exit i) fr H := by unfold inB; simpa using h
theorem inB_there (hij : Nat.beq j i = false) (h : Q (.exit j) fr H) : inB i Q (.exit j) fr H := by
  have : j ≠ i := by intro e; subst e; simp at hij
  unfold inB; simpa [this] using h
variable {P : Program} {fn : Func} {R : Value → List Ent → Prop} {v v1 v2 v3 : Value}
theorem fin0 (hr : fn.results.toList = []) {H2 : List Ent} (h : R (.tuple #[]) H2) (hi : Imp H H2 := by first | exact (Imp.refl _) | exact (Imp.drop (Imp.refl _)) | exact (Imp.drop (Imp.drop (Imp.refl _))) | exact (Imp.drop (Imp.drop (Imp.drop (Imp.refl _)))) | exact (Imp.drop (Imp.drop (Imp.drop (Imp.drop (Imp.refl _))))) | exact (Imp.drop (Imp.drop (Imp.drop (Imp.drop (Imp.drop (Imp.refl _)))))) | exact (Imp.drop (Imp.drop (Imp.drop (Imp.drop (Imp.drop (Imp.drop (Imp.refl _))))))) | exact (Imp.drop (Imp.drop (Imp.drop (Imp.drop (Imp.drop (Imp.drop (Imp.drop (Imp.refl _)))))))) | exact (Imp.drop (Imp.drop (Imp.drop (Imp.drop (Imp.drop (Imp.drop (Imp.drop (Imp.drop (Imp.refl _))))))))) | exact (Imp.drop (Imp.drop (Imp.drop (Imp.drop (Imp.drop (Imp.drop (Imp.drop (Imp.drop (Imp.drop (Imp.refl _))))))))))) : Pfn P fn R .normal fr H := ⟨.inl rfl, [], H2, by rw [hr]; exact .nil, hi, h⟩
theorem fin0r (hr : fn.results.toList = []) {H2 : List Ent} (h : R (.tuple #[]) H2) (hi : Imp H H2 := by first | exact (Imp.refl _) | exact (Imp.drop (Imp.refl _)) | exact (Imp.drop (Imp.drop (Imp.refl _))) | exact (Imp.drop (Imp.drop (Imp.drop (Imp.refl _)))) | exact (Imp.drop (Imp.drop (Imp.drop (Imp.drop (Imp.refl _))))) | exact (Imp.drop (Imp.drop (Imp.drop (Imp.drop (Imp.drop (Imp.refl _)))))) | exact (Imp.drop (Imp.drop (Imp.drop (Imp.drop (Imp.drop (Imp.drop (Imp.refl _))))))) | exact (Imp.drop (Imp.drop (Imp.drop (Imp.drop (Imp.drop (Imp.drop (Imp.drop (Imp.refl _)))))))) | exact (Imp.drop (Imp.drop (Imp.drop (Imp.drop (Imp.drop (Imp.drop (Imp.drop (Imp.drop (Imp.refl _))))))))) | exact (Imp.drop (Imp.drop (Imp.drop (Imp.drop (Imp.drop (Imp.drop (Imp.drop (Imp.drop (Imp.drop (Imp.refl _))))))))))) : Pfn P fn R .ret fr H := ⟨.inr rfl, [], H2, by rw [hr]; exact .nil, hi, h⟩
theorem fin1 {t : Nat} (hr : fn.results.toList = [.tmp t]) (hv : fr t = v) {H2 : List Ent} (h : R v H2) (hi : Imp H H2 := by first | exact (Imp.refl _) | exact (Imp.drop (Imp.refl _)) | exact (Imp.drop (Imp.drop (Imp.refl _))) | exact (Imp.drop (Imp.drop (Imp.drop (Imp.refl _)))) | exact (Imp.drop (Imp.drop (Imp.drop (Imp.drop (Imp.refl _))))) | exact (Imp.drop (Imp.drop (Imp.drop (Imp.drop (Imp.drop (Imp.refl _)))))) | exact (Imp.drop (Imp.drop (Imp.drop (Imp.drop (Imp.drop (Imp.drop (Imp.refl _))))))) | exact (Imp.drop (Imp.drop (Imp.drop (Imp.drop (Imp.drop (Imp.drop (Imp.drop (Imp.refl _)))))))) | exact (Imp.drop (Imp.drop (Imp.drop (Imp.drop (Imp.drop (Imp.drop (Imp.drop (Imp.drop (Imp.refl _))))))))) | exact (Imp.drop (Imp.drop (Imp.drop (Imp.drop (Imp.drop (Imp.drop (Imp.drop (Imp.drop (Imp.drop (Imp.refl _))))))))))) : Pfn P fn R .ret fr H := ⟨.inr rfl, [fr t], H2, by rw [hr]; exact .tmp .nil, hi, by rw [hv]; exact h⟩
theorem fin1I {i : IntKind} {a : Int} {t : Nat} (hr : fn.results.toList = [.tmp t]) (hv : fr t = .int i a) {H2 : List Ent} (h : R (.int i a) H2) (hi : Imp H H2 := by first | exact (Imp.refl _) | exact (Imp.drop (Imp.refl _)) | exact (Imp.drop (Imp.drop (Imp.refl _))) | exact (Imp.drop (Imp.drop (Imp.drop (Imp.refl _)))) | exact (Imp.drop (Imp.drop (Imp.drop (Imp.drop (Imp.refl _))))) | exact (Imp.drop (Imp.drop (Imp.drop (Imp.drop (Imp.drop (Imp.refl _)))))) | exact (Imp.drop (Imp.drop (Imp.drop (Imp.drop (Imp.drop (Imp.drop (Imp.refl _))))))) | exact (Imp.drop (Imp.drop (Imp.drop (Imp.drop (Imp.drop (Imp.drop (Imp.drop (Imp.refl _)))))))) | exact (Imp.drop (Imp.drop (Imp.drop (Imp.drop (Imp.drop (Imp.drop (Imp.drop (Imp.drop (Imp.refl _))))))))) | exact (Imp.drop (Imp.drop (Imp.drop (Imp.drop (Imp.drop (Imp.drop (Imp.drop (Imp.drop (Imp.drop (Imp.refl _))))))))))) : Pfn P fn R .ret fr H := fin1 hr hv h hi
theorem fin1B {b : Bool} {t : Nat} (hr : fn.results.toList = [.tmp t]) (hv : fr t = .bool b) {H2 : List Ent} (h : R (.bool b) H2) (hi : Imp H H2 := by first | exact (Imp.refl _) | exact (Imp.drop (Imp.refl _)) | exact (Imp.drop (Imp.drop (Imp.refl _))) | exact (Imp.drop (Imp.drop (Imp.drop (Imp.refl _)))) | exact (Imp.drop (Imp.drop (Imp.drop (Imp.drop (Imp.refl _))))) | exact (Imp.drop (Imp.drop (Imp.drop (Imp.drop (Imp.drop (Imp.refl _)))))) | exact (Imp.drop (Imp.drop (Imp.drop (Imp.drop (Imp.drop (Imp.drop (Imp.refl _))))))) | exact (Imp.drop (Imp.drop (Imp.drop (Imp.drop (Imp.drop (Imp.drop (Imp.drop (Imp.refl _)))))))) | exact (Imp.drop (Imp.drop (Imp.drop (Imp.drop (Imp.drop (Imp.drop (Imp.drop (Imp.drop (Imp.refl _))))))))) | exact (Imp.drop (Imp.drop (Imp.drop (Imp.drop (Imp.drop (Imp.drop (Imp.drop (Imp.drop (Imp.drop (Imp.refl _))))))))))) : Pfn P fn R .ret fr H := fin1 hr hv h hi
theorem fin1P {a : Option Addr} {t : Nat} (hr : fn.results.toList = [.tmp t]) (hv : fr t = .pointer a) {H2 : List Ent} (h : R (.pointer a) H2) (hi : Imp H H2 := by first | exact (Imp.refl _) | exact (Imp.drop (Imp.refl _)) | exact (Imp.drop (Imp.drop (Imp.refl _))) | exact (Imp.drop (Imp.drop (Imp.drop (Imp.refl _)))) | exact (Imp.drop (Imp.drop (Imp.drop (Imp.drop (Imp.refl _))))) | exact (Imp.drop (Imp.drop (Imp.drop (Imp.drop (Imp.drop (Imp.refl _)))))) | exact (Imp.drop (Imp.drop (Imp.drop (Imp.drop (Imp.drop (Imp.drop (Imp.refl _))))))) | exact (Imp.drop (Imp.drop (Imp.drop (Imp.drop (Imp.drop (Imp.drop (Imp.drop (Imp.refl _)))))))) | exact (Imp.drop (Imp.drop (Imp.drop (Imp.drop (Imp.drop (Imp.drop (Imp.drop (Imp.drop (Imp.refl _))))))))) | exact (Imp.drop (Imp.drop (Imp.drop (Imp.drop (Imp.drop (Imp.drop (Imp.drop (Imp.drop (Imp.drop (Imp.refl _))))))))))) : Pfn P fn R .ret fr H := fin1 hr hv h hi
theorem fin1S {a : Option Addr} {m n : Nat} {t : Nat} (hr : fn.results.toList = [.tmp t]) (hv : fr t = .slice a m n) {H2 : List Ent} (h : R (.slice a m n) H2) (hi : Imp H H2 := by first | exact (Imp.refl _) | exact (Imp.drop (Imp.refl _)) | exact (Imp.drop (Imp.drop (Imp.refl _))) | exact (Imp.drop (Imp.drop (Imp.drop (Imp.refl _)))) | exact (Imp.drop (Imp.drop (Imp.drop (Imp.drop (Imp.refl _))))) | exact (Imp.drop (Imp.drop (Imp.drop (Imp.drop (Imp.drop (Imp.refl _)))))) | exact (Imp.drop (Imp.drop (Imp.drop (Imp.drop (Imp.drop (Imp.drop (Imp.refl _))))))) | exact (Imp.drop (Imp.drop (Imp.drop (Imp.drop (Imp.drop (Imp.drop (Imp.drop (Imp.refl _)))))))) | exact (Imp.drop (Imp.drop (Imp.drop (Imp.drop (Imp.drop (Imp.drop (Imp.drop (Imp.drop (Imp.refl _))))))))) | exact (Imp.drop (Imp.drop (Imp.drop (Imp.drop (Imp.drop (Imp.drop (Imp.drop (Imp.drop (Imp.drop (Imp.refl _))))))))))) : Pfn P fn R .ret fr H := fin1 hr hv h hi
theorem fin1T {s : ByteArray} {t : Nat} (hr : fn.results.toList = [.tmp t]) (hv : fr t = .string s) {H2 : List Ent} (h : R (.string s) H2) (hi : Imp H H2 := by first | exact (Imp.refl _) | exact (Imp.drop (Imp.refl _)) | exact (Imp.drop (Imp.drop (Imp.refl _))) | exact (Imp.drop (Imp.drop (Imp.drop (Imp.refl _)))) | exact (Imp.drop (Imp.drop (Imp.drop (Imp.drop (Imp.refl _))))) | exact (Imp.drop (Imp.drop (Imp.drop (Imp.drop (Imp.drop (Imp.refl _)))))) | exact (Imp.drop (Imp.drop (Imp.drop (Imp.drop (Imp.drop (Imp.drop (Imp.refl _))))))) | exact (Imp.drop (Imp.drop (Imp.drop (Imp.drop (Imp.drop (Imp.drop (Imp.drop (Imp.refl _)))))))) | exact (Imp.drop (Imp.drop (Imp.drop (Imp.drop (Imp.drop (Imp.drop (Imp.drop (Imp.drop (Imp.refl _))))))))) | exact (Imp.drop (Imp.drop (Imp.drop (Imp.drop (Imp.drop (Imp.drop (Imp.drop (Imp.drop (Imp.drop (Imp.refl _))))))))))) : Pfn P fn R .ret fr H := fin1 hr hv h hi
theorem fin1A {l : Array Value} {t : Nat} (hr : fn.results.toList = [.tmp t]) (hv : fr t = .agg l) {H2 : List Ent} (h : R (.agg l) H2) (hi : Imp H H2 := by first | exact (Imp.refl _) | exact (Imp.drop (Imp.refl _)) | exact (Imp.drop (Imp.drop (Imp.refl _))) | exact (Imp.drop (Imp.drop (Imp.drop (Imp.refl _)))) | exact (Imp.drop (Imp.drop (Imp.drop (Imp.drop (Imp.refl _))))) | exact (Imp.drop (Imp.drop (Imp.drop (Imp.drop (Imp.drop (Imp.refl _)))))) | exact (Imp.drop (Imp.drop (Imp.drop (Imp.drop (Imp.drop (Imp.drop (Imp.refl _))))))) | exact (Imp.drop (Imp.drop (Imp.drop (Imp.drop (Imp.drop (Imp.drop (Imp.drop (Imp.refl _)))))))) | exact (Imp.drop (Imp.drop (Imp.drop (Imp.drop (Imp.drop (Imp.drop (Imp.drop (Imp.drop (Imp.refl _))))))))) | exact (Imp.drop (Imp.drop (Imp.drop (Imp.drop (Imp.drop (Imp.drop (Imp.drop (Imp.drop (Imp.drop (Imp.refl _))))))))))) : Pfn P fn R .ret fr H := fin1 hr hv h hi
theorem fin2 {t t2 : Nat} (hr : fn.results.toList = [.tmp t, .tmp t2]) (hv : fr t = v) (hv2 : fr t2 = v2) {H2 : List Ent} (h : R (.tuple #[v, v2]) H2) (hi : Imp H H2 := by first | exact (Imp.refl _) | exact (Imp.drop (Imp.refl _)) | exact (Imp.drop (Imp.drop (Imp.refl _))) | exact (Imp.drop (Imp.drop (Imp.drop (Imp.refl _)))) | exact (Imp.drop (Imp.drop (Imp.drop (Imp.drop (Imp.refl _))))) | exact (Imp.drop (Imp.drop (Imp.drop (Imp.drop (Imp.drop (Imp.refl _)))))) | exact (Imp.drop (Imp.drop (Imp.drop (Imp.drop (Imp.drop (Imp.drop (Imp.refl _))))))) | exact (Imp.drop (Imp.drop (Imp.drop (Imp.drop (Imp.drop (Imp.drop (Imp.drop (Imp.refl _)))))))) | exact (Imp.drop (Imp.drop (Imp.drop (Imp.drop (Imp.drop (Imp.drop (Imp.drop (Imp.drop (Imp.refl _))))))))) | exact (Imp.drop (Imp.drop (Imp.drop (Imp.drop (Imp.drop (Imp.drop (Imp.drop (Imp.drop (Imp.drop (Imp.refl _))))))))))) : Pfn P fn R .ret fr H := ⟨.inr rfl, [fr t, fr t2], H2, by rw [hr]; exact .tmp (.tmp .nil), hi, by rw [hv, hv2]; exact h⟩
theorem fin2II {i : IntKind} {a : Int} {i' : IntKind} {a' : Int} {t t2 : Nat} {H2 : List Ent} (hr : fn.results.toList = [.tmp t, .tmp t2]) (hv : fr t = .int i a) (hv2 : fr t2 = .int i' a') (h : R (.tuple #[.int i a, .int i' a']) H2) (hi : Imp H H2 := by first | exact (Imp.refl _) | exact (Imp.drop (Imp.refl _)) | exact (Imp.drop (Imp.drop (Imp.refl _))) | exact (Imp.drop (Imp.drop (Imp.drop (Imp.refl _)))) | exact (Imp.drop (Imp.drop (Imp.drop (Imp.drop (Imp.refl _))))) | exact (Imp.drop (Imp.drop (Imp.drop (Imp.drop (Imp.drop (Imp.refl _)))))) | exact (Imp.drop (Imp.drop (Imp.drop (Imp.drop (Imp.drop (Imp.drop (Imp.refl _))))))) | exact (Imp.drop (Imp.drop (Imp.drop (Imp.drop (Imp.drop (Imp.drop (Imp.drop (Imp.refl _)))))))) | exact (Imp.drop (Imp.drop (Imp.drop (Imp.drop (Imp.drop (Imp.drop (Imp.drop (Imp.drop (Imp.refl _))))))))) | exact (Imp.drop (Imp.drop (Imp.drop (Imp.drop (Imp.drop (Imp.drop (Imp.drop (Imp.drop (Imp.drop (Imp.refl _))))))))))) : Pfn P fn R .ret fr H := fin2 hr hv hv2 h hi
theorem fin2IB {i : IntKind} {a : Int} {b' : Bool} {t t2 : Nat} {H2 : List Ent} (hr : fn.results.toList = [.tmp t, .tmp t2]) (hv : fr t = .int i a) (hv2 : fr t2 = .bool b') (h : R (.tuple #[.int i a, .bool b']) H2) (hi : Imp H H2 := by first | exact (Imp.refl _) | exact (Imp.drop (Imp.refl _)) | exact (Imp.drop (Imp.drop (Imp.refl _))) | exact (Imp.drop (Imp.drop (Imp.drop (Imp.refl _)))) | exact (Imp.drop (Imp.drop (Imp.drop (Imp.drop (Imp.refl _))))) | exact (Imp.drop (Imp.drop (Imp.drop (Imp.drop (Imp.drop (Imp.refl _)))))) | exact (Imp.drop (Imp.drop (Imp.drop (Imp.drop (Imp.drop (Imp.drop (Imp.refl _))))))) | exact (Imp.drop (Imp.drop (Imp.drop (Imp.drop (Imp.drop (Imp.drop (Imp.drop (Imp.refl _)))))))) | exact (Imp.drop (Imp.drop (Imp.drop (Imp.drop (Imp.drop (Imp.drop (Imp.drop (Imp.drop (Imp.refl _))))))))) | exact (Imp.drop (Imp.drop (Imp.drop (Imp.drop (Imp.drop (Imp.drop (Imp.drop (Imp.drop (Imp.drop (Imp.refl _))))))))))) : Pfn P fn R .ret fr H := fin2 hr hv hv2 h hi
theorem fin2BI {b : Bool} {i' : IntKind} {a' : Int} {t t2 : Nat} {H2 : List Ent} (hr : fn.results.toList = [.tmp t, .tmp t2]) (hv : fr t = .bool b) (hv2 : fr t2 = .int i' a') (h : R (.tuple #[.bool b, .int i' a']) H2) (hi : Imp H H2 := by first | exact (Imp.refl _) | exact (Imp.drop (Imp.refl _)) | exact (Imp.drop (Imp.drop (Imp.refl _))) | exact (Imp.drop (Imp.drop (Imp.drop (Imp.refl _)))) | exact (Imp.drop (Imp.drop (Imp.drop (Imp.drop (Imp.refl _))))) | exact (Imp.drop (Imp.drop (Imp.drop (Imp.drop (Imp.drop (Imp.refl _)))))) | exact (Imp.drop (Imp.drop (Imp.drop (Imp.drop (Imp.drop (Imp.drop (Imp.refl _))))))) | exact (Imp.drop (Imp.drop (Imp.drop (Imp.drop (Imp.drop (Imp.drop (Imp.drop (Imp.refl _)))))))) | exact (Imp.drop (Imp.drop (Imp.drop (Imp.drop (Imp.drop (Imp.drop (Imp.drop (Imp.drop (Imp.refl _))))))))) | exact (Imp.drop (Imp.drop (Imp.drop (Imp.drop (Imp.drop (Imp.drop (Imp.drop (Imp.drop (Imp.drop (Imp.refl _))))))))))) : Pfn P fn R .ret fr H := fin2 hr hv hv2 h hi
theorem fin2BB {b : Bool} {b' : Bool} {t t2 : Nat} {H2 : List Ent} (hr : fn.results.toList = [.tmp t, .tmp t2]) (hv : fr t = .bool b) (hv2 : fr t2 = .bool b') (h : R (.tuple #[.bool b, .bool b']) H2) (hi : Imp H H2 := by first | exact (Imp.refl _) | exact (Imp.drop (Imp.refl _)) | exact (Imp.drop (Imp.drop (Imp.refl _))) | exact (Imp.drop (Imp.drop (Imp.drop (Imp.refl _)))) | exact (Imp.drop (Imp.drop (Imp.drop (Imp.drop (Imp.refl _))))) | exact (Imp.drop (Imp.drop (Imp.drop (Imp.drop (Imp.drop (Imp.refl _)))))) | exact (Imp.drop (Imp.drop (Imp.drop (Imp.drop (Imp.drop (Imp.drop (Imp.refl _))))))) | exact (Imp.drop (Imp.drop (Imp.drop (Imp.drop (Imp.drop (Imp.drop (Imp.drop (Imp.refl _)))))))) | exact (Imp.drop (Imp.drop (Imp.drop (Imp.drop (Imp.drop (Imp.drop (Imp.drop (Imp.drop (Imp.refl _))))))))) | exact (Imp.drop (Imp.drop (Imp.drop (Imp.drop (Imp.drop (Imp.drop (Imp.drop (Imp.drop (Imp.drop (Imp.refl _))))))))))) : Pfn P fn R .ret fr H := fin2 hr hv hv2 h hi
theorem fin2PI {a : Option Addr} {i' : IntKind} {a' : Int} {t t2 : Nat} {H2 : List Ent} (hr : fn.results.toList = [.tmp t, .tmp t2]) (hv : fr t = .pointer a) (hv2 : fr t2 = .int i' a') (h : R (.tuple #[.pointer a, .int i' a']) H2) (hi : Imp H H2 := by first | exact (Imp.refl _) | exact (Imp.drop (Imp.refl _)) | exact (Imp.drop (Imp.drop (Imp.refl _))) | exact (Imp.drop (Imp.drop (Imp.drop (Imp.refl _)))) | exact (Imp.drop (Imp.drop (Imp.drop (Imp.drop (Imp.refl _))))) | exact (Imp.drop (Imp.drop (Imp.drop (Imp.drop (Imp.drop (Imp.refl _)))))) | exact (Imp.drop (Imp.drop (Imp.drop (Imp.drop (Imp.drop (Imp.drop (Imp.refl _))))))) | exact (Imp.drop (Imp.drop (Imp.drop (Imp.drop (Imp.drop (Imp.drop (Imp.drop (Imp.refl _)))))))) | exact (Imp.drop (Imp.drop (Imp.drop (Imp.drop (Imp.drop (Imp.drop (Imp.drop (Imp.drop (Imp.refl _))))))))) | exact (Imp.drop (Imp.drop (Imp.drop (Imp.drop (Imp.drop (Imp.drop (Imp.drop (Imp.drop (Imp.drop (Imp.refl _))))))))))) : Pfn P fn R .ret fr H := fin2 hr hv hv2 h hi
theorem fin2PB {a : Option Addr} {b' : Bool} {t t2 : Nat} {H2 : List Ent} (hr : fn.results.toList = [.tmp t, .tmp t2]) (hv : fr t = .pointer a) (hv2 : fr t2 = .bool b') (h : R (.tuple #[.pointer a, .bool b']) H2) (hi : Imp H H2 := by first | exact (Imp.refl _) | exact (Imp.drop (Imp.refl _)) | exact (Imp.drop (Imp.drop (Imp.refl _))) | exact (Imp.drop (Imp.drop (Imp.drop (Imp.refl _)))) | exact (Imp.drop (Imp.drop (Imp.drop (Imp.drop (Imp.refl _))))) | exact (Imp.drop (Imp.drop (Imp.drop (Imp.drop (Imp.drop (Imp.refl _)))))) | exact (Imp.drop (Imp.drop (Imp.drop (Imp.drop (Imp.drop (Imp.drop (Imp.refl _))))))) | exact (Imp.drop (Imp.drop (Imp.drop (Imp.drop (Imp.drop (Imp.drop (Imp.drop (Imp.refl _)))))))) | exact (Imp.drop (Imp.drop (Imp.drop (Imp.drop (Imp.drop (Imp.drop (Imp.drop (Imp.drop (Imp.refl _))))))))) | exact (Imp.drop (Imp.drop (Imp.drop (Imp.drop (Imp.drop (Imp.drop (Imp.drop (Imp.drop (Imp.drop (Imp.refl _))))))))))) : Pfn P fn R .ret fr H := fin2 hr hv hv2 h hi
theorem fin2SI {a : Option Addr} {m n : Nat} {i' : IntKind} {a' : Int} {t t2 : Nat} {H2 : List Ent} (hr : fn.results.toList = [.tmp t, .tmp t2]) (hv : fr t = .slice a m n) (hv2 : fr t2 = .int i' a') (h : R (.tuple #[.slice a m n, .int i' a']) H2) (hi : Imp H H2 := by first | exact (Imp.refl _) | exact (Imp.drop (Imp.refl _)) | exact (Imp.drop (Imp.drop (Imp.refl _))) | exact (Imp.drop (Imp.drop (Imp.drop (Imp.refl _)))) | exact (Imp.drop (Imp.drop (Imp.drop (Imp.drop (Imp.refl _))))) | exact (Imp.drop (Imp.drop (Imp.drop (Imp.drop (Imp.drop (Imp.refl _)))))) | exact (Imp.drop (Imp.drop (Imp.drop (Imp.drop (Imp.drop (Imp.drop (Imp.refl _))))))) | exact (Imp.drop (Imp.drop (Imp.drop (Imp.drop (Imp.drop (Imp.drop (Imp.drop (Imp.refl _)))))))) | exact (Imp.drop (Imp.drop (Imp.drop (Imp.drop (Imp.drop (Imp.drop (Imp.drop (Imp.drop (Imp.refl _))))))))) | exact (Imp.drop (Imp.drop (Imp.drop (Imp.drop (Imp.drop (Imp.drop (Imp.drop (Imp.drop (Imp.drop (Imp.refl _))))))))))) : Pfn P fn R .ret fr H := fin2 hr hv hv2 h hi
theorem fin2SB {a : Option Addr} {m n : Nat} {b' : Bool} {t t2 : Nat} {H2 : List Ent} (hr : fn.results.toList = [.tmp t, .tmp t2]) (hv : fr t = .slice a m n) (hv2 : fr t2 = .bool b') (h : R (.tuple #[.slice a m n, .bool b']) H2) (hi : Imp H H2 := by first | exact (Imp.refl _) | exact (Imp.drop (Imp.refl _)) | exact (Imp.drop (Imp.drop (Imp.refl _))) | exact (Imp.drop (Imp.drop (Imp.drop (Imp.refl _)))) | exact (Imp.drop (Imp.drop (Imp.drop (Imp.drop (Imp.refl _))))) | exact (Imp.drop (Imp.drop (Imp.drop (Imp.drop (Imp.drop (Imp.refl _)))))) | exact (Imp.drop (Imp.drop (Imp.drop (Imp.drop (Imp.drop (Imp.drop (Imp.refl _))))))) | exact (Imp.drop (Imp.drop (Imp.drop (Imp.drop (Imp.drop (Imp.drop (Imp.drop (Imp.refl _)))))))) | exact (Imp.drop (Imp.drop (Imp.drop (Imp.drop (Imp.drop (Imp.drop (Imp.drop (Imp.drop (Imp.refl _))))))))) | exact (Imp.drop (Imp.drop (Imp.drop (Imp.drop (Imp.drop (Imp.drop (Imp.drop (Imp.drop (Imp.drop (Imp.refl _))))))))))) : Pfn P fn R .ret fr H := fin2 hr hv hv2 h hi
theorem fin2AI {l : Array Value} {i' : IntKind} {a' : Int} {t t2 : Nat} {H2 : List Ent} (hr : fn.results.toList = [.tmp t, .tmp t2]) (hv : fr t = .agg l) (hv2 : fr t2 = .int i' a') (h : R (.tuple #[.agg l, .int i' a']) H2) (hi : Imp H H2 := by first | exact (Imp.refl _) | exact (Imp.drop (Imp.refl _)) | exact (Imp.drop (Imp.drop (Imp.refl _))) | exact (Imp.drop (Imp.drop (Imp.drop (Imp.refl _)))) | exact (Imp.drop (Imp.drop (Imp.drop (Imp.drop (Imp.refl _))))) | exact (Imp.drop (Imp.drop (Imp.drop (Imp.drop (Imp.drop (Imp.refl _)))))) | exact (Imp.drop (Imp.drop (Imp.drop (Imp.drop (Imp.drop (Imp.drop (Imp.refl _))))))) | exact (Imp.drop (Imp.drop (Imp.drop (Imp.drop (Imp.drop (Imp.drop (Imp.drop (Imp.refl _)))))))) | exact (Imp.drop (Imp.drop (Imp.drop (Imp.drop (Imp.drop (Imp.drop (Imp.drop (Imp.drop (Imp.refl _))))))))) | exact (Imp.drop (Imp.drop (Imp.drop (Imp.drop (Imp.drop (Imp.drop (Imp.drop (Imp.drop (Imp.drop (Imp.refl _))))))))))) : Pfn P fn R .ret fr H := fin2 hr hv hv2 h hi
theorem fin2AB {l : Array Value} {b' : Bool} {t t2 : Nat} {H2 : List Ent} (hr : fn.results.toList = [.tmp t, .tmp t2]) (hv : fr t = .agg l) (hv2 : fr t2 = .bool b') (h : R (.tuple #[.agg l, .bool b']) H2) (hi : Imp H H2 := by first | exact (Imp.refl _) | exact (Imp.drop (Imp.refl _)) | exact (Imp.drop (Imp.drop (Imp.refl _))) | exact (Imp.drop (Imp.drop (Imp.drop (Imp.refl _)))) | exact (Imp.drop (Imp.drop (Imp.drop (Imp.drop (Imp.refl _))))) | exact (Imp.drop (Imp.drop (Imp.drop (Imp.drop (Imp.drop (Imp.refl _)))))) | exact (Imp.drop (Imp.drop (Imp.drop (Imp.drop (Imp.drop (Imp.drop (Imp.refl _))))))) | exact (Imp.drop (Imp.drop (Imp.drop (Imp.drop (Imp.drop (Imp.drop (Imp.drop (Imp.refl _)))))))) | exact (Imp.drop (Imp.drop (Imp.drop (Imp.drop (Imp.drop (Imp.drop (Imp.drop (Imp.drop (Imp.refl _))))))))) | exact (Imp.drop (Imp.drop (Imp.drop (Imp.drop (Imp.drop (Imp.drop (Imp.drop (Imp.drop (Imp.drop (Imp.refl _))))))))))) : Pfn P fn R .ret fr H := fin2 hr hv hv2 h hi
theorem fin3 {t t2 t3 : Nat} (hr : fn.results.toList = [.tmp t, .tmp t2, .tmp t3]) (hv : fr t = v) (hv2 : fr t2 = v2) (hv3 : fr t3 = v3) {H2 : List Ent} (h : R (.tuple #[v, v2, v3]) H2) (hi : Imp H H2 := by first | exact (Imp.refl _) | exact (Imp.drop (Imp.refl _)) | exact (Imp.drop (Imp.drop (Imp.refl _))) | exact (Imp.drop (Imp.drop (Imp.drop (Imp.refl _)))) | exact (Imp.drop (Imp.drop (Imp.drop (Imp.drop (Imp.refl _))))) | exact (Imp.drop (Imp.drop (Imp.drop (Imp.drop (Imp.drop (Imp.refl _)))))) | exact (Imp.drop (Imp.drop (Imp.drop (Imp.drop (Imp.drop (Imp.drop (Imp.refl _))))))) | exact (Imp.drop (Imp.drop (Imp.drop (Imp.drop (Imp.drop (Imp.drop (Imp.drop (Imp.refl _)))))))) | exact (Imp.drop (Imp.drop (Imp.drop (Imp.drop (Imp.drop (Imp.drop (Imp.drop (Imp.drop (Imp.refl _))))))))) | exact (Imp.drop (Imp.drop (Imp.drop (Imp.drop (Imp.drop (Imp.drop (Imp.drop (Imp.drop (Imp.drop (Imp.refl _))))))))))) : Pfn P fn R .ret fr H :=
  ⟨.inr rfl, [fr t, fr t2, fr t3], H2, by rw [hr]; exact .tmp (.tmp (.tmp .nil)), hi, by rw [hv, hv2, hv3]; exact h⟩
theorem finC {t g T' k n : Nat} {C : List Value} {H2 : List Ent} (hr : fn.results.toList = [.cell t T]) (hp : fr t = .pointer (some ⟨g, 0, none⟩)) (ht : Take H ⟨g, T', C, k⟩ F) [TAgg P T] [hs : TSz P T n] (hn : C.length = n) (h : R (.agg C.toArray) H2) (hi : Imp H H2 := by first | exact (Imp.refl _) | exact (Imp.drop (Imp.refl _)) | exact (Imp.drop (Imp.drop (Imp.refl _))) | exact (Imp.drop (Imp.drop (Imp.drop (Imp.refl _)))) | exact (Imp.drop (Imp.drop (Imp.drop (Imp.drop (Imp.refl _))))) | exact (Imp.drop (Imp.drop (Imp.drop (Imp.drop (Imp.drop (Imp.refl _)))))) | exact (Imp.drop (Imp.drop (Imp.drop (Imp.drop (Imp.drop (Imp.drop (Imp.refl _))))))) | exact (Imp.drop (Imp.drop (Imp.drop (Imp.drop (Imp.drop (Imp.drop (Imp.drop (Imp.refl _)))))))) | exact (Imp.drop (Imp.drop (Imp.drop (Imp.drop (Imp.drop (Imp.drop (Imp.drop (Imp.drop (Imp.refl _))))))))) | exact (Imp.drop (Imp.drop (Imp.drop (Imp.drop (Imp.drop (Imp.drop (Imp.drop (Imp.drop (Imp.drop (Imp.refl _))))))))))) : Pfn P fn R .ret fr H :=
  have : TSz P T C.length := hn ▸ hs
  ⟨.inr rfl, [.agg C.toArray], H2, by rw [hr]; exact .cell hp ht .nil, hi, h⟩
/-- A place where ways meet again. -/
theorem is_HC {code : Code} (h : HC c code Q fr H) : HC c code Q fr H := h
theorem hc_cut {c1 c2 : Code} (M : Fr → List Ent → Prop) (h1 : HC c c1 (thn M Q) fr H) (h2 : ∀ fr H, M fr H → HC c c2 Q fr H) : HC c (.seq c1 c2) Q fr H :=
  hc_seq (h1.mono fun e fr H h => by cases e <;> first | exact h2 _ _ h | exact h)
/-- A loop of few rounds, one behind the other. -/
def RC (c : Cx) (b : Code) (Q : Pst) : Nat → Fr → List Ent → Prop
  | 0 => fun _ _ => False
  | n + 1 => HC c b (thn (RC c b Q n) Q)
theorem rc_succ {b : Code} {n : Nat} (h : HC c b (thn (RC c b Q n) Q) fr H) : RC c b Q (n + 1) fr H := h
theorem hc_rounds {b : Code} (n : Nat) (h : RC c b Q n fr H) : HC c (.loop b) Q fr H :=
  hc_loop (fun m fr H => RC c b Q m fr H) n h fun m fr H h => by
    cases m with
    | zero => exact h.elim
    | succ m => exact HC.mono h fun e fr H h => by cases e <;> first | exact ⟨m, Nat.lt_succ_self _, h⟩ | exact h
/-- A call that hands back just this value and leaves the memory. -/
theorem hl_callv {f : FuncId} {xs : List Operand} {ts : Array TypeId} {args : List Value} {v : Value} {ops : Array Oper} {rest : List Oper} {dst : Option Nat} {ty : TypeId} {pos : String} {after : Array Edge} (hxs : evs fr xs = args) (hd : dOk c.n dst = true)
    (hf : Fn c.P c.w0 c.B f args H (fun u H' => u = v ∧ H' = H)) (h : HL c ops Q rest (updO fr dst v) H) : HL c ops Q (⟨dst, .call { callee := .value (.func f), args := xs.toArray, argTypes := ts }, ty, pos, after, none⟩ :: rest) fr H :=
  hl_call hxs hd hf fun u H' ⟨h1, h2⟩ => by subst h1 h2; exact h
end

end Go.Proofs.Ytoobhebbgbhahaa
namespace Go.Proofs.Ytoobhebbgbhahaa
open Go.RowKit

/-- Parts laid into cells. -/
def fillP (place : Nat → Option (Nat × Nat)) : List Value → List (Nat × Value) → Option (List Value)
  | acc, [] => some acc
  | acc, (i, v) :: rest =>
    match place i with
    | none => none
    | some (off, size) => if v.cells.toList.length = size ∧ off + size ≤ acc.length then fillP place (acc.take off ++ v.cells.toList ++ acc.drop (off + size)) rest else none

theorem fold_seg : ∀ (vs : List Value) (off j : Nat) (A : Array Value), off + j + vs.length ≤ A.size →
    ((vs.zipIdx j).foldl (fun cs (p : Value × Nat) => cs.setIfInBounds (off + p.2) p.1) A).toList = A.toList.take (off + j) ++ vs ++ A.toList.drop (off + j + vs.length)
  | [], off, j, A, _ => by simp
  | v :: vs, off, j, A, h => by
    simp only [List.length_cons] at h
    have ih := fold_seg vs off (j + 1) (A.setIfInBounds (off + j) v) (by simp; omega)
    simp only [List.zipIdx_cons, List.foldl_cons, ih, Array.toList_setIfInBounds]
    rw [show off + (j + 1) = off + j + 1 by omega]
    have := list_seg_step A.toList (off + j) v vs (by simp; omega)
    simpa [Nat.add_assoc] using this

theorem fill_eq (place : Nat → Option (Nat × Nat)) : ∀ (parts : List (Nat × Value)) (A : Array Value) (cells : List Value), fillP place A.toList parts = some cells → Instr.fill place A parts = some cells.toArray
  | [], A, cells, h => by simp [fillP] at h; subst h; simp [Instr.fill]
  | (i, v) :: rest, A, cells, h => by
    unfold fillP at h
    unfold Instr.fill
    cases hp : place i with
    | none => rw [hp] at h; cases h
    | some q =>
      obtain ⟨off, size⟩ := q
      rw [hp] at h
      dsimp only at h
      split at h
      · rename_i hc
        obtain ⟨h1, h2⟩ := hc
        have hs : v.cells.size = size := by rw [← h1, Array.length_toList]
        have h2' : off + size ≤ A.size := by simpa using h2
        dsimp only
        rw [if_neg (by simp [hs]; omega)]
        refine fill_eq place rest _ cells ?_
        have := fold_seg v.cells.toList off 0 A (by rw [h1]; omega)
        simp only [Nat.add_zero, h1] at this
        rw [← h, ← this]
        congr 1
        rw [← Array.foldl_toList, Array.toList_zipIdx]
      · cases h

theorem flat_get (zs : List Value) (s : Nat) (hz : zs.length = s) (h0 : 0 < s) : ∀ (n i : Nat), i < n * s → (List.replicate n zs).flatten[i]? = zs[i % s]?
  | 0, i, h => by omega
  | n + 1, i, h => by
    rw [List.replicate_succ, List.flatten_cons, List.getElem?_append]
    split
    · rename_i hlt; rw [hz] at hlt; rw [Nat.mod_eq_of_lt hlt]
    · rename_i hge
      rw [hz] at hge ⊢
      have hge : s ≤ i := by omega
      rw [Nat.succ_mul] at h
      rw [flat_get zs s hz h0 n (i - s) (by omega), ← Nat.mod_eq_sub_mod hge]

def plB (P : Program) (T : TypeId) : Option (List (Nat × Nat)) :=
  match P.underlying T with
  | some (.struct fs) => fs.toList.mapM fun f => (P.info? f.type).map fun i => (f.offset, i.size)
  | _ => none
class TStruct (P : Program) (T : TypeId) (pl : outParam (List (Nat × Nat))) : Prop where h : plB P T = some pl

section
variable {c : Cx} {Q : Pst} {fr : Fr} {H F : List Ent} {ops : Array Oper} {rest : List Oper} {dst : Option Nat} {ty : TypeId} {pos : String} {after : Array Edge}
variable {T e : TypeId} {S : List Oper → Fr → List Ent → Prop}
theorem run_places {P : Program} {w : World} : ∀ (fs : List Field) (pl : List (Nat × Nat)), (fs.mapM fun f => (P.info? f.type).map fun i => (f.offset, i.size)) = some pl →
    (fs.mapM (m := Sem) fun f => do pure (f.offset, ← sizeOf f.type)).run P w = .ok pl w
  | [], pl, h => by simp at h; subst h; simp
  | f :: fs, pl, h => by
    rw [List.mapM_cons] at h
    cases hi : P.info? f.type with
    | none => simp [hi] at h
    | some i =>
      cases hr : (fs.mapM fun f => (P.info? f.type).map fun i => (f.offset, i.size)) with
      | none => simp [hi, hr] at h
      | some pl' =>
        simp [hi, hr] at h
        have ih := run_places (P := P) (w := w) fs pl' hr
        simp only [List.mapM_cons, sizeOf, typeInfo, program, Sem.run_bind, Sem.run, hi, Result.andThen_ok, Sem.run_pure] at ih ⊢
        rw [← h]
        simp only [Sem.run_bind, ih, Result.andThen_ok, Sem.run_pure]
theorem hl_build {pl : List (Nat × Nat)} {z : Value} {ps : List (Nat × Operand)} {vs : List (Nat × Value)} {cells : List Value} [hT : TStruct c.P T pl] [hz : TZero c.P T z] [Stp c ops S] (hps : evP fr ps = vs)
    (hf : fillP (fun i => pl[i]?) z.cells.toList vs = some cells) (hd : dOk c.n dst = true) (h : S rest (updO fr dst (.agg cells.toArray)) H) : S (⟨dst, .build T ps.toArray, ty, pos, after, none⟩ :: rest) fr H :=
  hl_pure hd _ (fun w _ => by
    obtain ⟨inf, hi, h0⟩ := Option.bind_eq_some_iff.1 hz.h
    have hT := hT.h
    unfold plB at hT
    cases hu : c.P.underlying T with
    | none => rw [hu] at hT; cases hT
    | some d =>
      cases d with
      | struct fs =>
        rw [hu] at hT
        dsimp only at hT
        have h1 := run_places (P := c.P) (w := w) fs.toList pl hT
        have h2 : (fs.mapM (m := Sem) fun f => do pure (f.offset, ← sizeOf f.type)).run c.P w = .ok pl.toArray w := by
          rw [Array.mapM_eq_mapM_toList]
          show ((List.toArray <$> (fs.toList.mapM (m := Sem) _)).run c.P w) = _
          simp only [map_eq_pure_bind, Sem.run_bind (x := (fs.toList.mapM (m := Sem) fun f => do pure (f.offset, ← sizeOf f.type))), h1, Result.andThen_ok, Sem.run_pure]
        have h3 := fill_eq (fun i => pl[i]?) vs z.cells cells hf
        have h4 : ((ps.toArray.map fun (i, x) => (i, ev fr x)).toList) = vs := by rw [← hps, evP_eq]; simp
        have h5 : (fun (i : Nat) => pl.toArray[i]?) = (fun (i : Nat) => pl[i]?) := by funext i; simp
        have hrun : (Instr.build T (ps.toArray.map fun (i, x) => (i, ev fr x))).run c.P w = .ok (.agg cells.toArray) w := by
          unfold Instr.build
          simp only [zeroValue, typeInfo, program, Sem.run_bind, Sem.run, hi, h0, Result.andThen_ok, Sem.run_pure, run_underlying hu]
          simp only [Sem.run_bind, sizeOf, typeInfo, program, Sem.run] at h2 ⊢
          rw [h2]
          simp only [Result.andThen_ok, h4, h5, h3, Sem.run_pure]
        simp only [execOp, Sem.run_bind, hrun, Result.andThen_ok, Sem.run_pure]
      | _ => rw [hu] at hT; cases hT) h
theorem hl_buildArr {n s : Nat} {z : Value} {ps : List (Nat × Operand)} {vs : List (Nat × Value)} {cells : List Value} [hT : TArr c.P T n e] [TSz c.P e s] [hz : TZero c.P T z] [Stp c ops S] (hps : evP fr ps = vs)
    (hf : fillP (fun i => some (i * s, s)) z.cells.toList vs = some cells) (hd : dOk c.n dst = true) (h : S rest (updO fr dst (.agg cells.toArray)) H) : S (⟨dst, .build T ps.toArray, ty, pos, after, none⟩ :: rest) fr H :=
  hl_pure hd _ (fun w _ => by
    obtain ⟨inf, hi, h0⟩ := Option.bind_eq_some_iff.1 hz.h
    have h3 := fill_eq (fun i => some (i * s, s)) vs z.cells cells hf
    have h4 : ((ps.toArray.map fun (i, x) => (i, ev fr x)).toList) = vs := by rw [← hps, evP_eq]; simp
    have hrun : (Instr.build T (ps.toArray.map fun (i, x) => (i, ev fr x))).run c.P w = .ok (.agg cells.toArray) w := by
      unfold Instr.build
      simp only [zeroValue, typeInfo, program, Sem.run_bind, Sem.run, hi, h0, Result.andThen_ok, Sem.run_pure, run_underlying hT.h, sizeOf_sz (T := e) (n := s)]
      simp only [h4, h3, Result.andThen_ok, Sem.run_pure]
    simp only [execOp, Sem.run_bind, hrun, Result.andThen_ok, Sem.run_pure]) h
theorem hl_buildSl {s len : Nat} {z : Value} {zs : List Value} {ps : List (Nat × Operand)} {vs : List (Nat × Value)} {cells : List Value} [hT : TSlc c.P T e] [TSz c.P e s] [hz : TZero c.P e z] (hps : evP fr ps = vs) (hl : len * s ≤ 16777216)
    (hzs : z.cells.toList = zs) (hzl : zs.length = s) (hf : fillP (fun i => some (i * s, s)) (List.replicate len zs).flatten vs = some cells) (hlc : cells.length = len * s) (hd : dOk c.n dst = true)
    (h : ∀ g, HL c ops Q rest (updO fr dst (.slice (some ⟨g, 0, none⟩) len len)) (⟨g, e, cells, len * s⟩ :: H)) (hT9 : e ≠ mapTag := by first | assumption | decide) : HL c ops Q (⟨dst, .buildSlice T len ps.toArray, ty, pos, after, none⟩ :: rest) fr H := by
  refine hl_buildSlice hps hl (fill_eq _ _ _ _ ?_) hlc hd h hT9
  rw [← hf]
  congr 1
  have hsz : z.cells.size = s := by rw [← Array.length_toList, hzs, hzl]
  apply List.ext_getElem?
  intro i
  simp only [madeCells, Array.toList_map, Array.toList_range, List.getElem?_map]
  by_cases hi : i < len * s
  · have hs0 : 0 < s := by rcases Nat.eq_zero_or_pos s with h | h; subst h; omega; exact h
    have hm : i % s < s := Nat.mod_lt _ hs0
    rw [List.getElem?_range hi, Option.map_some, hsz]
    rw [flat_get zs s hzl hs0 len i hi, ← hzs, Array.getElem?_toList, Array.getElem?_eq_getElem (by omega)]
    simp [hsz, hm]
  · rw [List.getElem?_eq_none (by simpa using hi), List.getElem?_eq_none (by simp [hzl]; omega)]; rfl
end

end Go.Proofs.Ytoobhebbgbhahaa
namespace Go.Proofs.Ytoobhebbgbhahaa
open Go.RowKit

section
variable {P : Program} {w0 : World} {B f : Nat} {fn : Func} {args : List Value} {v : Value} {H : List Ent}
theorem fn_of_same (hf : P.funcs[f]? = some fn) (hn : (fn.name == "runtime.NumGoroutine") = false) (hb : fn.body.isNone = false) (h : ∀ w, Calls P f args.toArray w fun e w' => e = .returned v ∧ w = w') : Fn P w0 B f args H (fun u H' => u = v ∧ H' = H) :=
  ⟨⟨fn, hf, hn, hb⟩, fun w hw => (h w).mono fun e w' ⟨h1, h2⟩ => ⟨v, H, h1, h2 ▸ hw, rfl, rfl⟩⟩
theorem fn_of_below (hf : P.funcs[f]? = some fn) (hn : (fn.name == "runtime.NumGoroutine") = false) (hb : fn.body.isNone = false) (h : ∀ w, Calls P f args.toArray w fun e w' => e = .returned v ∧ Below w.heap.size w w') : Fn P w0 B f args H (fun u H' => u = v ∧ H' = H) :=
  ⟨⟨fn, hf, hn, hb⟩, fun w hw => (h w).mono fun e w' ⟨h1, h2⟩ => ⟨v, H, h1, hw.grow h2, rfl, rfl⟩⟩
/-- To a statement's own walk. -/
theorem calls_of_fn {R : Value → List Ent → Prop} {w : World} (h : Fn P w w.heap.size f args [] R) (hR : ∀ u H', R u H' → u = v) : Calls P f args.toArray w fun e w' => e = .returned v ∧ Below w.heap.size w w' :=
  (h.run w (Hp.start w)).mono fun e w' ⟨u, H', h1, h2, h3⟩ => ⟨by rw [h1, hR u H' h3], h2.below⟩
/-- The memory's list does not matter to what leaves it alone. -/
theorem Fn.any {H' : List Ent} (h : ∀ H, Fn P w0 B f args H (fun u H' => u = v ∧ H' = H)) : Fn P w0 B f args H' (fun u H'' => u = v ∧ H'' = H') := h H'
end

end Go.Proofs.Ytoobhebbgbhahaa
namespace Go.Proofs.Ytoobhebbgbhahaa
open Go.RowKit

/-- Nothing but going on. -/
def noX : Pst := fun _ _ _ => False
/-- In the worlds of this call the one list tells what the other tells. -/
def ImpC (c : Cx) (H E : List Ent) : Prop := ∀ w, Hp c.w0 c.B H w → Hp c.w0 c.B E w
theorem ImpC.refl {c : Cx} {H : List Ent} : ImpC c H H := fun _ h => h
theorem ImpC.of {c : Cx} {H E : List Ent} (h : Imp H E) : ImpC c H E := fun _ hw => h _ _ _ hw

def HA (c : Cx) (ops : Array Oper) (E : List Ent) (K : Fr → List Ent → Prop) : Nat → Array Bool → Fr → List Ent → Prop
  | 0, listed, fr, H => ImpC c H E ∧ Region.ready .any ops listed = [] ∧ K fr H
  | f + 1, listed, fr, H => ImpC c H E ∧ Region.ready .any ops listed ≠ [] ∧
    ∀ i ∈ Region.ready .any ops listed, ∃ o, ops[i]? = some o ∧ HL c ops (thn (HA c ops E K f (listed.setIfInBounds i true)) noX) [o] fr H

section
variable {c : Cx} {Q : Pst} {fr : Fr} {E H F : List Ent} {ops : Array Oper} {K : Fr → List Ent → Prop} {N : Fr → Prop} {listed : Array Bool} {f n : Nat}

theorem HA.imp (h : HA c ops E K f listed fr H) : ImpC c H E := by cases f <;> exact h.1
theorem Sees.uniq {n : Nat} {a : Act} {fr fr' : Fr} (h : Sees n a fr) (h' : Sees n a fr') : fr = fr' := funext fun t => (h.slot t).symm.trans (h'.slot t)
theorem lft_no {K : Fr → List Ent → Prop} {e : Exit} {a : Act} {w : World} (h : lft c.n c.w0 c.B (thn K noX) e a w) (he : e ≠ .normal) : False := by
  obtain ⟨_, _, _, _, h⟩ := h
  cases e <;> first | exact he rfl | exact h
theorem wp_to {o : Oper} {a : Act} {w : World} {K1 K2 : Act → World → Prop} {Q1 Q2 : Exit → Act → World → Prop} (hQ : ∀ e a w, Q1 e a w → e = .normal) (h : ∀ a w, K1 a w → K2 a w) (hh : o.wp c.P a w K1 Q1) : o.wp c.P a w K2 Q2 := by
  unfold Oper.wp at *
  generalize (execOp a.eval o).run c.P w = r at *
  cases r with
  | ok n w' =>
    cases n <;> simp only [Oper.upon] at hh ⊢
    case value => exact h _ _ hh
    case skip => exact h _ _ hh
    case defer => exact h _ _ hh
    case enter =>
      refine hh.mono fun e w'' he => ?_
      cases e with
      | returned u => exact h _ _ he
      | panicked c => cases hQ _ _ _ he
      | outgrown => obtain ⟨_, _, he⟩ := he; cases hQ _ _ _ he
    case row => exact Rows.mono hh fun u w'' he => h _ _ he
  | halt x w' =>
    cases x <;> simp only [Oper.upon] at hh ⊢
    case panic => cases hQ _ _ _ hh
theorem hQ_lft {K : Fr → List Ent → Prop} : ∀ e a w, lft c.n c.w0 c.B (thn K noX) e a w → e = .normal := fun e a w h => by
  by_cases he : e = .normal
  · exact he
  · exact (lft_no h he).elim
/-- One operation in the text's order is that operation in any. -/
theorem op_of_hl {i : Nat} {o : Oper} {K : Fr → List Ent → Prop} {a : Act} {w : World} {K' : Act → World → Prop} {Q' : Exit → Act → World → Prop} (ho : ops[i]? = some o) (hs : Sees c.n a fr) (hw : Hp c.w0 c.B H w)
    (h : HL c ops (thn K noX) [o] fr H) (hK : ∀ a w fr H, Sees c.n a fr → Hp c.w0 c.B H w → K fr H → K' a w) : wpOp c.P ops Q' i K' a w := by
  have hl := h.of a w hs hw
  have hK1 : ∀ a w, lft c.n c.w0 c.B (thn K noX) .normal a w → K' a w := fun a w ⟨fr, H, h1, h2, h3⟩ => hK a w fr H h1 h2 h3
  unfold wpOp
  simp only [ho]
  unfold wpList at hl
  split
  · rename_i hwd
    rw [if_pos hwd] at hl
    rcases hl with hl | ⟨_, _, _, hl⟩
    · exact .inl (wp_to hQ_lft (fun a w h => hK1 a w h) hl)
    · exact (lft_no hl (by intro h; cases h)).elim
  · rename_i hwd
    rw [if_neg hwd] at hl
    exact hK1 _ _ hl
theorem HA.any (hQ : ∀ fr H, K fr H → Q .normal fr H) : ∀ (f : Nat) (listed : Array Bool) (fr : Fr) (H : List Ent) (a : Act) (w : World), HA c ops E K f listed fr H → Sees c.n a fr → Hp c.w0 c.B H w →
    wpAny c.P .any ops (lft c.n c.w0 c.B Q) f listed a w
  | 0, _, _, _, _, _, h, hs, hw => ⟨h.2.1, _, _, hs, hw, hQ _ _ h.2.2⟩
  | f + 1, _, _, _, _, _, h, hs, hw => ⟨fun h0 => absurd h0 h.2.1, fun i hi => by
      obtain ⟨o, ho, hl⟩ := h.2.2 i hi
      exact op_of_hl ho hs hw hl fun a w fr H h1 h2 h3 => HA.any hQ f _ _ _ _ _ h3 h1 h2⟩

/-- The operation gives this value, whatever stands in memory beside what stays, and leaves all that is told. -/
structure Quiet (c : Cx) (ops : Array Oper) (E : List Ent) (o : Oper) (v : Value) (fr : Fr) : Prop where
  of : ∀ a, Sees c.n a fr → ∀ H, ImpC c H E → YI c ops H o v a
def valAt (fr : Fr) : Option Nat → Value
  | some t => fr t
  | none => undef
theorem updO_back {d : Option Nat} {fr : Fr} {u : Value} : updO (updO fr d u) d (valAt fr d) = fr := by
  cases d with
  | none => rfl
  | some t => funext s; simp only [updO, upd, valAt]; split <;> simp_all
theorem Quiet.over {oi oj : Oper} {v u : Value} (hq : Quiet c ops E oi v fr) (hsi : ∀ cs b, oi.op ≠ .select cs b) (hd : dOk c.n oj.dst = true) (h3 : ∀ d, oj.dst = some d → d ∉ oi.looksAt ops) : Quiet c ops E oi v (updO fr oj.dst u) := by
  refine ⟨fun a hs H hi => ?_⟩
  have hs' := hs.put hd (valAt fr oj.dst)
  rw [updO_back] at hs'
  exact (hq.of _ hs' H hi).of_same (execOp_put oi hsi a oj.dst _ h3).symm (wanted_put oi a oj.dst _ h3).symm
theorem quiet_hl {i : Nat} {oi : Oper} {v : Value} (hd : dOk c.n oi.dst = true) (hq : Quiet c ops E oi v fr) (hi : ImpC c H E) (h : K (updO fr oi.dst v) H) : HL c ops (thn K noX) [oi] fr H := by
  refine ⟨fun a w hs hw => ?_⟩
  unfold wpList
  have hk : ∀ w', Hp c.w0 c.B H w' → wpList c.P ops (lft c.n c.w0 c.B (thn K noX)) [] (a.put oi.dst v) w' := fun w' hw' => ⟨_, _, hs.put hd v, hw', h⟩
  rcases hq.of a hs H hi with ⟨hwd, hv | ⟨f', args, hv⟩⟩ | ⟨hwd, rfl⟩
  · rw [if_pos hwd]
    obtain ⟨w', h1, h2⟩ := hv w hw
    refine .inl ?_
    unfold Oper.wp
    rw [h1]
    exact hk w' h2
  · rw [if_pos hwd]
    obtain ⟨h1, h2⟩ := hv w hw
    refine .inl ?_
    unfold Oper.wp
    rw [h1]
    exact h2.mono fun e w' ⟨he, hw'⟩ => by subst he; exact hk _ hw'
  · rw [if_neg (by simp [hwd])]
    exact hk w hw
theorem dOk_of {o : Oper} {K : Fr → List Ent → Prop} (_h : HL c ops (thn K noX) [o] fr H) : True := trivial
theorem hl_swap {oi oj : Oper} {v : Value} {K : Fr → List Ent → Prop} (hdi : dOk c.n oi.dst = true) (hdj : dOk c.n oj.dst = true) (hap : oi.apart ops oj = true) (hsj : ∀ cs b, oj.op ≠ .select cs b) (h : HL c ops (thn K noX) [oj] (updO fr oi.dst v) H) :
    HL c ops (thn (fun fr' H' => (∃ u, fr' = updO fr oj.dst u) ∧ K (updO fr' oi.dst v) H') noX) [oj] fr H := by
  obtain ⟨h1, h2, _⟩ := Oper.apart_spec hap
  refine ⟨fun a w hs hw => ?_⟩
  have hl := h.of (a.put oi.dst v) w (hs.put hdi v) hw
  have hk : ∀ u w', lft c.n c.w0 c.B (thn K noX) .normal ((a.put oi.dst v).put oj.dst u) w' →
      lft c.n c.w0 c.B (thn (fun fr' H' => (∃ u, fr' = updO fr oj.dst u) ∧ K (updO fr' oi.dst v) H') noX) .normal (a.put oj.dst u) w' := fun u w' ⟨fr2, H2, hs2, hw2, hk2⟩ => by
    refine ⟨_, H2, hs.put hdj u, hw2, ⟨u, rfl⟩, ?_⟩
    rw [Act.put_comm a v u h2] at hs2
    rw [((hs.put hdj u).put hdi v).uniq hs2]
    exact hk2
  unfold wpList at *
  rw [wanted_put oj a oi.dst v h1] at hl
  split
  · rename_i hwd
    rw [if_pos hwd] at hl
    rcases hl with hl | ⟨_, _, _, hl⟩
    · refine .inl ?_
      unfold Oper.wp at *
      rw [execOp_put oj hsj a oi.dst v h1] at hl
      generalize (execOp a.eval oj).run c.P w = r at *
      cases r with
      | ok n w' =>
        cases n <;> simp only [Oper.upon] at hl ⊢
        case value u => exact hk _ _ hl
        case skip => exact hk _ _ hl
        case defer d =>
          obtain ⟨_, _, hs3, _, _⟩ := hl
          have := hs3.defers
          cases hoj : oj.dst <;> cases hoi : oi.dst <;> simp [hoj, hoi, Act.put] at this
        case enter f args =>
          refine hl.mono fun e w'' he => ?_
          cases e with
          | returned u => exact hk _ _ he
          | panicked c => exact (lft_no he (by intro h; cases h)).elim
          | outgrown => obtain ⟨_, _, he⟩ := he; exact (lft_no he (by intro h; cases h)).elim
        case row row args => exact Rows.mono hl fun u w'' he => hk _ _ he
      | halt x w' =>
        cases x <;> simp only [Oper.upon] at hl ⊢
        case panic => exact (lft_no hl (by intro h; cases h)).elim
    · exact (lft_no hl (by intro h; cases h)).elim
  · rename_i hwd
    rw [if_neg hwd] at hl
    exact hk _ _ hl
theorem HL.mono1 {o : Oper} {K K' : Fr → List Ent → Prop} (h : HL c ops (thn K noX) [o] fr H) (hq : ∀ fr H, K fr H → K' fr H) : HL c ops (thn K' noX) [o] fr H := by
  refine ⟨fun a w hs hw => ?_⟩
  have h1 := h.of a w hs hw
  have hk : ∀ a w, lft c.n c.w0 c.B (thn K noX) .normal a w → lft c.n c.w0 c.B (thn K' noX) .normal a w := fun a w ⟨fr, H, h1, h2, h3⟩ => ⟨fr, H, h1, h2, hq _ _ h3⟩
  unfold wpList at h1 ⊢
  split
  · rename_i hwd
    rw [if_pos hwd] at h1
    rcases h1 with h1 | ⟨_, _, _, h1⟩
    · exact .inl (wp_to hQ_lft (fun a w h => hk a w h) h1)
    · exact (lft_no h1 (by intro h; cases h)).elim
  · rename_i hwd
    rw [if_neg hwd] at h1
    exact hk _ _ h1
def dstsB (n : Nat) (ops : Array Oper) : Bool := ops.all fun o => dOk n o.dst
theorem HA_first {i : Nat} {oi : Oper} {v : Value} (hi : ops[i]? = some oi) (hsel : Region.noSelect ops = true) (hds : dstsB c.n ops = true) :
    ∀ (f : Nat) (listed : Array Bool) (fr : Fr) (H : List Ent),
      (∀ j oj, ops[j]? = some oj → j ≠ i → listed.getD j true = false → (∀ e ∈ oj.after, Region.binds .any e = true → e.on ≠ i) → oi.apart ops oj = true) →
      i ∈ Region.ready .any ops listed → Quiet c ops E oi v fr → HA c ops E K f (listed.setIfInBounds i true) (updO fr oi.dst v) H → HA c ops E K (f + 1) listed fr H := by
  have hdo : ∀ (j : Nat) (o : Oper), ops[j]? = some o → dOk c.n o.dst = true := fun j o ho => Array.all_eq_true_iff_forall_mem.1 hds o (Array.mem_of_getElem? ho)
  intro f
  induction f with
  | zero =>
    intro listed fr H _ hr hq k
    refine ⟨k.1, fun h => (by rw [h] at hr; cases hr), fun j hj => ?_⟩
    by_cases hji : j = i
    · subst hji; exact ⟨oi, hi, quiet_hl (i := j) (hdo _ _ hi) hq k.1 k⟩
    · have := ready_mono hj hji
      rw [k.2.1] at this
      cases this
  | succ f ih =>
    intro listed fr H hfree hr hq k
    refine ⟨k.1, fun h => (by rw [h] at hr; cases hr), fun j hj => ?_⟩
    by_cases hji : j = i
    · subst hji; exact ⟨oi, hi, quiet_hl (i := j) (hdo _ _ hi) hq k.1 k⟩
    · obtain ⟨oj, hoj, hl⟩ := k.2.2 j (ready_mono hj hji)
      obtain ⟨hjun, oj', hoj', hall⟩ := mem_ready.1 hj
      obtain rfl : oj' = oj := Option.some.inj (hoj'.symm.trans hoj)
      have hnot : ∀ e ∈ oj'.after, Region.binds .any e = true → e.on ≠ i := fun e he hb heq => by
        have h1 := hall e he hb
        rw [heq, getD_both (mem_ready.1 hr).1] at h1
        cases h1
      have hap := hfree j oj' hoj hji hjun hnot
      obtain ⟨_, _, h3⟩ := Oper.apart_spec hap
      have hsi : ∀ cs b, oi.op ≠ .select cs b := fun cs b => Region.noSelect_spec hsel i oi cs b hi
      have hsj : ∀ cs b, oj'.op ≠ .select cs b := fun cs b => Region.noSelect_spec hsel j oj' cs b hoj
      refine ⟨oj', hoj, (hl_swap (hdo _ _ hi) (hdo _ _ hoj) hap hsj hl).mono1 fun fr' H' hk => ?_⟩
      obtain ⟨⟨u, rfl⟩, hk⟩ := hk
      refine ih (listed.setIfInBounds j true) _ _ (fun m om hm hmi hun hno => ?_) (ready_mono hr (Ne.symm hji)) (hq.over hsi (hdo _ _ hoj) h3) (by rw [Array.setIfInBounds_comm _ _ hji]; exact hk)
      refine hfree m om hm hmi ?_ hno
      by_cases hjm : j = m
      · subst hjm; exact hjun
      · rw [getD_set_ne true hjm] at hun; exact hun

/-! As it is used. E stays: memory that no operation of the region writes. -/
structure HAs (c : Cx) (ops : Array Oper) (E : List Ent) (K : Fr → List Ent → Prop) (n : Nat) (listed : Array Bool) (fr : Fr) (H : List Ent) : Prop where
  of : HA c ops E K n listed fr H
/-- Quiet operations one behind the other. -/
def QC (c : Cx) (ops : Array Oper) (N : Fr → Prop) (E : List Ent) : List Oper → Fr → Prop
  | [], fr => N fr
  | o :: l, fr => ∃ v, Quiet c ops E o v fr ∧ QC c ops N E l (updO fr o.dst v)
structure HQ (c : Cx) (ops : Array Oper) (N : Fr → Prop) (l : List Oper) (fr : Fr) (E : List Ent) : Prop where
  of : QC c ops N E l fr
theorem hq_nil (h : N fr) : HQ c ops N [] fr E := ⟨h⟩
instance : Stp c ops (HQ c ops N) where
  pure := fun _ v h k => ⟨⟨v, ⟨fun a hs H hi => .inl ⟨by simp [Region.wanted], .inl fun w hw => ⟨w, by rw [hs.eval]; exact h w (hi w hw), hw⟩⟩⟩, k.of⟩⟩
  guard := fun {fr H rest dst ty pos after op j d b x} hj hx _ h1 h2 => by
    constructor
    have hy : ∀ a, Sees c.n a fr → yielded ops a.tmps j = some x := fun a hs => by
      have := hs.slot d
      rw [hx] at this
      simp [yielded, hj]
      have h3 : a.tmps[d]? = some (.bool x) := by
        rw [Array.getD_eq_getD_getElem?] at this
        cases h4 : a.tmps[d]? with
        | none => rw [h4] at this; simp [undef] at this
        | some u => rw [h4] at this; simpa using this
      simp [h3]
    by_cases e : x = b
    · subst e
      obtain ⟨v, hq, k⟩ := (h1 rfl).of
      refine ⟨v, ⟨fun a hs H hi => ?_⟩, k⟩
      rcases hq.of a hs H hi with ⟨_, hv⟩ | ⟨hw, _⟩
      · exact .inl ⟨by simp [Region.wanted, hy a hs], hv⟩
      · simp [Region.wanted] at hw
    · exact ⟨undef, ⟨fun a hs H hi => .inr ⟨by simp [Region.wanted, hy a hs, e], rfl⟩⟩, (h2 (by cases x <;> cases b <;> simp_all)).of⟩
  guardU := fun hj hx _ h2 => ⟨⟨undef, ⟨fun a hs H hi => .inr ⟨by simp [Region.wanted, yielded_undef hs hj hx], rfl⟩⟩, h2.of⟩⟩
variable {rest : List Oper} {dst : Option Nat} {ty : TypeId} {pos : String} {after : Array Edge}
/-- A call that hands back just this value, whatever else stands in memory, and leaves all that is told. -/
theorem hq_call {f : FuncId} {xs : List Operand} {ts : Array TypeId} {args : List Value} {v : Value} (hxs : evs fr xs = args) (_hd : dOk c.n dst = true) (hf : ∀ H, ImpC c H E → Fn c.P c.w0 c.B f args H (fun u H' => u = v ∧ H' = H))
    (h : HQ c ops N rest (updO fr dst v) E) : HQ c ops N (⟨dst, .call { callee := .value (.func f), args := xs.toArray, argTypes := ts }, ty, pos, after, none⟩ :: rest) fr E := ⟨⟨v, ⟨fun a hs H hi => by
  obtain ⟨⟨fn, h1, h2, h3⟩, hc⟩ := hf H hi
  refine .inl ⟨by simp [Region.wanted], .inr ⟨f, args.toArray, fun w hw => ⟨?_, (hc w hw).mono fun e w' ⟨u, H', he, hw', hu, hH⟩ => ⟨by rw [he, hu], by rw [← hH]; exact hw'⟩⟩⟩⟩
  have hargs : (xs.toArray.map a.eval) = args.toArray := by rw [hs.eval, ← hxs, evs_eq]; simp
  simp only [execOp, resolve, hargs]
  have h2' : ¬ (fn.name = "runtime.NumGoroutine") := by simpa using h2
  have h3' : ¬ (fn.body = none) := by intro h; rw [h] at h3; cases h3
  simp [Act.eval, Deferred.ofValue, invoke, callFunc, program, Sem.run, h1, h2', h3']⟩, h.of⟩⟩
def setAll (listed : Array Bool) : List Nat → Array Bool
  | [] => listed
  | i :: is => setAll (listed.setIfInBounds i true) is
def quietB (ops : Array Oper) : Array Bool → List Nat → Bool
  | _, [] => true
  | listed, i :: is => (Region.ready .any ops listed).contains i && Region.free .any ops listed i && quietB ops (listed.setIfInBounds i true) is
/-- The operations at these places. -/
def pick (ops : Array Oper) : List Nat → List Oper
  | [] => []
  | i :: is => match ops[i]? with
    | some o => o :: pick ops is
    | none => pick ops is
theorem ha_quiet0 (hsel : Region.noSelect ops = true) (hds : dstsB c.n ops = true) : ∀ (is : List Nat) (listed : Array Bool) (fr : Fr), quietB ops listed is = true →
    QC c ops (fun fr' => HA c ops E K f (setAll listed is) fr' H) E (pick ops is) fr → HA c ops E K (is.length + f) listed fr H
  | [], listed, fr, _, h => by rw [List.length_nil, Nat.zero_add]; exact h
  | i :: is, listed, fr, hB, hk => by
    simp only [quietB, Bool.and_eq_true] at hB
    obtain ⟨⟨hr, hf⟩, hB⟩ := hB
    have hr : i ∈ Region.ready .any ops listed := by simpa using hr
    obtain ⟨_, o, ho, _⟩ := mem_ready.1 hr
    unfold pick at hk
    rw [ho] at hk
    obtain ⟨v, hq, hk⟩ := hk
    rw [List.length_cons, show is.length + 1 + f = (is.length + f) + 1 by omega]
    exact HA_first ho hsel hds _ _ _ _ (Region.free_spec ho hf) hr hq (ha_quiet0 hsel hds is _ _ hB hk)
theorem ha_quiet (is : List Nat) (hn : Nat.ble is.length n = true) (hB : (Region.noSelect ops && dstsB c.n ops && quietB ops listed is) = true)
    (h : HQ c ops (fun fr' => HAs c ops E K (n - is.length) (setAll listed is) fr' H) (pick ops is) fr E) : HAs c ops E K n listed fr H := by
  simp only [Bool.and_eq_true] at hB
  have hn := Nat.le_of_ble_eq_true hn
  have h2 : ∀ (l : List Oper) (fr : Fr), QC c ops (fun fr' => HAs c ops E K (n - is.length) (setAll listed is) fr' H) E l fr → QC c ops (fun fr' => HA c ops E K (n - is.length) (setAll listed is) fr' H) E l fr := by
    intro l
    induction l with
    | nil => exact fun fr h => h.of
    | cons o l ih => exact fun fr ⟨v, hq, hk⟩ => ⟨v, hq, ih _ hk⟩
  have := ha_quiet0 hB.1.1 hB.1.2 is listed fr hB.2 (h2 _ _ h.of)
  rw [show is.length + (n - is.length) = n by omega] at this
  exact ⟨this⟩
theorem ha_end (hn : n = 0) (hr : Region.ready .any ops listed = []) (hi : Imp H E) (h : K fr H) : HAs c ops E K n listed fr H := by subst hn; exact ⟨⟨.of hi, hr, h⟩⟩
theorem ha_fork {is : List Nat} (hn : Nat.blt 0 n = true) (hr : Region.ready .any ops listed = is) (hne : is ≠ []) (hi : Imp H E)
    (h : ∀ i ∈ is, ∃ o, ops[i]? = some o ∧ HL c ops (thn (HAs c ops E K (n - 1) (listed.setIfInBounds i true)) noX) [o] fr H) : HAs c ops E K n listed fr H := by
  have hn : 0 < n := by simpa using hn
  obtain ⟨m, rfl⟩ : ∃ m, n = m + 1 := ⟨n - 1, by omega⟩
  refine ⟨⟨.of hi, by rw [hr]; exact hne, fun i him => ?_⟩⟩
  rw [hr] at him
  obtain ⟨o, ho, hl⟩ := h i him
  exact ⟨o, ho, hl.mono1 fun fr H hk => hk.of⟩
theorem ha_fork1 (i : Nat) {o : Oper} (hn : Nat.blt 0 n = true) (hr : Region.ready .any ops listed = [i]) (ho : ops[i]? = some o) (hi : Imp H E)
    (h : HL c ops (thn (HAs c ops E K (n - 1) (listed.setIfInBounds i true)) noX) [o] fr H) : HAs c ops E K n listed fr H :=
  ha_fork hn hr (by simp) hi fun k hk => by
    simp only [List.mem_singleton] at hk; subst hk; exact ⟨o, ho, h⟩
theorem ha_fork2 (i j : Nat) {o p : Oper} (hn : Nat.blt 0 n = true) (hr : Region.ready .any ops listed = [i, j]) (ho : ops[i]? = some o) (hp : ops[j]? = some p) (hi : Imp H E)
    (h1 : HL c ops (thn (HAs c ops E K (n - 1) (listed.setIfInBounds i true)) noX) [o] fr H) (h2 : HL c ops (thn (HAs c ops E K (n - 1) (listed.setIfInBounds j true)) noX) [p] fr H) : HAs c ops E K n listed fr H :=
  ha_fork hn hr (by simp) hi fun k hk => by
    simp only [List.mem_cons, List.not_mem_nil, or_false] at hk
    rcases hk with rfl | rfl
    · exact ⟨o, ho, h1⟩
    · exact ⟨p, hp, h2⟩
theorem ha_fork3 (i j k : Nat) {o p q : Oper} (hn : Nat.blt 0 n = true) (hr : Region.ready .any ops listed = [i, j, k]) (ho : ops[i]? = some o) (hp : ops[j]? = some p) (hq : ops[k]? = some q) (hi : Imp H E)
    (h1 : HL c ops (thn (HAs c ops E K (n - 1) (listed.setIfInBounds i true)) noX) [o] fr H) (h2 : HL c ops (thn (HAs c ops E K (n - 1) (listed.setIfInBounds j true)) noX) [p] fr H)
    (h3 : HL c ops (thn (HAs c ops E K (n - 1) (listed.setIfInBounds k true)) noX) [q] fr H) : HAs c ops E K n listed fr H :=
  ha_fork hn hr (by simp) hi fun m hm => by
    simp only [List.mem_cons, List.not_mem_nil, or_false] at hm
    rcases hm with rfl | rfl | rfl
    · exact ⟨o, ho, h1⟩
    · exact ⟨p, hp, h2⟩
    · exact ⟨q, hq, h3⟩
/-- Where the orders meet again. -/
theorem hc_via {code : Code} {K : Fr → List Ent → Prop} (M : Fr → List Ent → Prop) (h1 : HC c code (thn M Q) fr H) (h2 : ∀ fr H, M fr H → K fr H) : HC c code (thn K Q) fr H :=
  h1.mono fun e fr H h => by cases e <;> first | exact h2 _ _ h | exact h
theorem hc_drawA (E : List Ent) {id : Nat} {l : List Oper} (hm : c.P.follows .mixedOrders = true)
    (h : HAs c l.toArray E (fun fr H => Q .normal fr H) l.length (Array.replicate l.length false) fr H) : HC c (.region id l.toArray true) Q fr H := ⟨fun a w hs hw => by
  refine wp_region_any hm ?_
  have := HA.any (Q := Q) (fun _ _ h => h) _ _ _ _ _ _ h.of hs (hw.grow (Below.refl _ _).drew)
  simpa using this⟩
end
end Go.Proofs.Ytoobhebbgbhahaa
namespace Go.Proofs.Ytoobhebbgbhahaa
open Go.RowKit

/-! Products -/
theorem mul_bd {a b : Int} {M N : Int} (ha : -M ≤ a ∧ a ≤ M) (hb : -N ≤ b ∧ b ≤ N) : -(M * N) ≤ a * b ∧ a * b ≤ M * N := by
  have h1 : 0 ≤ (M - a) * (N + b) := Int.mul_nonneg (by omega) (by omega)
  have h2 : 0 ≤ (M + a) * (N - b) := Int.mul_nonneg (by omega) (by omega)
  have h3 : 0 ≤ (M - a) * (N - b) := Int.mul_nonneg (by omega) (by omega)
  have h4 : 0 ≤ (M + a) * (N + b) := Int.mul_nonneg (by omega) (by omega)
  simp only [Int.sub_mul, Int.add_mul, Int.mul_add, Int.mul_sub] at h1 h2 h3 h4
  constructor <;> omega

/-! Cells as a table -/
def tab (n : Nat) (f : Nat → Int) : List Value := (List.range n).map fun k => .int .i64 (f k)
theorem length_tab (n : Nat) (f : Nat → Int) : (tab n f).length = n := by simp [tab]
theorem tab_get {n k : Nat} {f : Nat → Int} (h : k < n) : (tab n f)[k]? = some (.int .i64 (f k)) := by simp [tab, h]
theorem tab_congr {n : Nat} {f g : Nat → Int} (h : ∀ k, k < n → f k = g k) : tab n f = tab n g := by
  unfold tab; refine List.map_congr_left fun k hk => ?_
  rw [h k (by simpa using hk)]
theorem tab_set {n k : Nat} {f g : Nat → Int} {v : Int} (h : ∀ j, j < n → g j = if j = k then v else f j) : (tab n f).set k (.int .i64 v) = tab n g := by
  apply List.ext_getElem?
  intro j
  rw [List.getElem?_set]
  by_cases hj : j < n
  · rw [tab_get hj, tab_get hj, h j hj]
    by_cases e : k = j
    · subst e; simp [length_tab, hj]
    · rw [if_neg e, if_neg (fun h => e h.symm)]
  · rw [List.getElem?_eq_none (by rw [length_tab]; omega), List.getElem?_eq_none (by rw [length_tab]; omega)]
    by_cases e : k = j
    · subst e; simp [length_tab, hj]
    · rw [if_neg e]
theorem tab_zero (n : Nat) : tab n (fun _ => 0) = List.replicate n (.int .i64 0) := by simp [tab, List.map_const']
theorem tab_splice {n i m : Nat} {f g h : Nat → Int} (him : i + m ≤ n) (hg : ∀ j, j < n → h j = if i ≤ j ∧ j < i + m then g (j - i) else f j) : (tab n f).take i ++ tab m g ++ (tab n f).drop (i + m) = tab n h := by
  apply List.ext_getElem?
  intro j
  rw [List.append_assoc, List.getElem?_append, List.length_take, length_tab, Nat.min_eq_left (by omega)]
  by_cases h1 : j < i
  · rw [if_pos h1, List.getElem?_take_of_lt h1, tab_get (by omega), tab_get (by omega), hg j (by omega), if_neg (by omega)]
  · rw [if_neg h1, List.getElem?_append, length_tab]
    by_cases h2 : j < i + m
    · rw [if_pos (by omega), tab_get (by omega), tab_get (by omega), hg j (by omega), if_pos (by omega)]
    · rw [if_neg (by omega), List.getElem?_drop]
      by_cases h3 : j < n
      · rw [show i + m + (j - i - m) = j by omega, tab_get h3, tab_get h3, hg j h3, if_neg (by omega)]
      · rw [List.getElem?_eq_none (by rw [length_tab]; omega), List.getElem?_eq_none (by rw [length_tab]; omega)]
theorem tab_sub {n i m : Nat} {f : Nat → Int} (h : i + m ≤ n) : ((tab n f).drop i).take m = tab m (fun k => f (i + k)) := by
  apply List.ext_getElem?
  intro j
  rw [List.getElem?_take]
  split
  · rw [List.getElem?_drop, tab_get (by omega), tab_get (by omega)]
  · rw [List.getElem?_eq_none (by rw [length_tab]; omega)]
theorem tab_one {n : Nat} {f : Nat → Int} : ∀ u ∈ tab n f, u.oneCell' = true := by
  intro u hu
  obtain ⟨k, _, rfl⟩ := List.mem_map.1 hu
  rfl
theorem map_tab (l : List Int) : l.map intV = tab l.length (fun k => l.getD k 0) := by
  apply List.ext_getElem?
  intro j
  by_cases h : j < l.length
  · rw [tab_get h]; simp [h, intV]
  · rw [List.getElem?_eq_none (by simpa using h), List.getElem?_eq_none (by rw [length_tab]; omega)]


section
variable {c : Cx} {fr : Fr} {H : List Ent} {ops : Array Oper} {rest : List Oper} {dst : Option Nat} {ty : TypeId} {pos : String} {after : Array Edge}
variable {x y : Operand} {T u : TypeId} {S : List Oper → Fr → List Ent → Prop} [hS : Stp c ops S]
theorem arr_tab (n : Nat) (f : Nat → Int) : arrV ((List.range n).map f) = .agg (tab n f).toArray := by unfold arrV tab; rw [List.map_map]; rfl
include hS
theorem hl_eqTabT {n e : Nat} {f g : Nat → Int} [TArr c.P T n e] [TInt c.P e .i64] [TSz c.P e 1] [TEqG c.P T] (hx : ev fr x = .agg (tab n f).toArray) (hy : ev fr y = .agg (tab n g).toArray) (hfg : ∀ k, k < n → f k = g k) (hd : dOk c.n dst = true)
    (k : S rest (updO fr dst (.bool true)) H) : S (⟨dst, .binOp .eql T x y u, ty, pos, after, none⟩ :: rest) fr H :=
  hl_eqArrT (l := (List.range n).map f) (m := (List.range n).map g) (by rw [arr_tab]; exact hx) (by rw [arr_tab]; exact hy) (by simp) (List.map_congr_left fun k hk => hfg k (by simpa using hk)) hd k
theorem hl_neTabF {n e : Nat} {f g : Nat → Int} [TArr c.P T n e] [TInt c.P e .i64] [TSz c.P e 1] [TEqG c.P T] (hx : ev fr x = .agg (tab n f).toArray) (hy : ev fr y = .agg (tab n g).toArray) (hfg : ∀ k, k < n → f k = g k) (hd : dOk c.n dst = true)
    (k : S rest (updO fr dst (.bool false)) H) : S (⟨dst, .binOp .neq T x y u, ty, pos, after, none⟩ :: rest) fr H :=
  hl_neArrF (l := (List.range n).map f) (m := (List.range n).map g) (by rw [arr_tab]; exact hx) (by rw [arr_tab]; exact hy) (by simp) (List.map_congr_left fun k hk => hfg k (by simpa using hk)) hd k
end
end Go.Proofs.Ytoobhebbgbhahaa
namespace Go.Proofs.Ytoobhebbgbhahaa
open Go.RowKit
section
variable {c : Cx} {Q : Pst} {fr : Fr} {H F : List Ent} {ops : Array Oper} {rest : List Oper} {dst : Option Nat} {ty : TypeId} {pos : String} {after : Array Edge}
variable {x s : Operand} {T T2 e : TypeId} {g o k T' sz : Nat} {C : List Value} {S : List Oper → Fr → List Ent → Prop}
/-- 'copy', of elements of one cell, into memory of the call's own. -/
theorem hl_copy1 [hT : TSlc c.P T e] [hsz : TSz c.P e 1] {a : Option Addr} {l : List Value} {dLen dCap sLen sCap m : Nat} (hs : ev fr s = .slice (some ⟨g, o, none⟩) dLen dCap) (hx : ev fr x = .slice a sLen sCap)
    (ht : Take H ⟨g, T', C, k⟩ F) (hr : Rds c.w0 c.B H a l) (hl : l.length = sLen) (hn : a = none → sCap = 0) (hm : m = min sLen dLen) (hfit : o + m ≤ C.length) (hd : dOk c.n dst = true)
    (h : HL c ops Q rest (updO fr dst (.int .i64 (m : Int))) (⟨g, T', C.take o ++ l.take m ++ C.drop (o + m), k⟩ :: F)) (hk0 : 0 < k := by omega) (hT9 : T' ≠ mapTag := by first | assumption | decide) :
    HL c ops Q (⟨dst, .call { callee := .builtin .copy, args := #[s, x], argTypes := #[T, T2] }, ty, pos, after, none⟩ :: rest) fr H :=
  hl_some hd fun w hw => by
    obtain ⟨hB, hh9⟩ := (hw.take ht).own _ (List.mem_cons_self ..)
    obtain ⟨A, mk, hA, hk, W, hW⟩ := hh9.cells hT9
    dsimp only at hA hk hW
    replace hk : mk = (0, 0) ∧ A.size = k := by
      rcases hk with h | ⟨h1, _⟩
      · exact h
      · omega
    obtain ⟨rfl, hk⟩ := hk
    have hlt : (l.take m).length = m := by rw [List.length_take]; omega
    cases a with
    | none =>
      have h0 := hr.nil rfl
      subst h0
      have hs0 : sLen = 0 := by simpa using hl.symm
      have hc0 := hn rfl
      subst hs0 hc0
      have hm0 : m = 0 := by omega
      subst hm0
      have hrun := run_copy_nil (P := c.P) w T T2 ty e ⟨g, o, none⟩ dLen dCap hT.h (by rw [hsz.h]; rfl)
      refine ⟨_, w, _, by simp only [execOp, resolve, invoke, builtin, Sem.run_bind, Sem.run_pure, Result.andThen_ok, List.map_toArray, List.map_cons, List.map_nil, hs, hx, hrun]; rfl, ?_, h⟩
      simpa using hw.take ht
    | some ad =>
      have hlen : C.length + W.length = A.size := by rw [← Array.length_toList, ← hW, List.length_append]
      have hrun := run_copy_row (P := c.P) w T T2 ty e g o dLen dCap ad sLen sCap A T' (l.take m) hT.h hsz.h hA (by rw [hlt]; exact hm)
        (fun j v hj => hr.cell w hw ad rfl j v (by rw [List.getElem?_take] at hj; split at hj; exact hj; cases hj)) (by rw [hlt, ← hlen]; omega) (fun v hv => hr.one v (List.mem_of_mem_take hv))
      rw [hlt] at hrun
      refine ⟨_, _, _, by simp only [execOp, resolve, invoke, builtin, Sem.run_bind, Sem.run_pure, Result.andThen_ok, List.map_toArray, List.map_cons, List.map_nil, hs, hx, hrun]; rfl, (hw.take ht).row _ _ (fun A0 m0 h0 => .inl ⟨by rw [hA] at h0; cases h0; rfl, ?_⟩) ?_ hT9, h⟩
      · simp only [List.size_toArray, List.length_append, List.length_take, List.length_drop, Array.length_toList, hlt]
        omega
      · rw [← hW]
        rw [splice_prefix hlt hfit]
        exact ⟨W, rfl⟩
/-- Where the orders meet again. -/
theorem hc_meet {code : Code} (M : Fr → List Ent → Prop) (h1 : HC c code (thn M Q) fr H) (h2 : ∀ fr H, M fr H → Q .normal fr H) : HC c code Q fr H :=
  h1.mono fun e fr H h => by cases e <;> first | exact h2 _ _ h | exact h
/-- 'x[i:j]' of an array. -/
theorem hl_sliceArr {b off n i j : Nat} {lo hi : Option Operand} {ki kj : IntKind} [hT : TArr c.P T n e] [TSz c.P e sz] [Stp c ops S] (hx : ev fr x = .pointer (some ⟨b, off, none⟩))
    (hlo : match lo with | some o => ev fr o = .int ki (i : Int) | none => i = 0) (hhi : match hi with | some o => ev fr o = .int kj (j : Int) | none => j = n) (hij : i ≤ j) (hj : j ≤ n) (hd : dOk c.n dst = true)
    (h : ∀ off', (i < n → off' = off + i * sz) → S rest (updO fr dst (.slice (some ⟨b, off', none⟩) (j - i) (n - i))) H) :
    S (⟨dst, .slice T x lo hi none, ty, pos, after, none⟩ :: rest) fr H := by
  refine hl_pure hd _ (fun w _ => ?_) (h (if n = i then off else off + i * sz) (fun h => by rw [if_neg (by omega)]))
  have h1 : ((i : Int) ≤ (j : Int)) := by omega
  have h2 : ((j : Int) ≤ (n : Int)) := by omega
  have hb : (Instr.sliceBounds false n n (lo.map (ev fr)) (hi.map (ev fr)) none).run c.P w = .ok (i, j, n) w := by
    cases hi with
    | none =>
      dsimp only at hhi; subst hhi
      cases lo with
      | none => dsimp only at hlo; subst hlo; simp [Instr.sliceBounds]
      | some o => dsimp only at hlo; simp [Instr.sliceBounds, Instr.sliceBound, asIntOf, hlo, hij]
    | some o2 =>
      dsimp only at hhi
      cases lo with
      | none => dsimp only at hlo; subst hlo; simp [Instr.sliceBounds, Instr.sliceBound, asIntOf, hhi, hj]
      | some o => dsimp only at hlo; simp [Instr.sliceBounds, Instr.sliceBound, asIntOf, hlo, hhi, hij, hj]
  have hs : (Instr.sliceAt T (ev fr x) (lo.map (ev fr)) (hi.map (ev fr)) none).run c.P w = .ok (.slice (some ⟨b, (if n = i then off else off + i * sz), none⟩) (j - i) (n - i)) w := by
    simp only [Instr.sliceAt, Sem.run_bind, run_underlying hT.h, Result.andThen_ok, hx, Instr.sureAddr, Sem.run_pure, hb, sizeOf_sz (T := e) (n := sz)]
    by_cases hc : n = i
    · simp [hc]
    · simp [hc, Addr.add_lit]
  simp [execOp, hs]

/-- A call that reads a block of the list. -/
theorem Fn.take {P : Program} {w0 : World} {B : Nat} {f : FuncId} {args : List Value} {v : Value} {H F : List Ent} {e : Ent} (ht : Take H e F) (h : Fn P w0 B f args (e :: F) (fun u H' => u = v ∧ H' = e :: F)) : Fn P w0 B f args H (fun u H' => u = v ∧ H' = H) :=
  ⟨h.fn, fun w hw => (h.run w (hw.take ht)).mono fun _ _ ⟨u, _, a, b, c, d⟩ => ⟨u, H, a, (d ▸ b).perm ht.perm.symm, c, rfl⟩⟩
/-- Memory that was there ahead of the call: numbers, as a table. -/
structure Prm (w0 : World) (B b off n : Nat) (k : IntKind) (f : Nat → Int) : Prop where
  cell : ∀ j, j < n → w0.cell? ⟨b, off + j, none⟩ = some (.int k (f j))
  lt : b < B
theorem hl_loadP [Stp c ops S] {b off n j : Nat} {ik : IntKind} {f : Nat → Int} [TOne c.P T] (hx : ev fr x = .pointer (some ⟨b, off + j, none⟩)) (hp : Prm c.w0 c.B b off n ik f) (hj : j < n) (hd : dOk c.n dst = true) (h : S rest (updO fr dst (.int ik (f j))) H) :
    S (⟨dst, .load T x, ty, pos, after, none⟩ :: rest) fr H := hl_load1r hx (hp.cell j hj) hp.lt hd h
theorem Sl.prm {f : Int → Value} {ik : IntKind} (hf : ∀ x, f x = .int ik x) {w0 : World} {B : Nat} (hB : w0.heap.size ≤ B) {a : Option Addr} {len cap : Nat} {l : List Int} (h : Sl f w0 a len cap l) (h0 : 0 < len) : ∃ b off, a = some ⟨b, off, none⟩ ∧ Prm w0 B b off len ik (fun j => l.getD j 0) := by
  have hl := h.size_eq
  obtain ⟨b, off, hb, _⟩ := h.row 0 (by omega)
  have hrow : ∀ j, j < len → w0.cell? ⟨b, off + j, none⟩ = some (.int ik (l.getD j 0)) := fun j hj => by
    obtain ⟨b', off', hb', hc'⟩ := h.row j (by omega)
    rw [hb] at hb'
    cases hb'
    rw [hc', hf]
    simp [show j < l.length by omega]
  refine ⟨b, off, hb, hrow, ?_⟩
  have hc := hrow 0 h0
  refine Nat.lt_of_lt_of_le ?_ hB
  simp only [World.cell?] at hc
  rcases Nat.lt_or_ge b w0.heap.size with h1 | h1
  · exact h1
  · rw [Array.getElem?_eq_none h1] at hc; cases hc
theorem Imp.drop2 {e x : Ent} {F H2 : List Ent} (h : Imp (e :: F) H2) : Imp (e :: x :: F) H2 := Imp.perm (List.Perm.swap _ _ _) (Imp.drop h)
/-- In every world of which the list tells the memory, numbers stand here. -/
structure Row (w0 : World) (B : Nat) (E : List Ent) (b off n : Nat) (k : IntKind) (f : Nat → Int) : Prop where
  cell : ∀ w, Hp w0 B E w → ∀ j, j < n → w.cell? ⟨b, off + j, none⟩ = some (.int k (f j))
theorem Row.imp {w0 : World} {B : Nat} {E E' : List Ent} {b off n : Nat} {k : IntKind} {f : Nat → Int} (h : Row w0 B E b off n k f) (hi : Imp E' E) : Row w0 B E' b off n k f := ⟨fun w hw => h.cell w (hi _ _ _ hw)⟩
theorem Prm.row {w0 : World} {B : Nat} {E : List Ent} {b off n : Nat} {k : IntKind} {f : Nat → Int} (h : Prm w0 B b off n k f) : Row w0 B E b off n k f :=
  ⟨fun w hw j hj => by rw [hw.below.cell (p := ⟨b, off + j, none⟩) h.lt]; exact h.cell j hj⟩
theorem Row.own {w0 : World} {B : Nat} {H F : List Ent} {g n k : Nat} {T' : TypeId} {f : Nat → Int} (t : Take H ⟨g, T', tab n f, k⟩ F) : Row w0 B H g 0 n .i64 f :=
  ⟨fun w hw j hj => by rw [Nat.zero_add]; exact ((hw.take t).own _ (List.mem_cons_self ..)).2.cell (tab_get hj)⟩
theorem hl_loadR [Stp c ops S] {E : List Ent} {b off n j : Nat} {ik : IntKind} {f : Nat → Int} [TOne c.P T] (hx : ev fr x = .pointer (some ⟨b, off + j, none⟩)) (hp : Row c.w0 c.B E b off n ik f) (hi : Imp H E) (hj : j < n) (hd : dOk c.n dst = true) (h : S rest (updO fr dst (.int ik (f j))) H) :
    S (⟨dst, .load T x, ty, pos, after, none⟩ :: rest) fr H :=
  hl_pure hd _ (fun w hw => by
    have hc := hp.cell w (hi _ _ _ hw) j hj
    simp [execOp, hx, Instr.loadAt, Instr.sureAddr, loadVar, isAgg_one (T := T), load, Sem.run, hc]) h
/-- A shift to the left that fits. -/
theorem hl_shl64 [Stp c ops S] {y : Operand} {t u : TypeId} {a b : Int} {yk : IntKind} {m : Nat} (hx : ev fr x = .int .i64 a) (hy : ev fr y = .int yk b) (hm : b = (m : Int)) (h1 : m ≤ 62) (hb : -9223372036854775808 ≤ a * 2 ^ m ∧ a * 2 ^ m ≤ 9223372036854775807) (hd : dOk c.n dst = true)
    (k : S rest (updO fr dst (.int .i64 (a * 2 ^ m))) H) : S (⟨dst, .binOp .shl t x y u, ty, pos, after, none⟩ :: rest) fr H :=
  hl_shl' hx hy hm (by show m ≤ 64; omega) hd (by rw [IntWalk.i64_in _ hb]; exact k)
variable {P : Program} {fn : Func} {R : Value → List Ent → Prop}
/-- A struct or array out of memory, and a number or a truth. -/
theorem finCI {t t2 g T' k n : Nat} {C : List Value} {H2 : List Ent} {i : IntKind} {z : Int} (hr : fn.results.toList = [.cell t T, .tmp t2]) (hp : fr t = .pointer (some ⟨g, 0, none⟩)) (ht : Take H ⟨g, T', C, k⟩ F) (hv2 : fr t2 = .int i z) [TAgg P T] [hs : TSz P T n] (hn : C.length = n) (h : R (.tuple #[.agg C.toArray, .int i z]) H2)
    (hi : Imp H H2 := by first | exact (Imp.refl _) | exact (Imp.drop (Imp.refl _)) | exact (Imp.drop (Imp.drop (Imp.refl _))) | exact (Imp.drop (Imp.drop (Imp.drop (Imp.refl _)))) | exact (Imp.drop (Imp.drop (Imp.drop (Imp.drop (Imp.refl _)))))) : Pfn P fn R .ret fr H :=
  have : TSz P T C.length := hn ▸ hs
  ⟨.inr rfl, [.agg C.toArray, fr t2], H2, by rw [hr]; exact .cell hp ht (.tmp .nil), hi, by rw [hv2]; exact h⟩
end
end Go.Proofs.Ytoobhebbgbhahaa
