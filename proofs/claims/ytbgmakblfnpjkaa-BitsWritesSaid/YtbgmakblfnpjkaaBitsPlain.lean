/-
  Plain definitions of the bits' writer, without the program.
-/
import Derived.Test.YtbgmakblfnpjkaaBase
namespace Go.Proofs.Ytbgmakblfnpjkaa
open Go.RowKit

/-- Where a bit stands in its byte. -/
def bitPos (n : Nat) (high : Bool) : Nat := if high then 7 - n % 8 else n % 8
/-- One bit more behind n bits. -/
def bput (bs : List UInt8) (n : Nat) (high : Bool) (b : Bool) : List UInt8 :=
  let c := if n % 8 = 0 then bs ++ [0] else bs
  c.set (n / 8) (c.getD (n / 8) 0 ||| ((if b then 1 else 0) <<< UInt8.ofNat (bitPos n high)))
/-- The bytes of bits. -/
def bytesOf (high : Bool) : List Bool → List UInt8 := fun l => (l.foldl (fun (p : List UInt8 × Nat) b => (bput p.1 p.2 high b, p.2 + 1)) ([], 0)).1

/-- What has become of the world: only the blocks of S may have turned. -/
structure Only (S : Nat → Prop) (w w' : World) : Prop where
  os : w'.os = w.os
  tape : w'.tape = w.tape
  output : w'.output = w.output
  size : w.heap.size ≤ w'.heap.size
  block : ∀ k, k < w.heap.size → ¬ S k → w'.heap[k]? = w.heap[k]?

theorem Only.refl (S : Nat → Prop) (w : World) : Only S w w := ⟨rfl, rfl, rfl, Nat.le_refl _, fun _ _ _ => rfl⟩
theorem Only.trans {S : Nat → Prop} {a b c : World} (h : Only S a b) (k : Only S b c) : Only S a c :=
  ⟨k.os.trans h.os, k.tape.trans h.tape, k.output.trans h.output, Nat.le_trans h.size k.size, fun i hi hs => (k.block i (by have := h.size; omega) hs).trans (h.block i hi hs)⟩
theorem Only.mono {S T : Nat → Prop} {a b : World} (h : Only S a b) (hT : ∀ k, k < a.heap.size → S k → T k) : Only T a b :=
  ⟨h.os, h.tape, h.output, h.size, fun k hk ht => h.block k hk fun hs => ht (hT k hk hs)⟩
theorem Only.drew {S : Nat → Prop} {a w : World} (h : Only S a w) : Only S a w.drew := ⟨h.os, h.tape, h.output, h.size, h.block⟩
theorem Only.alloc {S : Nat → Prop} {a w : World} (h : Only S a w) (o : Obj) : Only S a (w.alloc o) :=
  h.trans ⟨rfl, rfl, rfl, by simp, fun k hk _ => Below.heap_alloc _ _ _ hk⟩
theorem Only.setCell {S : Nat → Prop} {a w : World} (h : Only S a w) {p : Addr} (hp : S p.block ∨ a.heap.size ≤ p.block) (u : Value) : Only S a (w.setCell p u) := by
  refine ⟨h.os, h.tape, h.output, by simpa [World.setCell] using h.size, fun k hk hs => ?_⟩
  have hne : k ≠ p.block := by
    rintro rfl
    rcases hp with hp | hp
    · exact hs hp
    · omega
  rw [Below.heap_setCell _ _ _ _ hne, h.block k hk hs]
theorem Only.below {S : Nat → Prop} {B : Nat} {a w w' : World} (hb : Below B a w) (h : Only S w w') (hS : ∀ k, k < w.heap.size → S k → B ≤ k) (hB : B ≤ w.heap.size) : Below B a w' :=
  hb.trans ⟨h.os, h.tape, h.output, h.size, fun k hk => h.block k (by omega) fun hs => by have := hS k (by omega) hs; omega⟩
theorem Only.grown {S : Nat → Prop} {a w w' : World} (h : Only S a w) {row : Option Nat} (hg : w.grownBy w' row) (hr : ∀ k, row = some k → S k ∨ a.heap.size ≤ k) : Only S a w' := by
  refine ⟨hg.os.trans h.os, hg.tape.trans h.tape, hg.output.trans h.output, Nat.le_trans h.size hg.size, fun k hk hs => ?_⟩
  rw [hg.block k (by have := h.size; omega) (fun e => by rcases hr k e.symm with h1 | h1; exact hs h1; omega), h.block k hk hs]

theorem blk_grown {w w' : World} {g : Nat} {T : TypeId} {C : List Value} (h : Blk w g T C) {row : Option Nat} (hg : w.grownBy w' row) (hne : row ≠ some g) : Blk w' g T C := by
  unfold Blk; rw [hg.block g h.lt (fun e => hne e.symm)]; exact h
theorem owns_other {w : World} {base : Nat} {e : TypeId} {size : Nat} {v : Value} {n : Nat} {xs : List Value} (h : w.ownsRow base e size v n xs) {a : Addr} (ha : v.ownBlock ≠ some a.block) (u : Value) : (w.setCell a u).ownsRow base e size v n xs := by
  obtain ⟨h1, h2⟩ := h
  refine ⟨h1, ?_⟩
  rcases h2 with h2 | ⟨g, cap, cur, hv, hg, hh, r⟩
  · exact Or.inl h2
  · refine Or.inr ⟨g, cap, cur, hv, hg, ?_, r⟩
    rw [Below.heap_setCell _ _ _ _ (fun e => ha (by rw [hv, ← e]; rfl))]; exact hh

/-- A writer: block g holds its row's value, its count and its turn; its row holds its bytes. -/
structure Wr (w : World) (base g : Nat) (T E : TypeId) (high : Bool) (n : Nat) (bs : List UInt8) (sv : Value) : Prop where
  blk : Blk w g T [sv, .int .i64 (n : Int), .bool high]
  own : w.ownsRow base E 1 sv bs.length (bs.map byteV)
  apart : sv.ownBlock ≠ some g
  len : bs.length = (n + 7) / 8

end Go.Proofs.Ytbgmakblfnpjkaa
