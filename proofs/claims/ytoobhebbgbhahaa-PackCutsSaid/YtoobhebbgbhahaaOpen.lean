/-
  How the arguments of a statement are opened: bytes, numbers, slices of bytes. No condition.
-/
import Derived.Test.YtoobhebbgbhahaaBase
import Derived.Deep.Slices
import Derived.Carry
namespace Go.Proofs.Ytoobhebbgbhahaa
open Go.RowKit Go.ChangeShapes Go.WideShapes Go.ChangeAt Go.Deep

theorem own : ownKnob Try.prog.godebug = none := by kernel_rfl
theorem laidOut : laidOutB Try.prog = true := by kernel_rfl

section
variable {H : Type} {enc : TypeId × Value → H} {P : Program} {w : World} {base : Nat} {spare : Nat → Bool} {held : Bool}

theorem row_at {α : Type} {f : α → Value} {w : World} {x : Addr} {l : List α} (h : ∀ i (hi : i < l.length), w.cell? (x.add i) = some (f l[i])) : RowAt f w (some x) l := by
  intro i hi
  obtain ⟨b, off, spot⟩ := x
  have h0 := h 0 (by omega)
  have hs : spot = none := by
    have := World.cell?_spot h0
    simpa [Addr.add] using this
  subst hs
  refine ⟨b, off, rfl, ?_⟩
  rw [← h i hi]
  simp only [Addr.add]
  split
  · rename_i h0; subst h0; rfl
  · rfl

theorem wf_u8 {n : Int} (h : (Lit.int .u8 n).wf = true) : 0 ≤ n ∧ n ≤ 255 := by
  simpa [Lit.wf, IntKind.min, IntKind.max, IntKind.signed, IntKind.bits] using h
theorem wf_i64 {n : Int} (h : (Lit.int .i64 n).wf = true) : -9223372036854775808 ≤ n ∧ n ≤ 9223372036854775807 := by
  simpa [Lit.wf, IntKind.min, IntKind.max, IntKind.signed, IntKind.bits] using h

theorem open_bytes {t e : TypeId} {v : Value} {d : DataW H} {ps : List MemPlace} (ht : P.underlying t = some (.slice e)) (he : P.underlying e = some (.int .u8)) (hc : P.cellsOf e = 1)
    {a : Option Addr} {len cap : Nat} (hv : v = .slice a len cap) (h : DataW.Trod enc P w base (fun _ => true) held t v d ps) : ∃ bs : List UInt8, Sl byteV w a len cap bs := by
  subst hv
  obtain ⟨fuel, hf⟩ := h
  rcases open_ints ht he hc hf with ⟨hcs, _⟩ | ⟨x, l, c, zs, hcs, _, hl, hm, hz, _, hcell, hwz⟩
  · simp [Value.cells] at hcs
    obtain ⟨rfl, rfl, rfl⟩ := hcs
    exact ⟨[], Sl.nil_mk _ _⟩
  · simp [Value.cells] at hcs
    obtain ⟨rfl, rfl, rfl⟩ := hcs
    simp only [if_true] at hz
    refine ⟨(zs.take len).map fun z => UInt8.ofNat z.toNat, by simp; omega, hl, by unfold maxLen at hm; omega, (fun h => by cases h), row_at ?_⟩
    intro i hi
    simp only [List.length_map, List.length_take] at hi
    rw [hcell i (by omega)]
    have hw := wf_u8 (hwz (zs[i]'(by omega)) (List.getElem_mem _))
    simp only [List.getElem_map, List.getElem_take, byteV, List.getD, List.getElem?_eq_getElem (show i < zs.length by omega), Option.getD_some]
    congr 2
    rw [UInt8.toNat_ofNat_of_lt' (by show _ < 256; omega)]
    omega

theorem open_nums {t e : TypeId} {v : Value} {d : DataW H} {ps : List MemPlace} (ht : P.underlying t = some (.slice e)) (he : P.underlying e = some (.int .i64)) (hc : P.cellsOf e = 1)
    {a : Option Addr} {len cap : Nat} (hv : v = .slice a len cap) (h : DataW.Trod enc P w base (fun _ => true) held t v d ps) :
    ∃ zs : List Int, Sl intV w a len cap zs ∧ ∀ z ∈ zs, -9223372036854775808 ≤ z ∧ z ≤ 9223372036854775807 := by
  subst hv
  obtain ⟨fuel, hf⟩ := h
  rcases open_ints ht he hc hf with ⟨hcs, _⟩ | ⟨x, l, c, zs, hcs, _, hl, hm, hz, _, hcell, hwz⟩
  · simp [Value.cells] at hcs
    obtain ⟨rfl, rfl, rfl⟩ := hcs
    exact ⟨[], Sl.nil_mk _ _, fun z hz => by cases hz⟩
  · simp [Value.cells] at hcs
    obtain ⟨rfl, rfl, rfl⟩ := hcs
    simp only [if_true] at hz
    refine ⟨zs.take len, ⟨by simp; omega, hl, by unfold maxLen at hm; omega, (fun h => by cases h), row_at ?_⟩, fun z hz => wf_i64 (hwz z (List.mem_of_mem_take hz))⟩
    intro i hi
    simp only [List.length_take] at hi
    rw [hcell i (by omega)]
    simp [List.getD, List.getElem?_eq_getElem (show i < zs.length by omega)]

theorem open_parts {t e q : TypeId} {v : Value} {d : DataW H} {ps : List MemPlace} (ht : P.underlying t = some (.slice e)) (hc : P.cellsOf e = 1) (he : P.underlying e = some (.slice q)) (hq : P.underlying q = some (.int .u8)) (hcq : P.cellsOf q = 1)
    {a : Option Addr} {len cap : Nat} (hv : v = .slice a len cap) (h : DataW.Trod enc P w base (fun _ => true) held t v d ps) : ∃ l : List Part, Parts w a len cap l := by
  subst hv
  obtain ⟨fuel, hf⟩ := h
  rcases open_slice1 ht hc hf with ⟨hcs, _⟩ | ⟨x, l, c, m, n, V, D, Pl, hcs, _, hl, hm, hmm, _, hx⟩
  · simp [Value.cells] at hcs
    obtain ⟨rfl, rfl, rfl⟩ := hcs
    exact ⟨[], Parts.none _⟩
  · simp [Value.cells] at hcs
    obtain ⟨rfl, rfl, rfl⟩ := hcs
    simp only [if_true] at hmm
    subst hmm
    have hp : ∀ i, i < len → ∃ p : Part, w.cell? (x.add i) = some (partV p) ∧ Sl byteV w p.a p.len p.cap p.bs := by
      intro i hi
      obtain ⟨h1, h2⟩ := hx i (by omega)
      obtain ⟨a, len, cap, hV⟩ : ∃ a len cap, V i = .slice a len cap := by
        rcases open_ints he hq hcq h2 with ⟨hcs, _⟩ | ⟨_, _, _, _, hcs, _⟩
        · exact ⟨_, _, _, by simpa using hcs⟩
        · exact ⟨_, _, _, by simpa using hcs⟩
      obtain ⟨bs, hbs⟩ := open_bytes (v := V i) he hq hcq hV ⟨n, by rw [hV] at h2 ⊢; exact h2⟩
      exact ⟨⟨a, len, cap, bs⟩, by rw [h1, hV]; rfl, hbs⟩
    obtain ⟨l, hlen, hl2⟩ := list_choose hp
    refine ⟨l, ⟨hlen, hl, by unfold maxLen at hm; omega, (fun h => by cases h), row_at fun i hi => (hl2 i hi).1⟩, fun p hp => ?_⟩
    obtain ⟨i, hi, rfl⟩ := List.getElem_of_mem hp
    exact (hl2 i hi).2

end
end Go.Proofs.Ytoobhebbgbhahaa
