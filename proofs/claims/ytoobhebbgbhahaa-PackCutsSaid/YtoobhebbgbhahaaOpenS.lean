/-
  How an argument that is a slice of structs is opened. No condition.
-/
import Derived.Test.YtoobhebbgbhahaaOpen
import Derived.Test.YtoobhebbgbhahaaTy
import Derived.Deep.Fields
import Derived.ChangeSame
namespace Go.Proofs.Ytoobhebbgbhahaa
open Go.RowKit Go.ChangeShapes Go.WideShapes Go.ChangeAt Go.Deep

section
variable {H : Type} {enc : TypeId × Value → H} {P : Program} {w : World} {base : Nat} {spare : Nat → Bool} {held : Bool}
theorem open_slice_fields {t e : TypeId} {fs : Array Field} {fuel : Nat} {cs : List Value} {x : DataW H × List MemPlace} (ht : P.underlying t = some (.slice e)) (he : P.underlying e = some (.struct fs))
    (hone : oneCellFields P fs = true) (hC : P.cellsOf e = fs.size) (h : DataW.trod enc P w base spare held fuel t cs = some x) :
    (cs = [.slice none 0 0] ∧ x = (.nil, [])) ∨
    ∃ (a : Addr) (len cap m : Nat) (D : Nat → DataW H) (Pl : Nat → List MemPlace), cs = [.slice (some a) len cap] ∧ base ≤ a.block ∧ len ≤ cap ∧ cap ≤ maxLen ∧ m = (if spare a.block then cap else len) ∧
      x = (.slice ((List.range len).map D) ((List.range (m - len)).map fun j => D (len + j)), MemPlace.row a (m * fs.size) ++ (List.range m).flatMap Pl) ∧
      ∀ i, i < m → ∃ (ys : List (DataW H × List MemPlace)) (n : Nat), D i = .agg (ys.map (·.1)) ∧ Pl i = ys.flatMap (·.2) ∧ ys.length = fs.size ∧
        ∀ (j : Nat) (f : Field), fs[j]? = some f → ∃ (v : Value) (y : DataW H × List MemPlace), w.cell? (a.add (i * fs.size + j)) = some v ∧ ys[j]? = some y ∧ DataW.trod enc P w base spare held n f.type [v] = some y := by
  rcases open_slice ht h with h0 | ⟨a, len, cap, m, n, D, Pl, hcs, hb, hl, hm, hmm, hx, hi⟩
  · exact .inl h0
  · refine .inr ⟨a, len, cap, m, D, Pl, hcs, hb, hl, hm, hmm, by rw [hC] at hx; exact hx, fun i him => ?_⟩
    obtain ⟨cs', hc, ht'⟩ := hi i him
    rw [hC] at hc
    obtain ⟨ys, n', hn', hy, hlen, hyl, hf⟩ := DataW.trod_struct he ht'
    obtain ⟨_, hcl, hat⟩ := World.cells?_some hc
    simp only [Prod.mk.injEq] at hy
    refine ⟨ys, n', hy.1, hy.2, hyl, fun j f hj => ?_⟩
    obtain ⟨ho, hk⟩ := hone_of hone j f hj
    have hjl : j < fs.size := (Array.getElem?_eq_some_iff.1 hj).1
    have hcell := hat j hjl
    have hv : cs'[j]? = some (cs'[j]'(by omega)) := List.getElem?_eq_getElem (by omega)
    have h1 := hf j f hj
    rw [ho, hk] at h1
    have hone' : (cs'.drop j).take 1 = [cs'[j]'(by omega)] := by
      rw [List.drop_eq_getElem_cons (by omega)]
      rfl
    rw [hone'] at h1
    have hys : ys[j]? = some (ys[j]'(by omega)) := List.getElem?_eq_getElem (by omega)
    refine ⟨_, _, ?_, hys, h1.trans hys⟩
    rw [← Go.Deep.add_add, hcell, hv]
end

/-- A slice value of elements of k cells that reads as a list. -/
structure SlS {α : Type} (k : Nat) (f : α → List Value) (w : World) (a : Option Addr) (len cap : Nat) (l : List α) : Prop where
  size_eq : l.length = len
  le : len ≤ cap
  small : cap ≤ 9223372036854775807
  nil : a = none → cap = 0
  row : ∀ i (h : i < l.length), ∃ b off, a = some ⟨b, off, none⟩ ∧ ∀ (j : Nat) u, (f l[i])[j]? = some u → w.cell? ⟨b, off + i * k + j, none⟩ = some u

section
variable {H : Type} {enc : TypeId × Value → H} {P : Program} {w : World} {base : Nat} {held : Bool}
theorem open_structs {α : Type} (f : α → List Value) (ok : α → Prop) {t e : TypeId} {fs : Array Field} {v : Value} {d : DataW H} {ps : List MemPlace} (ht : P.underlying t = some (.slice e)) (he : P.underlying e = some (.struct fs))
    (hone : oneCellFields P fs = true) (hC : P.cellsOf e = fs.size) (h0 : 0 < fs.size)
    (conv : ∀ vs : List Value, vs.length = fs.size → (∀ (j : Nat) (g : Field), fs[j]? = some g → ∃ v, vs[j]? = some v ∧ ∃ n y, DataW.trod enc P w base (fun _ => true) held n g.type [v] = some y) → ∃ x : α, f x = vs ∧ ok x)
    {a : Option Addr} {len cap : Nat} (hv : v = .slice a len cap) (h : DataW.Trod enc P w base (fun _ => true) held t v d ps) : ∃ l : List α, SlS fs.size f w a len cap l ∧ ∀ x ∈ l, ok x := by
  subst hv
  obtain ⟨fuel, hf⟩ := h
  rcases open_slice_fields ht he hone hC hf with ⟨hcs, _⟩ | ⟨x, l, c, m, D, Pl, hcs, _, hl, hm, hmm, _, hx⟩
  · simp [Value.cells] at hcs
    obtain ⟨rfl, rfl, rfl⟩ := hcs
    exact ⟨[], ⟨rfl, by omega, by omega, fun _ => rfl, fun i h => absurd h (by simp)⟩, fun x hx => by cases hx⟩
  · simp [Value.cells] at hcs
    obtain ⟨rfl, rfl, rfl⟩ := hcs
    simp only [if_true] at hmm
    have hel : ∀ i, i < m → ∃ y : α, (∀ (j : Nat) u, (f y)[j]? = some u → w.cell? (x.add (i * fs.size + j)) = some u) ∧ (f y).length = fs.size ∧ ok y := by
      intro i hi
      obtain ⟨ys, n, _, _, _, hj⟩ := hx i hi
      have hj' : ∀ j, j < fs.size → ∃ v, w.cell? (x.add (i * fs.size + j)) = some v ∧ ∃ n y, DataW.trod enc P w base (fun _ => true) held n (fs[j]!).type [v] = some y := by
        intro j hlt
        obtain ⟨v, y, h1, _, h3⟩ := hj j (fs[j]'hlt) (Array.getElem?_eq_getElem hlt)
        exact ⟨v, h1, n, y, by simpa [hlt] using h3⟩
      obtain ⟨vs, hvl, hvs⟩ := list_choose hj'
      obtain ⟨y, hy, hok⟩ := conv vs hvl (fun j g hg => by
        have hlt : j < fs.size := (Array.getElem?_eq_some_iff.1 hg).1
        obtain ⟨h1, n, y, h2⟩ := hvs j (by omega)
        refine ⟨vs[j]'(by omega), List.getElem?_eq_getElem (by omega), n, y, ?_⟩
        have : fs[j]! = g := by rw [Array.getElem?_eq_getElem hlt] at hg; simp only [Option.some.injEq] at hg; simp [hlt, hg]
        rw [← this]; exact h2)
      refine ⟨y, fun j u hu => ?_, by rw [hy]; exact hvl, hok⟩
      rw [hy] at hu
      obtain ⟨hlt, hu⟩ := List.getElem?_eq_some_iff.1 hu
      rw [(hvs j hlt).1, hu]
    obtain ⟨l, hlen, hl2⟩ := list_choose hel
    refine ⟨l.take len, ⟨by rw [List.length_take]; omega, hl, by unfold maxLen at hm; omega, (fun h => by cases h), fun i hi => ?_⟩, fun y hy => ?_⟩
    · have hi : i < l.length := by rw [List.length_take] at hi; omega
      rw [List.getElem_take]
      obtain ⟨b, off, spot⟩ := x
      have hs : spot = none := by
        obtain ⟨hc, hfl, _⟩ := hl2 i hi
        have h1 := hc 0 _ (List.getElem?_eq_getElem (by omega))
        have := World.cell?_spot h1
        unfold Addr.add at this
        by_cases hz : i * fs.size + 0 = 0
        · simpa [hz] using this
        · -- the address of the first element tells
          obtain ⟨hc0, hfl0, _⟩ := hl2 0 (by omega)
          have h2 := hc0 0 _ (List.getElem?_eq_getElem (by omega))
          have := World.cell?_spot h2
          simpa [Addr.add] using this
      subst hs
      refine ⟨b, off, rfl, fun j u hu => ?_⟩
      rw [← (hl2 i hi).1 j u hu, Addr.add_lit, Nat.add_assoc]
    · obtain ⟨i, hi, rfl⟩ := List.getElem_of_mem (List.mem_of_mem_take hy)
      exact (hl2 i hi).2.2
end

section
variable {c : Cx} {Q : Pst} {fr : Fr} {H F : List Ent} {ops : Array Oper} {rest : List Oper} {dst : Option Nat} {ty : TypeId} {pos : String} {after : Array Edge} {x : Operand} {T : TypeId} {S : List Oper → Fr → List Ent → Prop}
theorem SlS.lt {α : Type} {k : Nat} {f : α → List Value} {w : World} {b off len cap : Nat} {l : List α} (h : SlS k f w (some ⟨b, off, none⟩) len cap l) {i : Nat} (hi : i < l.length) (hk : 0 < (f l[i]).length) : b < w.heap.size := by
  obtain ⟨b', off', hb, hc⟩ := h.row i hi
  cases hb
  have hc := hc 0 _ (List.getElem?_eq_getElem hk)
  simp only [World.cell?] at hc
  rcases Nat.lt_or_ge b w.heap.size with h1 | h1
  · exact h1
  · rw [Array.getElem?_eq_none h1] at hc; cases hc
/-- An element read out of an argument. -/
theorem hl_loadE [Stp c ops S] {α : Type} {k : Nat} {f : α → List Value} {b off len cap i : Nat} {l : List α} [TAgg c.P T] [TSz c.P T k] (hl : SlS k f c.w0 (some ⟨b, off, none⟩) len cap l) (hi : i < l.length) (hB : c.w0.heap.size ≤ c.B) (hk : (f l[i]).length = k) (h0 : 0 < k)
    (hx : ev fr x = .pointer (some ⟨b, off + i * k, none⟩)) (hd : dOk c.n dst = true) (h : S rest (updO fr dst (.agg (f l[i]).toArray)) H) : S (⟨dst, .load T x, ty, pos, after, none⟩ :: rest) fr H :=
  hl_loadNr hx (fun j u hu => by
    obtain ⟨b', off', hb, hc⟩ := hl.row i hi
    cases hb
    exact hc j u hu) (Nat.lt_of_lt_of_le (hl.lt hi (by omega)) hB) hk hd h
/-- An element of one cell, read out of an argument. -/
theorem hl_loadV [Stp c ops S] {α : Type} {f : α → Value} {b off len cap i : Nat} {l : List α} [TOne c.P T] (hl : Sl f c.w0 (some ⟨b, off, none⟩) len cap l) (hi : i < l.length) (hB : c.w0.heap.size ≤ c.B)
    (hx : ev fr x = .pointer (some ⟨b, off + i, none⟩)) (hd : dOk c.n dst = true) (h : S rest (updO fr dst (f l[i])) H) : S (⟨dst, .load T x, ty, pos, after, none⟩ :: rest) fr H := by
  obtain ⟨b', off', hb, hc⟩ := hl.row i hi
  cases hb
  refine hl_load1r hx hc ?_ hd h
  simp only [World.cell?] at hc
  rcases Nat.lt_or_ge b c.w0.heap.size with h1 | h1
  · omega
  · rw [Array.getElem?_eq_none h1] at hc; cases hc
end
end Go.Proofs.Ytoobhebbgbhahaa
