/-
  Lasso: how points are opened. No condition.
-/
import Derived.Test.YtdofcjmnnmmecaaK8
import Derived.ChangeArms
namespace Go.Proofs.Ytdofcjmnnmmecaa
open Go.RowKit Go.ChangeShapes Go.WideShapes Go.ChangeAt Go.Deep
theorem rds_pts {w0 : World} {B : Nat} {E : List Ent} (hB : w0.heap.size ≤ B) {a : Option Addr} {len cap : Nat} {l : List Pt} (hl : SlS 2 ptV w0 a len cap l) : Rds w0 B E a (l.flatMap ptV) := by
  have hcell : ∀ (j : Nat) u, (l.flatMap ptV)[j]? = some u → ∃ i, ∃ h : i < l.length, ∃ q, j = i * 2 + q ∧ (ptV l[i])[q]? = some u := by
    intro j u hu
    have hj : j < (l.flatMap ptV).length := (List.getElem?_eq_some_iff.1 hu).1
    rw [length_pts] at hj
    refine ⟨j / 2, by omega, j % 2, by omega, ?_⟩
    rw [← flat_pt l (j / 2) (by omega), List.getElem?_take, if_pos (Nat.mod_lt _ (by decide)), List.getElem?_drop, ← hu]
    congr 1; omega
  refine ⟨fun w hw ad ha j u hu => ?_, fun hn => ?_, one_pts l⟩
  · obtain ⟨i, hi, q, rfl, hq⟩ := hcell j u hu
    obtain ⟨b, off, hb, hc⟩ := hl.row i hi
    rw [ha] at hb; cases hb
    have hc := hc q u hq
    rw [Addr.add_lit, ← hc, show off + (i * 2 + q) = off + i * 2 + q by omega]
    have hblk : b < B := by
      refine Nat.lt_of_lt_of_le ?_ hB
      simp only [World.cell?] at hc
      rcases Nat.lt_or_ge b w0.heap.size with h1 | h1
      · exact h1
      · rw [Array.getElem?_eq_none h1] at hc; cases hc
    exact hw.below.cell (p := ⟨b, off + i * 2 + q, none⟩) hblk
  · have := hl.nil hn
    have h2 := hl.le
    have h3 := hl.size_eq
    have : l = [] := List.eq_nil_of_length_eq_zero (by omega)
    rw [this]; rfl
theorem ptR_of {w0 : World} {B : Nat} {E : List Ent} (hB : w0.heap.size ≤ B) {a : Option Addr} {len cap : Nat} {l : List Pt} (hl : SlS 2 ptV w0 a len cap l) : PtR w0 B E a len l :=
  ⟨hl.size_eq, fun h0 => by obtain ⟨b, off, hb, _⟩ := hl.row 0 (by rw [hl.size_eq]; exact h0); exact ⟨b, off, hb⟩, rds_pts hB hl⟩
section
variable {H : Type} {enc : TypeId × Value → H} {w : World} {base : Nat} {held : Bool}
theorem open_pts {v : Value} {d : DataW H} {ps : List MemPlace} {a : Option Addr} {len cap : Nat} (hv : v = .slice a len cap)
    (h : DataW.Trod enc Try.prog w base (fun _ => true) held 22 v d ps) : ∃ l : List Pt, SlS 2 ptV w a len cap l ∧ ∀ x ∈ l, x.wf := by
  refine open_structs ptV Pt.wf Try.underlying22 Try.underlying34 (by kernel_rfl) (by kernel_rfl) (by decide) ?_ hv h
  intro vs hl hf
  obtain ⟨x, hx, n0, y0, h0⟩ := hf 0 _ rfl
  obtain ⟨y, hy, n1, y1, h1⟩ := hf 1 _ rfl
  obtain ⟨i, hi, _, wi⟩ := DataW.trod_int Try.underlying3 h0
  obtain ⟨j, hj, _, wj⟩ := DataW.trod_int Try.underlying3 h1
  cases hi; cases hj
  match vs, hl with
  | [p, q], _ =>
    cases hx; cases hy
    exact ⟨⟨i, j⟩, rfl, wf_i64 wi, wf_i64 wj⟩
theorem open_pt {v : Value} {d : DataW H} {ps : List MemPlace} {w0 : World} {r : Reach} {b0 : Nat} (hok : Value.okWide Try.prog w0 r b0 34 v) (h : DataW.Trod enc Try.prog w base (fun _ => true) held 34 v d ps) :
    ∃ p : Pt, v = .agg #[.int .i64 p.x, .int .i64 p.y] ∧ p.wf := by
  obtain ⟨cs, rfl, hsz⟩ : ∃ cs, v = .agg cs ∧ cs.size = Try.prog.cellsOf 34 := by
    simp only [Value.okWide, Try.underlying34] at hok
    obtain ⟨cs, h1, h2, _⟩ := hok
    exact ⟨cs, h1, h2⟩
  have hc3 : Try.prog.cellsOf 34 = 2 := by kernel_rfl
  obtain ⟨fuel, hf⟩ := h
  obtain ⟨y0, y1, n, _, hl, h0, h1⟩ := trod_struct2 Try.underlying34 hf
  obtain ⟨l⟩ := cs
  simp only [Value.cells] at hl h0 h1
  rw [hc3] at hl
  match l, hl with
  | [p, q], _ =>
    obtain ⟨i, hi, _, wi⟩ := DataW.trod_int Try.underlying3 h0
    obtain ⟨j, hj, _, wj⟩ := DataW.trod_int Try.underlying3 h1
    have e0 : ([p, q].drop 0).take (Try.prog.cellsOf 3) = [p] := by rw [show Try.prog.cellsOf 3 = 1 by kernel_rfl]; rfl
    have e1 : ([p, q].drop 1).take (Try.prog.cellsOf 3) = [q] := by rw [show Try.prog.cellsOf 3 = 1 by kernel_rfl]; rfl
    have hp : p = .int .i64 i := by have := e0.symm.trans hi; simpa using this
    have hq : q = .int .i64 j := by have := e1.symm.trans hj; simpa using this
    subst hp hq
    exact ⟨⟨i, j⟩, rfl, wf_i64 wi, wf_i64 wj⟩
end
end Go.Proofs.Ytdofcjmnnmmecaa
