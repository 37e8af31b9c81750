/-
  How an array of numbers that is handed in by value is opened. No condition.
-/
import Derived.Test.YtbgdligfdfhbkaaOpen
namespace Go.Proofs.Ytbgdligfdfhbkaa
open Go.RowKit Go.ChangeShapes Go.WideShapes Go.ChangeAt Go.Deep
section
variable {H : Type} {enc : TypeId × Value → H} {P : Program} {w : World} {base : Nat} {held : Bool}

theorem open_array {t e : TypeId} {n : Nat} {v : Value} {d : DataW H} {ps : List MemPlace} (ht : P.underlying t = some (.array n e)) (he : P.underlying e = some (.int .i64)) (hc : P.cellsOf e = 1) (hct : P.cellsOf t = n)
    {w0 : World} {r : Reach} {b0 : Nat} (hok : Value.okWide P w0 r b0 t v) (h : DataW.Trod enc P w base (fun _ => true) held t v d ps) :
    ∃ l : List Int, v = arrV l ∧ l.length = n ∧ ∀ x ∈ l, -9223372036854775808 ≤ x ∧ x ≤ 9223372036854775807 := by
  obtain ⟨cs, rfl, hsz⟩ : ∃ cs, v = .agg cs ∧ cs.size = P.cellsOf t := by
    simp only [Value.okWide, ht] at hok
    obtain ⟨cs, h1, h2, _⟩ := hok
    exact ⟨cs, h1, h2⟩
  obtain ⟨fuel, hf⟩ := h
  obtain ⟨xs, m, _, _, _, hxl, hx⟩ := DataW.trod_array ht hf
  simp only [Value.cells, hc, Nat.mul_one] at hx
  have hp : ∀ i, i < n → ∃ x : Int, cs.toList[i]? = some (intV x) ∧ -9223372036854775808 ≤ x ∧ x ≤ 9223372036854775807 := by
    intro i hi
    have h1 := hx i hi
    rw [List.getElem?_eq_getElem (by omega)] at h1
    obtain ⟨z, hz, _, hw⟩ := DataW.trod_int he h1
    have := congrArg (·[0]?) hz
    simp only [List.getElem?_take, List.getElem?_drop] at this
    exact ⟨z, by simpa using this, wf_i64 hw⟩
  obtain ⟨l, hl, hl2⟩ := list_choose hp
  refine ⟨l, ?_, hl, fun x hx => ?_⟩
  · show Value.agg cs = Value.agg _
    congr 1
    apply Array.ext'
    apply List.ext_getElem?
    intro i
    simp only [List.getElem?_map]
    by_cases hi : i < n
    · rw [(hl2 i (by omega)).1, List.getElem?_eq_getElem (by omega)]; rfl
    · rw [List.getElem?_eq_none (by rw [Array.length_toList, hsz, hct]; omega), List.getElem?_eq_none (by omega)]; rfl
  · obtain ⟨i, hi, rfl⟩ := List.getElem_of_mem hx
    exact (hl2 i hi).2
end
end Go.Proofs.Ytbgdligfdfhbkaa
