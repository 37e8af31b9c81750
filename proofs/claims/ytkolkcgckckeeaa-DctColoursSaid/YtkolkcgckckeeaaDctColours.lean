/-
  The statement DctColours holds, whatever the three numbers.
-/
import Derived.Test.YtkolkcgckckeeaaD5
import Derived.Test.YtkolkcgckckeeaaOpenArr
namespace Go.Proofs.Ytkolkcgckckeeaa.dctColours
open Go.RowKit

theorem back_near {r g b : Int} (hr : By r) (hg : By g) (hb : By b) :
    (coR (brY r g b) (brB r g b) (brR r g b) - r ≤ 2 ∧ r - coR (brY r g b) (brB r g b) (brR r g b) ≤ 2) ∧
    (coG (brY r g b) (brB r g b) (brR r g b) - g ≤ 2 ∧ g - coG (brY r g b) (brB r g b) (brR r g b) ≤ 2) ∧
    (coB (brY r g b) (brB r g b) (brR r g b) - b ≤ 2 ∧ b - coB (brY r g b) (brB r g b) (brR r g b) ≤ 2) := by
  unfold By at hr hg hb
  unfold coR coG coB brY brB brR cutZ
  refine ⟨?_, ?_, ?_⟩ <;> omega

set_option maxHeartbeats 8000000 in
set_option maxRecDepth 100000 in
theorem law {w0 : World} {B : Nat} {H : List Ent} (r g b : Int) : Fn Try.prog w0 B 3 [triV r g b] H (fun u _ => u = .bool true) := by
  refine fn_intro Try.func3 rfl (by kernel_rfl) rfl ?_
  unfold triV
  repeat (first | refine go_ ?_ | refine bx_ (fun _ => ?_) | refine hl_callv rfl rfl (anchor_fn) ?_)
  by_cases hr : ¬ By r
  · by_cases h1 : r < 0
    · refine hc_rounds 4 ?_
      repeat (first | refine go_ ?_ | refine bx_ (fun _ => ?_))
      exact fin1B rfl rfl rfl
    · have h2 : 255 < r := by unfold By at hr; omega
      refine hc_rounds 4 ?_
      repeat (first | refine go_ ?_ | refine bx_ (fun _ => ?_))
      exact fin1B rfl rfl rfl
  replace hr := Classical.not_not.1 hr
  have hr' := hr
  unfold By at hr'
  by_cases hg : ¬ By g
  · by_cases h1 : g < 0
    · refine hc_rounds 4 ?_
      repeat (first | refine go_ ?_ | refine bx_ (fun _ => ?_))
      exact fin1B rfl rfl rfl
    · have h2 : 255 < g := by unfold By at hg; omega
      refine hc_rounds 4 ?_
      repeat (first | refine go_ ?_ | refine bx_ (fun _ => ?_))
      exact fin1B rfl rfl rfl
  replace hg := Classical.not_not.1 hg
  have hg' := hg
  unfold By at hg'
  by_cases hb : ¬ By b
  · by_cases h1 : b < 0
    · refine hc_rounds 4 ?_
      repeat (first | refine go_ ?_ | refine bx_ (fun _ => ?_))
      exact fin1B rfl rfl rfl
    · have h2 : 255 < b := by unfold By at hb; omega
      refine hc_rounds 4 ?_
      repeat (first | refine go_ ?_ | refine bx_ (fun _ => ?_))
      exact fin1B rfl rfl rfl
  replace hb := Classical.not_not.1 hb
  have hb' := hb
  unfold By at hb'
  refine hc_rounds 4 ?_
  have n1 := cut_by ((19595 * r + 38470 * g + 7471 * b + 32768) / 2 ^ 16)
  have n2 := cut_by ((32768 * b - 11059 * r - 21709 * g + 32768) / 2 ^ 16 + 128)
  have n3 := cut_by ((32768 * r - 27439 * g - 5329 * b + 32768) / 2 ^ 16 + 128)
  have nn := back_near hr hg hb
  obtain ⟨n4, n5, n6⟩ := nn
  repeat (first | refine go_ ?_ | refine bx_ (fun _ => ?_) | refine hl_callv rfl rfl (bright_fn r g b hr hg hb) ?_)
  refine hc_draw (by kernel_rfl) (by kernel_rfl) ?_
  repeat (first | refine gd_ ?_ | refine hd_call rfl rfl (rbright_fn r g b hr hg hb) ?_ | refine hd_call rfl rfl (colour_fn r g b hr hg hb) ?_ | refine hd_call rfl rfl (rcolour_fn r g b hr hg hb) ?_ | refine hl_neArrF (l := [brY r g b, brB r g b, brR r g b]) (m := [brY r g b, brB r g b, brR r g b]) rfl rfl rfl rfl rfl ?_ | refine hl_neArrF (l := [coR r g b, coG r g b, coB r g b]) (m := [coR r g b, coG r g b, coB r g b]) rfl rfl rfl rfl rfl ?_)
  repeat (first | refine go_ ?_ | refine bx_ (fun _ => ?_) | refine hl_callv rfl rfl (colour_fn _ _ _ n1 n2 n3) ?_)
  refine hc_rounds 4 ?_
  repeat (first | refine go_ ?_ | refine bx_ (fun _ => ?_))
  exact fin1B rfl rfl rfl
theorem walk (l : List Int) (w : World) (hl : l.length = 3) (_ : ∀ x ∈ l, -9223372036854775808 ≤ x ∧ x ≤ 9223372036854775807) :
    Calls Try.prog 3 #[arrV l] w fun e w' => e = .returned (.bool true) ∧ Below w.heap.size w w' := by
  match l, hl with
  | [r, g, b], _ => exact calls_of_fn (law r g b) fun _ _ h => h

/-! The step to the statement (written by program). -/
open Go.ChangeShapes Go.WideShapes Go.ChangeAt
set_option maxRecDepth 100000 in
theorem lifted (os : Os) (started : os.Started) (H : Type) (enc : TypeId × Value → H) :
    ReturnsInHanded {} Try.checked os 3 .any (Rows.dctColoursSpec.pre6 enc Try.prog Try.f3 Rows.dctColoursRow.domain false) (Rows.dctColoursSpec.post enc Try.prog Try.f3 false true false false) := by
  refine returnsInHanded_of_change (C := Try.checked) own started (by kernel_rfl) Try.func3
    (ChangeSpec.witness6 (enc := enc) (C := Try.checked) false ⟨#[], #[.agg #[.int .i64 0, .int .i64 0, .int .i64 0]], []⟩ 8 (by kernel_rfl) (by kernel_rfl) (by kernel_rfl) (by kernel_rfl)) ?_
  intro W base args ds gs before hval0 hW hcnd _
  have hval : ∀ (j : Nat) t v, Try.f3.params[j]? = some t → args[j]? = some v → Value.okWide Try.prog W .any base t v := hval0
  have hW' := hW
  obtain ⟨p, q, hA0, hV, rfl, hfz, hnd⟩ := hW
  have hA : DataW.TrodAll enc Try.prog W 0 (fun _ => true) true Try.f3.params.toList args.toList ds p := hA0
  rw [Try.params3] at hA hval
  obtain ⟨v0, vs0, d0, ds0, p0, q0, hargs, rfl, rfl, h0, r0⟩ := trodAll_cons hA
  obtain ⟨rfl, rfl, rfl⟩ := trodAll_nil r0
  obtain rfl : args = #[v0] := by cases args; simp_all
  obtain ⟨rfl, rfl⟩ := trodVars_none hV
  have k0 := h0
  have lt0 : ∀ x ∈ p0, x.block < W.heap.size := by obtain ⟨m, hm⟩ := k0; exact DataW.trod_lt m _ _ _ hm
  obtain ⟨l0, rfl, n0, b0⟩ := open_array Try.underlying22 Try.underlying3 (by kernel_rfl) (by kernel_rfl) (hval 0 22 v0 rfl rfl) k0
  clear hA0 hval0
  refine (walk l0 W n0 b0).mono fun e W' ⟨he, bel⟩ => ?_
  subst he
  exact ⟨_, rfl, _, _, _, [], _, [], hW', trodAll_mk1 (shut_bool Try.underlying4 _), (trodAll_cons_mk (Below.trod laidOut (by kernel_rfl) (of_decide_eq_true (by kernel_rfl)) k0 bel lt0) trodAll_mk0), rfl, bel.frame _, fun h => by cases h⟩

theorem over : Rows.dctColoursRow.holds Try.pinned (OpenSpec.ofChange Rows.dctColoursSpec) :=
  OpenClaim.holds_of_wide 3 Try.f3 rfl rfl rfl rfl rfl rfl rfl ⟨rfl, rfl, rfl, rfl, rfl⟩ rfl rfl rfl rfl rfl (by kernel_rfl) Try.func3 (by kernel_rfl)
    (of_decide_eq_true (by kernel_rfl)) (by unfold Func.isWrapper; first | (rw [if_pos (by decide +kernel)]; kernel_rfl) | (rw [if_neg (by decide +kernel)]; exact ⟨rfl, rfl⟩))
    (fun os started H enc _ => lifted os started H enc)

/-- The statement. -/
theorem proved : Rows.DctColoursSaid := over
#print axioms proved
end Go.Proofs.Ytkolkcgckckeeaa.dctColours
