/-
  The statement AffineBacks holds, whatever the map.
-/
import Derived.Test.YtbgdligfdfhbkaaA8
import Derived.Test.YtbgdligfdfhbkaaOpenArr
namespace Go.Proofs.Ytbgdligfdfhbkaa.affineBacks
open Go.RowKit
set_option maxHeartbeats 8000000 in
theorem law {w0 : World} {B : Nat} {H : List Ent} (m : Nat → Int) (hm : Sm m) : Fn Try.prog w0 B 3 [mapV m] H (fun u _ => u = .bool true) := by
  have h1 : ∀ E, Fn Try.prog w0 B 13 [.agg (tab 6 m).toArray] E (fun v H' => v = .tuple #[.agg (tab 6 (backR m).1).toArray, .int .i64 (backR m).2] ∧ H' = E) := fun E => back_fn m hm
  have h2 : ∀ E, Fn Try.prog w0 B 14 [.agg (tab 6 m).toArray] E (fun v H' => v = .tuple #[.agg (tab 6 (backR m).1).toArray, .int .i64 (backR m).2] ∧ H' = E) := fun E => rback_fn m hm
  refine fn_intro Try.func3 rfl (by kernel_rfl) rfl ?_
  unfold mapV
  repeat (first | refine go_ ?_ | refine bx_ (fun _ => ?_) | refine hl_callv rfl rfl (anchor_fn) ?_ | refine hl_callv rfl rfl (h1 _) ?_ | refine hl_callv rfl rfl (h2 _) ?_)
  refine hl_eqTabT rfl rfl (fun _ _ => rfl) rfl ?_
  repeat (first | refine go_ ?_ | refine bx_ (fun _ => ?_))
  exact fin1B rfl rfl rfl
theorem walk (l : List Int) (w : World) (hl : l.length = 6) (hb : ∀ x ∈ l, -9223372036854775808 ≤ x ∧ x ≤ 9223372036854775807) :
    Calls Try.prog 3 #[arrV l] w fun e w' => e = .returned (.bool true) ∧ Below w.heap.size w w' := by
  have e : arrV l = mapV (fun k => l.getD k 0) := by unfold arrV mapV; rw [map_tab, hl]
  rw [e]
  exact calls_of_fn (law _ (sm_of hl hb)) fun _ _ h => h

/-! The step to the statement (written by program). -/
open Go.ChangeShapes Go.WideShapes Go.ChangeAt
set_option maxRecDepth 100000 in
theorem lifted (os : Os) (started : os.Started) (H : Type) (enc : TypeId × Value → H) :
    ReturnsInHanded {} Try.checked os 3 .any (Rows.affineBacksSpec.pre6 enc Try.prog Try.f3 Rows.affineBacksRow.domain false) (Rows.affineBacksSpec.post enc Try.prog Try.f3 false true false false) := by
  refine returnsInHanded_of_change (C := Try.checked) own started (by kernel_rfl) Try.func3
    (ChangeSpec.witness6 (enc := enc) (C := Try.checked) false ⟨#[], #[.agg #[.int .i64 0, .int .i64 0, .int .i64 0, .int .i64 0, .int .i64 0, .int .i64 0]], []⟩ 8 (by kernel_rfl) (by kernel_rfl) (by kernel_rfl) (by kernel_rfl)) ?_
  intro W base args ds gs before hval0 hW hcnd _
  have hval : ∀ (j : Nat) t v, Try.f3.params[j]? = some t → args[j]? = some v → Value.okWide Try.prog W .any base t v := hval0
  have hW' := hW
  obtain ⟨p, q, hA0, hV, rfl, hfz, hnd⟩ := hW
  have hA : DataW.TrodAll enc Try.prog W 0 (fun _ => true) true Try.f3.params.toList args.toList ds p := hA0
  rw [Try.params3] at hA hval
  obtain ⟨v0, vs0, d0, ds0, p0, q0, hargs, rfl, rfl, h0, r0⟩ := trodAll_cons hA
  obtain ⟨rfl, rfl, rfl⟩ := trodAll_nil r0
  obtain rfl : args = #[v0] := by cases args; simp_all
  obtain ⟨rfl, rfl⟩ := trodVars_none hV
  have k0 := h0
  have lt0 : ∀ x ∈ p0, x.block < W.heap.size := by obtain ⟨m, hm⟩ := k0; exact DataW.trod_lt m _ _ _ hm
  obtain ⟨l0, rfl, n0, b0⟩ := open_array Try.underlying23 Try.underlying3 (by kernel_rfl) (by kernel_rfl) (hval 0 23 v0 rfl rfl) k0
  clear hA0 hval0
  refine (walk l0 W n0 b0).mono fun e W' ⟨he, bel⟩ => ?_
  subst he
  exact ⟨_, rfl, _, _, _, [], _, [], hW', trodAll_mk1 (shut_bool Try.underlying4 _), (trodAll_cons_mk (Below.trod laidOut (by kernel_rfl) (of_decide_eq_true (by kernel_rfl)) k0 bel lt0) trodAll_mk0), rfl, bel.frame _, fun h => by cases h⟩

theorem over : Rows.affineBacksRow.holds Try.pinned (OpenSpec.ofChange Rows.affineBacksSpec) :=
  OpenClaim.holds_of_wide 3 Try.f3 rfl rfl rfl rfl rfl rfl rfl ⟨rfl, rfl, rfl, rfl, rfl⟩ rfl rfl rfl rfl rfl (by kernel_rfl) Try.func3 (by kernel_rfl)
    (of_decide_eq_true (by kernel_rfl)) (by unfold Func.isWrapper; first | (rw [if_pos (by decide +kernel)]; kernel_rfl) | (rw [if_neg (by decide +kernel)]; exact ⟨rfl, rfl⟩))
    (fun os started H enc _ => lifted os started H enc)

/-- The statement. -/
theorem proved : Rows.AffineBacksSaid := over
#print axioms proved
end Go.Proofs.Ytbgdligfdfhbkaa.affineBacks
