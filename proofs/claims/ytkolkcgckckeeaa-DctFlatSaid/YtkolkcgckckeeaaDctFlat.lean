/-
  The statement DctFlat holds, whatever the number.
-/
import Derived.Test.YtkolkcgckckeeaaD5
import Derived.Test.YtkolkcgckckeeaaOpenArr
namespace Go.Proofs.Ytkolkcgckckeeaa.dctFlat
open Go.RowKit

theorem colS : ∀ j : Fin 64, sumZ (cF j.val) 8 = if j.val % 8 = 0 then 23168 else 0 := by decide +kernel
theorem rowS : ∀ j : Fin 64, sumZ (cG j.val) 8 = if j.val / 8 = 0 then 23168 else 0 := by decide +kernel
theorem half_flat (v : Int) (j : Nat) (hj : j < 64) : half cF (fun _ => v) j 8 = v * (if j % 8 = 0 then 23168 else 0) := by
  unfold half
  rw [sumZ_mul]
  congr 1
  exact colS ⟨j, hj⟩
theorem full_flat (v : Int) (i : Nat) (hi : i < 64) : full cF cG (fun _ => v) i 8 = v * (if i % 8 = 0 then 23168 else 0) * (if i / 8 = 0 then 23168 else 0) := by
  have h : full cF cG (fun _ => v) i 8 = sumZ (fun y => v * (if i % 8 = 0 then 23168 else 0) * cG i y) 8 := by
    unfold full
    refine sumZ_congr 8 fun y hy => ?_
    rw [half_flat v _ (by omega), show (y * 8 + i % 8) % 8 = i % 8 by omega]
  rw [h, sumZ_mul]
  congr 1
  exact rowS ⟨i, hi⟩
theorem fwd_flat (v : Int) (i : Nat) (hi : i < 64) (h0 : 0 < i) : fwd (fun _ => v) i = 0 := by
  unfold fwd near26
  rw [full_flat v i hi]
  by_cases h : i % 8 = 0
  · rw [if_neg (show ¬ i / 8 = 0 by omega), Int.mul_zero]; rfl
  · rw [if_neg h, Int.mul_zero, Int.zero_mul]; rfl
theorem fwd_flat0 (v : Int) : fwd (fun _ => v) 0 = (v * 536756224 + 33554432) / 67108864 := by
  unfold fwd near26
  rw [full_flat v 0 (by decide)]
  simp only [Nat.zero_mod, Nat.zero_div, if_true]
  rw [Int.mul_assoc]; rfl
theorem dF0 : ∀ j : Fin 8, dF j.val 0 = 2896 := by decide
theorem bck_flat (f : Nat → Int) (hf : ∀ i, i < 64 → 0 < i → f i = 0) (i : Nat) (hi : i < 64) : bck f i = (f 0 * 8386816 + 33554432) / 67108864 := by
  have hz : ∀ (g : Nat → Int), (∀ k, k < 8 → 0 < k → g k = 0) → sumZ g 8 = g 0 := fun g hg => by
    show (((((((0 + g 0) + g 1) + g 2) + g 3) + g 4) + g 5) + g 6) + g 7 = g 0
    rw [hg 1 (by omega) (by omega), hg 2 (by omega) (by omega), hg 3 (by omega) (by omega), hg 4 (by omega) (by omega), hg 5 (by omega) (by omega), hg 6 (by omega) (by omega), hg 7 (by omega) (by omega)]
    omega
  have h1 : ∀ y, y < 8 → half dF f (y * 8 + i % 8) 8 = f (y * 8) * 2896 := fun y hy => by
    unfold half
    rw [hz]
    · have : dF (y * 8 + i % 8) 0 = 2896 := by
        have := dF0 ⟨i % 8, by omega⟩
        unfold dF at this ⊢
        rw [← this]; congr 1; dsimp only; omega
      rw [this]; congr 2; omega
    · intro k hk h0
      rw [hf _ (by omega) (by omega), Int.zero_mul]
  have h2 : full dF dG f i 8 = f 0 * 8386816 := by
    unfold full
    rw [hz]
    · rw [h1 0 (by omega)]
      have : dG i 0 = 2896 := by
        have := dF0 ⟨i / 8, by omega⟩
        unfold dF at this
        unfold dG
        rw [← this]; congr 1; dsimp only; omega
      rw [this, Int.mul_assoc]; rfl
    · intro k hk h0
      rw [h1 k hk, hf _ (by omega) (by omega), Int.zero_mul, Int.zero_mul]
  unfold bck near26
  rw [h2]

set_option maxHeartbeats 8000000 in
set_option maxRecDepth 100000 in
theorem law {w0 : World} {B : Nat} {H : List Ent} (v : Int) (hv : -9223372036854775808 ≤ v ∧ v ≤ 9223372036854775807) : Fn Try.prog w0 B 7 [.int .i64 v] H (fun u _ => u = .bool true) := by
  refine fn_intro Try.func7 rfl (by kernel_rfl) rfl ?_
  by_cases hlo : v < -16384
  · repeat (first | refine go_ ?_ | refine bx_ (fun _ => ?_) | refine hl_callv rfl rfl (anchor_fn) ?_)
    exact fin1B rfl rfl rfl
  by_cases hhi : 16384 < v
  · repeat (first | refine go_ ?_ | refine bx_ (fun _ => ?_) | refine hl_callv rfl rfl (anchor_fn) ?_)
    exact fin1B rfl rfl rfl
  repeat (first | refine go_ ?_ | refine bx_ (fun _ => ?_) | refine hl_callv rfl rfl (anchor_fn) ?_)
  rename_i g3
  refine hc_loop (fun z fr M => ∃ k, k + z = 64 ∧ Agr fr [(0, .int .i64 v), (3, .pointer (some ⟨g3, 0, none⟩)), (21, .int .i64 (k : Int))] ∧ M = ⟨g3, 27, tab 64 (dsel (fun _ => v) k), 64⟩ :: H) 64 ?_ ?_
  · exact ⟨0, by omega, ⟨rfl, rfl, rfl, trivial⟩, rfl⟩
  rintro z fr M ⟨k, hk, hf, rfl⟩
  obtain ⟨base, rfl⟩ := hf.out
  clear hf
  by_cases hlt : k < 64
  · have hset := dsel_set (fun _ => v) 64 k
    repeat (first | rw [hset] | refine go1_ ?_ | refine bx_ (fun _ => ?_))
    exact ⟨z - 1, by omega, k + 1, by omega, ⟨rfl, rfl, rfl, trivial⟩, rfl⟩
  obtain rfl : k = 64 := by omega
  rw [dsel_end]
  clear hlt hk
  have hs : Small (fun _ => v) := fun _ _ => by dsimp only; omega
  have hf0 := fwd_flat0 v
  have hfz := fwd_flat v
  repeat (first | refine go_ ?_ | refine bx_ (fun _ => ?_) | refine hl_callv rfl rfl (forward_fn _ hs) ?_)
  rename_i g5
  obtain ⟨f, hfe⟩ : ∃ f, f = fwd (fun _ => v) := ⟨_, rfl⟩
  rw [← hfe] at hf0 hfz ⊢
  refine hc_loop (fun z fr M => ∃ k, k + z = 64 ∧ Agr fr [(0, .int .i64 v), (5, .pointer (some ⟨g5, 0, none⟩)), (30, .agg (tab 64 f).toArray), (31, .int .i64 (k : Int))] ∧ M = ⟨g5, 27, tab 64 f, 64⟩ :: ⟨g3, 27, tab 64 (fun _ => v), 64⟩ :: H) 64 ?_ ?_
  · exact ⟨0, by omega, ⟨rfl, rfl, rfl, rfl, trivial⟩, rfl⟩
  clear base
  rintro z fr M ⟨k, hk, hf, rfl⟩
  obtain ⟨base, rfl⟩ := hf.out
  clear hf
  by_cases hlt : k < 64
  · by_cases h0 : k = 0
    · subst h0
      repeat (first | refine go_ ?_ | refine bx_ (fun _ => ?_))
      exact ⟨z - 1, by omega, 0 + 1, by omega, ⟨rfl, rfl, rfl, rfl, trivial⟩, rfl⟩
    · have := hfz k hlt (by omega)
      repeat (first | refine go_ ?_ | refine bx_ (fun _ => ?_))
      exact ⟨z - 1, by omega, k + 1, by omega, ⟨rfl, rfl, rfl, rfl, trivial⟩, rfl⟩
  have hb := bck_flat f hfz
  have hfs : Small f := fun i hi => by
    by_cases h0 : i = 0
    · subst h0; omega
    · have := hfz i hi (by omega); omega
  have hb0 := hb 0 (by omega)
  repeat (first | refine go_ ?_ | refine bx_ (fun _ => ?_) | refine hl_callv rfl rfl (back_fn _ hfs) ?_)
  rename_i g9
  generalize bck f = b at *
  refine hc_loop (fun z fr M => ∃ k, k + z = 64 ∧ Agr fr [(0, .int .i64 v), (9, .pointer (some ⟨g9, 0, none⟩)), (69, .agg (tab 64 b).toArray), (70, .int .i64 (k : Int))] ∧ M = ⟨g9, 27, tab 64 b, 64⟩ :: ⟨g5, 27, tab 64 f, 64⟩ :: ⟨g3, 27, tab 64 (fun _ => v), 64⟩ :: H) 64 ?_ ?_
  · exact ⟨0, by omega, ⟨rfl, rfl, rfl, rfl, trivial⟩, rfl⟩
  clear base hlt hk
  rintro z fr M ⟨k, hk, hf, rfl⟩
  obtain ⟨base, rfl⟩ := hf.out
  clear hf
  by_cases hlt : k < 64
  · have := hb k hlt
    repeat (first | refine go_ ?_ | refine bx_ (fun _ => ?_))
    exact ⟨z - 1, by omega, k + 1, by omega, ⟨rfl, rfl, rfl, rfl, trivial⟩, rfl⟩
  repeat (first | refine go_ ?_ | refine bx_ (fun _ => ?_))
  exact fin1B rfl rfl rfl
theorem walk (v : Int) (w : World) (hv : -9223372036854775808 ≤ v ∧ v ≤ 9223372036854775807) :
    Calls Try.prog 7 #[.int .i64 v] w fun e w' => e = .returned (.bool true) ∧ Below w.heap.size w w' :=
  calls_of_fn (law v hv) fun _ _ h => h

/-! The step to the statement (written by program). -/
open Go.ChangeShapes Go.WideShapes Go.ChangeAt
set_option maxRecDepth 100000 in
theorem lifted (os : Os) (started : os.Started) (H : Type) (enc : TypeId × Value → H) :
    ReturnsInHanded {} Try.checked os 7 .any (Rows.dctFlatSpec.pre6 enc Try.prog Try.f7 Rows.dctFlatRow.domain false) (Rows.dctFlatSpec.post enc Try.prog Try.f7 false true false false) := by
  refine returnsInHanded_of_change (C := Try.checked) own started (by kernel_rfl) Try.func7
    (ChangeSpec.witness6 (enc := enc) (C := Try.checked) false ⟨#[], #[.int .i64 0], []⟩ 8 (by kernel_rfl) (by kernel_rfl) (by kernel_rfl) (by kernel_rfl)) ?_
  intro W base args ds gs before hval0 hW hcnd _
  have hval : ∀ (j : Nat) t v, Try.f7.params[j]? = some t → args[j]? = some v → Value.okWide Try.prog W .any base t v := hval0
  have hW' := hW
  obtain ⟨p, q, hA0, hV, rfl, hfz, hnd⟩ := hW
  have hA : DataW.TrodAll enc Try.prog W 0 (fun _ => true) true Try.f7.params.toList args.toList ds p := hA0
  rw [Try.params7] at hA hval
  obtain ⟨v0, vs0, d0, ds0, p0, q0, hargs, rfl, rfl, h0, r0⟩ := trodAll_cons hA
  obtain ⟨rfl, rfl, rfl⟩ := trodAll_nil r0
  obtain rfl : args = #[v0] := by cases args; simp_all
  obtain ⟨rfl, rfl⟩ := trodVars_none hV
  have k0 := h0
  have lt0 : ∀ x ∈ p0, x.block < W.heap.size := by obtain ⟨m, hm⟩ := k0; exact DataW.trod_lt m _ _ _ hm
  obtain ⟨a0, rfl, _, _, w0⟩ := open_int Try.underlying3 (hval 0 3 v0 rfl rfl) h0
  have w0 := wf_i64 w0
  clear hA0 hval0
  refine (walk a0 W w0).mono fun e W' ⟨he, bel⟩ => ?_
  subst he
  exact ⟨_, rfl, _, _, _, [], _, [], hW', trodAll_mk1 (shut_bool Try.underlying4 _), (trodAll_cons_mk (Below.trod laidOut (by kernel_rfl) (of_decide_eq_true (by kernel_rfl)) k0 bel lt0) trodAll_mk0), rfl, bel.frame _, fun h => by cases h⟩

theorem over : Rows.dctFlatRow.holds Try.pinned (OpenSpec.ofChange Rows.dctFlatSpec) :=
  OpenClaim.holds_of_wide 7 Try.f7 rfl rfl rfl rfl rfl rfl rfl ⟨rfl, rfl, rfl, rfl, rfl⟩ rfl rfl rfl rfl rfl (by kernel_rfl) Try.func7 (by kernel_rfl)
    (of_decide_eq_true (by kernel_rfl)) (by unfold Func.isWrapper; first | (rw [if_pos (by decide +kernel)]; kernel_rfl) | (rw [if_neg (by decide +kernel)]; exact ⟨rfl, rfl⟩))
    (fun os started H enc _ => lifted os started H enc)

/-- The statement. -/
theorem proved : Rows.DctFlatSaid := over
#print axioms proved
end Go.Proofs.Ytkolkcgckckeeaa.dctFlat
