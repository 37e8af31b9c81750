/-
  LassoBoxes. No condition.
-/
import Derived.Test.YtdofcjmnnmmecaaKF
import Derived.Test.YtdofcjmnnmmecaaOpen
namespace Go.Proofs.Ytdofcjmnnmmecaa.lassoBoxes
open Go.RowKit
def anyR (f : Nat → Bool) : Nat → Bool
  | 0 => false
  | k + 1 => anyR f k || f k
theorem anyR_of {f : Nat → Bool} : ∀ k i, i < k → f i = true → anyR f k = true
  | k + 1, i, h, hf => by
    rw [anyR]
    by_cases h2 : i < k
    · rw [anyR_of k i h2 hf]; rfl
    · obtain rfl : i = k := by omega
      rw [hf, Bool.or_true]
set_option maxHeartbeats 16000000 in
set_option maxRecDepth 100000 in
theorem law {w0 : World} {B : Nat} {H : List Ent} (hB : w0.heap.size ≤ B) {a : Option Addr} {len cap : Nat} {l : List Pt} (hl : SlS 2 ptV w0 a len cap l) (x y : Int) :
    Fn Try.prog w0 B 8 [.slice a len cap, .int .i64 x, .int .i64 y] H (fun u _ => u = .bool true) := by
  have e1 := hl.size_eq
  have e3 := hl.le
  have e4 := hl.small
  have R : ∀ E, PtR w0 B E a len l := fun E => ptR_of hB hl
  refine fn_intro Try.func8 rfl (by kernel_rfl) rfl ?_
  by_cases h1 : 1000 < len
  · repeat (first | refine go_ ?_ | refine bx_ (fun _ => ?_) | refine hl_callv rfl rfl (anchor_fn) ?_)
    exact fin1B rfl rfl rfl
  cases hs : okS l [] with
  | false =>
    repeat (first | refine go_ ?_ | refine bx_ (fun _ => ?_) | refine hl_callv rfl rfl (anchor_fn) ?_ | refine hl_callv rfl rfl (boxN_fn (R _) (by omega) hs) ?_)
    refine hl_call rfl rfl (plain_fn (R _) (by omega)) (fun v M o => ?_)
    obtain ⟨sa, sc, rfl, _, _⟩ := o.form
    have S := shape_fn (w0 := w0) (B := B) (H := M) (a := sa) (cap := sc) (l := l) ⟨e1, fun h => by obtain ⟨g, c, e, _⟩ := o.posn h; cases e; exact ⟨_, _, rfl⟩, o.rds (c := ⟨Try.prog, 0, w0, B⟩) (one_pts l)⟩ (by omega)
    rw [hs] at S
    repeat (first | refine go_ ?_ | refine bx_ (fun _ => ?_) | refine hl_callv rfl rfl (S) ?_)
    exact fin1B rfl rfl rfl
  | true =>
  obtain ⟨hr, _, h3, h256⟩ := okS_right hs
  obtain ⟨bb, off, rfl⟩ := (R H).pos (by omega)
  repeat (first | refine go_ ?_ | refine bx_ (fun _ => ?_) | refine hl_callv rfl rfl (anchor_fn) ?_ | refine hl_callv rfl rfl (boxY_fn (R _) hs) ?_)
  have hbd : ∀ i, i < len → (-1048576 ≤ (nth l i).x ∧ (nth l i).x ≤ 1048576) ∧ (-1048576 ≤ (nth l i).y ∧ (nth l i).y ≤ 1048576) := fun i hi => by
    have := hr _ (nth_mem (l := l) (i := i) (by omega)); unfold Pt.right at this; omega
  obtain ⟨fx, hfx⟩ : ∃ f : Nat → Int, f = fun i => (nth l i).x := ⟨_, rfl⟩
  obtain ⟨fy, hfy⟩ : ∃ f : Nat → Int, f = fun i => (nth l i).y := ⟨_, rfl⟩
  rw [← hfx, ← hfy]
  have ex : ∀ i, (nth l i).x = fx i := fun i => by rw [hfx]
  have ey : ∀ i, (nth l i).y = fy i := fun i => by rw [hfy]
  simp only [ex, ey] at hbd
  have cx := loR_bd (f := fx) len (fun i hi => (hbd i (by omega)).1)
  have cy := loR_bd (f := fy) len (fun i hi => (hbd i (by omega)).2)
  have dx := hiR_bd (f := fx) len (fun i hi => (hbd i (by omega)).1)
  have dy := hiR_bd (f := fy) len (fun i hi => (hbd i (by omega)).2)
  have px := loR_le fx len
  have py := loR_le fy len
  have qx := le_hiR fx len
  have qy := le_hiR fy len
  obtain ⟨i1, j1, k1⟩ := loR_mem fx len (by omega)
  obtain ⟨i2, j2, k2⟩ := loR_mem fy len (by omega)
  obtain ⟨i3, j3, k3⟩ := hiR_mem fx len (by omega)
  obtain ⟨i4, j4, k4⟩ := hiR_mem fy len (by omega)
  generalize loR fx len = X0 at *
  generalize loR fy len = Y0 at *
  generalize hiR fx len = X1 at *
  generalize hiR fy len = Y1 at *
  refine hl_call rfl rfl (plain_fn (R _) (by omega)) (fun v M o => ?_)
  obtain ⟨sa, sc, rfl, _, _⟩ := o.form
  have S := shape_fn (w0 := w0) (B := B) (H := M) (a := sa) (cap := sc) (l := l) ⟨e1, fun h => by obtain ⟨g, c, e, _⟩ := o.posn h; cases e; exact ⟨_, _, rfl⟩, o.rds (c := ⟨Try.prog, 0, w0, B⟩) (one_pts l)⟩ (by omega)
  rw [hs] at S
  repeat (first | refine go_ ?_ | refine bx_ (fun _ => ?_) | refine hl_callv rfl rfl (S) ?_)
  refine hc_loopd (fun q fr M' => ∃ k, k + q = len ∧ Agr fr [(0, .slice (some ⟨bb, off, none⟩) len cap), (1, .int .i64 x), (2, .int .i64 y), (7, .int .i64 X0), (8, .int .i64 Y0), (9, .int .i64 (X1 - X0)), (10, .int .i64 (Y1 - Y0)),
    (13, .bool (anyR (fun i => decide (fx i = X0)) k)), (14, .bool (anyR (fun i => decide (fx i = X0 + (X1 - X0))) k)), (15, .bool (anyR (fun i => decide (fy i = Y0)) k)), (16, .bool (anyR (fun i => decide (fy i = Y0 + (Y1 - Y0))) k)), (59, .slice (some ⟨bb, off, none⟩) len cap), (60, .int .i64 (len : Int)), (61, .int .i64 (k : Int))]
    ∧ M' = M) len ?_ ?_
  · exact ⟨0, by omega, ⟨rfl, rfl, rfl, rfl, rfl, rfl, rfl, rfl, rfl, rfl, rfl, rfl, rfl, rfl, trivial⟩, rfl⟩
  rintro q fr M' ⟨k, hk, hf, rfl⟩
  by_cases hlt : k < len
  · have hp := (R M').at' hlt
    rw [ex, ey] at hp
    have b1 := px k hlt
    have b2 := py k hlt
    have b3 := qx k hlt
    have b4 := qy k hlt
    have n1 : anyR (fun i => decide (fx i = X0)) (k + 1) = (anyR (fun i => decide (fx i = X0)) k || decide (fx k = X0)) := rfl
    have n2 : anyR (fun i => decide (fx i = X0 + (X1 - X0))) (k + 1) = (anyR (fun i => decide (fx i = X0 + (X1 - X0))) k || decide (fx k = X0 + (X1 - X0))) := rfl
    have n3 : anyR (fun i => decide (fy i = Y0)) (k + 1) = (anyR (fun i => decide (fy i = Y0)) k || decide (fy k = Y0)) := rfl
    have n4 : anyR (fun i => decide (fy i = Y0 + (Y1 - Y0))) (k + 1) = (anyR (fun i => decide (fy i = Y0 + (Y1 - Y0))) k || decide (fy k = Y0 + (Y1 - Y0))) := rfl
    generalize anyR (fun i => decide (fx i = X0)) k = f1 at *
    generalize anyR (fun i => decide (fx i = X0 + (X1 - X0))) k = f2 at *
    generalize anyR (fun i => decide (fy i = Y0)) k = f3 at *
    generalize anyR (fun i => decide (fy i = Y0 + (Y1 - Y0))) k = f4 at *
    obtain ⟨base, rfl⟩ := hf.out
    clear hf
    repeat (first | refine go_ ?_ | refine bx_ (fun _ => ?_))
    refine hl_loadRN (E := M') rfl (R _).rd (Imp.refl _) hp rfl rfl ?_
    repeat (first | refine go_ ?_ | refine bx_ (fun _ => ?_))
    cases f1 <;> cases f2 <;> cases f3 <;> cases f4
    all_goals
      (refine hc_draw (by kernel_rfl) (by kernel_rfl) ?_; repeat (first | refine gd_ ?_))
      repeat (first | refine go_ ?_ | refine bx_ (fun _ => ?_))
      exact ⟨q - 1, by omega, _, Imp.drop (Imp.refl _), k + 1, by omega, ⟨rfl, rfl, rfl, rfl, rfl, rfl, rfl, Eq.trans (b := .bool (_ || _)) (by first | rfl | simp) (congrArg Value.bool n1.symm), Eq.trans (b := .bool (_ || _)) (by first | rfl | simp) (congrArg Value.bool n2.symm), Eq.trans (b := .bool (_ || _)) (by first | rfl | simp) (congrArg Value.bool n3.symm), Eq.trans (b := .bool (_ || _)) (by first | rfl | simp) (congrArg Value.bool n4.symm), rfl, rfl, rfl, trivial⟩, rfl⟩
  · obtain rfl : k = len := by omega
    have a1 := anyR_of (f := fun i => decide (fx i = X0)) k i1 j1 (decide_eq_true (by omega))
    have a2 := anyR_of (f := fun i => decide (fx i = X0 + (X1 - X0))) k i3 j3 (decide_eq_true (by omega))
    have a3 := anyR_of (f := fun i => decide (fy i = Y0)) k i2 j2 (decide_eq_true (by omega))
    have a4 := anyR_of (f := fun i => decide (fy i = Y0 + (Y1 - Y0))) k i4 j4 (decide_eq_true (by omega))
    rw [a1, a2, a3, a4] at hf
    obtain ⟨base, rfl⟩ := hf.out
    clear hf
    have W := lwithin_fn (cap := cap) (x := x) (y := y) (R M') (by omega)
    cases hs2 : okS l [⟨x, y⟩] with
    | false =>
      rw [hs2, Bool.false_and, show errV false = 31 from rfl] at W
      repeat (first | refine go_ ?_ | refine bx_ (fun _ => ?_) | refine hl_callv rfl rfl (W) ?_)
      exact fin1B rfl rfl rfl
    | true =>
      rw [hs2, Bool.true_and, show errV true = 0 from rfl] at W
      cases hin : inW l x y with
      | false =>
        rw [hin] at W
        repeat (first | refine go_ ?_ | refine bx_ (fun _ => ?_) | refine hl_callv rfl rfl (W) ?_)
        exact fin1B rfl rfl rfl
      | true =>
        rw [hin] at W
        obtain ⟨⟨z1, z2⟩, z3, z4⟩ := inW_box (X0 := X0) (X1 := X1) (Y0 := Y0) (Y1 := Y1) (fun i hi => by rw [ex, ey]; exact ⟨⟨px i (by omega), qx i (by omega)⟩, py i (by omega), qy i (by omega)⟩) hin
        repeat (first | refine go_ ?_ | refine bx_ (fun _ => ?_) | refine hl_callv rfl rfl (W) ?_)
        exact fin1B rfl rfl rfl
theorem walk (a : Option Addr) (len cap : Nat) (l : List Pt) (x y : Int) (w : World) (hl : SlS 2 ptV w a len cap l) (_ : ∀ x ∈ l, x.wf) (_ : -9223372036854775808 ≤ x ∧ x ≤ 9223372036854775807) (_ : -9223372036854775808 ≤ y ∧ y ≤ 9223372036854775807) :
    Calls Try.prog 8 #[.slice a len cap, .int .i64 x, .int .i64 y] w fun e w' => e = .returned (.bool true) ∧ Below w.heap.size w w' :=
  calls_of_fn (law (Nat.le_refl _) hl x y) fun _ _ h => h

/-! The step to the statement (written by program). -/
open Go.ChangeShapes Go.WideShapes Go.ChangeAt
set_option maxRecDepth 100000 in
theorem lifted (os : Os) (started : os.Started) (H : Type) (enc : TypeId × Value → H) :
    ReturnsInHanded {} Try.checked os 8 .any (Rows.lassoBoxesSpec.pre6 enc Try.prog Try.f8 Rows.lassoBoxesRow.domain false) (Rows.lassoBoxesSpec.post enc Try.prog Try.f8 false true false false) := by
  refine returnsInHanded_of_change (C := Try.checked) own started (by kernel_rfl) Try.func8
    (ChangeSpec.witness6 (enc := enc) (C := Try.checked) false ⟨#[], #[.slice none 0 0, .int .i64 0, .int .i64 0], []⟩ 8 (by kernel_rfl) (by kernel_rfl) (by kernel_rfl) (by kernel_rfl)) ?_
  intro W base args ds gs before hval0 hW hcnd _
  have hval : ∀ (j : Nat) t v, Try.f8.params[j]? = some t → args[j]? = some v → Value.okWide Try.prog W .any base t v := hval0
  have hW' := hW
  obtain ⟨p, q, hA0, hV, rfl, hfz, hnd⟩ := hW
  have hA : DataW.TrodAll enc Try.prog W 0 (fun _ => true) true Try.f8.params.toList args.toList ds p := hA0
  rw [Try.params8] at hA hval
  obtain ⟨v0, vs0, d0, ds0, p0, q0, hargs, rfl, rfl, h0, r0⟩ := trodAll_cons hA
  obtain ⟨v1, vs1, d1, ds1, p1, q1, rfl, rfl, rfl, h1, r1⟩ := trodAll_cons r0
  obtain ⟨v2, vs2, d2, ds2, p2, q2, rfl, rfl, rfl, h2, r2⟩ := trodAll_cons r1
  obtain ⟨rfl, rfl, rfl⟩ := trodAll_nil r2
  obtain rfl : args = #[v0, v1, v2] := by cases args; simp_all
  obtain ⟨rfl, rfl⟩ := trodVars_none hV
  have k0 := h0
  have lt0 : ∀ x ∈ p0, x.block < W.heap.size := by obtain ⟨m, hm⟩ := k0; exact DataW.trod_lt m _ _ _ hm
  obtain ⟨a0, len0, cap0, e0⟩ := okWide_slice Try.underlying22 (hval 0 22 v0 rfl rfl)
  obtain ⟨l0, w0, b0⟩ := open_pts e0 k0
  subst e0
  have k1 := h1
  have lt1 : ∀ x ∈ p1, x.block < W.heap.size := by obtain ⟨m, hm⟩ := k1; exact DataW.trod_lt m _ _ _ hm
  obtain ⟨a1, rfl, _, _, w1⟩ := open_int Try.underlying3 (hval 1 3 v1 rfl rfl) h1
  have w1 := wf_i64 w1
  have k2 := h2
  have lt2 : ∀ x ∈ p2, x.block < W.heap.size := by obtain ⟨m, hm⟩ := k2; exact DataW.trod_lt m _ _ _ hm
  obtain ⟨a2, rfl, _, _, w2⟩ := open_int Try.underlying3 (hval 2 3 v2 rfl rfl) h2
  have w2 := wf_i64 w2
  clear hA0 hval0
  refine (walk a0 len0 cap0 l0 a1 a2 W w0 b0 w1 w2).mono fun e W' ⟨he, bel⟩ => ?_
  subst he
  exact ⟨_, rfl, _, _, _, [], _, [], hW', trodAll_mk1 (shut_bool Try.underlying4 _), (trodAll_cons_mk (Below.trod laidOut (by kernel_rfl) (of_decide_eq_true (by kernel_rfl)) k0 bel lt0) (trodAll_cons_mk (Below.trod laidOut (by kernel_rfl) (of_decide_eq_true (by kernel_rfl)) k1 bel lt1) (trodAll_cons_mk (Below.trod laidOut (by kernel_rfl) (of_decide_eq_true (by kernel_rfl)) k2 bel lt2) trodAll_mk0))), rfl, bel.frame _, fun h => by cases h⟩

theorem over : Rows.lassoBoxesRow.holds Try.pinned (OpenSpec.ofChange Rows.lassoBoxesSpec) :=
  OpenClaim.holds_of_wide 8 Try.f8 rfl rfl rfl rfl rfl rfl rfl ⟨rfl, rfl, rfl, rfl, rfl⟩ rfl rfl rfl rfl rfl (by kernel_rfl) Try.func8 (by kernel_rfl)
    (of_decide_eq_true (by kernel_rfl)) (by unfold Func.isWrapper; first | (rw [if_pos (by decide +kernel)]; kernel_rfl) | (rw [if_neg (by decide +kernel)]; exact ⟨rfl, rfl⟩))
    (fun os started H enc _ => lifted os started H enc)

/-- The statement. -/
theorem proved : Rows.LassoBoxesSaid := over
#print axioms proved
end Go.Proofs.Ytdofcjmnnmmecaa.lassoBoxes
