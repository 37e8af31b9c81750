/-
  LassoWithin. No condition.
-/
import Derived.Test.YtdofcjmnnmmecaaK9
import Derived.Test.YtdofcjmnnmmecaaOpen
namespace Go.Proofs.Ytdofcjmnnmmecaa.lassoWithin
open Go.RowKit
set_option maxHeartbeats 8000000 in
set_option maxRecDepth 100000 in
theorem law {w0 : World} {B : Nat} {H : List Ent} (hB : w0.heap.size ≤ B) {a : Option Addr} {len cap : Nat} {l : List Pt} (hl : SlS 2 ptV w0 a len cap l) (x y : Int) :
    Fn Try.prog w0 B 3 [.slice a len cap, .int .i64 x, .int .i64 y] H (fun u _ => u = .bool true) := by
  have e1 := hl.size_eq
  have e3 := hl.le
  have e4 := hl.small
  have R : ∀ E, PtR w0 B E a len l := fun E => ptR_of hB hl
  refine fn_intro Try.func3 rfl (by kernel_rfl) rfl ?_
  by_cases h1 : 1000 < len
  · repeat (first | refine go_ ?_ | refine bx_ (fun _ => ?_) | refine hl_callv rfl rfl (anchor_fn) ?_)
    exact fin1B rfl rfl rfl
  have hxy : okS l [⟨x, y⟩] = (okS l [] && decide (Pt.right ⟨x, y⟩)) := by simp [okS, Bool.and_assoc]
  have W := lwithin_fn (cap := cap) (x := x) (y := y) (R H) (by omega)
  rw [hxy] at W
  cases hs : okS l [] with
  | false =>
    rw [hs, Bool.false_and, Bool.false_and, show errV false = 31 from rfl] at W
    repeat (first | refine go_ ?_ | refine bx_ (fun _ => ?_) | refine hl_callv rfl rfl (anchor_fn) ?_ | refine hl_callv rfl rfl (W) ?_)
    refine hl_call rfl rfl (plain_fn (R _) (by omega)) (fun v M o => ?_)
    obtain ⟨sa, sc, rfl, _, _⟩ := o.form
    have S := shape_fn (w0 := w0) (B := B) (H := M) (a := sa) (cap := sc) (l := l) ⟨e1, fun h => by obtain ⟨g, c, e, _⟩ := o.posn h; cases e; exact ⟨_, _, rfl⟩, o.rds (c := ⟨Try.prog, 0, w0, B⟩) (one_pts l)⟩ (by omega)
    rw [hs] at S
    repeat (first | refine go_ ?_ | refine bx_ (fun _ => ?_) | refine hl_callv rfl rfl (S) ?_)
    exact fin1B rfl rfl rfl
  | true =>
    obtain ⟨hr, _, h3, h256⟩ := okS_right hs
    rw [hs, Bool.true_and] at W
    by_cases hp : Pt.right ⟨x, y⟩
    · rw [decide_eq_true hp, Bool.true_and, show errV true = 0 from rfl] at W
      repeat (first | refine go_ ?_ | refine bx_ (fun _ => ?_) | refine hl_callv rfl rfl (anchor_fn) ?_ | refine hl_callv rfl rfl (W) ?_)
      refine hl_call rfl rfl (plain_fn (R _) (by omega)) (fun v M o => ?_)
      obtain ⟨sa, sc, rfl, _, _⟩ := o.form
      have rM : PtR w0 B M sa len l := ⟨e1, fun h => by obtain ⟨g, c, e, _⟩ := o.posn h; cases e; exact ⟨_, _, rfl⟩, o.rds (c := ⟨Try.prog, 0, w0, B⟩) (one_pts l)⟩
      have S := shape_fn (cap := sc) rM (by omega)
      rw [hs] at S
      have P := fun E => rright_fn (w0 := w0) (B := B) (H := E) ⟨x, y⟩
      simp only [decide_eq_true hp] at P
      obtain ⟨⟨⟨b1, b2⟩, b3⟩, b4⟩ := hp
      repeat (first | refine go_ ?_ | refine bx_ (fun _ => ?_) | refine hl_callv rfl rfl (S) ?_ | refine hl_callv rfl rfl (P _) ?_ | refine hl_callv rfl rfl (rwithin_fn rM (by omega) hr ⟨⟨b1, b2⟩, b3, b4⟩) ?_)
      exact fin1B rfl rfl (by simp)
    · rw [decide_eq_false hp, Bool.false_and, show errV false = 31 from rfl] at W
      repeat (first | refine go_ ?_ | refine bx_ (fun _ => ?_) | refine hl_callv rfl rfl (anchor_fn) ?_ | refine hl_callv rfl rfl (W) ?_)
      refine hl_call rfl rfl (plain_fn (R _) (by omega)) (fun v M o => ?_)
      obtain ⟨sa, sc, rfl, _, _⟩ := o.form
      have rM : PtR w0 B M sa len l := ⟨e1, fun h => by obtain ⟨g, c, e, _⟩ := o.posn h; cases e; exact ⟨_, _, rfl⟩, o.rds (c := ⟨Try.prog, 0, w0, B⟩) (one_pts l)⟩
      have S := shape_fn (cap := sc) rM (by omega)
      rw [hs] at S
      have P := fun E => rright_fn (w0 := w0) (B := B) (H := E) ⟨x, y⟩
      simp only [decide_eq_false hp] at P
      repeat (first | refine go_ ?_ | refine bx_ (fun _ => ?_) | refine hl_callv rfl rfl (S) ?_ | refine hl_callv rfl rfl (P _) ?_)
      exact fin1B rfl rfl rfl
theorem walk (a : Option Addr) (len cap : Nat) (l : List Pt) (x y : Int) (w : World) (hl : SlS 2 ptV w a len cap l) (_ : ∀ x ∈ l, x.wf) (_ : -9223372036854775808 ≤ x ∧ x ≤ 9223372036854775807) (_ : -9223372036854775808 ≤ y ∧ y ≤ 9223372036854775807) :
    Calls Try.prog 3 #[.slice a len cap, .int .i64 x, .int .i64 y] w fun e w' => e = .returned (.bool true) ∧ Below w.heap.size w w' :=
  calls_of_fn (law (Nat.le_refl _) hl x y) fun _ _ h => h

/-! The step to the statement (written by program). -/
open Go.ChangeShapes Go.WideShapes Go.ChangeAt
set_option maxRecDepth 100000 in
theorem lifted (os : Os) (started : os.Started) (H : Type) (enc : TypeId × Value → H) :
    ReturnsInHanded {} Try.checked os 3 .any (Rows.lassoWithinSpec.pre6 enc Try.prog Try.f3 Rows.lassoWithinRow.domain false) (Rows.lassoWithinSpec.post enc Try.prog Try.f3 false true false false) := by
  refine returnsInHanded_of_change (C := Try.checked) own started (by kernel_rfl) Try.func3
    (ChangeSpec.witness6 (enc := enc) (C := Try.checked) false ⟨#[], #[.slice none 0 0, .int .i64 0, .int .i64 0], []⟩ 8 (by kernel_rfl) (by kernel_rfl) (by kernel_rfl) (by kernel_rfl)) ?_
  intro W base args ds gs before hval0 hW hcnd _
  have hval : ∀ (j : Nat) t v, Try.f3.params[j]? = some t → args[j]? = some v → Value.okWide Try.prog W .any base t v := hval0
  have hW' := hW
  obtain ⟨p, q, hA0, hV, rfl, hfz, hnd⟩ := hW
  have hA : DataW.TrodAll enc Try.prog W 0 (fun _ => true) true Try.f3.params.toList args.toList ds p := hA0
  rw [Try.params3] at hA hval
  obtain ⟨v0, vs0, d0, ds0, p0, q0, hargs, rfl, rfl, h0, r0⟩ := trodAll_cons hA
  obtain ⟨v1, vs1, d1, ds1, p1, q1, rfl, rfl, rfl, h1, r1⟩ := trodAll_cons r0
  obtain ⟨v2, vs2, d2, ds2, p2, q2, rfl, rfl, rfl, h2, r2⟩ := trodAll_cons r1
  obtain ⟨rfl, rfl, rfl⟩ := trodAll_nil r2
  obtain rfl : args = #[v0, v1, v2] := by cases args; simp_all
  obtain ⟨rfl, rfl⟩ := trodVars_none hV
  have k0 := h0
  have lt0 : ∀ x ∈ p0, x.block < W.heap.size := by obtain ⟨m, hm⟩ := k0; exact DataW.trod_lt m _ _ _ hm
  obtain ⟨a0, len0, cap0, e0⟩ := okWide_slice Try.underlying22 (hval 0 22 v0 rfl rfl)
  obtain ⟨l0, w0, b0⟩ := open_pts e0 k0
  subst e0
  have k1 := h1
  have lt1 : ∀ x ∈ p1, x.block < W.heap.size := by obtain ⟨m, hm⟩ := k1; exact DataW.trod_lt m _ _ _ hm
  obtain ⟨a1, rfl, _, _, w1⟩ := open_int Try.underlying3 (hval 1 3 v1 rfl rfl) h1
  have w1 := wf_i64 w1
  have k2 := h2
  have lt2 : ∀ x ∈ p2, x.block < W.heap.size := by obtain ⟨m, hm⟩ := k2; exact DataW.trod_lt m _ _ _ hm
  obtain ⟨a2, rfl, _, _, w2⟩ := open_int Try.underlying3 (hval 2 3 v2 rfl rfl) h2
  have w2 := wf_i64 w2
  clear hA0 hval0
  refine (walk a0 len0 cap0 l0 a1 a2 W w0 b0 w1 w2).mono fun e W' ⟨he, bel⟩ => ?_
  subst he
  exact ⟨_, rfl, _, _, _, [], _, [], hW', trodAll_mk1 (shut_bool Try.underlying4 _), (trodAll_cons_mk (Below.trod laidOut (by kernel_rfl) (of_decide_eq_true (by kernel_rfl)) k0 bel lt0) (trodAll_cons_mk (Below.trod laidOut (by kernel_rfl) (of_decide_eq_true (by kernel_rfl)) k1 bel lt1) (trodAll_cons_mk (Below.trod laidOut (by kernel_rfl) (of_decide_eq_true (by kernel_rfl)) k2 bel lt2) trodAll_mk0))), rfl, bel.frame _, fun h => by cases h⟩

theorem over : Rows.lassoWithinRow.holds Try.pinned (OpenSpec.ofChange Rows.lassoWithinSpec) :=
  OpenClaim.holds_of_wide 3 Try.f3 rfl rfl rfl rfl rfl rfl rfl ⟨rfl, rfl, rfl, rfl, rfl⟩ rfl rfl rfl rfl rfl (by kernel_rfl) Try.func3 (by kernel_rfl)
    (of_decide_eq_true (by kernel_rfl)) (by unfold Func.isWrapper; first | (rw [if_pos (by decide +kernel)]; kernel_rfl) | (rw [if_neg (by decide +kernel)]; exact ⟨rfl, rfl⟩))
    (fun os started H enc _ => lifted os started H enc)

/-- The statement. -/
theorem proved : Rows.LassoWithinSaid := over
#print axioms proved
end Go.Proofs.Ytdofcjmnnmmecaa.lassoWithin
