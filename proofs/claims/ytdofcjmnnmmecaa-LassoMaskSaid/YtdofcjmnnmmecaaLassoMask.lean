/-
  LassoMask. No condition.
-/
import Derived.Test.YtdofcjmnnmmecaaKG
import Derived.Test.YtdofcjmnnmmecaaOpen
namespace Go.Proofs.Ytdofcjmnnmmecaa.lassoMask
open Go.RowKit
set_option maxHeartbeats 16000000 in
set_option maxRecDepth 100000 in
theorem law {w0 : World} {B : Nat} {H : List Ent} (hB : w0.heap.size ≤ B) {a : Option Addr} {len cap : Nat} {l : List Pt} (hl : SlS 2 ptV w0 a len cap l) (w h : Int) :
    Fn Try.prog w0 B 9 [.slice a len cap, .int .i64 w, .int .i64 h] H (fun u _ => u = .bool true) := by
  have e1 := hl.size_eq
  have e3 := hl.le
  have e4 := hl.small
  have R : ∀ E, PtR w0 B E a len l := fun E => ptR_of hB hl
  refine fn_intro Try.func9 rfl (by kernel_rfl) rfl ?_
  by_cases h1 : 1000 < len
  · repeat (first | refine go_ ?_ | refine bx_ (fun _ => ?_) | refine hl_callv rfl rfl (anchor_fn) ?_)
    exact fin1B rfl rfl rfl
  repeat (first | refine go_ ?_ | refine bx_ (fun _ => ?_) | refine hl_callv rfl rfl (anchor_fn) ?_)
  refine hl_call rfl rfl (plain_fn (R _) (by omega)) (fun v M o => ?_)
  obtain ⟨sa, sc, rfl, _, _⟩ := o.form
  have rM : PtR w0 B M sa len l := ⟨e1, fun h => by obtain ⟨g, c, e, _⟩ := o.posn h; cases e; exact ⟨_, _, rfl⟩, o.rds (c := ⟨Try.prog, 0, w0, B⟩) (one_pts l)⟩
  have S := shape_fn (cap := sc) rM (by omega)
  cases hs : okS l [] with
  | false =>
    rw [hs] at S
    repeat (first | refine go_ ?_ | refine bx_ (fun _ => ?_) | refine hl_callv rfl rfl (S) ?_ | refine hl_callv rfl rfl (maskN1_fn (R _) (by omega) hs w h) ?_)
    exact fin1B rfl rfl rfl
  | true =>
  rw [hs] at S
  obtain ⟨hr, _, h3, h256⟩ := okS_right hs
  by_cases c1 : w < 0
  · repeat (first | refine go_ ?_ | refine bx_ (fun _ => ?_) | refine hl_callv rfl rfl (S) ?_ | refine hl_callv rfl rfl (maskN2_fn (R _) (by omega) hs w h (fun h => by unfold MskOk at h; omega)) ?_)
    exact fin1B rfl rfl rfl
  by_cases c2 : h < 0
  · repeat (first | refine go_ ?_ | refine bx_ (fun _ => ?_) | refine hl_callv rfl rfl (S) ?_ | refine hl_callv rfl rfl (maskN2_fn (R _) (by omega) hs w h (fun h => by unfold MskOk at h; omega)) ?_)
    exact fin1B rfl rfl rfl
  by_cases c3 : 32768 < w
  · repeat (first | refine go_ ?_ | refine bx_ (fun _ => ?_) | refine hl_callv rfl rfl (S) ?_ | refine hl_callv rfl rfl (maskN2_fn (R _) (by omega) hs w h (fun h => by unfold MskOk at h; omega)) ?_)
    exact fin1B rfl rfl rfl
  by_cases c4 : 32768 < h
  · repeat (first | refine go_ ?_ | refine bx_ (fun _ => ?_) | refine hl_callv rfl rfl (S) ?_ | refine hl_callv rfl rfl (maskN2_fn (R _) (by omega) hs w h (fun h => by unfold MskOk at h; omega)) ?_)
    exact fin1B rfl rfl rfl
  have hb := mul_bd (a := w) (b := h) (M := 32768) (N := 32768) (by omega) (by omega)
  have hb0 : 0 ≤ w * h := Int.mul_nonneg (by omega) (by omega)
  by_cases c5 : 4194304 < w * h
  · repeat (first | refine go_ ?_ | refine bx_ (fun _ => ?_) | refine hl_callv rfl rfl (S) ?_ | refine hl_callv rfl rfl (maskN2_fn (R _) (by omega) hs w h (fun h => by unfold MskOk at h; omega)) ?_)
    exact fin1B rfl rfl rfl
  by_cases c6 : 1500 < w * h
  · repeat (first | refine go_ ?_ | refine bx_ (fun _ => ?_) | refine hl_callv rfl rfl (S) ?_)
    exact fin1B rfl rfl rfl
  obtain ⟨N, hN⟩ : ∃ N : Nat, w * h = (N : Int) := ⟨(w * h).toNat, by omega⟩
  repeat (first | refine go_ ?_ | refine bx_ (fun _ => ?_) | refine hl_callv rfl rfl (S) ?_)
  refine hl_call rfl rfl (maskY_fn (R _) hs w h ⟨by omega, by omega, by omega, by omega, by omega⟩ hN) (fun v M' hv => ?_)
  obtain ⟨g, rfl, rfl⟩ := hv
  obtain ⟨F, hF⟩ : ∃ F, F = mkI l w := ⟨_, rfl⟩
  rw [← hF]
  have rM' := rM.imp (show Imp (⟨g, 5, tabB N F, N⟩ :: M) M from Imp.drop (Imp.refl _))
  repeat (first | refine go_ ?_ | refine bx_ (fun _ => ?_))
  refine hc_loopd (fun q fr M' => ∃ k, k + q = N ∧ Agr fr [(1, .int .i64 w), (2, .int .i64 h), (7, .slice sa len sc), (78, .slice (some ⟨g, 0, none⟩) N N), (79, .int .i64 (N : Int)), (80, .int .i64 (k : Int))]
    ∧ M' = ⟨g, 5, tabB N F, N⟩ :: M) N ?_ ?_
  · exact ⟨0, by omega, ⟨rfl, rfl, rfl, rfl, rfl, rfl, trivial⟩, rfl⟩
  rintro q fr M' ⟨k, hk, hf, rfl⟩
  obtain ⟨base, rfl⟩ := hf.out
  clear hf
  by_cases hlt : k < N
  · have hw0 : 0 < w := by
      rcases Int.lt_or_eq_of_le (show 0 ≤ w by omega) with h0 | h0
      · exact h0
      · rw [← h0, Int.zero_mul] at hN; omega
    have r1 := Int.emod_nonneg (k : Int) (show w ≠ 0 by omega)
    have r2 := Int.emod_lt_of_pos (k : Int) hw0
    have r3 : 0 ≤ (k : Int) / w := Int.ediv_nonneg (by omega) (by omega)
    have r4 : (k : Int) / w < h := Int.ediv_lt_of_lt_mul hw0 (by rw [Int.mul_comm]; omega)
    have W := rwithin_fn (cap := sc) (x := (k : Int) % w) (y := (k : Int) / w) rM' (by omega) hr ⟨⟨by omega, by omega⟩, by omega, by omega⟩
    rw [show inW l ((k : Int) % w) ((k : Int) / w) = F k by rw [hF]; rfl] at W
    have hgk := tabB_get (f := F) hlt
    cases hFk : F k with
    | true =>
      rw [hFk] at W hgk
      simp only [if_true] at hgk
      repeat (first | refine go_ ?_ | refine bx_ (fun _ => ?_))
      (refine hc_draw (by kernel_rfl) (by kernel_rfl) ?_; repeat (first | refine gd_ ?_ | refine hd_call rfl rfl (W) ?_))
      repeat (first | refine go_ ?_ | refine bx_ (fun _ => ?_))
      exact ⟨q - 1, by omega, _, Imp.refl _, k + 1, by omega, ⟨rfl, rfl, rfl, rfl, rfl, rfl, trivial⟩, rfl⟩
    | false =>
      rw [hFk] at W hgk
      simp only [Bool.false_eq_true, if_false] at hgk
      repeat (first | refine go_ ?_ | refine bx_ (fun _ => ?_))
      (refine hc_draw (by kernel_rfl) (by kernel_rfl) ?_; repeat (first | refine gd_ ?_ | refine hd_call rfl rfl (W) ?_))
      repeat (first | refine go_ ?_ | refine bx_ (fun _ => ?_))
      exact ⟨q - 1, by omega, _, Imp.refl _, k + 1, by omega, ⟨rfl, rfl, rfl, rfl, rfl, rfl, trivial⟩, rfl⟩
  · obtain rfl : k = N := by omega
    repeat (first | refine go_ ?_ | refine bx_ (fun _ => ?_))
    exact fin1B rfl rfl rfl
theorem walk (a : Option Addr) (len cap : Nat) (l : List Pt) (x y : Int) (w : World) (hl : SlS 2 ptV w a len cap l) (_ : ∀ x ∈ l, x.wf) (_ : -9223372036854775808 ≤ x ∧ x ≤ 9223372036854775807) (_ : -9223372036854775808 ≤ y ∧ y ≤ 9223372036854775807) :
    Calls Try.prog 9 #[.slice a len cap, .int .i64 x, .int .i64 y] w fun e w' => e = .returned (.bool true) ∧ Below w.heap.size w w' :=
  calls_of_fn (law (Nat.le_refl _) hl x y) fun _ _ h => h

/-! The step to the statement (written by program). -/
open Go.ChangeShapes Go.WideShapes Go.ChangeAt
set_option maxRecDepth 100000 in
theorem lifted (os : Os) (started : os.Started) (H : Type) (enc : TypeId × Value → H) :
    ReturnsInHanded {} Try.checked os 9 .any (Rows.lassoMaskSpec.pre6 enc Try.prog Try.f9 Rows.lassoMaskRow.domain false) (Rows.lassoMaskSpec.post enc Try.prog Try.f9 false true false false) := by
  refine returnsInHanded_of_change (C := Try.checked) own started (by kernel_rfl) Try.func9
    (ChangeSpec.witness6 (enc := enc) (C := Try.checked) false ⟨#[], #[.slice none 0 0, .int .i64 0, .int .i64 0], []⟩ 8 (by kernel_rfl) (by kernel_rfl) (by kernel_rfl) (by kernel_rfl)) ?_
  intro W base args ds gs before hval0 hW hcnd _
  have hval : ∀ (j : Nat) t v, Try.f9.params[j]? = some t → args[j]? = some v → Value.okWide Try.prog W .any base t v := hval0
  have hW' := hW
  obtain ⟨p, q, hA0, hV, rfl, hfz, hnd⟩ := hW
  have hA : DataW.TrodAll enc Try.prog W 0 (fun _ => true) true Try.f9.params.toList args.toList ds p := hA0
  rw [Try.params9] at hA hval
  obtain ⟨v0, vs0, d0, ds0, p0, q0, hargs, rfl, rfl, h0, r0⟩ := trodAll_cons hA
  obtain ⟨v1, vs1, d1, ds1, p1, q1, rfl, rfl, rfl, h1, r1⟩ := trodAll_cons r0
  obtain ⟨v2, vs2, d2, ds2, p2, q2, rfl, rfl, rfl, h2, r2⟩ := trodAll_cons r1
  obtain ⟨rfl, rfl, rfl⟩ := trodAll_nil r2
  obtain rfl : args = #[v0, v1, v2] := by cases args; simp_all
  obtain ⟨rfl, rfl⟩ := trodVars_none hV
  have k0 := h0
  have lt0 : ∀ x ∈ p0, x.block < W.heap.size := by obtain ⟨m, hm⟩ := k0; exact DataW.trod_lt m _ _ _ hm
  obtain ⟨a0, len0, cap0, e0⟩ := okWide_slice Try.underlying22 (hval 0 22 v0 rfl rfl)
  obtain ⟨l0, w0, b0⟩ := open_pts e0 k0
  subst e0
  have k1 := h1
  have lt1 : ∀ x ∈ p1, x.block < W.heap.size := by obtain ⟨m, hm⟩ := k1; exact DataW.trod_lt m _ _ _ hm
  obtain ⟨a1, rfl, _, _, w1⟩ := open_int Try.underlying3 (hval 1 3 v1 rfl rfl) h1
  have w1 := wf_i64 w1
  have k2 := h2
  have lt2 : ∀ x ∈ p2, x.block < W.heap.size := by obtain ⟨m, hm⟩ := k2; exact DataW.trod_lt m _ _ _ hm
  obtain ⟨a2, rfl, _, _, w2⟩ := open_int Try.underlying3 (hval 2 3 v2 rfl rfl) h2
  have w2 := wf_i64 w2
  clear hA0 hval0
  refine (walk a0 len0 cap0 l0 a1 a2 W w0 b0 w1 w2).mono fun e W' ⟨he, bel⟩ => ?_
  subst he
  exact ⟨_, rfl, _, _, _, [], _, [], hW', trodAll_mk1 (shut_bool Try.underlying4 _), (trodAll_cons_mk (Below.trod laidOut (by kernel_rfl) (of_decide_eq_true (by kernel_rfl)) k0 bel lt0) (trodAll_cons_mk (Below.trod laidOut (by kernel_rfl) (of_decide_eq_true (by kernel_rfl)) k1 bel lt1) (trodAll_cons_mk (Below.trod laidOut (by kernel_rfl) (of_decide_eq_true (by kernel_rfl)) k2 bel lt2) trodAll_mk0))), rfl, bel.frame _, fun h => by cases h⟩

theorem over : Rows.lassoMaskRow.holds Try.pinned (OpenSpec.ofChange Rows.lassoMaskSpec) :=
  OpenClaim.holds_of_wide 9 Try.f9 rfl rfl rfl rfl rfl rfl rfl ⟨rfl, rfl, rfl, rfl, rfl⟩ rfl rfl rfl rfl rfl (by kernel_rfl) Try.func9 (by kernel_rfl)
    (of_decide_eq_true (by kernel_rfl)) (by unfold Func.isWrapper; first | (rw [if_pos (by decide +kernel)]; kernel_rfl) | (rw [if_neg (by decide +kernel)]; exact ⟨rfl, rfl⟩))
    (fun os started H enc _ => lifted os started H enc)

/-- The statement. -/
theorem proved : Rows.LassoMaskSaid := over
#print axioms proved
end Go.Proofs.Ytdofcjmnnmmecaa.lassoMask
