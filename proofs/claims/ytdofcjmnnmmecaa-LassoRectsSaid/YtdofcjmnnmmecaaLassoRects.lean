/-
  LassoRects. No condition.
-/
import Derived.Test.YtdofcjmnnmmecaaKH
import Derived.Test.YtdofcjmnnmmecaaOpen
namespace Go.Proofs.Ytdofcjmnnmmecaa.lassoRects
open Go.RowKit
set_option maxHeartbeats 16000000 in
set_option maxRecDepth 100000 in
theorem law {w0 : World} {B : Nat} {H : List Ent} (xz yz wz hz : Int) (tn : Bool) :
    Fn Try.prog w0 B 10 [.int .i64 xz, .int .i64 yz, .int .i64 wz, .int .i64 hz, .bool tn] H (fun u _ => u = .bool true) := by
  refine fn_intro Try.func10 rfl (by kernel_rfl) rfl ?_
  by_cases c1 : xz < 0
  · repeat (first | refine go_ ?_ | refine bx_ (fun _ => ?_) | refine hl_callv rfl rfl (anchor_fn) ?_)
    exact fin1B rfl rfl rfl
  by_cases c2 : yz < 0
  · repeat (first | refine go_ ?_ | refine bx_ (fun _ => ?_) | refine hl_callv rfl rfl (anchor_fn) ?_)
    exact fin1B rfl rfl rfl
  by_cases c3 : wz < 0
  · repeat (first | refine go_ ?_ | refine bx_ (fun _ => ?_) | refine hl_callv rfl rfl (anchor_fn) ?_)
    exact fin1B rfl rfl rfl
  by_cases c4 : hz < 0
  · repeat (first | refine go_ ?_ | refine bx_ (fun _ => ?_) | refine hl_callv rfl rfl (anchor_fn) ?_)
    exact fin1B rfl rfl rfl
  by_cases c5 : 12 < xz
  · repeat (first | refine go_ ?_ | refine bx_ (fun _ => ?_) | refine hl_callv rfl rfl (anchor_fn) ?_)
    exact fin1B rfl rfl rfl
  by_cases c6 : 12 < yz
  · repeat (first | refine go_ ?_ | refine bx_ (fun _ => ?_) | refine hl_callv rfl rfl (anchor_fn) ?_)
    exact fin1B rfl rfl rfl
  by_cases c7 : 12 < wz
  · repeat (first | refine go_ ?_ | refine bx_ (fun _ => ?_) | refine hl_callv rfl rfl (anchor_fn) ?_)
    exact fin1B rfl rfl rfl
  by_cases c8 : 12 < hz
  · repeat (first | refine go_ ?_ | refine bx_ (fun _ => ?_) | refine hl_callv rfl rfl (anchor_fn) ?_)
    exact fin1B rfl rfl rfl
  obtain ⟨x, rfl⟩ := Int.eq_ofNat_of_zero_le (show 0 ≤ xz by omega)
  obtain ⟨y, rfl⟩ := Int.eq_ofNat_of_zero_le (show 0 ≤ yz by omega)
  obtain ⟨w, rfl⟩ := Int.eq_ofNat_of_zero_le (show 0 ≤ wz by omega)
  obtain ⟨h, rfl⟩ := Int.eq_ofNat_of_zero_le (show 0 ≤ hz by omega)
  clear c1 c2 c3 c4
  repeat (first | refine go_ ?_ | refine bx_ (fun _ => ?_) | refine hl_callv rfl rfl (anchor_fn) ?_)
  rename_i g
  have hs1 : PtR w0 B (⟨g, 34, [.int .i64 (x : Int), .int .i64 (y : Int), .int .i64 ((x : Int) + w), .int .i64 (y : Int), .int .i64 ((x : Int) + w), .int .i64 ((y : Int) + h), .int .i64 (x : Int), .int .i64 ((y : Int) + h)], 4 * 2⟩ :: H) (some ⟨g, 0, none⟩) 4 (rec1 x y w h) := ⟨rfl, fun _ => ⟨_, _, rfl⟩, Rds.ent (c := ⟨Try.prog, 0, w0, B⟩) (n := 8) .here rfl (one_pts _)⟩
  have ok1 : okS (rec1 x y w h) [] = true := okS_yes (decide_eq_true (by show 3 ≤ 4 ∧ 4 ≤ 256; omega)) (fun p hp => by
    simp only [rec1, List.mem_cons, List.not_mem_nil, or_false] at hp
    unfold Pt.right
    rcases hp with rfl | rfl | rfl | rfl <;> dsimp only <;> omega) (by simp)
  refine hc_meet (fun fr M => ∃ (X Y W Hh : Nat) (L : List Pt) (sa : Option Addr) (sc : Nat), Agr fr [(0, .int .i64 (X : Int)), (1, .int .i64 (Y : Int)), (2, .int .i64 (W : Int)), (3, .int .i64 (Hh : Int)), (11, .slice sa 4 sc)] ∧ PtR w0 B M sa 4 L ∧ okS L [] = true ∧ (∀ i, mkI L 26 i = gIn X Y W Hh i) ∧ areaI L = 2 * ((W : Int) * Hh) ∧ (X + W ≤ 26 ∧ Y + Hh ≤ 26)) ?_ ?_
  · cases tn with
    | false =>
      repeat (first | refine go_ ?_ | refine bx_ (fun _ => ?_))
      exact ⟨x, y, w, h, _, _, _, ⟨rfl, rfl, rfl, rfl, rfl, trivial⟩, hs1, ok1, fun i => inW_rec1 (by omega) (by omega), area_rec1 _ _ _ _, by omega, by omega⟩
    | true =>
      have hT : turnL (rec1 x y w h) ⟨0, 1⟩ ⟨24, 0⟩ = rec2 ((24 - y - h : Nat) : Int) x h w := by
        show [turnP _ _ _, turnP _ _ _, turnP _ _ _, turnP _ _ _] = rec2 _ _ _ _
        unfold turnP rec2
        simp only [List.cons.injEq, Pt.mk.injEq, and_true]
        omega
      have ok2 : okS (rec2 ((24 - y - h : Nat) : Int) x h w) [] = true := okS_yes (decide_eq_true (by show 3 ≤ 4 ∧ 4 ≤ 256; omega)) (fun p hp => by
        simp only [rec2, List.mem_cons, List.not_mem_nil, or_false] at hp
        unfold Pt.right
        rcases hp with rfl | rfl | rfl | rfl <;> dsimp only <;> omega) (by simp)
      have okt : okT (rec1 x y w h) ⟨0, 1⟩ ⟨24, 0⟩ = true := by
        unfold okT
        rw [hT, okS_split, ok1, List.all_eq_true.2 fun p hp => decide_eq_true ((okS_right ok2).1 p hp)]
        decide
      have T := turn_fn (cap := 4) ⟨0, 1⟩ ⟨24, 0⟩ hs1 (by decide)
      rw [resT, okt, if_pos rfl, hT, show errV true = 0 from rfl] at T
      repeat (first | refine go_ ?_ | refine bx_ (fun _ => ?_))
      refine hl_call rfl rfl T (fun v M o => ?_)
      obtain ⟨sv, rfl, o⟩ := o
      replace o : Own _ 2 sv 4 _ _ M := o
      have hp2 := fun a c => ptR_own (w0 := w0) (B := B) (a := a) (cap := c) (M := M) (l := rec2 ((24 - y - h : Nat) : Int) x h w) (n := 4) (e := 34) (F := ⟨g, 34, [.int .i64 (x : Int), .int .i64 (y : Int), .int .i64 ((x : Int) + w), .int .i64 (y : Int), .int .i64 ((x : Int) + w), .int .i64 ((y : Int) + h), .int .i64 (x : Int), .int .i64 ((y : Int) + h)], 4 * 2⟩ :: H)
      obtain ⟨a2, s2, rfl, _, _⟩ := o.form
      repeat (first | refine go_ ?_ | refine bx_ (fun _ => ?_))
      exact ⟨24 - y - h, x, h, w, _, _, _, ⟨Eq.trans (b := .int .i64 (24 - (y : Int) - h)) rfl (by congr 1; omega), rfl, rfl, rfl, rfl, trivial⟩, hp2 _ _ o rfl, ok2, fun i => inW_rec2 (by omega) (by omega), area_rec2 _ _ _ _, by omega, by omega⟩
  clear hs1 ok1 c5 c6 c7 c8
  rintro fr M ⟨X, Y, W, Hh, L, sa, sc, hf, hL, hok, hin, har, hX, hY⟩
  obtain ⟨base, rfl⟩ := hf.out
  clear hf
  have C := area_fn (cap := sc) hL (by decide)
  have hle := hL.eq
  have hrow : (W : Int) * Hh = ((W * Hh : Nat) : Int) := by simp
  have hcnt := cnt_all X Y W Hh hX hY
  have hca := cnt_le (gIn X Y W Hh)
  obtain ⟨F, hF⟩ : ∃ F, F = gIn X Y W Hh := ⟨_, rfl⟩
  rw [← hF] at hcnt hca
  repeat (first | refine go_ ?_ | refine bx_ (fun _ => ?_))
  refine hl_call rfl rfl (maskY_fn hL hok 26 26 ⟨by omega, by omega, by omega, by omega, by omega⟩ (N := 676) (by omega)) (fun v M' hv => ?_)
  obtain ⟨gm, rfl, rfl⟩ := hv
  rw [show mkI L 26 = F by funext i; rw [hF]; exact hin i]
  repeat (first | refine go_ ?_ | refine bx_ (fun _ => ?_))
  refine hc_loopd (fun q fr M' => ∃ k, k + q = 676 ∧ Agr fr [(0, .int .i64 (X : Int)), (1, .int .i64 (Y : Int)), (2, .int .i64 (W : Int)), (3, .int .i64 (Hh : Int)), (11, .slice sa 4 sc), (15, .int .i64 (cnt F k : Int)), (103, .slice (some ⟨gm, 0, none⟩) 676 676), (104, .int .i64 676), (105, .int .i64 (k : Int))]
    ∧ M' = ⟨gm, 5, tabB 676 F, 676⟩ :: M) 676 ?_ ?_
  · exact ⟨0, by omega, ⟨rfl, rfl, rfl, rfl, rfl, rfl, rfl, rfl, rfl, trivial⟩, rfl⟩
  clear base
  rintro q fr M' ⟨k, hk, hf, rfl⟩
  by_cases hlt : k < 676
  · have hgk := tabB_get (f := F) hlt
    have hck := hca k
    have hstep : cnt F (k + 1) = cnt F k + if F k then 1 else 0 := rfl
    have hFk : F k = decide (((X : Int) ≤ (k : Int) % 26 ∧ (k : Int) % 26 < (X : Int) + W) ∧ ((Y : Int) ≤ (k : Int) / 26 ∧ (k : Int) / 26 < (Y : Int) + Hh)) := by rw [hF]; rfl
    obtain ⟨base, rfl⟩ := hf.out
    clear hf
    generalize cnt F k = n0 at *
    cases hb : F k with
    | true =>
      rw [hb] at hgk hFk hstep
      simp only [if_true] at hgk hstep
      obtain ⟨⟨d1, d2⟩, d3, d4⟩ := of_decide_eq_true hFk.symm
      repeat (first | refine go_ ?_ | refine bx_ (fun _ => ?_))
      exact ⟨q - 1, by omega, _, Imp.refl _, k + 1, by omega, ⟨rfl, rfl, rfl, rfl, rfl, Eq.trans (b := .int .i64 ((n0 : Int) + 255 / 255)) rfl (by rw [hstep]; congr 1), rfl, rfl, rfl, trivial⟩, rfl⟩
    | false =>
      rw [hb] at hgk hFk hstep
      simp only [Bool.false_eq_true, if_false] at hgk hstep
      have hd := of_decide_eq_false hFk.symm
      have fin : ∀ fr, Agr fr [(0, .int .i64 (X : Int)), (1, .int .i64 (Y : Int)), (2, .int .i64 (W : Int)), (3, .int .i64 (Hh : Int)), (11, .slice sa 4 sc), (15, .int .i64 ((n0 : Int) + 0 / 255)), (103, .slice (some ⟨gm, 0, none⟩) 676 676), (104, .int .i64 676), (105, .int .i64 ((k : Int) + 1))] → 
          Agr fr [(0, .int .i64 (X : Int)), (1, .int .i64 (Y : Int)), (2, .int .i64 (W : Int)), (3, .int .i64 (Hh : Int)), (11, .slice sa 4 sc), (15, .int .i64 ((cnt F (k + 1) : Nat) : Int)), (103, .slice (some ⟨gm, 0, none⟩) 676 676), (104, .int .i64 676), (105, .int .i64 ((k + 1 : Nat) : Int))] := by
        intro fr h
        rw [hstep]
        exact h
      by_cases d1 : (X : Int) ≤ (k : Int) % 26
      · by_cases d2 : (k : Int) % 26 < (X : Int) + W
        · by_cases d3 : (Y : Int) ≤ (k : Int) / 26
          · have d4 : ¬ (k : Int) / 26 < (Y : Int) + Hh := by omega
            repeat (first | refine go_ ?_ | refine bx_ (fun _ => ?_))
            exact ⟨q - 1, by omega, _, Imp.refl _, k + 1, by omega, fin _ ⟨rfl, rfl, rfl, rfl, rfl, rfl, rfl, rfl, rfl, trivial⟩, rfl⟩
          · repeat (first | refine go_ ?_ | refine bx_ (fun _ => ?_))
            exact ⟨q - 1, by omega, _, Imp.refl _, k + 1, by omega, fin _ ⟨rfl, rfl, rfl, rfl, rfl, rfl, rfl, rfl, rfl, trivial⟩, rfl⟩
        · repeat (first | refine go_ ?_ | refine bx_ (fun _ => ?_))
          exact ⟨q - 1, by omega, _, Imp.refl _, k + 1, by omega, fin _ ⟨rfl, rfl, rfl, rfl, rfl, rfl, rfl, rfl, rfl, trivial⟩, rfl⟩
      · repeat (first | refine go_ ?_ | refine bx_ (fun _ => ?_))
        exact ⟨q - 1, by omega, _, Imp.refl _, k + 1, by omega, fin _ ⟨rfl, rfl, rfl, rfl, rfl, rfl, rfl, rfl, rfl, trivial⟩, rfl⟩
  · obtain rfl : k = 676 := by omega
    rw [hcnt] at hf
    obtain ⟨base, rfl⟩ := hf.out
    clear hf
    have C' := area_fn (cap := sc) (hL.imp (show Imp (⟨gm, 5, tabB 676 F, 676⟩ :: M) M from Imp.drop (Imp.refl _))) (by decide)
    rw [hok, if_pos rfl, har, hrow, show errV true = 0 from rfl] at C'
    have hsm : W * Hh ≤ 676 := by have := hca 676; omega
    repeat (first | refine go_ ?_ | refine bx_ (fun _ => ?_) | refine hl_callv rfl rfl (C') ?_)
    exact fin1B rfl rfl rfl
theorem walk (x y w h : Int) (b : Bool) (wd : World) (_ : -9223372036854775808 ≤ x ∧ x ≤ 9223372036854775807) (_ : -9223372036854775808 ≤ y ∧ y ≤ 9223372036854775807) (_ : -9223372036854775808 ≤ w ∧ w ≤ 9223372036854775807) (_ : -9223372036854775808 ≤ h ∧ h ≤ 9223372036854775807) :
    Calls Try.prog 10 #[.int .i64 x, .int .i64 y, .int .i64 w, .int .i64 h, .bool b] wd fun e w' => e = .returned (.bool true) ∧ Below wd.heap.size wd w' :=
  calls_of_fn (law x y w h b) fun _ _ h => h

/-! The step to the statement (written by program). -/
open Go.ChangeShapes Go.WideShapes Go.ChangeAt
set_option maxRecDepth 100000 in
theorem lifted (os : Os) (started : os.Started) (H : Type) (enc : TypeId × Value → H) :
    ReturnsInHanded {} Try.checked os 10 .any (Rows.lassoRectsSpec.pre6 enc Try.prog Try.f10 Rows.lassoRectsRow.domain false) (Rows.lassoRectsSpec.post enc Try.prog Try.f10 false true false false) := by
  refine returnsInHanded_of_change (C := Try.checked) own started (by kernel_rfl) Try.func10
    (ChangeSpec.witness6 (enc := enc) (C := Try.checked) false ⟨#[], #[.int .i64 0, .int .i64 0, .int .i64 0, .int .i64 0, .bool false], []⟩ 8 (by kernel_rfl) (by kernel_rfl) (by kernel_rfl) (by kernel_rfl)) ?_
  intro W base args ds gs before hval0 hW hcnd _
  have hval : ∀ (j : Nat) t v, Try.f10.params[j]? = some t → args[j]? = some v → Value.okWide Try.prog W .any base t v := hval0
  have hW' := hW
  obtain ⟨p, q, hA0, hV, rfl, hfz, hnd⟩ := hW
  have hA : DataW.TrodAll enc Try.prog W 0 (fun _ => true) true Try.f10.params.toList args.toList ds p := hA0
  rw [Try.params10] at hA hval
  obtain ⟨v0, vs0, d0, ds0, p0, q0, hargs, rfl, rfl, h0, r0⟩ := trodAll_cons hA
  obtain ⟨v1, vs1, d1, ds1, p1, q1, rfl, rfl, rfl, h1, r1⟩ := trodAll_cons r0
  obtain ⟨v2, vs2, d2, ds2, p2, q2, rfl, rfl, rfl, h2, r2⟩ := trodAll_cons r1
  obtain ⟨v3, vs3, d3, ds3, p3, q3, rfl, rfl, rfl, h3, r3⟩ := trodAll_cons r2
  obtain ⟨v4, vs4, d4, ds4, p4, q4, rfl, rfl, rfl, h4, r4⟩ := trodAll_cons r3
  obtain ⟨rfl, rfl, rfl⟩ := trodAll_nil r4
  obtain rfl : args = #[v0, v1, v2, v3, v4] := by cases args; simp_all
  obtain ⟨rfl, rfl⟩ := trodVars_none hV
  have k0 := h0
  have lt0 : ∀ x ∈ p0, x.block < W.heap.size := by obtain ⟨m, hm⟩ := k0; exact DataW.trod_lt m _ _ _ hm
  obtain ⟨a0, rfl, _, _, w0⟩ := open_int Try.underlying3 (hval 0 3 v0 rfl rfl) h0
  have w0 := wf_i64 w0
  have k1 := h1
  have lt1 : ∀ x ∈ p1, x.block < W.heap.size := by obtain ⟨m, hm⟩ := k1; exact DataW.trod_lt m _ _ _ hm
  obtain ⟨a1, rfl, _, _, w1⟩ := open_int Try.underlying3 (hval 1 3 v1 rfl rfl) h1
  have w1 := wf_i64 w1
  have k2 := h2
  have lt2 : ∀ x ∈ p2, x.block < W.heap.size := by obtain ⟨m, hm⟩ := k2; exact DataW.trod_lt m _ _ _ hm
  obtain ⟨a2, rfl, _, _, w2⟩ := open_int Try.underlying3 (hval 2 3 v2 rfl rfl) h2
  have w2 := wf_i64 w2
  have k3 := h3
  have lt3 : ∀ x ∈ p3, x.block < W.heap.size := by obtain ⟨m, hm⟩ := k3; exact DataW.trod_lt m _ _ _ hm
  obtain ⟨a3, rfl, _, _, w3⟩ := open_int Try.underlying3 (hval 3 3 v3 rfl rfl) h3
  have w3 := wf_i64 w3
  have k4 := h4
  have lt4 : ∀ x ∈ p4, x.block < W.heap.size := by obtain ⟨m, hm⟩ := k4; exact DataW.trod_lt m _ _ _ hm
  obtain ⟨a4, rfl, _, _⟩ := open_bool Try.underlying4 (hval 4 4 v4 rfl rfl) h4
  clear hA0 hval0
  refine (walk a0 a1 a2 a3 a4 W w0 w1 w2 w3).mono fun e W' ⟨he, bel⟩ => ?_
  subst he
  exact ⟨_, rfl, _, _, _, [], _, [], hW', trodAll_mk1 (shut_bool Try.underlying4 _), (trodAll_cons_mk (Below.trod laidOut (by kernel_rfl) (of_decide_eq_true (by kernel_rfl)) k0 bel lt0) (trodAll_cons_mk (Below.trod laidOut (by kernel_rfl) (of_decide_eq_true (by kernel_rfl)) k1 bel lt1) (trodAll_cons_mk (Below.trod laidOut (by kernel_rfl) (of_decide_eq_true (by kernel_rfl)) k2 bel lt2) (trodAll_cons_mk (Below.trod laidOut (by kernel_rfl) (of_decide_eq_true (by kernel_rfl)) k3 bel lt3) (trodAll_cons_mk (Below.trod laidOut (by kernel_rfl) (of_decide_eq_true (by kernel_rfl)) k4 bel lt4) trodAll_mk0))))), rfl, bel.frame _, fun h => by cases h⟩

theorem over : Rows.lassoRectsRow.holds Try.pinned (OpenSpec.ofChange Rows.lassoRectsSpec) :=
  OpenClaim.holds_of_wide 10 Try.f10 rfl rfl rfl rfl rfl rfl rfl ⟨rfl, rfl, rfl, rfl, rfl⟩ rfl rfl rfl rfl rfl (by kernel_rfl) Try.func10 (by kernel_rfl)
    (of_decide_eq_true (by kernel_rfl)) (by unfold Func.isWrapper; first | (rw [if_pos (by decide +kernel)]; kernel_rfl) | (rw [if_neg (by decide +kernel)]; exact ⟨rfl, rfl⟩))
    (fun os started H enc _ => lifted os started H enc)

/-- The statement. -/
theorem proved : Rows.LassoRectsSaid := over
#print axioms proved
end Go.Proofs.Ytdofcjmnnmmecaa.lassoRects
