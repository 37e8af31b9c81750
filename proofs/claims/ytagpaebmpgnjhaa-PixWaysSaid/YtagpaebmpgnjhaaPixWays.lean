/-
  The statement PixWays holds, whatever the way and the two pixels.
-/
import Derived.Test.YtagpaebmpgnjhaaPixel
import Derived.Test.YtagpaebmpgnjhaaPixRefWay
import Derived.Test.YtagpaebmpgnjhaaOpenArr
import Derived.Deep.RegionHeld3
namespace Go.Proofs.Ytagpaebmpgnjhaa.pixWays
open Go.RowKit

theorem four_below {w w' : World} {g : Nat} {a b c d : Int} (h : Four w g a b c d) (hb : Below w.heap.size w w') (hg : g < w.heap.size) : Four w' g a b c d := by
  obtain ⟨h0, h1, h2, h3⟩ := h
  exact ⟨by rw [bcell hb _ _ hg]; exact h0, by rw [bcell hb _ _ hg]; exact h1, by rw [bcell hb _ _ hg]; exact h2, by rw [bcell hb _ _ hg]; exact h3⟩

/-- What holds of the world in the drawn region. -/
abbrev Held (w : World) (_g s0 s1 s2 s3 d0 d1 d2 d3 r0 r1 r2 r3 : Int) (b k : Nat) (w' : World) : Prop :=
  (w'.cell? ⟨b, 0, none⟩ = some (.int .i64 s0) ∧ w'.cell? ⟨b, 1, none⟩ = some (.int .i64 s1) ∧ w'.cell? ⟨b, 2, none⟩ = some (.int .i64 s2) ∧ w'.cell? ⟨b, 3, none⟩ = some (.int .i64 s3)) ∧
  (w'.cell? ⟨b + 1, 0, none⟩ = some (.int .i64 d0) ∧ w'.cell? ⟨b + 1, 1, none⟩ = some (.int .i64 d1) ∧ w'.cell? ⟨b + 1, 2, none⟩ = some (.int .i64 d2) ∧ w'.cell? ⟨b + 1, 3, none⟩ = some (.int .i64 d3)) ∧
  (w'.cell? ⟨k, 0, none⟩ = some (.int .i64 r0) ∧ w'.cell? ⟨k, 1, none⟩ = some (.int .i64 r1) ∧ w'.cell? ⟨k, 2, none⟩ = some (.int .i64 r2) ∧ w'.cell? ⟨k, 3, none⟩ = some (.int .i64 r3)) ∧
  b + 1 < k ∧ k < w'.heap.size ∧ Below b w w'
theorem held_below {w : World} {s0 s1 s2 s3 d0 d1 d2 d3 r0 r1 r2 r3 : Int} {b k : Nat} {w1 w2 : World} (h : Held w 0 s0 s1 s2 s3 d0 d1 d2 d3 r0 r1 r2 r3 b k w1) (hb : Below w1.heap.size w1 w2) : Held w 0 s0 s1 s2 s3 d0 d1 d2 d3 r0 r1 r2 r3 b k w2 := by
  obtain ⟨h1, h2, h3, h4, h5, h6⟩ := h
  exact ⟨four_below h1 hb (by omega), four_below h2 hb (by omega), four_below h3 hb (by omega), h4, by have := hb.size; omega, h6.trans (hb.mono (by omega))⟩
theorem held_drew {w : World} {s0 s1 s2 s3 d0 d1 d2 d3 r0 r1 r2 r3 : Int} {b k : Nat} {w1 : World} (h : Held w 0 s0 s1 s2 s3 d0 d1 d2 d3 r0 r1 r2 r3 b k w1) : Held w 0 s0 s1 s2 s3 d0 d1 d2 d3 r0 r1 r2 r3 b k w1.drew :=
  held_below h (Below.refl _ _).drew

theorem mulZ_mono {a b f : Int} (h : a ≤ b) (hf : 0 ≤ f) : mulZ a f ≤ mulZ b f := by
  have := Int.mul_le_mul_of_nonneg_right h hf
  unfold mulZ; omega

theorem wayL_ok (way : Int) (S D : List Int) (hS : S.length = 4) (hD : D.length = 4) (h1 : PixOk S) (h2 : PixOk D) : PixOk (wayL (facZ way (S[3]'(by omega)) (D[3]'(by omega))) S D) := by
  have hf := facZ_bd (way := way) (h1 3 (by omega)).1 (h2 3 (by omega)).1
  generalize facZ way (S[3]'(by omega)) (D[3]'(by omega)) = F at *
  have hl := length_wayL F S D (by omega)
  intro i hi
  have e1 := getElem_wayL F S D i (by omega) (by omega)
  have e3 := getElem_wayL F S D 3 (by omega) (by omega)
  rw [List.getElem?_eq_getElem hi] at e1
  simp only [Option.some.injEq] at e1
  have g3 : (wayL F S D).getD 3 0 = wayZ F (S[3]'(by omega)) (D[3]'(by omega)) := by simp [List.getD, e3]
  rw [e1, g3]
  have a1 := h1 i (by omega)
  have a2 := h2 i (by omega)
  have s3 : S.getD 3 0 = S[3]'(by omega) := by simp [List.getD, show 3 < S.length by omega]
  have d3 : D.getD 3 0 = D[3]'(by omega) := by simp [List.getD, show 3 < D.length by omega]
  rw [s3] at a1
  rw [d3] at a2
  refine ⟨wayZ_bd a1.1 a2.1 hf, ?_⟩
  have m1 := mulZ_mono a1.2 hf.1.1
  have m2 := mulZ_mono a2.2 hf.2.1
  unfold wayZ
  omega

set_option maxHeartbeats 4000000 in
theorem yes (way s0 s1 s2 s3 d0 d1 d2 d3 : Int) (w : World) (hS : PixOk [s0, s1, s2, s3]) (hD : PixOk [d0, d1, d2, d3]) :
    Calls Try.prog 3 #[.int .i64 way, arrV [s0, s1, s2, s3], arrV [d0, d1, d2, d3]] w fun e w' => e = .returned (.bool true) ∧ Below w.heap.size w w' := by
  have hR := wayL_ok way _ _ rfl rfl hS hD
  have bS : ∀ x ∈ [s0, s1, s2, s3], Byte x := fun x hx => by obtain ⟨i, hi, rfl⟩ := List.getElem_of_mem hx; exact (hS i hi).1
  have bD : ∀ x ∈ [d0, d1, d2, d3], Byte x := fun x hx => by obtain ⟨i, hi, rfl⟩ := List.getElem_of_mem hx; exact (hD i hi).1
  have c1 := fun w => way_any way [s0, s1, s2, s3] [d0, d1, d2, d3] rfl rfl bS bD w
  have c2 := fun w => refWay_any way [s0, s1, s2, s3] [d0, d1, d2, d3] rfl rfl bS bD w
  generalize hr : wayL (facZ way ([s0, s1, s2, s3] : List Int)[3] ([d0, d1, d2, d3] : List Int)[3]) [s0, s1, s2, s3] [d0, d1, d2, d3] = R at *
  obtain ⟨r0, r1, r2, r3, rfl⟩ : ∃ r0 r1 r2 r3, R = [r0, r1, r2, r3] := ⟨_, _, _, _, hr.symm⟩
  clear hr bS bD
  have C0 := Lib.hid (fun w => pixel_yes _ rfl hS w)
  have C3 := Lib.hid (fun w => pixel_yes _ rfl hD w)
  have C4 := Lib.hid (fun w => pixel_yes _ rfl hR w)
  have C1 := Lib.hid c1
  have C2 := Lib.hid c2
  clear c1 c2 hS hD hR
  have heq := run_eq_arr (P := Try.prog) 22 3 4 Try.underlying22 Try.underlying3 (by kernel_rfl) [r0, r1, r2, r3] [r0, r1, r2, r3] rfl rfl
  simp only [List.map_cons, List.map_nil, BEq.rfl] at heq
  have hgd : Try.prog.eqGuardType Try.prog.depth 22 = false := by kernel_rfl
  go_enter Try.func3, Try.ntmps3
  go_wp2_with fail
  refine (anchor_any _).mono ?_
  rintro e w1 ⟨rfl, hb1⟩
  have f1 : Four w1 w.heap.size s0 s1 s2 s3 := four_below ((Blk.new _ _ _ _ rfl _ rfl).alloc _).four hb1 (by simp; omega)
  have f2 : Four w1 (w.heap.size + 1) d0 d1 d2 d3 := four_below (Blk.new _ _ _ _ (by simp) _ rfl).four hb1 (by simp)
  have hs1 : w.heap.size + 1 < w1.heap.size := by have := hb1.size; simp at this; omega
  have hbel : Below w.heap.size w w1 := (((Below.refl _ _).alloc (Nat.le_refl _) _).alloc (by simp) _).trans (hb1.mono (by simp; omega))
  clear hb1
  have F1 := Lib.hid f1
  have F2 := Lib.hid f2
  obtain ⟨a0, a1, a2, a3⟩ := f1
  obtain ⟨b0, b1, b2, b3⟩ := f2
  go_wp2_with fail
  refine (C0.out _).mono ?_
  rintro e w2 ⟨rfl, hb2⟩
  clear a0 a1 a2 a3 b0 b1 b2 b3
  have f1 := four_below F1.out hb2 (by omega)
  have f2 := four_below F2.out hb2 (by omega)
  have hs2 : w.heap.size + 1 < w2.heap.size := by have := hb2.size; omega
  have hbel := hbel.trans (hb2.mono (by omega))
  clear hb2 hs1 F1 F2
  have F1 := Lib.hid f1
  have F2 := Lib.hid f2
  obtain ⟨a0, a1, a2, a3⟩ := f1
  obtain ⟨b0, b1, b2, b3⟩ := f2
  go_wp2_with fail
  refine (C3.out _).mono ?_
  rintro e w3 ⟨rfl, hb3⟩
  clear a0 a1 a2 a3 b0 b1 b2 b3
  have f1 := four_below F1.out hb3 (by omega)
  have f2 := four_below F2.out hb3 (by omega)
  have hs3 : w.heap.size + 1 < w3.heap.size := by have := hb3.size; omega
  have hbel := hbel.trans (hb3.mono (by omega))
  clear hb3 hs2 F1 F2
  have F1 := Lib.hid f1
  have F2 := Lib.hid f2
  obtain ⟨a0, a1, a2, a3⟩ := f1
  obtain ⟨b0, b1, b2, b3⟩ := f2
  go_wp2_with fail
  refine (C1.out _).mono ?_
  rintro e w4 ⟨rfl, hb4⟩
  clear a0 a1 a2 a3 b0 b1 b2 b3
  have f1 := four_below F1.out hb4 (by omega)
  have f2 := four_below F2.out hb4 (by omega)
  have hs4 : w.heap.size + 1 < w4.heap.size := by have := hb4.size; omega
  have hbel := hbel.trans (hb4.mono (by omega))
  clear hb4 hs3 F1 F2
  have F1 := Lib.hid f1
  have F2 := Lib.hid f2
  clear f1 f2
  go_wp2_with fail
  have hh : Held w 0 s0 s1 s2 s3 d0 d1 d2 d3 r0 r1 r2 r3 w.heap.size w4.heap.size (w4.alloc (.cells #[.int .i64 r0, .int .i64 r1, .int .i64 r2, .int .i64 r3] 22)) :=
    ⟨four_below F1.out ((Below.refl _ _).alloc (Nat.le_refl _) _) (by omega), four_below F2.out ((Below.refl _ _).alloc (Nat.le_refl _) _) (by omega), (Blk.new _ _ _ _ rfl _ rfl).four, hs4, by simp, hbel.alloc (by omega) _⟩
  generalize w4.alloc (.cells #[.int .i64 r0, .int .i64 r1, .int .i64 r2, .int .i64 r3] 22) = w5 at *
  generalize w4.heap.size = g at *
  generalize hB : w.heap.size = B at *
  have HBB := Lib.hid hB
  clear F1 F2 hbel hs4 hB
  go_region_held3 (fun w' => (w'.cell? ⟨B, 0, none⟩ = some (.int .i64 s0) ∧ w'.cell? ⟨B, 1, none⟩ = some (.int .i64 s1) ∧ w'.cell? ⟨B, 2, none⟩ = some (.int .i64 s2) ∧ w'.cell? ⟨B, 3, none⟩ = some (.int .i64 s3)) ∧
      (w'.cell? ⟨B + 1, 0, none⟩ = some (.int .i64 d0) ∧ w'.cell? ⟨B + 1, 1, none⟩ = some (.int .i64 d1) ∧ w'.cell? ⟨B + 1, 2, none⟩ = some (.int .i64 d2) ∧ w'.cell? ⟨B + 1, 3, none⟩ = some (.int .i64 d3)) ∧
      (w'.cell? ⟨g, 0, none⟩ = some (.int .i64 r0) ∧ w'.cell? ⟨g, 1, none⟩ = some (.int .i64 r1) ∧ w'.cell? ⟨g, 2, none⟩ = some (.int .i64 r2) ∧ w'.cell? ⟨g, 3, none⟩ = some (.int .i64 r3)) ∧
      B + 1 < g ∧ g < w'.heap.size ∧ Below B w w') ((first | exact held_drew hh | exact held_below (held_drew hh) hb6 | exact held_below (held_below (held_drew hh) hb6) hb7))
    (first | (go_at_call 15; refine (C2.out _).mono ?_; rintro e w6 ⟨rfl, hb6⟩) | (go_at_call 13; refine (C4.out _).mono ?_; rintro e w7 ⟨rfl, hb7⟩))
  go_wp2
  go_ret
  exact ⟨rfl, by rw [HBB.out]; exact (held_below (held_below (held_drew hh) hb6) hb7).2.2.2.2.2⟩

theorem no (way s0 s1 s2 s3 d0 d1 d2 d3 : Int) (w : World) (wS : ∀ x ∈ [s0, s1, s2, s3], -9223372036854775808 ≤ x ∧ x ≤ 9223372036854775807) (wD : ∀ x ∈ [d0, d1, d2, d3], -9223372036854775808 ≤ x ∧ x ≤ 9223372036854775807)
    (h : ¬ PixOk [s0, s1, s2, s3] ∨ (PixOk [s0, s1, s2, s3] ∧ ¬ PixOk [d0, d1, d2, d3])) :
    Calls Try.prog 3 #[.int .i64 way, arrV [s0, s1, s2, s3], arrV [d0, d1, d2, d3]] w fun e w' => e = .returned (.bool true) ∧ Below w.heap.size w w' := by
  have H := Lib.hid h
  have WS := Lib.hid wS
  have WD := Lib.hid wD
  clear h wS wD
  go_enter Try.func3, Try.ntmps3
  go_wp2_with fail
  refine (anchor_any _).mono ?_
  rintro e w1 ⟨rfl, hb1⟩
  have f1 : Four w1 w.heap.size s0 s1 s2 s3 := four_below ((Blk.new _ _ _ _ rfl _ rfl).alloc _).four hb1 (by simp; omega)
  have f2 : Four w1 (w.heap.size + 1) d0 d1 d2 d3 := four_below (Blk.new _ _ _ _ (by simp) _ rfl).four hb1 (by simp)
  have hs1 : w.heap.size + 1 < w1.heap.size := by have := hb1.size; simp at this; omega
  have hbel : Below w.heap.size w w1 := (((Below.refl _ _).alloc (Nat.le_refl _) _).alloc (by simp) _).trans (hb1.mono (by simp; omega))
  clear hb1
  have F2 := Lib.hid f2
  obtain ⟨a0, a1, a2, a3⟩ := f1
  obtain ⟨b0, b1, b2, b3⟩ := f2
  go_wp2_with fail
  rcases H.out with h | ⟨h, h'⟩
  · refine (pixel_no [s0, s1, s2, s3] rfl WS.out h _).mono ?_
    rintro e w2 ⟨rfl, hb2⟩
    have hbel := hbel.trans (hb2.mono (by omega))
    clear h
    go_wp2_with fail
    go_ret
    exact ⟨rfl, hbel⟩
  · refine (pixel_yes [s0, s1, s2, s3] rfl h _).mono ?_
    rintro e w2 ⟨rfl, hb2⟩
    have H2 := Lib.hid h'
    clear a0 a1 a2 a3 b0 b1 b2 b3 h h'
    have f2 := four_below F2.out hb2 (by omega)
    have hs2 : w.heap.size + 1 < w2.heap.size := by have := hb2.size; omega
    have hbel := hbel.trans (hb2.mono (by omega))
    clear hb2 hs1 F2
    obtain ⟨b0, b1, b2, b3⟩ := f2
    go_wp2_with fail
    refine (pixel_no [d0, d1, d2, d3] rfl WD.out H2.out _).mono ?_
    rintro e w3 ⟨rfl, hb3⟩
    have hbel := hbel.trans (hb3.mono (by omega))
    go_wp2_with fail
    go_ret
    exact ⟨rfl, hbel⟩

theorem walk (way : Int) (S D : List Int) (w : World) (_hw : -9223372036854775808 ≤ way ∧ way ≤ 9223372036854775807) (hS : S.length = 4) (wS : ∀ x ∈ S, -9223372036854775808 ≤ x ∧ x ≤ 9223372036854775807)
    (hD : D.length = 4) (wD : ∀ x ∈ D, -9223372036854775808 ≤ x ∧ x ≤ 9223372036854775807) :
    Calls Try.prog 3 #[.int .i64 way, arrV S, arrV D] w fun e w' => e = .returned (.bool true) ∧ Below w.heap.size w w' := by
  match S, hS, D, hD with
  | [s0, s1, s2, s3], _, [d0, d1, d2, d3], _ =>
    by_cases h1 : PixOk [s0, s1, s2, s3]
    · by_cases h2 : PixOk [d0, d1, d2, d3]
      · exact yes way s0 s1 s2 s3 d0 d1 d2 d3 w h1 h2
      · exact no way s0 s1 s2 s3 d0 d1 d2 d3 w wS wD (Or.inr ⟨h1, h2⟩)
    · exact no way s0 s1 s2 s3 d0 d1 d2 d3 w wS wD (Or.inl h1)

/-! The step to the statement (written by program). -/
open Go.ChangeShapes Go.WideShapes Go.ChangeAt
set_option maxRecDepth 100000 in
theorem lifted (os : Os) (started : os.Started) (H : Type) (enc : TypeId × Value → H) :
    ReturnsInHanded {} Try.checked os 3 .any (Rows.pixWaysSpec.pre6 enc Try.prog Try.f3 Rows.pixWaysRow.domain false) (Rows.pixWaysSpec.post enc Try.prog Try.f3 false true false false) := by
  refine returnsInHanded_of_change (C := Try.checked) own started (by kernel_rfl) Try.func3
    (ChangeSpec.witness6 (enc := enc) (C := Try.checked) false ⟨#[], #[.int .i64 0, .agg #[.int .i64 0, .int .i64 0, .int .i64 0, .int .i64 0], .agg #[.int .i64 0, .int .i64 0, .int .i64 0, .int .i64 0]], []⟩ 8 (by kernel_rfl) (by kernel_rfl) (by kernel_rfl) (by kernel_rfl)) ?_
  intro W base args ds gs before hval0 hW hcnd _
  have hval : ∀ (j : Nat) t v, Try.f3.params[j]? = some t → args[j]? = some v → Value.okWide Try.prog W .any base t v := hval0
  have hW' := hW
  obtain ⟨p, q, hA0, hV, rfl, hfz, hnd⟩ := hW
  have hA : DataW.TrodAll enc Try.prog W 0 (fun _ => true) true Try.f3.params.toList args.toList ds p := hA0
  rw [Try.params3] at hA hval
  obtain ⟨v0, vs0, d0, ds0, p0, q0, hargs, rfl, rfl, h0, r0⟩ := trodAll_cons hA
  obtain ⟨v1, vs1, d1, ds1, p1, q1, rfl, rfl, rfl, h1, r1⟩ := trodAll_cons r0
  obtain ⟨v2, vs2, d2, ds2, p2, q2, rfl, rfl, rfl, h2, r2⟩ := trodAll_cons r1
  obtain ⟨rfl, rfl, rfl⟩ := trodAll_nil r2
  obtain rfl : args = #[v0, v1, v2] := by cases args; simp_all
  obtain ⟨rfl, rfl⟩ := trodVars_none hV
  have k0 := h0
  have lt0 : ∀ x ∈ p0, x.block < W.heap.size := by obtain ⟨m, hm⟩ := k0; exact DataW.trod_lt m _ _ _ hm
  obtain ⟨a0, rfl, _, _, w0⟩ := open_int Try.underlying3 (hval 0 3 v0 rfl rfl) h0
  have w0 := wf_i64 w0
  have k1 := h1
  have lt1 : ∀ x ∈ p1, x.block < W.heap.size := by obtain ⟨m, hm⟩ := k1; exact DataW.trod_lt m _ _ _ hm
  obtain ⟨l1, rfl, n1, b1⟩ := open_array Try.underlying22 Try.underlying3 (by kernel_rfl) (by kernel_rfl) (hval 1 22 v1 rfl rfl) k1
  have k2 := h2
  have lt2 : ∀ x ∈ p2, x.block < W.heap.size := by obtain ⟨m, hm⟩ := k2; exact DataW.trod_lt m _ _ _ hm
  obtain ⟨l2, rfl, n2, b2⟩ := open_array Try.underlying22 Try.underlying3 (by kernel_rfl) (by kernel_rfl) (hval 2 22 v2 rfl rfl) k2
  clear hA0 hval0
  refine (walk a0 l1 l2 W w0 n1 b1 n2 b2).mono fun e W' ⟨he, bel⟩ => ?_
  subst he
  exact ⟨_, rfl, _, _, _, [], _, [], hW', trodAll_mk1 (shut_bool Try.underlying4 _), (trodAll_cons_mk (Below.trod laidOut (by kernel_rfl) (of_decide_eq_true (by kernel_rfl)) k0 bel lt0) (trodAll_cons_mk (Below.trod laidOut (by kernel_rfl) (of_decide_eq_true (by kernel_rfl)) k1 bel lt1) (trodAll_cons_mk (Below.trod laidOut (by kernel_rfl) (of_decide_eq_true (by kernel_rfl)) k2 bel lt2) trodAll_mk0))), rfl, bel.frame _, fun h => by cases h⟩

theorem over : Rows.pixWaysRow.holds Try.pinned (OpenSpec.ofChange Rows.pixWaysSpec) :=
  OpenClaim.holds_of_wide 3 Try.f3 rfl rfl rfl rfl rfl rfl rfl ⟨rfl, rfl, rfl, rfl, rfl⟩ rfl rfl rfl rfl rfl (by kernel_rfl) Try.func3 (by kernel_rfl)
    (of_decide_eq_true (by kernel_rfl)) (by unfold Func.isWrapper; first | (rw [if_pos (by decide +kernel)]; kernel_rfl) | (rw [if_neg (by decide +kernel)]; exact ⟨rfl, rfl⟩))
    (fun os started H enc _ => lifted os started H enc)

/-- The statement. -/
theorem proved : Rows.PixWaysSaid := over
#print axioms proved
end Go.Proofs.Ytagpaebmpgnjhaa.pixWays
