/-
  The statement AffineInside holds, whatever the picture and the map.
-/
import Derived.Test.YtbgdligfdfhbkaaA12
namespace Go.Proofs.Ytbgdligfdfhbkaa.affineInside
open Go.RowKit
set_option maxHeartbeats 16000000 in
set_option maxRecDepth 100000 in
theorem law {w0 : World} {B : Nat} {M : List Ent} (W H : Int) {a : Option Addr} {n cap : Nat} {f : Nat → Int} (hN : n ≤ 2000 → ∀ E, Nums w0 B E a n f) (hn9 : n ≤ 9223372036854775807) (qz s x y : Int) (sm : Bool) :
    Fn Try.prog w0 B 11 [picV W H a n cap, .int .i64 qz, .int .i64 s, .int .i64 x, .int .i64 y, .bool sm] M (fun u _ => u = .bool true) := by
  refine fn_intro Try.func11 rfl (by kernel_rfl) rfl ?_
  unfold picV
  by_cases h1 : 600 < n
  · repeat (first | refine go_ ?_ | refine bx_ (fun _ => ?_) | refine hl_callv rfl rfl (anchor_fn) ?_)
    exact fin1B rfl rfl rfl
  replace hN := hN (by omega)
  by_cases h2 : qz < 0
  · repeat (first | refine go_ ?_ | refine bx_ (fun _ => ?_) | refine hl_callv rfl rfl (anchor_fn) ?_)
    exact fin1B rfl rfl rfl
  by_cases h3 : 7 < qz
  · repeat (first | refine go_ ?_ | refine bx_ (fun _ => ?_) | refine hl_callv rfl rfl (anchor_fn) ?_)
    exact fin1B rfl rfl rfl
  by_cases h4 : s < -4
  · repeat (first | refine go_ ?_ | refine bx_ (fun _ => ?_) | refine hl_callv rfl rfl (anchor_fn) ?_)
    exact fin1B rfl rfl rfl
  by_cases h5 : 4 < s
  · repeat (first | refine go_ ?_ | refine bx_ (fun _ => ?_) | refine hl_callv rfl rfl (anchor_fn) ?_)
    exact fin1B rfl rfl rfl
  by_cases hbad : sm = true ∧ s ≠ 0
  · obtain ⟨rfl, hbad⟩ := hbad
    repeat (first | refine go_ ?_ | refine bx_ (fun _ => ?_) | refine hl_callv rfl rfl (anchor_fn) ?_)
    exact fin1B rfl rfl rfl
  have hsm : sm = true → s = 0 := fun h => by
    by_cases e : s = 0
    · exact e
    · exact absurd ⟨h, e⟩ hbad
  clear hbad
  obtain ⟨q, rfl⟩ := Int.eq_ofNat_of_zero_le (show 0 ≤ qz by omega)
  have hpl : ∀ E, Fn Try.prog w0 B 17 [.agg [.int .i64 W, .int .i64 H, .slice a n cap].toArray] E (fun r M' => r = .agg [.int .i64 W, .int .i64 H, .slice a n cap].toArray ∧ M' = E) := fun E => plain_fn W H a n cap
  have key := fun (i j : Int) (k : Nat) (hx : -1310720 ≤ x ∧ x ≤ 1310720) (hy : -1310720 ≤ y ∧ y ≤ 1310720) => inside_lin (f := f) (W := W) (H := H) (sm := sm) (i := i) (j := j) (s := s) (by omega) hx hy k hsm
  obtain ⟨sv, hsv⟩ : ∃ b, b = sm := ⟨_, rfl⟩
  rw [← hsv] at key
  cases sm
  all_goals
    try have h00 := hsm rfl
    clear hsm
    by_cases h6 : x < -1310720
    · repeat (first | refine go_ ?_ | refine bx_ (fun _ => ?_) | refine hl_callv rfl rfl (anchor_fn) ?_)
      exact fin1B rfl rfl rfl
    by_cases h7 : 1310720 < x
    · repeat (first | refine go_ ?_ | refine bx_ (fun _ => ?_) | refine hl_callv rfl rfl (anchor_fn) ?_)
      exact fin1B rfl rfl rfl
    by_cases h8 : y < -1310720
    · repeat (first | refine go_ ?_ | refine bx_ (fun _ => ?_) | refine hl_callv rfl rfl (anchor_fn) ?_)
      exact fin1B rfl rfl rfl
    by_cases h9 : 1310720 < y
    · repeat (first | refine go_ ?_ | refine bx_ (fun _ => ?_) | refine hl_callv rfl rfl (anchor_fn) ?_)
      exact fin1B rfl rfl rfl
    repeat (first | refine go_ ?_ | refine bx_ (fun _ => ?_) | refine hl_callv rfl rfl (anchor_fn) ?_ | refine hl_callv rfl rfl (hpl _) ?_)
    refine hl_call rfl rfl (rpright_fn W H (hN _)) (fun r M' hr => ?_)
    obtain ⟨⟨rfl, hR⟩ | ⟨rfl, hR⟩, rfl⟩ := hr
    rotate_left
    · repeat (first | refine go_ ?_ | refine bx_ (fun _ => ?_))
      exact fin1B rfl rfl rfl
    by_cases hA : 60 < W
    · repeat (first | refine go_ ?_ | refine bx_ (fun _ => ?_))
      exact fin1B rfl rfl rfl
    by_cases hB : 60 < H
    · repeat (first | refine go_ ?_ | refine bx_ (fun _ => ?_))
      exact fin1B rfl rfl rfl
    obtain ⟨r1, r2, r3, r4, r5, r6⟩ := id hR
    have hs4 : -4 ≤ s ∧ s ≤ 4 := by omega
    have hx4 : -1310720 ≤ x ∧ x ≤ 1310720 := by omega
    have hy4 : -1310720 ≤ y ∧ y ≤ 1310720 := by omega
    replace key := fun i j k => key i j k hx4 hy4
    have hm0 : [Value.int .i64 65536, .int .i64 (s * 65536), .int .i64 0, .int .i64 65536, .int .i64 x, .int .i64 y] = tab 6 (slM s x y 0) := by
      show _ = [Value.int .i64 (65536 * 1), .int .i64 (65536 * s), .int .i64 (65536 * 0), .int .i64 (65536 * 1), .int .i64 x, .int .i64 y]
      simp only [List.cons.injEq, Value.int.injEq, true_and, and_true]
      omega
    have ht : ∀ E k, Fn Try.prog w0 B 24 [.agg (tab 6 (slM s x y k)).toArray, .agg [.int .i64 0, .int .i64 (-65536), .int .i64 65536, .int .i64 0, .int .i64 0, .int .i64 0].toArray] E (fun v H' => v = .tuple #[.agg (tab 6 (slM s x y (k + 1))).toArray, .int .i64 0] ∧ H' = E) := fun E k => by
      have := times_fn (w0 := w0) (B := B) (H := E) (slM s x y k) (L6 0 (-65536) 65536 0 0 0) (sm_sl hs4 hx4 hy4 k) L6sm
      rw [times_sl hs4 hx4 hy4 k] at this
      exact this
    repeat (first | refine go_ ?_ | refine bx_ (fun _ => ?_))
    rename_i g6 g13
    rw [hm0]
    clear hm0
    refine hc_loop (fun z fr X => ∃ k, k + z = q ∧ Agr fr [(1, .int .i64 (q : Int)), (5, .bool sv), (6, .pointer (some ⟨g6, 0, none⟩)), (13, .pointer (some ⟨g13, 0, none⟩)), (14, .int .i64 (k : Int))] ∧ X = ⟨g13, 23, tab 6 (slM s x y k), 6⟩ :: ⟨g6, 34, [.int .i64 W, .int .i64 H, .slice a n cap], 3⟩ :: M) q ?_ ?_
    · exact ⟨0, by omega, ⟨rfl, by rw [hsv]; rfl, rfl, rfl, rfl, trivial⟩, rfl⟩
    rintro z fr X ⟨k, hk, hf, rfl⟩
    obtain ⟨base, rfl⟩ := hf.out
    clear hf
    by_cases hkq : k < q
    · repeat (first | refine go_ ?_ | refine bx_ (fun _ => ?_) | refine hl_callv rfl rfl (ht _ _) ?_)
      exact ⟨z - 1, by omega, k + 1, by omega, ⟨rfl, rfl, rfl, rfl, rfl, trivial⟩, rfl⟩
    clear ht
    have hsm6 := sm_sl hs4 hx4 hy4 k
    obtain ⟨bA, bB, bC, bD⟩ := sl_bd hs4 k
    obtain ⟨l1, l2⟩ := box_bd (c := x) bA bB ⟨r1, by omega⟩ ⟨r3, by omega⟩ hx4
    obtain ⟨l3, l4⟩ := box_bd (c := y) bC bD ⟨r1, by omega⟩ ⟨r3, by omega⟩ hy4
    have hbx : ∀ E, Fn Try.prog w0 B 28 [.agg (tab 6 (slM s x y k)).toArray, .int .i64 0, .int .i64 0, .int .i64 W, .int .i64 H] E
        (fun r M' => r = .tuple #[.int .i64 (loZ (65536 * slA s k) (65536 * slB s k) x 0 0 W H), .int .i64 (loZ (65536 * slC k) (65536 * slD k) y 0 0 W H), .int .i64 (hiZ (65536 * slA s k) (65536 * slB s k) x 0 0 W H - loZ (65536 * slA s k) (65536 * slB s k) x 0 0 W H), .int .i64 (hiZ (65536 * slC k) (65536 * slD k) y 0 0 W H - loZ (65536 * slC k) (65536 * slD k) y 0 0 W H), .int .i64 0] ∧ M' = E) := fun E =>
      (box_fn (slM s x y k) hsm6 0 0 W H).mono fun r M' hr => by
        obtain ⟨⟨_, h⟩ | ⟨h, _⟩, hM⟩ := hr
        · exact ⟨h, hM⟩
        · exact absurd ⟨rt_sl hs4 hx4 hy4 k, ⟨by omega, by omega, by omega, by omega⟩, r1, r3⟩ h
    have hE : seeE (slM s x y k) W H n f 40 40 = 0 := by
      unfold seeE
      rw [back_sl hs4 hx4 hy4 k, if_neg (by simp), if_neg (Classical.not_not.2 ⟨by omega, by omega, by omega, by omega, by omega⟩), if_neg (Classical.not_not.2 hR)]
    have hs : ∀ E, Fn Try.prog w0 B 15 [.agg [.int .i64 W, .int .i64 H, .slice a n cap].toArray, .agg (tab 6 (slM s x y k)).toArray, .int .i64 40, .int .i64 40, .bool sv] E (fun r M' => SeeR (slM s x y k) W H n f 40 40 sv E r M') := fun E => see_fn W H (hN E) _ hsm6 _ _ sv
    have hin : ∀ i : Nat, seenZ (slM s x y k) W H f 40 sv i ≠ 0 → _ := fun i h => key ((i : Int) % 40) ((i : Int) / 40) k h
    generalize loZ (65536 * slA s k) (65536 * slB s k) x 0 0 W H = X0 at *
    generalize hiZ (65536 * slA s k) (65536 * slB s k) x 0 0 W H = X1 at *
    generalize loZ (65536 * slC k) (65536 * slD k) y 0 0 W H = Y0 at *
    generalize hiZ (65536 * slC k) (65536 * slD k) y 0 0 W H = Y1 at *
    repeat (first | refine go_ ?_ | refine bx_ (fun _ => ?_) | refine hl_callv rfl rfl (hbx _) ?_)
    refine hl_call rfl (by first | rfl | (rw [hsv]; rfl)) (see_pos (N := 1600) (hs _) hE rfl (by decide)) (fun r M' hr => ?_)
    obtain ⟨g, c, rfl, rfl⟩ := hr
    clear hs hbx hpl key hE
    generalize seenZ (slM s x y k) W H f 40 sv = v at *
    repeat (first | refine go_ ?_ | refine bx_ (fun _ => ?_))
    rename_i g20
    refine hc_loop (fun z fr X => ∃ j, j + z = 1600 ∧ Agr fr [(15, .int .i64 X0), (16, .int .i64 Y0), (17, .int .i64 (X1 - X0)), (18, .int .i64 (Y1 - Y0)), (133, .slice (some ⟨g, 0, none⟩) 1600 c), (134, .int .i64 1600), (135, .int .i64 (j : Int))] ∧
      ∃ F, X.Perm (⟨g, 3, tab 1600 v, c * 1⟩ :: F)) 1600 ?_ ?_
    · exact ⟨0, by omega, ⟨rfl, rfl, rfl, rfl, rfl, rfl, rfl, trivial⟩, _, List.Perm.swap _ _ _⟩
    clear base
    rintro z fr X ⟨j, hj, hf, F, hp⟩
    obtain ⟨base, rfl⟩ := hf.out
    clear hf
    refine HC.perm ?_ hp
    by_cases hjt : j < 1600
    · by_cases hv : v j = 0
      · repeat (first | refine go_ ?_ | refine bx_ (fun _ => ?_))
        exact ⟨z - 1, by omega, j + 1, by omega, ⟨rfl, rfl, rfl, rfl, rfl, rfl, rfl, trivial⟩, F, List.Perm.refl _⟩
      · obtain ⟨⟨k1, k2⟩, k3, k4⟩ := hin j hv
        repeat (first | refine go_ ?_ | refine bx_ (fun _ => ?_))
        exact ⟨z - 1, by omega, j + 1, by omega, ⟨rfl, rfl, rfl, rfl, rfl, rfl, rfl, trivial⟩, F, List.Perm.refl _⟩
    · repeat (first | refine go_ ?_ | refine bx_ (fun _ => ?_))
      exact fin1B rfl rfl rfl
theorem walk (W H : Int) (a : Option Addr) (len cap : Nat) (l : List Int) (q s x y : Int) (sm : Bool) (wd : World) (_ : -9223372036854775808 ≤ W ∧ W ≤ 9223372036854775807) (_ : -9223372036854775808 ≤ H ∧ H ≤ 9223372036854775807) (hl : Sl intV wd a len cap l) (hx : ∀ x ∈ l, -9223372036854775808 ≤ x ∧ x ≤ 9223372036854775807)
    (_ : -9223372036854775808 ≤ q ∧ q ≤ 9223372036854775807) (_ : -9223372036854775808 ≤ s ∧ s ≤ 9223372036854775807) (_ : -9223372036854775808 ≤ x ∧ x ≤ 9223372036854775807) (_ : -9223372036854775808 ≤ y ∧ y ≤ 9223372036854775807) :
    Calls Try.prog 11 #[picV W H a len cap, .int .i64 q, .int .i64 s, .int .i64 x, .int .i64 y, .bool sm] wd fun e w' => e = .returned (.bool true) ∧ Below wd.heap.size wd w' := by
  have h1 := hl.small
  have h2 := hl.le
  exact calls_of_fn (law W H (fun hn E => nums_par (Nat.le_refl _) hl hx (by omega)) (by omega) q s x y sm) fun _ _ h => h

/-! The step to the statement (written by program). -/
open Go.ChangeShapes Go.WideShapes Go.ChangeAt
set_option maxRecDepth 100000 in
theorem lifted (os : Os) (started : os.Started) (H : Type) (enc : TypeId × Value → H) :
    ReturnsInHanded {} Try.checked os 11 .any (Rows.affineInsideSpec.pre6 enc Try.prog Try.f11 Rows.affineInsideRow.domain false) (Rows.affineInsideSpec.post enc Try.prog Try.f11 false true false false) := by
  refine returnsInHanded_of_change (C := Try.checked) own started (by kernel_rfl) Try.func11
    (ChangeSpec.witness6 (enc := enc) (C := Try.checked) false ⟨#[], #[.agg #[.int .i64 0, .int .i64 0, .slice none 0 0], .int .i64 0, .int .i64 0, .int .i64 0, .int .i64 0, .bool false], []⟩ 8 (by kernel_rfl) (by kernel_rfl) (by kernel_rfl) (by kernel_rfl)) ?_
  intro W base args ds gs before hval0 hW hcnd _
  have hval : ∀ (j : Nat) t v, Try.f11.params[j]? = some t → args[j]? = some v → Value.okWide Try.prog W .any base t v := hval0
  have hW' := hW
  obtain ⟨p, q, hA0, hV, rfl, hfz, hnd⟩ := hW
  have hA : DataW.TrodAll enc Try.prog W 0 (fun _ => true) true Try.f11.params.toList args.toList ds p := hA0
  rw [Try.params11] at hA hval
  obtain ⟨v0, vs0, d0, ds0, p0, q0, hargs, rfl, rfl, h0, r0⟩ := trodAll_cons hA
  obtain ⟨v1, vs1, d1, ds1, p1, q1, rfl, rfl, rfl, h1, r1⟩ := trodAll_cons r0
  obtain ⟨v2, vs2, d2, ds2, p2, q2, rfl, rfl, rfl, h2, r2⟩ := trodAll_cons r1
  obtain ⟨v3, vs3, d3, ds3, p3, q3, rfl, rfl, rfl, h3, r3⟩ := trodAll_cons r2
  obtain ⟨v4, vs4, d4, ds4, p4, q4, rfl, rfl, rfl, h4, r4⟩ := trodAll_cons r3
  obtain ⟨v5, vs5, d5, ds5, p5, q5, rfl, rfl, rfl, h5, r5⟩ := trodAll_cons r4
  obtain ⟨rfl, rfl, rfl⟩ := trodAll_nil r5
  obtain rfl : args = #[v0, v1, v2, v3, v4, v5] := by cases args; simp_all
  obtain ⟨rfl, rfl⟩ := trodVars_none hV
  have k0 := h0
  have lt0 : ∀ x ∈ p0, x.block < W.heap.size := by obtain ⟨m, hm⟩ := k0; exact DataW.trod_lt m _ _ _ hm
  obtain ⟨W0, H0, a0, len0, cap0, l0, rfl, x0, y0, w0, b0⟩ := open_pic (hval 0 34 v0 rfl rfl) k0
  have k1 := h1
  have lt1 : ∀ x ∈ p1, x.block < W.heap.size := by obtain ⟨m, hm⟩ := k1; exact DataW.trod_lt m _ _ _ hm
  obtain ⟨a1, rfl, _, _, w1⟩ := open_int Try.underlying3 (hval 1 3 v1 rfl rfl) h1
  have w1 := wf_i64 w1
  have k2 := h2
  have lt2 : ∀ x ∈ p2, x.block < W.heap.size := by obtain ⟨m, hm⟩ := k2; exact DataW.trod_lt m _ _ _ hm
  obtain ⟨a2, rfl, _, _, w2⟩ := open_int Try.underlying3 (hval 2 3 v2 rfl rfl) h2
  have w2 := wf_i64 w2
  have k3 := h3
  have lt3 : ∀ x ∈ p3, x.block < W.heap.size := by obtain ⟨m, hm⟩ := k3; exact DataW.trod_lt m _ _ _ hm
  obtain ⟨a3, rfl, _, _, w3⟩ := open_int Try.underlying3 (hval 3 3 v3 rfl rfl) h3
  have w3 := wf_i64 w3
  have k4 := h4
  have lt4 : ∀ x ∈ p4, x.block < W.heap.size := by obtain ⟨m, hm⟩ := k4; exact DataW.trod_lt m _ _ _ hm
  obtain ⟨a4, rfl, _, _, w4⟩ := open_int Try.underlying3 (hval 4 3 v4 rfl rfl) h4
  have w4 := wf_i64 w4
  have k5 := h5
  have lt5 : ∀ x ∈ p5, x.block < W.heap.size := by obtain ⟨m, hm⟩ := k5; exact DataW.trod_lt m _ _ _ hm
  obtain ⟨a5, rfl, _, _⟩ := open_bool Try.underlying4 (hval 5 4 v5 rfl rfl) h5
  clear hA0 hval0
  refine (walk W0 H0 a0 len0 cap0 l0 a1 a2 a3 a4 a5 W x0 y0 w0 b0 w1 w2 w3 w4).mono fun e W' ⟨he, bel⟩ => ?_
  subst he
  exact ⟨_, rfl, _, _, _, [], _, [], hW', trodAll_mk1 (shut_bool Try.underlying4 _), (trodAll_cons_mk (Below.trod laidOut (by kernel_rfl) (of_decide_eq_true (by kernel_rfl)) k0 bel lt0) (trodAll_cons_mk (Below.trod laidOut (by kernel_rfl) (of_decide_eq_true (by kernel_rfl)) k1 bel lt1) (trodAll_cons_mk (Below.trod laidOut (by kernel_rfl) (of_decide_eq_true (by kernel_rfl)) k2 bel lt2) (trodAll_cons_mk (Below.trod laidOut (by kernel_rfl) (of_decide_eq_true (by kernel_rfl)) k3 bel lt3) (trodAll_cons_mk (Below.trod laidOut (by kernel_rfl) (of_decide_eq_true (by kernel_rfl)) k4 bel lt4) (trodAll_cons_mk (Below.trod laidOut (by kernel_rfl) (of_decide_eq_true (by kernel_rfl)) k5 bel lt5) trodAll_mk0)))))), rfl, bel.frame _, fun h => by cases h⟩

theorem over : Rows.affineInsideRow.holds Try.pinned (OpenSpec.ofChange Rows.affineInsideSpec) :=
  OpenClaim.holds_of_wide 11 Try.f11 rfl rfl rfl rfl rfl rfl rfl ⟨rfl, rfl, rfl, rfl, rfl⟩ rfl rfl rfl rfl rfl (by kernel_rfl) Try.func11 (by kernel_rfl)
    (of_decide_eq_true (by kernel_rfl)) (by unfold Func.isWrapper; first | (rw [if_pos (by decide +kernel)]; kernel_rfl) | (rw [if_neg (by decide +kernel)]; exact ⟨rfl, rfl⟩))
    (fun os started H enc _ => lifted os started H enc)

/-- The statement. -/
theorem proved : Rows.AffineInsideSaid := over
#print axioms proved
end Go.Proofs.Ytbgdligfdfhbkaa.affineInside
