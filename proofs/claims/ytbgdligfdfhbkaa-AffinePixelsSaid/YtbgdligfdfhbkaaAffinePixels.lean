/-
  The statement AffinePixels holds, whatever the picture, the map and the size.
-/
import Derived.Test.YtbgdligfdfhbkaaA10
namespace Go.Proofs.Ytbgdligfdfhbkaa.affinePixels
open Go.RowKit
set_option maxHeartbeats 16000000 in
set_option maxRecDepth 100000 in
theorem law {w0 : World} {B : Nat} {M : List Ent} (W H : Int) {a : Option Addr} {n cap : Nat} {f : Nat → Int} (hN : n ≤ 2000 → ∀ E, Nums w0 B E a n f) (hn9 : n ≤ 9223372036854775807) (m : Nat → Int) (hm : Sm m) (w h : Int) (sm : Bool) :
    Fn Try.prog w0 B 5 [picV W H a n cap, mapV m, .int .i64 w, .int .i64 h, .bool sm] M (fun u _ => u = .bool true) := by
  refine fn_intro Try.func5 rfl (by kernel_rfl) rfl ?_
  unfold picV mapV
  by_cases h1 : 2000 < n
  · repeat (first | refine go_ ?_ | refine bx_ (fun _ => ?_) | refine hl_callv rfl rfl (anchor_fn) ?_)
    exact fin1B rfl rfl rfl
  replace hN := hN (by omega)
  by_cases h2 : w < 0
  · repeat (first | refine go_ ?_ | refine bx_ (fun _ => ?_) | refine hl_callv rfl rfl (anchor_fn) ?_)
    exact fin1B rfl rfl rfl
  by_cases h3 : h < 0
  · repeat (first | refine go_ ?_ | refine bx_ (fun _ => ?_) | refine hl_callv rfl rfl (anchor_fn) ?_)
    exact fin1B rfl rfl rfl
  by_cases h4 : 60 < w
  · repeat (first | refine go_ ?_ | refine bx_ (fun _ => ?_) | refine hl_callv rfl rfl (anchor_fn) ?_)
    exact fin1B rfl rfl rfl
  by_cases h5 : 60 < h
  · repeat (first | refine go_ ?_ | refine bx_ (fun _ => ?_) | refine hl_callv rfl rfl (anchor_fn) ?_)
    exact fin1B rfl rfl rfl
  repeat (first | refine go_ ?_ | refine bx_ (fun _ => ?_) | refine hl_callv rfl rfl (anchor_fn) ?_)
  rename_i g5 g6
  refine hc_loop (fun z fr X => ∃ k, k + z = n ∧ Agr fr [(2, .int .i64 w), (3, .int .i64 h), (4, .bool sm), (5, .pointer (some ⟨g5, 0, none⟩)), (6, .pointer (some ⟨g6, 0, none⟩)), (40, .slice a n cap), (41, .int .i64 (n : Int)), (42, .int .i64 (k : Int))] ∧
    X = ⟨g6, 23, tab 6 m, 6⟩ :: ⟨g5, 34, [.int .i64 W, .int .i64 H, .slice a n cap], 3⟩ :: M ∧ ∀ i, i < k → Px (f i)) n ?_ ?_
  · exact ⟨0, by omega, ⟨rfl, rfl, rfl, rfl, rfl, rfl, rfl, rfl, trivial⟩, rfl, fun i hi => by omega⟩
  rintro z fr X ⟨k, hk, hf, rfl, hall⟩
  obtain ⟨base, rfl⟩ := hf.out
  clear hf
  by_cases hlt : k < n
  · obtain ⟨b, off, rfl, hr⟩ := (hN M).row (by omega)
    repeat (first | refine go_ ?_ | refine bx_ (fun _ => ?_))
    refine hl_call rfl rfl (px_fn (f k)) (fun r M' hr' => ?_)
    obtain ⟨⟨rfl, hp⟩ | ⟨rfl, hp⟩, rfl⟩ := hr'
    · repeat (first | refine go_ ?_ | refine bx_ (fun _ => ?_))
      refine ⟨z - 1, by omega, k + 1, by omega, ⟨rfl, rfl, rfl, rfl, rfl, rfl, rfl, rfl, trivial⟩, rfl, fun i hi => ?_⟩
      by_cases e : i = k
      · subst e; exact hp
      · exact hall i (by omega)
    · repeat (first | refine go_ ?_ | refine bx_ (fun _ => ?_))
      exact fin1B rfl rfl rfl
  obtain rfl : k = n := by omega
  clear hlt hk
  have hs : ∀ E, Fn Try.prog w0 B 15 [.agg [.int .i64 W, .int .i64 H, .slice a k cap].toArray, .agg (tab 6 m).toArray, .int .i64 w, .int .i64 h, .bool sm] E (fun r M' => SeeR m W H k f w h sm E r M') := fun E => see_fn W H (hN E) m hm w h sm
  by_cases hE : seeE m W H k f w h ≠ 0
  · repeat (first | refine go_ ?_ | refine bx_ (fun _ => ?_) | refine hl_callv rfl rfl (see_err (hs _) hE) ?_)
    exact fin1B rfl rfl rfl
  replace hE := Classical.not_not.1 hE
  obtain ⟨hR, hS⟩ := seeE_pic hE
  have hwh : 0 ≤ w * h := Int.mul_nonneg (by omega) (by omega)
  have hwb := mul_bd (a := w) (b := h) (M := 60) (N := 60) (by omega) (by omega)
  obtain ⟨N, hNN⟩ : ∃ N : Nat, w * h = (N : Int) := ⟨(w * h).toNat, by omega⟩
  have hNt : (w * h).toNat = N := by omega
  by_cases hN0 : N = 0
  · subst hN0
    repeat (first | refine go_ ?_ | refine bx_ (fun _ => ?_))
    refine hl_call rfl rfl (see_zero (hs _) hE hNt) (fun r M' hr => ?_)
    obtain ⟨⟨a2, c2, rfl⟩, rfl⟩ := hr
    repeat (first | refine go_ ?_ | refine bx_ (fun _ => ?_))
    refine hc_rounds 1 ?_
    repeat (first | rw [hNN] | refine go1_ ?_ | refine bx_ (fun _ => ?_))
    exact fin1B rfl rfl rfl
  · repeat (first | refine go_ ?_ | refine bx_ (fun _ => ?_))
    refine hl_call rfl rfl (see_pos (hs _) hE hNt (by omega)) (fun r M' hr => ?_)
    obtain ⟨g, c, rfl, rfl⟩ := hr
    repeat (first | refine go_ ?_ | refine bx_ (fun _ => ?_))
    rename_i g13
    refine hc_loop (fun z fr X => ∃ j, j + z = N ∧ Agr fr [(2, .int .i64 w), (3, .int .i64 h), (13, .pointer (some ⟨g13, 0, none⟩)), (66, .slice (some ⟨g, 0, none⟩) N c), (67, .int .i64 (N : Int)), (68, .int .i64 (j : Int))] ∧
      X = ⟨g13, 34, [.int .i64 w, .int .i64 h, .slice (some ⟨g, 0, none⟩) N c], 3⟩ :: ⟨g, 3, tab N (seenZ m W H f w sm), c * 1⟩ :: ⟨g6, 23, tab 6 m, 6⟩ :: ⟨g5, 34, [.int .i64 W, .int .i64 H, .slice a k cap], 3⟩ :: M) N ?_ ?_
    · exact ⟨0, by omega, ⟨rfl, rfl, rfl, rfl, rfl, rfl, trivial⟩, rfl⟩
    clear base
    rintro z fr X ⟨j, hj, hf, rfl⟩
    obtain ⟨base, rfl⟩ := hf.out
    clear hf
    by_cases hjt : j < N
    · repeat (first | refine go_ ?_ | refine bx_ (fun _ => ?_))
      refine hl_call rfl rfl (px_fn (seenZ m W H f w sm j)) (fun r M' hr' => ?_)
      obtain ⟨⟨rfl, hp⟩ | ⟨rfl, hp⟩, rfl⟩ := hr'
      · repeat (first | refine go_ ?_ | refine bx_ (fun _ => ?_))
        exact ⟨z - 1, by omega, j + 1, by omega, ⟨rfl, rfl, rfl, rfl, rfl, rfl, trivial⟩, rfl⟩
      · exact absurd (seen_px (hN M) hR hall j) hp
    · repeat (first | rw [hNN] | refine go1_ ?_ | refine bx_ (fun _ => ?_))
      exact fin1B rfl rfl rfl
theorem walk (W H : Int) (a : Option Addr) (len cap : Nat) (l : List Int) (lm : List Int) (w h : Int) (sm : Bool) (wd : World) (_ : -9223372036854775808 ≤ W ∧ W ≤ 9223372036854775807) (_ : -9223372036854775808 ≤ H ∧ H ≤ 9223372036854775807) (hl : Sl intV wd a len cap l) (hx : ∀ x ∈ l, -9223372036854775808 ≤ x ∧ x ≤ 9223372036854775807)
    (hlm : lm.length = 6) (hbm : ∀ x ∈ lm, -9223372036854775808 ≤ x ∧ x ≤ 9223372036854775807) (_ : -9223372036854775808 ≤ w ∧ w ≤ 9223372036854775807) (_ : -9223372036854775808 ≤ h ∧ h ≤ 9223372036854775807) :
    Calls Try.prog 5 #[picV W H a len cap, arrV lm, .int .i64 w, .int .i64 h, .bool sm] wd fun e w' => e = .returned (.bool true) ∧ Below wd.heap.size wd w' := by
  rw [map_of hlm]
  have h1 := hl.small
  have h2 := hl.le
  exact calls_of_fn (law W H (fun hn E => nums_par (Nat.le_refl _) hl hx (by omega)) (by omega) _ (sm_of hlm hbm) w h sm) fun _ _ h => h

/-! The step to the statement (written by program). -/
open Go.ChangeShapes Go.WideShapes Go.ChangeAt
set_option maxRecDepth 100000 in
theorem lifted (os : Os) (started : os.Started) (H : Type) (enc : TypeId × Value → H) :
    ReturnsInHanded {} Try.checked os 5 .any (Rows.affinePixelsSpec.pre6 enc Try.prog Try.f5 Rows.affinePixelsRow.domain false) (Rows.affinePixelsSpec.post enc Try.prog Try.f5 false true false false) := by
  refine returnsInHanded_of_change (C := Try.checked) own started (by kernel_rfl) Try.func5
    (ChangeSpec.witness6 (enc := enc) (C := Try.checked) false ⟨#[], #[.agg #[.int .i64 0, .int .i64 0, .slice none 0 0], .agg #[.int .i64 0, .int .i64 0, .int .i64 0, .int .i64 0, .int .i64 0, .int .i64 0], .int .i64 0, .int .i64 0, .bool false], []⟩ 8 (by kernel_rfl) (by kernel_rfl) (by kernel_rfl) (by kernel_rfl)) ?_
  intro W base args ds gs before hval0 hW hcnd _
  have hval : ∀ (j : Nat) t v, Try.f5.params[j]? = some t → args[j]? = some v → Value.okWide Try.prog W .any base t v := hval0
  have hW' := hW
  obtain ⟨p, q, hA0, hV, rfl, hfz, hnd⟩ := hW
  have hA : DataW.TrodAll enc Try.prog W 0 (fun _ => true) true Try.f5.params.toList args.toList ds p := hA0
  rw [Try.params5] at hA hval
  obtain ⟨v0, vs0, d0, ds0, p0, q0, hargs, rfl, rfl, h0, r0⟩ := trodAll_cons hA
  obtain ⟨v1, vs1, d1, ds1, p1, q1, rfl, rfl, rfl, h1, r1⟩ := trodAll_cons r0
  obtain ⟨v2, vs2, d2, ds2, p2, q2, rfl, rfl, rfl, h2, r2⟩ := trodAll_cons r1
  obtain ⟨v3, vs3, d3, ds3, p3, q3, rfl, rfl, rfl, h3, r3⟩ := trodAll_cons r2
  obtain ⟨v4, vs4, d4, ds4, p4, q4, rfl, rfl, rfl, h4, r4⟩ := trodAll_cons r3
  obtain ⟨rfl, rfl, rfl⟩ := trodAll_nil r4
  obtain rfl : args = #[v0, v1, v2, v3, v4] := by cases args; simp_all
  obtain ⟨rfl, rfl⟩ := trodVars_none hV
  have k0 := h0
  have lt0 : ∀ x ∈ p0, x.block < W.heap.size := by obtain ⟨m, hm⟩ := k0; exact DataW.trod_lt m _ _ _ hm
  obtain ⟨W0, H0, a0, len0, cap0, l0, rfl, x0, y0, w0, b0⟩ := open_pic (hval 0 34 v0 rfl rfl) k0
  have k1 := h1
  have lt1 : ∀ x ∈ p1, x.block < W.heap.size := by obtain ⟨m, hm⟩ := k1; exact DataW.trod_lt m _ _ _ hm
  obtain ⟨l1, rfl, n1, b1⟩ := open_array Try.underlying23 Try.underlying3 (by kernel_rfl) (by kernel_rfl) (hval 1 23 v1 rfl rfl) k1
  have k2 := h2
  have lt2 : ∀ x ∈ p2, x.block < W.heap.size := by obtain ⟨m, hm⟩ := k2; exact DataW.trod_lt m _ _ _ hm
  obtain ⟨a2, rfl, _, _, w2⟩ := open_int Try.underlying3 (hval 2 3 v2 rfl rfl) h2
  have w2 := wf_i64 w2
  have k3 := h3
  have lt3 : ∀ x ∈ p3, x.block < W.heap.size := by obtain ⟨m, hm⟩ := k3; exact DataW.trod_lt m _ _ _ hm
  obtain ⟨a3, rfl, _, _, w3⟩ := open_int Try.underlying3 (hval 3 3 v3 rfl rfl) h3
  have w3 := wf_i64 w3
  have k4 := h4
  have lt4 : ∀ x ∈ p4, x.block < W.heap.size := by obtain ⟨m, hm⟩ := k4; exact DataW.trod_lt m _ _ _ hm
  obtain ⟨a4, rfl, _, _⟩ := open_bool Try.underlying4 (hval 4 4 v4 rfl rfl) h4
  clear hA0 hval0
  refine (walk W0 H0 a0 len0 cap0 l0 l1 a2 a3 a4 W x0 y0 w0 b0 n1 b1 w2 w3).mono fun e W' ⟨he, bel⟩ => ?_
  subst he
  exact ⟨_, rfl, _, _, _, [], _, [], hW', trodAll_mk1 (shut_bool Try.underlying4 _), (trodAll_cons_mk (Below.trod laidOut (by kernel_rfl) (of_decide_eq_true (by kernel_rfl)) k0 bel lt0) (trodAll_cons_mk (Below.trod laidOut (by kernel_rfl) (of_decide_eq_true (by kernel_rfl)) k1 bel lt1) (trodAll_cons_mk (Below.trod laidOut (by kernel_rfl) (of_decide_eq_true (by kernel_rfl)) k2 bel lt2) (trodAll_cons_mk (Below.trod laidOut (by kernel_rfl) (of_decide_eq_true (by kernel_rfl)) k3 bel lt3) (trodAll_cons_mk (Below.trod laidOut (by kernel_rfl) (of_decide_eq_true (by kernel_rfl)) k4 bel lt4) trodAll_mk0))))), rfl, bel.frame _, fun h => by cases h⟩

theorem over : Rows.affinePixelsRow.holds Try.pinned (OpenSpec.ofChange Rows.affinePixelsSpec) :=
  OpenClaim.holds_of_wide 5 Try.f5 rfl rfl rfl rfl rfl rfl rfl ⟨rfl, rfl, rfl, rfl, rfl⟩ rfl rfl rfl rfl rfl (by kernel_rfl) Try.func5 (by kernel_rfl)
    (of_decide_eq_true (by kernel_rfl)) (by unfold Func.isWrapper; first | (rw [if_pos (by decide +kernel)]; kernel_rfl) | (rw [if_neg (by decide +kernel)]; exact ⟨rfl, rfl⟩))
    (fun os started H enc _ => lifted os started H enc)

/-- The statement. -/
theorem proved : Rows.AffinePixelsSaid := over
#print axioms proved
end Go.Proofs.Ytbgdligfdfhbkaa.affinePixels
