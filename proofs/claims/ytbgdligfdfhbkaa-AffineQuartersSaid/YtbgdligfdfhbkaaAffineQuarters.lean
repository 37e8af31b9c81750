/-
  The statement AffineQuarters holds, whatever the picture.
-/
import Derived.Test.YtbgdligfdfhbkaaA10
namespace Go.Proofs.Ytbgdligfdfhbkaa.affineQuarters
open Go.RowKit
def turnF (W H : Int) (f : Nat → Int) (i : Nat) : Int := pixAt W.toNat H.toNat f ((i : Int) / H) (H - 1 - (i : Int) % H)
theorem pixAt_in {W H : Int} {f : Nat → Int} {x y : Int} (hx : 0 ≤ x) (hxW : x < W) (hy : 0 ≤ y) (hyH : y < H) : pixAt W.toNat H.toNat f x y = f (y.toNat * W.toNat + x.toNat) := by
  unfold pixAt
  rw [if_pos (by omega)]
theorem twice {W H : Int} {n : Nat} {f : Nat → Int} (hR : PicR W H n f) (i : Nat) (hi : i < n) : turnF H W (turnF W H f) i = f (n - 1 - i) := by
  obtain ⟨h1, h2, h3, h4, h5, _⟩ := hR
  have hW : 0 < W := by
    rcases Int.lt_or_eq_of_le h1 with h | h
    · exact h
    · rw [← h, Int.zero_mul] at h5; omega
  have hH : 0 < H := by
    rcases Int.lt_or_eq_of_le h3 with h | h
    · exact h
    · rw [← h, Int.mul_zero] at h5; omega
  have e1 := Int.emod_nonneg (i : Int) (show W ≠ 0 by omega)
  have e2 := Int.emod_lt_of_pos (i : Int) hW
  have e3 : 0 ≤ (i : Int) / W := Int.ediv_nonneg (by omega) h1
  have e4 : (i : Int) / W < H := Int.ediv_lt_of_lt_mul hW (by rw [Int.mul_comm]; omega)
  have e5 := Int.mul_ediv_add_emod (i : Int) W
  show pixAt H.toNat W.toNat (turnF W H f) ((i : Int) / W) (W - 1 - (i : Int) % W) = _
  generalize (i : Int) / W = Y at *
  generalize (i : Int) % W = X at *
  rw [pixAt_in e3 e4 (by omega) (by omega)]
  obtain ⟨j, hj⟩ : ∃ j, j = (W - 1 - X).toNat * H.toNat + Y.toNat := ⟨_, rfl⟩
  have hji : (j : Int) = Y + H * (W - 1 - X) := by
    rw [hj, Int.natCast_add, Int.natCast_mul, Int.toNat_of_nonneg e3, Int.toNat_of_nonneg h3, Int.toNat_of_nonneg (by omega), Int.mul_comm]; omega
  rw [← hj]
  show pixAt W.toNat H.toNat f ((j : Int) / H) (H - 1 - (j : Int) % H) = _
  rw [hji, Int.add_mul_ediv_left _ _ (by omega), Int.ediv_eq_zero_of_lt e3 e4, Int.add_mul_emod_self_left, Int.emod_eq_of_lt e3 e4, Int.zero_add, pixAt_in (by omega) (by omega) (by omega) (by omega)]
  congr 1
  have hc : (((H - 1 - Y).toNat * W.toNat + (W - 1 - X).toNat : Nat) : Int) = W * (H - 1 - Y) + (W - 1 - X) := by
    rw [Int.natCast_add, Int.natCast_mul, Int.toNat_of_nonneg h1, Int.toNat_of_nonneg (show 0 ≤ H - 1 - Y by omega), Int.toNat_of_nonneg (show 0 ≤ W - 1 - X by omega), Int.mul_comm]
  rw [Int.mul_sub, Int.mul_sub, Int.mul_one] at hc
  omega
theorem twice2 {W H : Int} {n : Nat} {f : Nat → Int} (hR : PicR W H n f) (hR2 : PicR W H n (turnF H W (turnF W H f))) (i : Nat) (hi : i < n) : turnF H W (turnF W H (turnF H W (turnF W H f))) i = f i := by
  rw [twice hR2 i hi, twice hR (n - 1 - i) (by omega)]
  congr 1
  omega
section
variable {w0 : World} {B : Nat} {M : List Ent} {W H : Int} {a : Option Addr} {n cap : Nat} {f : Nat → Int}
theorem turn_pic (hN : Nums w0 B M a n f) (hR : PicR W H n f) : PicR H W n (turnF W H f) := by
  have hp := hN.pic hR
  obtain ⟨h1, h2, h3, h4, h5, _⟩ := hR
  exact ⟨h3, h4, h1, h2, by rw [h5, Int.mul_comm], fun i _ => pixAt_bd hp _ _⟩
theorem see_ok (hR : PicR W H n f) (hw : W ≤ 40) (hh : H ≤ 40) : seeE (L6 0 (-65536) 65536 0 (65536 * H) 0) W H n f H W = 0 := by
  obtain ⟨h1, h2, h3, h4, h5, h6⟩ := id hR
  have hb := mul_bd (a := H) (b := W) (M := 40) (N := 40) (by omega) (by omega)
  unfold seeE
  rw [back_quarter H ⟨h3, h4⟩, if_neg (by simp), if_neg (Classical.not_not.2 ⟨by omega, by omega, by omega, by omega, by omega⟩), if_neg (Classical.not_not.2 hR)]
theorem q_sm (hR : PicR W H n f) : Sm (L6 0 (-65536) 65536 0 (65536 * H) 0) := by
  obtain ⟨h1, h2, h3, h4, h5, h6⟩ := hR
  exact L6_sm (by unfold Big; omega) (by unfold Big; omega) (by unfold Big; omega) (by unfold Big; omega) (by unfold Big; omega) (by unfold Big; omega)
theorem nt (hR : PicR W H n f) : (H * W).toNat = n := by
  obtain ⟨h1, h2, h3, h4, h5, h6⟩ := hR
  rw [Int.mul_comm]; omega
theorem quarter_fn (hN : Nums w0 B M a n f) (hR : PicR W H n f) (hw : W ≤ 40) (hh : H ≤ 40) (h0 : 0 < n) (sm : Bool) :
    Fn Try.prog w0 B 15 [.agg [.int .i64 W, .int .i64 H, .slice a n cap].toArray, .agg [.int .i64 0, .int .i64 (-65536), .int .i64 65536, .int .i64 0, .int .i64 (65536 * H), .int .i64 0].toArray, .int .i64 H, .int .i64 W, .bool sm] M
      (fun u M' => ∃ g c, u = .tuple #[.agg [.int .i64 H, .int .i64 W, .slice (some ⟨g, 0, none⟩) n c].toArray, .int .i64 0] ∧ M' = ⟨g, 3, tab n (turnF W H f), c * 1⟩ :: M) := by
  have := see_pos (see_fn (cap := cap) W H hN _ (q_sm hR) H W sm) (see_ok hR hw hh) (nt hR) h0
  rw [show seenZ (L6 0 (-65536) 65536 0 (65536 * H) 0) W H f H sm = turnF W H f from funext fun i => seen_quarter hN hR H sm i] at this
  exact this
theorem quarter0_fn (hN : Nums w0 B M a 0 f) (hR : PicR W H 0 f) (hw : W ≤ 40) (hh : H ≤ 40) (sm : Bool) :
    Fn Try.prog w0 B 15 [.agg [.int .i64 W, .int .i64 H, .slice a 0 cap].toArray, .agg [.int .i64 0, .int .i64 (-65536), .int .i64 65536, .int .i64 0, .int .i64 (65536 * H), .int .i64 0].toArray, .int .i64 H, .int .i64 W, .bool sm] M
      (fun u M' => (∃ a c, u = .tuple #[.agg [.int .i64 H, .int .i64 W, .slice a 0 c].toArray, .int .i64 0]) ∧ M' = M) :=
  see_zero (see_fn (cap := cap) W H hN _ (q_sm hR) H W sm) (see_ok hR hw hh) (nt hR)
end
theorem pic_big {W H : Int} {n : Nat} {f : Nat → Int} (hR : PicR W H n f) (i : Nat) (hi : i < n) : -9223372036854775808 ≤ f i ∧ f i ≤ 9223372036854775807 := by
  have := hR.2.2.2.2.2 i hi
  omega
set_option maxHeartbeats 16000000 in
set_option maxRecDepth 100000 in
theorem law {w0 : World} {B : Nat} {M : List Ent} (W H : Int) {a : Option Addr} {n cap : Nat} {f : Nat → Int} (hN : n ≤ 2000 → ∀ E, Nums w0 B E a n f) (hn9 : n ≤ 9223372036854775807) (sm : Bool) :
    Fn Try.prog w0 B 6 [picV W H a n cap, .bool sm] M (fun u _ => u = .bool true) := by
  refine fn_intro Try.func6 rfl (by kernel_rfl) rfl ?_
  unfold picV
  have hpl : ∀ E, Fn Try.prog w0 B 17 [.agg [.int .i64 W, .int .i64 H, .slice a n cap].toArray] E (fun r M' => r = .agg [.int .i64 W, .int .i64 H, .slice a n cap].toArray ∧ M' = E) := fun E => plain_fn W H a n cap
  by_cases h1 : 400 < n
  · repeat (first | refine go_ ?_ | refine bx_ (fun _ => ?_) | refine hl_callv rfl rfl (anchor_fn) ?_)
    exact fin1B rfl rfl rfl
  replace hN := hN (by omega)
  repeat (first | refine go_ ?_ | refine bx_ (fun _ => ?_) | refine hl_callv rfl rfl (anchor_fn) ?_ | refine hl_callv rfl rfl (hpl _) ?_)
  refine hl_call rfl rfl (rpright_fn W H (hN _)) (fun r M' hr => ?_)
  obtain ⟨⟨rfl, hR⟩ | ⟨rfl, hR⟩, rfl⟩ := hr
  rotate_left
  · repeat (first | refine go_ ?_ | refine bx_ (fun _ => ?_))
    exact fin1B rfl rfl rfl
  by_cases h6 : 40 < W
  · repeat (first | refine go_ ?_ | refine bx_ (fun _ => ?_))
    exact fin1B rfl rfl rfl
  by_cases h7 : 40 < H
  · repeat (first | refine go_ ?_ | refine bx_ (fun _ => ?_))
    exact fin1B rfl rfl rfl
  obtain ⟨r1, r2, r3, r4, r5, r6⟩ := id hR
  by_cases hn0 : n = 0
  · subst hn0
    have q0 : ∀ (E : List Ent) (W H : Int) (f : Nat → Int) (a : Option Addr) (cap : Nat), PicR W H 0 f → W ≤ 40 → H ≤ 40 → Fn Try.prog w0 B 15 [.agg [.int .i64 W, .int .i64 H, .slice a 0 cap].toArray, .agg [.int .i64 0, .int .i64 (-65536), .int .i64 65536, .int .i64 0, .int .i64 (65536 * H), .int .i64 0].toArray, .int .i64 H, .int .i64 W, .bool sm] E (fun u M' => (∃ a c, u = .tuple #[.agg [.int .i64 H, .int .i64 W, .slice a 0 c].toArray, .int .i64 0]) ∧ M' = E) := fun E W H f a cap hR hw hh => quarter0_fn nums_zero hR hw hh sm
    have hR' : PicR H W 0 f := ⟨r3, r4, r1, r2, by rw [Int.mul_comm]; exact r5, r6⟩
    repeat (first | refine go_ ?_ | refine bx_ (fun _ => ?_))
    refine hc_rounds 5 ?_
    repeat (first | refine go_ ?_ | refine bx_ (fun _ => ?_))
    refine hl_call rfl rfl (q0 _ _ _ _ _ _ hR (by omega) (by omega)) (fun r M' hr => ?_)
    obtain ⟨⟨a1, c1, rfl⟩, rfl⟩ := hr
    repeat (first | refine go_ ?_ | refine bx_ (fun _ => ?_))
    refine hl_call rfl rfl (q0 _ _ _ _ _ _ hR' (by omega) (by omega)) (fun r M' hr => ?_)
    obtain ⟨⟨a2, c2, rfl⟩, rfl⟩ := hr
    repeat (first | refine go_ ?_ | refine bx_ (fun _ => ?_))
    refine hl_call rfl rfl (q0 _ _ _ _ _ _ hR (by omega) (by omega)) (fun r M' hr => ?_)
    obtain ⟨⟨a3, c3, rfl⟩, rfl⟩ := hr
    repeat (first | refine go_ ?_ | refine bx_ (fun _ => ?_))
    refine hl_call rfl rfl (q0 _ _ _ _ _ _ hR' (by omega) (by omega)) (fun r M' hr => ?_)
    obtain ⟨⟨a4, c4, rfl⟩, rfl⟩ := hr
    repeat (first | refine go_ ?_ | refine bx_ (fun _ => ?_) | refine hl_callv rfl rfl (same_fn (f := fun _ => 0) (g := fun _ => 0) nums_zero nums_zero (fun i hi => absurd hi (by omega))) ?_)
    exact fin1B rfl rfl rfl
  have hR1 := turn_pic (hN M) hR
  have hR2 : PicR W H n (turnF H W (turnF W H f)) := by
    refine ⟨r1, r2, r3, r4, r5, fun i hi => ?_⟩
    rw [twice hR i hi]; exact r6 _ (by omega)
  have hR3 : PicR H W n (turnF W H (turnF H W (turnF W H f))) := by
    refine ⟨r3, r4, r1, r2, by rw [Int.mul_comm]; exact r5, fun i hi => ?_⟩
    rw [twice hR1 i hi]; exact hR1.2.2.2.2.2 _ (by omega)
  have hR4 : ∀ i, i < n → turnF H W (turnF W H (turnF H W (turnF W H f))) i = f i := fun i hi => twice2 hR hR2 i hi
  have hbd := (hN M).bd
  have hq : ∀ (E : List Ent) (W H : Int) (f : Nat → Int) (a : Option Addr) (cap : Nat), Nums w0 B E a n f → PicR W H n f → W ≤ 40 → H ≤ 40 → Fn Try.prog w0 B 15 [.agg [.int .i64 W, .int .i64 H, .slice a n cap].toArray, .agg [.int .i64 0, .int .i64 (-65536), .int .i64 65536, .int .i64 0, .int .i64 (65536 * H), .int .i64 0].toArray, .int .i64 H, .int .i64 W, .bool sm] E
      (fun u M' => ∃ g c, u = .tuple #[.agg [.int .i64 H, .int .i64 W, .slice (some ⟨g, 0, none⟩) n c].toArray, .int .i64 0] ∧ M' = ⟨g, 3, tab n (turnF W H f), c * 1⟩ :: E) := fun E W H f a cap hN hR hw hh => quarter_fn hN hR hw hh (by omega) sm
  repeat (first | refine go_ ?_ | refine bx_ (fun _ => ?_))
  refine hc_rounds 5 ?_
  repeat (first | refine go_ ?_ | refine bx_ (fun _ => ?_))
  refine hl_call rfl rfl (hq _ _ _ _ _ _ (hN _) hR (by omega) (by omega)) (fun r M' hr => ?_)
  obtain ⟨g1, c1, rfl, rfl⟩ := hr
  generalize turnF W H f = f1 at *
  repeat (first | refine go_ ?_ | refine bx_ (fun _ => ?_))
  refine hl_call rfl rfl (hq _ _ _ _ _ _ (nums_own (by first | exact .here | exact (.there .here) | exact (.there (.there .here)) | exact (.there (.there (.there .here))) | exact (.there (.there (.there (.there .here)))) | exact (.there (.there (.there (.there (.there .here))))) | exact (.there (.there (.there (.there (.there (.there .here)))))) | exact (.there (.there (.there (.there (.there (.there (.there .here))))))) | exact (.there (.there (.there (.there (.there (.there (.there (.there .here))))))))) (pic_big hR1) (by omega)) hR1 (by omega) (by omega)) (fun r M' hr => ?_)
  obtain ⟨g2, c2, rfl, rfl⟩ := hr
  generalize turnF H W f1 = f2 at *
  repeat (first | refine go_ ?_ | refine bx_ (fun _ => ?_))
  refine hl_call rfl rfl (hq _ _ _ _ _ _ (nums_own (by first | exact .here | exact (.there .here) | exact (.there (.there .here)) | exact (.there (.there (.there .here))) | exact (.there (.there (.there (.there .here)))) | exact (.there (.there (.there (.there (.there .here))))) | exact (.there (.there (.there (.there (.there (.there .here)))))) | exact (.there (.there (.there (.there (.there (.there (.there .here))))))) | exact (.there (.there (.there (.there (.there (.there (.there (.there .here))))))))) (pic_big hR2) (by omega)) hR2 (by omega) (by omega)) (fun r M' hr => ?_)
  obtain ⟨g3, c3, rfl, rfl⟩ := hr
  generalize turnF W H f2 = f3 at *
  repeat (first | refine go_ ?_ | refine bx_ (fun _ => ?_))
  refine hl_call rfl rfl (hq _ _ _ _ _ _ (nums_own (by first | exact .here | exact (.there .here) | exact (.there (.there .here)) | exact (.there (.there (.there .here))) | exact (.there (.there (.there (.there .here)))) | exact (.there (.there (.there (.there (.there .here))))) | exact (.there (.there (.there (.there (.there (.there .here)))))) | exact (.there (.there (.there (.there (.there (.there (.there .here))))))) | exact (.there (.there (.there (.there (.there (.there (.there (.there .here))))))))) (pic_big hR3) (by omega)) hR3 (by omega) (by omega)) (fun r M' hr => ?_)
  obtain ⟨g4, c4, rfl, rfl⟩ := hr
  generalize turnF H W f3 = f4 at *
  repeat (first | refine go_ ?_ | refine bx_ (fun _ => ?_) | refine hl_callv rfl rfl (same_fn (nums_own (by first | exact .here | exact (.there .here) | exact (.there (.there .here)) | exact (.there (.there (.there .here))) | exact (.there (.there (.there (.there .here)))) | exact (.there (.there (.there (.there (.there .here))))) | exact (.there (.there (.there (.there (.there (.there .here)))))) | exact (.there (.there (.there (.there (.there (.there (.there .here))))))) | exact (.there (.there (.there (.there (.there (.there (.there (.there .here))))))))) (fun i hi => by rw [hR4 i hi]; exact hbd i hi) (by omega)) (hN _) hR4) ?_)
  exact fin1B rfl rfl rfl
theorem walk (W H : Int) (a : Option Addr) (len cap : Nat) (l : List Int) (sm : Bool) (wd : World) (_ : -9223372036854775808 ≤ W ∧ W ≤ 9223372036854775807) (_ : -9223372036854775808 ≤ H ∧ H ≤ 9223372036854775807) (hl : Sl intV wd a len cap l) (hx : ∀ x ∈ l, -9223372036854775808 ≤ x ∧ x ≤ 9223372036854775807) :
    Calls Try.prog 6 #[picV W H a len cap, .bool sm] wd fun e w' => e = .returned (.bool true) ∧ Below wd.heap.size wd w' := by
  have h1 := hl.small
  have h2 := hl.le
  exact calls_of_fn (law W H (fun hn E => nums_par (Nat.le_refl _) hl hx (by omega)) (by omega) sm) fun _ _ h => h

/-! The step to the statement (written by program). -/
open Go.ChangeShapes Go.WideShapes Go.ChangeAt
set_option maxRecDepth 100000 in
theorem lifted (os : Os) (started : os.Started) (H : Type) (enc : TypeId × Value → H) :
    ReturnsInHanded {} Try.checked os 6 .any (Rows.affineQuartersSpec.pre6 enc Try.prog Try.f6 Rows.affineQuartersRow.domain false) (Rows.affineQuartersSpec.post enc Try.prog Try.f6 false true false false) := by
  refine returnsInHanded_of_change (C := Try.checked) own started (by kernel_rfl) Try.func6
    (ChangeSpec.witness6 (enc := enc) (C := Try.checked) false ⟨#[], #[.agg #[.int .i64 0, .int .i64 0, .slice none 0 0], .bool false], []⟩ 8 (by kernel_rfl) (by kernel_rfl) (by kernel_rfl) (by kernel_rfl)) ?_
  intro W base args ds gs before hval0 hW hcnd _
  have hval : ∀ (j : Nat) t v, Try.f6.params[j]? = some t → args[j]? = some v → Value.okWide Try.prog W .any base t v := hval0
  have hW' := hW
  obtain ⟨p, q, hA0, hV, rfl, hfz, hnd⟩ := hW
  have hA : DataW.TrodAll enc Try.prog W 0 (fun _ => true) true Try.f6.params.toList args.toList ds p := hA0
  rw [Try.params6] at hA hval
  obtain ⟨v0, vs0, d0, ds0, p0, q0, hargs, rfl, rfl, h0, r0⟩ := trodAll_cons hA
  obtain ⟨v1, vs1, d1, ds1, p1, q1, rfl, rfl, rfl, h1, r1⟩ := trodAll_cons r0
  obtain ⟨rfl, rfl, rfl⟩ := trodAll_nil r1
  obtain rfl : args = #[v0, v1] := by cases args; simp_all
  obtain ⟨rfl, rfl⟩ := trodVars_none hV
  have k0 := h0
  have lt0 : ∀ x ∈ p0, x.block < W.heap.size := by obtain ⟨m, hm⟩ := k0; exact DataW.trod_lt m _ _ _ hm
  obtain ⟨W0, H0, a0, len0, cap0, l0, rfl, x0, y0, w0, b0⟩ := open_pic (hval 0 34 v0 rfl rfl) k0
  have k1 := h1
  have lt1 : ∀ x ∈ p1, x.block < W.heap.size := by obtain ⟨m, hm⟩ := k1; exact DataW.trod_lt m _ _ _ hm
  obtain ⟨a1, rfl, _, _⟩ := open_bool Try.underlying4 (hval 1 4 v1 rfl rfl) h1
  clear hA0 hval0
  refine (walk W0 H0 a0 len0 cap0 l0 a1 W x0 y0 w0 b0).mono fun e W' ⟨he, bel⟩ => ?_
  subst he
  exact ⟨_, rfl, _, _, _, [], _, [], hW', trodAll_mk1 (shut_bool Try.underlying4 _), (trodAll_cons_mk (Below.trod laidOut (by kernel_rfl) (of_decide_eq_true (by kernel_rfl)) k0 bel lt0) (trodAll_cons_mk (Below.trod laidOut (by kernel_rfl) (of_decide_eq_true (by kernel_rfl)) k1 bel lt1) trodAll_mk0)), rfl, bel.frame _, fun h => by cases h⟩

theorem over : Rows.affineQuartersRow.holds Try.pinned (OpenSpec.ofChange Rows.affineQuartersSpec) :=
  OpenClaim.holds_of_wide 6 Try.f6 rfl rfl rfl rfl rfl rfl rfl ⟨rfl, rfl, rfl, rfl, rfl⟩ rfl rfl rfl rfl rfl (by kernel_rfl) Try.func6 (by kernel_rfl)
    (of_decide_eq_true (by kernel_rfl)) (by unfold Func.isWrapper; first | (rw [if_pos (by decide +kernel)]; kernel_rfl) | (rw [if_neg (by decide +kernel)]; exact ⟨rfl, rfl⟩))
    (fun os started H enc _ => lifted os started H enc)

/-- The statement. -/
theorem proved : Rows.AffineQuartersSaid := over
#print axioms proved
end Go.Proofs.Ytbgdligfdfhbkaa.affineQuarters
