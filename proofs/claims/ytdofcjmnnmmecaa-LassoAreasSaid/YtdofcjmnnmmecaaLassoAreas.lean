/-
  LassoAreas. No condition.
-/
import Derived.Test.YtdofcjmnnmmecaaKC
import Derived.Test.YtdofcjmnnmmecaaOpen
namespace Go.Proofs.Ytdofcjmnnmmecaa.lassoAreas
open Go.RowKit
set_option maxHeartbeats 8000000 in
set_option maxRecDepth 100000 in
theorem law {w0 : World} {B : Nat} {H : List Ent} (hB : w0.heap.size ≤ B) {a : Option Addr} {len cap : Nat} {l : List Pt} (hl : SlS 2 ptV w0 a len cap l) (at_ : Int) (r : Pt) (hat : -9223372036854775808 ≤ at_ ∧ at_ ≤ 9223372036854775807) :
    Fn Try.prog w0 B 5 [.slice a len cap, .int .i64 at_, .agg #[.int .i64 r.x, .int .i64 r.y]] H (fun u _ => u = .bool true) := by
  have e1 := hl.size_eq
  have e3 := hl.le
  have e4 := hl.small
  have R : ∀ E, PtR w0 B E a len l := fun E => ptR_of hB hl
  refine fn_intro Try.func5 rfl (by kernel_rfl) rfl ?_
  by_cases h1 : 1000 < len
  · repeat (first | refine go_ ?_ | refine bx_ (fun _ => ?_) | refine hl_callv rfl rfl (anchor_fn) ?_)
    exact fin1B rfl rfl rfl
  by_cases h2 : at_ < 0
  · repeat (first | refine go_ ?_ | refine bx_ (fun _ => ?_) | refine hl_callv rfl rfl (anchor_fn) ?_)
    exact fin1B rfl rfl rfl
  obtain ⟨A, rfl⟩ := Int.eq_ofNat_of_zero_le (show 0 ≤ at_ by omega)
  repeat (first | refine go_ ?_ | refine bx_ (fun _ => ?_) | refine hl_callv rfl rfl (anchor_fn) ?_)
  rename_i g5
  refine hl_call rfl rfl (plain_fn (R _) (by omega)) (fun v M o => ?_)
  obtain ⟨sa, sc, rfl, _, _⟩ := o.form
  have rM := ptR_own (w0 := w0) (B := B) o e1
  have AR := area_fn (cap := cap) (R M) (by omega)
  have S := shape_fn (cap := sc) rM (by omega)
  cases hs : okS l [] with
  | false =>
    rw [hs, if_neg (by simp), show errV false = 31 from rfl] at AR
    rw [hs] at S
    repeat (first | refine go_ ?_ | refine bx_ (fun _ => ?_) | refine hl_callv rfl rfl (AR) ?_ | refine hl_callv rfl rfl (S) ?_)
    exact fin1B rfl rfl rfl
  | true =>
  have hs' := hs
  rw [hs, if_pos rfl, show errV true = 0 from rfl] at AR
  rw [hs] at S
  obtain ⟨hr, _, h3, h256⟩ := okS_right hs
  obtain ⟨bb, off, rfl⟩ := (R H).pos (by omega)
  have hbd := areaI_bd hs
  obtain ⟨X, hX, o'⟩ := o.permE
  repeat (first | refine go_ ?_ | refine bx_ (fun _ => ?_) | refine hl_callv rfl rfl (AR) ?_ | refine hl_callv rfl rfl (S) ?_ | refine hl_callv rfl rfl (rarea_fn rM hs) ?_)
  refine HC.perm ?_ hX
  refine HC.imp ?_ (Imp.tail X _)
  clear o o' hX X rM AR S
  obtain ⟨f1, hf1⟩ : ∃ f1 : Nat → Pt, f1 = fun i => nth l (len - 1 - i) := ⟨_, rfl⟩
  obtain ⟨f2, hf2⟩ : ∃ f2 : Nat → Pt, f2 = fun i => nth l ((A + i) % len) := ⟨_, rfl⟩
  refine hc_loopd (fun q fr M => ∃ k v1 v2 X1 X2, k + q = len ∧ Agr fr [(0, .slice (some ⟨bb, off, none⟩) len cap), (1, .int .i64 (A : Int)), (5, .pointer (some ⟨g5, 0, none⟩)), (8, .int .i64 (areaI l)), (10, .int .i64 (len : Int)), (11, v1), (12, v2), (57, .slice (some ⟨bb, off, none⟩) len cap), (58, .int .i64 (len : Int)), (59, .int .i64 (k : Int))]
    ∧ M = X1 ++ (X2 ++ (⟨g5, 34, [.int .i64 r.x, .int .i64 r.y], 2⟩ :: H)) ∧ (∀ F, Own 34 2 v1 k ((mkL f1 k).flatMap ptV) F (X1 ++ F)) ∧ (∀ F, Own 34 2 v2 k ((mkL f2 k).flatMap ptV) F (X2 ++ F))) len ?_ ?_
  · exact ⟨0, .slice none 0 0, .slice none 0 0, [], [], by omega, ⟨rfl, rfl, rfl, rfl, rfl, rfl, rfl, rfl, rfl, rfl, trivial⟩, rfl, fun F => Own.nil, fun F => Own.nil⟩
  rintro q fr M ⟨k, v1, v2, X1, X2, hk, hf, rfl, o1, o2⟩
  obtain ⟨base, rfl⟩ := hf.out
  obtain ⟨a1, c1, rfl, _, _⟩ := (o1 []).form
  obtain ⟨a2, c2, rfl, _, _⟩ := (o2 []).form
  by_cases hlt : k < len
  · have p1 := (R H).at' (k := len - 1 - k) (by omega)
    have hml : (A + k) % len < len := Nat.mod_lt _ (by omega)
    have p2 := (R H).at' (k := (A + k) % len) hml
    have m1 := mkL_succ f1 k
    have m2 := mkL_succ f2 k
    rw [show f1 k = nth l (len - 1 - k) by rw [hf1]] at m1
    rw [show f2 k = nth l ((A + k) % len) by rw [hf2]] at m2
    have hix : (len : Int) - 1 - (k : Int) = ((len - 1 - k : Nat) : Int) := by omega
    have hiy : ((A : Int) % (len : Int) + (k : Int)) % (len : Int) = (((A + k) % len : Nat) : Int) := by rw [Int.emod_add_emod]; rfl
    repeat (first | rw [hix] | refine go1_ ?_ | refine bx_ (fun _ => ?_))
    refine hl_loadRN rfl (R _).rd (Imp.refl _) p1 rfl rfl ?_
    repeat (first | refine go_ ?_ | refine bx_ (fun _ => ?_))
    refine hl_append_own rfl rfl ((o1 (X2 ++ _)).under _) (Rds.ent (n := 2) .here rfl (by simp [Value.oneCell'])) rfl rfl (by decide) (by omega) (by omega) rfl (fun v1' M1 o1' => ?_)
    obtain ⟨Y1, hY1, oY1⟩ := o1'.permE
    obtain ⟨b1, d1, rfl, _, _⟩ := o1'.form
    refine HL.perm ?_ (hY1.trans List.perm_middle)
    refine HL.drop ?_
    have hm0 : 0 ≤ (A : Int) % (len : Int) ∧ (A : Int) % (len : Int) < (len : Int) := ⟨Int.emod_nonneg _ (by omega), Int.emod_lt_of_pos _ (by omega)⟩
    repeat (first | rw [hiy] | refine go1_ ?_ | refine bx_ (fun _ => ?_))
    refine hl_loadRN rfl (R _).rd (Imp.refl _) p2 rfl rfl ?_
    repeat (first | refine go_ ?_ | refine bx_ (fun _ => ?_))
    refine hl_append_own rfl rfl (((o2 (Y1 ++ _)).perm (app_swap _ _ _)).under _) (Rds.ent (n := 2) .here rfl (by simp [Value.oneCell'])) rfl rfl (by decide) (by omega) (by omega) rfl (fun v2' M2 o2' => ?_)
    obtain ⟨Y2, hY2, oY2⟩ := o2'.permE
    obtain ⟨b2, d2, rfl, _, _⟩ := o2'.form
    refine HL.perm ?_ ((hY2.trans List.perm_middle).trans (List.Perm.cons _ (app_swap _ _ _)))
    refine HL.drop ?_
    repeat (first | refine go_ ?_ | refine bx_ (fun _ => ?_))
    exact ⟨q - 1, by omega, _, Imp.refl _, k + 1, _, _, Y1, Y2, by omega, ⟨rfl, rfl, rfl, rfl, rfl, rfl, rfl, rfl, rfl, rfl, trivial⟩, rfl, fun F => by rw [m1]; exact oY1 F, fun F => by rw [m2]; exact oY2 F⟩
  · obtain rfl : k = len := by omega
    have hP : (X1 ++ (X2 ++ (⟨g5, 34, [.int .i64 r.x, .int .i64 r.y], 2⟩ :: H))).Perm (⟨g5, 34, [.int .i64 r.x, .int .i64 r.y], 2⟩ :: (X1 ++ (X2 ++ H))) := (List.Perm.append_left X1 List.perm_middle).trans List.perm_middle
    have P1 := (ptR_own (w0 := w0) (B := B) (o1 (X2 ++ (⟨g5, 34, [.int .i64 r.x, .int .i64 r.y], 2⟩ :: H))) (mkL_len _ _)).perm hP.symm
    have P2 := (ptR_own (w0 := w0) (B := B) ((o2 (X1 ++ (⟨g5, 34, [.int .i64 r.x, .int .i64 r.y], 2⟩ :: H))).perm (app_swap _ _ _)) (mkL_len _ _)).perm hP.symm
    refine HC.perm ?_ hP
    have A1 := area_fn (cap := c1) P1 (by omega)
    have A2 := area_fn (cap := c2) P2 (by omega)
    rw [mkL_ok (fun i hi => by rw [hf1]; exact hr _ (nth_mem (by omega))) (by omega) (by omega), if_pos rfl, show errV true = 0 from rfl, area_rev (l := l) (by rw [mkL_len, e1]) (fun i hi => by rw [mkL_nth (by omega), hf1, e1])] at A1
    rw [mkL_ok (fun i hi => by rw [hf2]; exact hr _ (nth_mem (by rw [e1]; exact Nat.mod_lt _ (by omega)))) (by omega) (by omega), if_pos rfl, show errV true = 0 from rfl, area_rot (l := l) (k := A) (by rw [mkL_len, e1]) (fun i hi => by rw [mkL_nth (by omega), hf2, e1])] at A2
    repeat (first | refine go_ ?_ | refine bx_ (fun _ => ?_) | refine hl_callv rfl rfl (A1) ?_ | refine hl_callv rfl rfl (A2) ?_)
    refine hl_call rfl rfl (turn_fn ⟨1, 0⟩ r (R _) (by omega)) (fun v M3 h => ?_)
    obtain ⟨sv, rfl, o3⟩ := h
    obtain ⟨s3, c3, rfl, _, _⟩ := o3.form
    have A3 := area_fn (cap := c3) (ptR_own (w0 := w0) (B := B) o3 rfl) (by have := resT_len l ⟨1, 0⟩ r; omega)
    cases hT : okT l ⟨1, 0⟩ r with
    | false =>
      rw [show resT l ⟨1, 0⟩ r = [] by rw [resT, hT]; rfl] at A3 ⊢
      rw [show errV false = 31 from rfl]
      rw [show okS [] [] = false from rfl, show errV false = 31 from rfl, if_neg (by simp)] at A3
      repeat (first | refine go_ ?_ | refine bx_ (fun _ => ?_) | refine hl_callv rfl rfl (A3) ?_)
      exact fin1B rfl rfl (by simp)
    | true =>
      rw [show resT l ⟨1, 0⟩ r = turnL l ⟨1, 0⟩ r by rw [resT, hT]; rfl] at A3 ⊢
      rw [show errV true = 0 from rfl]
      rw [(okT_iff hT).2.1, show errV true = 0 from rfl, if_pos rfl, area_turn, show ((1 : Int) * 1 + 0 * 0) * areaI l = areaI l by omega] at A3
      repeat (first | refine go_ ?_ | refine bx_ (fun _ => ?_) | refine hl_callv rfl rfl (A3) ?_)
      exact fin1B rfl rfl (by simp)
theorem walk (a : Option Addr) (len cap : Nat) (l : List Pt) (x : Int) (r : Pt) (w : World) (hl : SlS 2 ptV w a len cap l) (_ : ∀ x ∈ l, x.wf) (hx : -9223372036854775808 ≤ x ∧ x ≤ 9223372036854775807) (_ : r.wf) :
    Calls Try.prog 5 #[.slice a len cap, .int .i64 x, .agg #[.int .i64 r.x, .int .i64 r.y]] w fun e w' => e = .returned (.bool true) ∧ Below w.heap.size w w' :=
  calls_of_fn (law (Nat.le_refl _) hl x r hx) fun _ _ h => h

/-! The step to the statement (written by program). -/
open Go.ChangeShapes Go.WideShapes Go.ChangeAt
set_option maxRecDepth 100000 in
theorem lifted (os : Os) (started : os.Started) (H : Type) (enc : TypeId × Value → H) :
    ReturnsInHanded {} Try.checked os 5 .any (Rows.lassoAreasSpec.pre6 enc Try.prog Try.f5 Rows.lassoAreasRow.domain false) (Rows.lassoAreasSpec.post enc Try.prog Try.f5 false true false false) := by
  refine returnsInHanded_of_change (C := Try.checked) own started (by kernel_rfl) Try.func5
    (ChangeSpec.witness6 (enc := enc) (C := Try.checked) false ⟨#[], #[.slice none 0 0, .int .i64 0, .agg #[.int .i64 0, .int .i64 0]], []⟩ 8 (by kernel_rfl) (by kernel_rfl) (by kernel_rfl) (by kernel_rfl)) ?_
  intro W base args ds gs before hval0 hW hcnd _
  have hval : ∀ (j : Nat) t v, Try.f5.params[j]? = some t → args[j]? = some v → Value.okWide Try.prog W .any base t v := hval0
  have hW' := hW
  obtain ⟨p, q, hA0, hV, rfl, hfz, hnd⟩ := hW
  have hA : DataW.TrodAll enc Try.prog W 0 (fun _ => true) true Try.f5.params.toList args.toList ds p := hA0
  rw [Try.params5] at hA hval
  obtain ⟨v0, vs0, d0, ds0, p0, q0, hargs, rfl, rfl, h0, r0⟩ := trodAll_cons hA
  obtain ⟨v1, vs1, d1, ds1, p1, q1, rfl, rfl, rfl, h1, r1⟩ := trodAll_cons r0
  obtain ⟨v2, vs2, d2, ds2, p2, q2, rfl, rfl, rfl, h2, r2⟩ := trodAll_cons r1
  obtain ⟨rfl, rfl, rfl⟩ := trodAll_nil r2
  obtain rfl : args = #[v0, v1, v2] := by cases args; simp_all
  obtain ⟨rfl, rfl⟩ := trodVars_none hV
  have k0 := h0
  have lt0 : ∀ x ∈ p0, x.block < W.heap.size := by obtain ⟨m, hm⟩ := k0; exact DataW.trod_lt m _ _ _ hm
  obtain ⟨a0, len0, cap0, e0⟩ := okWide_slice Try.underlying22 (hval 0 22 v0 rfl rfl)
  obtain ⟨l0, w0, b0⟩ := open_pts e0 k0
  subst e0
  have k1 := h1
  have lt1 : ∀ x ∈ p1, x.block < W.heap.size := by obtain ⟨m, hm⟩ := k1; exact DataW.trod_lt m _ _ _ hm
  obtain ⟨a1, rfl, _, _, w1⟩ := open_int Try.underlying3 (hval 1 3 v1 rfl rfl) h1
  have w1 := wf_i64 w1
  have k2 := h2
  have lt2 : ∀ x ∈ p2, x.block < W.heap.size := by obtain ⟨m, hm⟩ := k2; exact DataW.trod_lt m _ _ _ hm
  obtain ⟨a2, rfl, w2⟩ := open_pt (hval 2 34 v2 rfl rfl) k2
  clear hA0 hval0
  refine (walk a0 len0 cap0 l0 a1 a2 W w0 b0 w1 w2).mono fun e W' ⟨he, bel⟩ => ?_
  subst he
  exact ⟨_, rfl, _, _, _, [], _, [], hW', trodAll_mk1 (shut_bool Try.underlying4 _), (trodAll_cons_mk (Below.trod laidOut (by kernel_rfl) (of_decide_eq_true (by kernel_rfl)) k0 bel lt0) (trodAll_cons_mk (Below.trod laidOut (by kernel_rfl) (of_decide_eq_true (by kernel_rfl)) k1 bel lt1) (trodAll_cons_mk (Below.trod laidOut (by kernel_rfl) (of_decide_eq_true (by kernel_rfl)) k2 bel lt2) trodAll_mk0))), rfl, bel.frame _, fun h => by cases h⟩

theorem over : Rows.lassoAreasRow.holds Try.pinned (OpenSpec.ofChange Rows.lassoAreasSpec) :=
  OpenClaim.holds_of_wide 5 Try.f5 rfl rfl rfl rfl rfl rfl rfl ⟨rfl, rfl, rfl, rfl, rfl⟩ rfl rfl rfl rfl rfl (by kernel_rfl) Try.func5 (by kernel_rfl)
    (of_decide_eq_true (by kernel_rfl)) (by unfold Func.isWrapper; first | (rw [if_pos (by decide +kernel)]; kernel_rfl) | (rw [if_neg (by decide +kernel)]; exact ⟨rfl, rfl⟩))
    (fun os started H enc _ => lifted os started H enc)

/-- The statement. -/
theorem proved : Rows.LassoAreasSaid := over
#print axioms proved
end Go.Proofs.Ytdofcjmnnmmecaa.lassoAreas
