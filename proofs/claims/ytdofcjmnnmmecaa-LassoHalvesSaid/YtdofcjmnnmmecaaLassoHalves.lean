/-
  LassoHalves (not yet whole). No condition.
-/
import Derived.Test.YtdofcjmnnmmecaaKD
import Derived.Test.YtdofcjmnnmmecaaOpen
namespace Go.Proofs.Ytdofcjmnnmmecaa.lassoHalves
open Go.RowKit
set_option maxHeartbeats 8000000 in
set_option maxRecDepth 100000 in
theorem law {w0 : World} {B : Nat} {H : List Ent} (hB : w0.heap.size ≤ B) {a : Option Addr} {len cap : Nat} {l : List Pt} (hl : SlS 2 ptV w0 a len cap l) (kz x y : Int) (hkz : -9223372036854775808 ≤ kz ∧ kz ≤ 9223372036854775807) :
    Fn Try.prog w0 B 6 [.slice a len cap, .int .i64 kz, .int .i64 x, .int .i64 y] H (fun u _ => u = .bool true) := by
  have e1 := hl.size_eq
  have e3 := hl.le
  have e4 := hl.small
  have R : ∀ E, PtR w0 B E a len l := fun E => ptR_of hB hl
  refine fn_intro Try.func6 rfl (by kernel_rfl) rfl ?_
  by_cases h1 : len < 4
  · repeat (first | refine go_ ?_ | refine bx_ (fun _ => ?_) | refine hl_callv rfl rfl (anchor_fn) ?_)
    exact fin1B rfl rfl rfl
  by_cases h2 : 256 < len
  · repeat (first | refine go_ ?_ | refine bx_ (fun _ => ?_) | refine hl_callv rfl rfl (anchor_fn) ?_)
    exact fin1B rfl rfl rfl
  by_cases h3 : kz < 2
  · repeat (first | refine go_ ?_ | refine bx_ (fun _ => ?_) | refine hl_callv rfl rfl (anchor_fn) ?_)
    exact fin1B rfl rfl rfl
  by_cases h4 : (len : Int) - 2 < kz
  · repeat (first | refine go_ ?_ | refine bx_ (fun _ => ?_) | refine hl_callv rfl rfl (anchor_fn) ?_)
    exact fin1B rfl rfl rfl
  obtain ⟨k, rfl⟩ := Int.eq_ofNat_of_zero_le (show 0 ≤ kz by omega)
  obtain ⟨bb, off, rfl⟩ := (R H).pos (by omega)
  have W := lwithin_fn (cap := cap) (x := x) (y := y) (R H) (by omega)
  cases hs : okS l [⟨x, y⟩] with
  | false =>
    rw [hs, Bool.false_and, show errV false = 31 from rfl] at W
    repeat (first | refine go_ ?_ | refine bx_ (fun _ => ?_) | refine hl_callv rfl rfl (anchor_fn) ?_ | refine hl_callv rfl rfl (W) ?_)
    exact fin1B rfl rfl rfl
  | true =>
  rw [hs, Bool.true_and, show errV true = 0 from rfl] at W
  obtain ⟨hr, hr2, _, _⟩ := okS_right hs
  have hxy := hr2 ⟨x, y⟩ (by simp)
  repeat (first | refine go_ ?_ | refine bx_ (fun _ => ?_) | refine hl_callv rfl rfl (anchor_fn) ?_ | refine hl_callv rfl rfl (W) ?_)
  refine hl_sliceTo (j := k + 1) rfl rfl (by omega) (by omega) rfl ?_
  refine hl_append_own (F := H) rfl rfl (Own.mk (n := 0) (cap := 0) (by omega) (by omega) rfl (List.Perm.refl _)) ((R _).rd.take ((k + 1) * 2)) (by rw [List.length_take, length_pts]; omega) rfl (by decide) (by omega) (by omega) rfl (fun v1 M1 o1 => ?_)
  rw [List.nil_append, take_flat, Nat.zero_add] at o1
  obtain ⟨a1, c1, rfl, _, _⟩ := o1.form
  have hA : (l.take (k + 1)).length = k + 1 := by rw [List.length_take]; omega
  have rA := ptR_own (w0 := w0) (B := B) o1 hA
  have okA : okS (l.take (k + 1)) [] = true := okS_yes (decide_eq_true (by omega)) (fun p hp => hr p (List.mem_of_mem_take hp)) (by simp)
  repeat (first | refine go_ ?_ | refine bx_ (fun _ => ?_) | refine hl_callv rfl rfl (lwithin_ok rA (by omega) okA hxy) ?_)
  have p0 := (R H).at' (k := 0) (by omega)
  have hC : (nth l 0 :: l.drop k).length = len - k + 1 := by rw [List.length_cons, List.length_drop, e1]
  have hfl : [Value.int .i64 (nth l 0).x, .int .i64 (nth l 0).y] ++ (l.flatMap ptV).drop (k * 2) = (nth l 0 :: l.drop k).flatMap ptV := by rw [drop_flat]; rfl
  have okC : okS (nth l 0 :: l.drop k) [] = true := okS_yes (decide_eq_true (by omega)) (fun p hp => by
    rcases List.mem_cons.1 hp with rfl | hp
    · exact hr _ (nth_mem (by omega))
    · exact hr p (List.mem_of_mem_drop hp)) (by simp)
  refine hc_meet (fun fr M => Agr fr [(9, .bool (inW l x y)), (11, .bool (inW (l.take (k + 1)) x y)), (12, .int .i64 0), (13, .bool (inW (nth l 0 :: l.drop k) x y)), (14, .int .i64 0)]) ?_ ?_
  · refine hc_drawA M1 (by kernel_rfl) ?_
    refine ha_quiet [0, 1, 2, 4, 5, 6, 8, 9] (by rfl) (by kernel_rfl) ?_
    repeat (first | refine gd_ ?_ | refine hl_loadRN (off := off) (j := 0 * 2) rfl (R _).rd (Imp.refl _) p0 rfl rfl ?_ | refine hl_sliceE (i := k) rfl rfl (by omega) (by omega) (by omega) rfl ?_)
    refine ha_fork1 3 (by rfl) (by kernel_rfl) (by rfl) (by first | exact Imp.refl _ | exact Imp.drop (Imp.refl _) | exact Imp.drop (Imp.drop (Imp.refl _)) | exact Imp.drop (Imp.drop (Imp.drop (Imp.refl _))) | exact Imp.drop (Imp.drop (Imp.drop (Imp.drop (Imp.refl _)))) | exact Imp.drop (Imp.drop (Imp.drop (Imp.drop (Imp.drop (Imp.refl _))))) | exact Imp.drop (Imp.drop (Imp.drop (Imp.drop (Imp.drop (Imp.drop (Imp.refl _)))))) | exact Imp.drop (Imp.drop (Imp.drop (Imp.drop (Imp.drop (Imp.drop (Imp.drop (Imp.refl _))))))) | exact Imp.drop (Imp.drop (Imp.drop (Imp.drop (Imp.drop (Imp.drop (Imp.drop (Imp.drop (Imp.refl _)))))))) | assumption | exact Imp.drop2 (Imp.refl _) | exact Imp.drop2 (Imp.drop2 (Imp.refl _)) | exact Imp.drop (Imp.drop2 (Imp.refl _))) ?_
    · skip
      repeat (first | refine op_ ?_ | refine bx_ (fun _ => ?_))
      refine ha_fork1 7 (by rfl) (by kernel_rfl) (by rfl) (by first | exact Imp.refl _ | exact Imp.drop (Imp.refl _) | exact Imp.drop (Imp.drop (Imp.refl _)) | exact Imp.drop (Imp.drop (Imp.drop (Imp.refl _))) | exact Imp.drop (Imp.drop (Imp.drop (Imp.drop (Imp.refl _)))) | exact Imp.drop (Imp.drop (Imp.drop (Imp.drop (Imp.drop (Imp.refl _))))) | exact Imp.drop (Imp.drop (Imp.drop (Imp.drop (Imp.drop (Imp.drop (Imp.refl _)))))) | exact Imp.drop (Imp.drop (Imp.drop (Imp.drop (Imp.drop (Imp.drop (Imp.drop (Imp.refl _))))))) | exact Imp.drop (Imp.drop (Imp.drop (Imp.drop (Imp.drop (Imp.drop (Imp.drop (Imp.drop (Imp.refl _)))))))) | assumption | exact Imp.drop2 (Imp.refl _) | exact Imp.drop2 (Imp.drop2 (Imp.refl _)) | exact Imp.drop (Imp.drop2 (Imp.refl _))) ?_
      · skip
        refine hl_append_own (F := M1) rfl rfl (Own.mk (n := 1) (cap := 1) (by omega) (by omega) rfl (List.Perm.refl _)) ((R _).rd.drop' (k * 2)) (by rw [List.length_drop, length_pts, e1, Nat.sub_mul]) rfl (by decide) (by omega) (by omega) rfl (fun v2 M2 o2 => ?_)
        rw [hfl, show 1 + (len - k) = len - k + 1 by omega] at o2
        obtain ⟨a2, c2, rfl, _, _⟩ := o2.form
        have iM := o2.imp
        repeat (first | refine op_ ?_ | refine bx_ (fun _ => ?_))
        refine ha_fork1 10 (by rfl) (by kernel_rfl) (by rfl) (by first | exact Imp.refl _ | exact Imp.drop (Imp.refl _) | exact Imp.drop (Imp.drop (Imp.refl _)) | exact Imp.drop (Imp.drop (Imp.drop (Imp.refl _))) | exact Imp.drop (Imp.drop (Imp.drop (Imp.drop (Imp.refl _)))) | exact Imp.drop (Imp.drop (Imp.drop (Imp.drop (Imp.drop (Imp.refl _))))) | exact Imp.drop (Imp.drop (Imp.drop (Imp.drop (Imp.drop (Imp.drop (Imp.refl _)))))) | exact Imp.drop (Imp.drop (Imp.drop (Imp.drop (Imp.drop (Imp.drop (Imp.drop (Imp.refl _))))))) | exact Imp.drop (Imp.drop (Imp.drop (Imp.drop (Imp.drop (Imp.drop (Imp.drop (Imp.drop (Imp.refl _)))))))) | assumption | exact Imp.drop2 (Imp.refl _) | exact Imp.drop2 (Imp.drop2 (Imp.refl _)) | exact Imp.drop (Imp.drop2 (Imp.refl _))) ?_
        · skip
          refine hl_callv rfl rfl (lwithin_ok (ptR_own o2 hC) (by omega) okC hxy) ?_
          repeat (first | refine op_ ?_ | refine bx_ (fun _ => ?_))
          refine ha_quiet [11, 12, 13, 14, 15] (by rfl) (by kernel_rfl) ?_
          repeat (first | refine gd_ ?_ | refine hl_loadRN (off := off) (j := 0 * 2) rfl (R _).rd (Imp.refl _) p0 rfl rfl ?_ | refine hl_sliceE (i := k) rfl rfl (by omega) (by omega) (by omega) rfl ?_)
          refine ha_end (by rfl) (by kernel_rfl) (by first | exact Imp.refl _ | exact Imp.drop (Imp.refl _) | exact Imp.drop (Imp.drop (Imp.refl _)) | exact Imp.drop (Imp.drop (Imp.drop (Imp.refl _))) | exact Imp.drop (Imp.drop (Imp.drop (Imp.drop (Imp.refl _)))) | exact Imp.drop (Imp.drop (Imp.drop (Imp.drop (Imp.drop (Imp.refl _))))) | exact Imp.drop (Imp.drop (Imp.drop (Imp.drop (Imp.drop (Imp.drop (Imp.refl _)))))) | exact Imp.drop (Imp.drop (Imp.drop (Imp.drop (Imp.drop (Imp.drop (Imp.drop (Imp.refl _))))))) | exact Imp.drop (Imp.drop (Imp.drop (Imp.drop (Imp.drop (Imp.drop (Imp.drop (Imp.drop (Imp.refl _)))))))) | assumption | exact Imp.drop2 (Imp.refl _) | exact Imp.drop2 (Imp.drop2 (Imp.refl _)) | exact Imp.drop (Imp.drop2 (Imp.refl _))) ?_
          exact ⟨rfl, rfl, rfl, rfl, rfl, trivial⟩
  rintro fr M hf
  obtain ⟨base, rfl⟩ := hf.out
  clear hf
  have hsp := inW_split (l := l) (A := l.take (k + 1)) (C := nth l 0 :: l.drop k) (k := k) x y (by omega) (by omega) hA (fun i hi => by
      have hi1 : i < (l.take (k + 1)).length := by omega
      have hi2 : i < l.length := by omega
      rw [nth_eq hi1, nth_eq hi2, List.getElem_take]) (by rw [hC, e1]) rfl (fun i hi => by
      have hi1 : i + 1 < (nth l 0 :: l.drop k).length := by omega
      rw [nth_eq hi1, nth_eq hi, List.getElem_cons_succ, List.getElem_drop])
  cases b1 : inW (l.take (k + 1)) x y <;> cases b2 : inW (nth l 0 :: l.drop k) x y <;> rw [b1, b2] at hsp <;> rw [hsp]
  all_goals
    repeat (first | refine go_ ?_ | refine bx_ (fun _ => ?_))
    exact fin1B rfl rfl rfl
theorem walk (a : Option Addr) (len cap : Nat) (l : List Pt) (k x y : Int) (w : World) (hl : SlS 2 ptV w a len cap l) (_ : ∀ x ∈ l, x.wf) (hk : -9223372036854775808 ≤ k ∧ k ≤ 9223372036854775807) (_ : -9223372036854775808 ≤ x ∧ x ≤ 9223372036854775807) (_ : -9223372036854775808 ≤ y ∧ y ≤ 9223372036854775807) :
    Calls Try.prog 6 #[.slice a len cap, .int .i64 k, .int .i64 x, .int .i64 y] w fun e w' => e = .returned (.bool true) ∧ Below w.heap.size w w' :=
  calls_of_fn (law (Nat.le_refl _) hl k x y hk) fun _ _ h => h

/-! The step to the statement (written by program). -/
open Go.ChangeShapes Go.WideShapes Go.ChangeAt
set_option maxRecDepth 100000 in
theorem lifted (os : Os) (started : os.Started) (H : Type) (enc : TypeId × Value → H) :
    ReturnsInHanded {} Try.checked os 6 .any (Rows.lassoHalvesSpec.pre6 enc Try.prog Try.f6 Rows.lassoHalvesRow.domain false) (Rows.lassoHalvesSpec.post enc Try.prog Try.f6 false true false false) := by
  refine returnsInHanded_of_change (C := Try.checked) own started (by kernel_rfl) Try.func6
    (ChangeSpec.witness6 (enc := enc) (C := Try.checked) false ⟨#[], #[.slice none 0 0, .int .i64 0, .int .i64 0, .int .i64 0], []⟩ 8 (by kernel_rfl) (by kernel_rfl) (by kernel_rfl) (by kernel_rfl)) ?_
  intro W base args ds gs before hval0 hW hcnd _
  have hval : ∀ (j : Nat) t v, Try.f6.params[j]? = some t → args[j]? = some v → Value.okWide Try.prog W .any base t v := hval0
  have hW' := hW
  obtain ⟨p, q, hA0, hV, rfl, hfz, hnd⟩ := hW
  have hA : DataW.TrodAll enc Try.prog W 0 (fun _ => true) true Try.f6.params.toList args.toList ds p := hA0
  rw [Try.params6] at hA hval
  obtain ⟨v0, vs0, d0, ds0, p0, q0, hargs, rfl, rfl, h0, r0⟩ := trodAll_cons hA
  obtain ⟨v1, vs1, d1, ds1, p1, q1, rfl, rfl, rfl, h1, r1⟩ := trodAll_cons r0
  obtain ⟨v2, vs2, d2, ds2, p2, q2, rfl, rfl, rfl, h2, r2⟩ := trodAll_cons r1
  obtain ⟨v3, vs3, d3, ds3, p3, q3, rfl, rfl, rfl, h3, r3⟩ := trodAll_cons r2
  obtain ⟨rfl, rfl, rfl⟩ := trodAll_nil r3
  obtain rfl : args = #[v0, v1, v2, v3] := by cases args; simp_all
  obtain ⟨rfl, rfl⟩ := trodVars_none hV
  have k0 := h0
  have lt0 : ∀ x ∈ p0, x.block < W.heap.size := by obtain ⟨m, hm⟩ := k0; exact DataW.trod_lt m _ _ _ hm
  obtain ⟨a0, len0, cap0, e0⟩ := okWide_slice Try.underlying22 (hval 0 22 v0 rfl rfl)
  obtain ⟨l0, w0, b0⟩ := open_pts e0 k0
  subst e0
  have k1 := h1
  have lt1 : ∀ x ∈ p1, x.block < W.heap.size := by obtain ⟨m, hm⟩ := k1; exact DataW.trod_lt m _ _ _ hm
  obtain ⟨a1, rfl, _, _, w1⟩ := open_int Try.underlying3 (hval 1 3 v1 rfl rfl) h1
  have w1 := wf_i64 w1
  have k2 := h2
  have lt2 : ∀ x ∈ p2, x.block < W.heap.size := by obtain ⟨m, hm⟩ := k2; exact DataW.trod_lt m _ _ _ hm
  obtain ⟨a2, rfl, _, _, w2⟩ := open_int Try.underlying3 (hval 2 3 v2 rfl rfl) h2
  have w2 := wf_i64 w2
  have k3 := h3
  have lt3 : ∀ x ∈ p3, x.block < W.heap.size := by obtain ⟨m, hm⟩ := k3; exact DataW.trod_lt m _ _ _ hm
  obtain ⟨a3, rfl, _, _, w3⟩ := open_int Try.underlying3 (hval 3 3 v3 rfl rfl) h3
  have w3 := wf_i64 w3
  clear hA0 hval0
  refine (walk a0 len0 cap0 l0 a1 a2 a3 W w0 b0 w1 w2 w3).mono fun e W' ⟨he, bel⟩ => ?_
  subst he
  exact ⟨_, rfl, _, _, _, [], _, [], hW', trodAll_mk1 (shut_bool Try.underlying4 _), (trodAll_cons_mk (Below.trod laidOut (by kernel_rfl) (of_decide_eq_true (by kernel_rfl)) k0 bel lt0) (trodAll_cons_mk (Below.trod laidOut (by kernel_rfl) (of_decide_eq_true (by kernel_rfl)) k1 bel lt1) (trodAll_cons_mk (Below.trod laidOut (by kernel_rfl) (of_decide_eq_true (by kernel_rfl)) k2 bel lt2) (trodAll_cons_mk (Below.trod laidOut (by kernel_rfl) (of_decide_eq_true (by kernel_rfl)) k3 bel lt3) trodAll_mk0)))), rfl, bel.frame _, fun h => by cases h⟩

theorem over : Rows.lassoHalvesRow.holds Try.pinned (OpenSpec.ofChange Rows.lassoHalvesSpec) :=
  OpenClaim.holds_of_wide 6 Try.f6 rfl rfl rfl rfl rfl rfl rfl ⟨rfl, rfl, rfl, rfl, rfl⟩ rfl rfl rfl rfl rfl (by kernel_rfl) Try.func6 (by kernel_rfl)
    (of_decide_eq_true (by kernel_rfl)) (by unfold Func.isWrapper; first | (rw [if_pos (by decide +kernel)]; kernel_rfl) | (rw [if_neg (by decide +kernel)]; exact ⟨rfl, rfl⟩))
    (fun os started H enc _ => lifted os started H enc)

/-- The statement. -/
theorem proved : Rows.LassoHalvesSaid := over
#print axioms proved
end Go.Proofs.Ytdofcjmnnmmecaa.lassoHalves
