/-
  The statement AffineTimes holds, whatever the two maps.
-/
import Derived.Test.YtbgdligfdfhbkaaA8
import Derived.Test.YtbgdligfdfhbkaaOpenArr
namespace Go.Proofs.Ytbgdligfdfhbkaa.affineTimes
open Go.RowKit
def O6 : Nat → Int := L6 65536 0 0 65536 0 0
theorem near_mul (x : Int) : near16 (x * 65536) = x := by unfold near16; omega
theorem near_mul' (x : Int) : near16 (65536 * x) = x := by unfold near16; omega
theorem one_r (m : Nat → Int) (hm : Rt m) : ∀ k, k < 6 → timesZ m O6 k = m k := fun k hk => by
  match k, hk with
  | 0, _ => show near16 (m 0 * 65536 + m 1 * 0) = m 0; unfold near16; omega
  | 1, _ => show near16 (m 0 * 0 + m 1 * 65536) = m 1; unfold near16; omega
  | 2, _ => show near16 (m 2 * 65536 + m 3 * 0) = m 2; unfold near16; omega
  | 3, _ => show near16 (m 2 * 0 + m 3 * 65536) = m 3; unfold near16; omega
  | 4, _ => show near16 (m 0 * 0 + m 1 * 0) + m 4 = m 4; unfold near16; omega
  | 5, _ => show near16 (m 2 * 0 + m 3 * 0) + m 5 = m 5; unfold near16; omega
theorem one_l (m : Nat → Int) (hm : Rt m) : ∀ k, k < 6 → timesZ O6 m k = m k := fun k hk => by
  match k, hk with
  | 0, _ => show near16 (65536 * m 0 + 0 * m 2) = m 0; unfold near16; omega
  | 1, _ => show near16 (65536 * m 1 + 0 * m 3) = m 1; unfold near16; omega
  | 2, _ => show near16 (0 * m 0 + 65536 * m 2) = m 2; unfold near16; omega
  | 3, _ => show near16 (0 * m 1 + 65536 * m 3) = m 3; unfold near16; omega
  | 4, _ => show near16 (65536 * m 4 + 0 * m 5) + 0 = m 4; unfold near16; omega
  | 5, _ => show near16 (0 * m 4 + 65536 * m 5) + 0 = m 5; unfold near16; omega
theorem rt_congr {m n : Nat → Int} (h : ∀ k, k < 6 → n k = m k) (hm : Rt m) : Rt n := ⟨fun i hi => by rw [h i (by omega)]; exact hm.1 i hi, fun i hi h4 => by rw [h i hi]; exact hm.2 i hi h4⟩
theorem ro : Rt O6 := by decide
theorem so : Sm O6 := L6sm
theorem times_r (m : Nat → Int) (hm : Rt m) : timesR m O6 = (timesZ m O6, 0) := by
  unfold timesR
  rw [if_pos ⟨hm, ro⟩, if_pos (rt_congr (one_r m hm) hm)]
theorem times_l (m : Nat → Int) (hm : Rt m) : timesR O6 m = (timesZ O6 m, 0) := by
  unfold timesR
  rw [if_pos ⟨ro, hm⟩, if_pos (rt_congr (one_l m hm) hm)]
set_option maxHeartbeats 8000000 in
set_option maxRecDepth 100000 in
theorem law {w0 : World} {B : Nat} {H : List Ent} (m n : Nat → Int) (hm : Sm m) (hn : Sm n) : Fn Try.prog w0 B 8 [mapV m, mapV n] H (fun u _ => u = .bool true) := by
  have h1 : ∀ E, Fn Try.prog w0 B 24 [.agg (tab 6 m).toArray, .agg (tab 6 n).toArray] E (fun v H' => v = .tuple #[.agg (tab 6 (timesR m n).1).toArray, .int .i64 (timesR m n).2] ∧ H' = E) := fun E => times_fn m n hm hn
  have h2 : ∀ E, Fn Try.prog w0 B 25 [.agg (tab 6 m).toArray, .agg (tab 6 n).toArray] E (fun v H' => v = .tuple #[.agg (tab 6 (timesR m n).1).toArray, .int .i64 (timesR m n).2] ∧ H' = E) := fun E => rtimes_fn m n hm hn
  refine fn_intro Try.func8 rfl (by kernel_rfl) rfl ?_
  unfold mapV
  by_cases h3 : ¬ Rt m
  · repeat (first | refine go_ ?_ | refine bx_ (fun _ => ?_) | refine hl_callv rfl rfl (anchor_fn) ?_ | refine hl_callv rfl rfl (h1 _) ?_ | refine hl_callv rfl rfl (h2 _) ?_)
    refine hc_draw (by kernel_rfl) (by kernel_rfl) ?_
    repeat (first | refine gd_ ?_ | refine hd_call rfl rfl (rightN m hm h3) ?_ | refine hd_call rfl rfl (rrightN m hm h3) ?_ | refine hl_neTabF rfl rfl (fun _ _ => rfl) rfl ?_)
    repeat (first | refine go_ ?_ | refine bx_ (fun _ => ?_) | refine hl_callv rfl rfl (rightN m hm h3) ?_)
    exact fin1B rfl rfl rfl
  replace h3 := Classical.not_not.1 h3
  have h4 : ∀ E, Fn Try.prog w0 B 24 [.agg (tab 6 m).toArray, .agg (tab 6 O6).toArray] E (fun v H' => v = .tuple #[.agg (tab 6 m).toArray, .int .i64 0] ∧ H' = E) := fun E => by
    have := times_fn (w0 := w0) (B := B) (H := E) m O6 hm so
    rw [times_r m h3] at this
    unfold mapV at this
    rwa [show tab 6 (timesZ m O6) = tab 6 m from tab_congr (one_r m h3)] at this
  have h5 : ∀ E, Fn Try.prog w0 B 24 [.agg (tab 6 O6).toArray, .agg (tab 6 m).toArray] E (fun v H' => v = .tuple #[.agg (tab 6 m).toArray, .int .i64 0] ∧ H' = E) := fun E => by
    have := times_fn (w0 := w0) (B := B) (H := E) O6 m so hm
    rw [times_l m h3] at this
    unfold mapV at this
    rwa [show tab 6 (timesZ O6 m) = tab 6 m from tab_congr (one_l m h3)] at this
  have h6 : ∀ E, Fn Try.prog w0 B 23 [] E (fun v H' => v = .agg (tab 6 O6).toArray ∧ H' = E) := fun E => one_fn
  repeat (first | refine go_ ?_ | refine bx_ (fun _ => ?_) | refine hl_callv rfl rfl (anchor_fn) ?_ | refine hl_callv rfl rfl (h1 _) ?_ | refine hl_callv rfl rfl (h2 _) ?_)
  rename_i g2 g3 g5 g7
  refine hc_draw (by kernel_rfl) (by kernel_rfl) ?_
  repeat (first | refine gd_ ?_ | refine hd_call rfl rfl (rightY m hm h3) ?_ | refine hd_call rfl rfl (rrightY m hm h3) ?_ | refine hl_neTabF rfl rfl (fun _ _ => rfl) rfl ?_)
  repeat (first | refine go_ ?_ | refine bx_ (fun _ => ?_) | refine hl_callv rfl rfl (rightY m hm h3) ?_)
  refine HC.imp (H' := ⟨g3, 23, tab 6 n, 6⟩ :: ⟨g2, 23, tab 6 m, 6⟩ :: H) ?_ (by exact Imp.drop (Imp.drop (Imp.refl _)))
  refine hc_meet (fun fr M => ∃ g9, Agr fr [(2, .pointer (some ⟨g2, 0, none⟩)), (3, .pointer (some ⟨g3, 0, none⟩)), (9, .pointer (some ⟨g9, 0, none⟩)), (10, .int .i64 0)] ∧ M = ⟨g9, 23, tab 6 m, 6⟩ :: ⟨g3, 23, tab 6 n, 6⟩ :: ⟨g2, 23, tab 6 m, 6⟩ :: H) ?_ ?_
  · refine hc_drawA (⟨g3, 23, tab 6 n, 6⟩ :: ⟨g2, 23, tab 6 m, 6⟩ :: H) (by kernel_rfl) ?_
    refine ha_quiet [0, 1, 2, 3, 4, 5] (by rfl) (by kernel_rfl) ?_
    repeat (first | refine gd_ ?_ | refine hq_call rfl rfl (fun E _ => h6 E) ?_ | refine hq_call rfl rfl (fun E _ => h4 E) ?_)
    refine ha_fork1 6 (by rfl) (by kernel_rfl) (by rfl) (by first | exact Imp.refl _ | exact Imp.drop (Imp.refl _) | exact Imp.drop (Imp.drop (Imp.refl _)) | exact Imp.drop (Imp.drop (Imp.drop (Imp.refl _))) | exact Imp.drop (Imp.drop (Imp.drop (Imp.drop (Imp.refl _)))) | exact Imp.drop (Imp.drop (Imp.drop (Imp.drop (Imp.drop (Imp.refl _))))) | exact Imp.drop (Imp.drop (Imp.drop (Imp.drop (Imp.drop (Imp.drop (Imp.refl _)))))) | exact Imp.drop (Imp.drop (Imp.drop (Imp.drop (Imp.drop (Imp.drop (Imp.drop (Imp.refl _))))))) | exact Imp.drop (Imp.drop (Imp.drop (Imp.drop (Imp.drop (Imp.drop (Imp.drop (Imp.drop (Imp.refl _))))))))) ?_
    · skip
      repeat (first | refine op_ ?_ | refine bx_ (fun _ => ?_))
      refine ha_fork1 7 (by rfl) (by kernel_rfl) (by rfl) (by first | exact Imp.refl _ | exact Imp.drop (Imp.refl _) | exact Imp.drop (Imp.drop (Imp.refl _)) | exact Imp.drop (Imp.drop (Imp.drop (Imp.refl _))) | exact Imp.drop (Imp.drop (Imp.drop (Imp.drop (Imp.refl _)))) | exact Imp.drop (Imp.drop (Imp.drop (Imp.drop (Imp.drop (Imp.refl _))))) | exact Imp.drop (Imp.drop (Imp.drop (Imp.drop (Imp.drop (Imp.drop (Imp.refl _)))))) | exact Imp.drop (Imp.drop (Imp.drop (Imp.drop (Imp.drop (Imp.drop (Imp.drop (Imp.refl _))))))) | exact Imp.drop (Imp.drop (Imp.drop (Imp.drop (Imp.drop (Imp.drop (Imp.drop (Imp.drop (Imp.refl _))))))))) ?_
      · skip
        repeat (first | refine op_ ?_ | refine bx_ (fun _ => ?_))
        refine ha_quiet [8] (by rfl) (by kernel_rfl) ?_
        repeat (first | refine gd_ ?_ | refine hq_call rfl rfl (fun E _ => h6 E) ?_ | refine hq_call rfl rfl (fun E _ => h4 E) ?_)
        refine ha_end (by rfl) (by kernel_rfl) (by first | exact Imp.refl _ | exact Imp.drop (Imp.refl _) | exact Imp.drop (Imp.drop (Imp.refl _)) | exact Imp.drop (Imp.drop (Imp.drop (Imp.refl _))) | exact Imp.drop (Imp.drop (Imp.drop (Imp.drop (Imp.refl _)))) | exact Imp.drop (Imp.drop (Imp.drop (Imp.drop (Imp.drop (Imp.refl _))))) | exact Imp.drop (Imp.drop (Imp.drop (Imp.drop (Imp.drop (Imp.drop (Imp.refl _)))))) | exact Imp.drop (Imp.drop (Imp.drop (Imp.drop (Imp.drop (Imp.drop (Imp.drop (Imp.refl _))))))) | exact Imp.drop (Imp.drop (Imp.drop (Imp.drop (Imp.drop (Imp.drop (Imp.drop (Imp.drop (Imp.refl _))))))))) ?_
        exact ⟨_, ⟨rfl, rfl, rfl, rfl, trivial⟩, rfl⟩
  rintro fr M ⟨g9, hf, rfl⟩
  obtain ⟨base, rfl⟩ := hf.out
  clear hf
  repeat (first | refine go_ ?_ | refine bx_ (fun _ => ?_))
  refine hc_meet (fun fr M => ∃ g11, Agr fr [(2, .pointer (some ⟨g2, 0, none⟩)), (9, .pointer (some ⟨g9, 0, none⟩)), (10, .int .i64 0), (11, .pointer (some ⟨g11, 0, none⟩)), (12, .int .i64 0)] ∧ M = ⟨g11, 23, tab 6 m, 6⟩ :: ⟨g9, 23, tab 6 m, 6⟩ :: ⟨g3, 23, tab 6 n, 6⟩ :: ⟨g2, 23, tab 6 m, 6⟩ :: H) ?_ ?_
  · refine hc_drawA (⟨g9, 23, tab 6 m, 6⟩ :: ⟨g3, 23, tab 6 n, 6⟩ :: ⟨g2, 23, tab 6 m, 6⟩ :: H) (by kernel_rfl) ?_
    refine ha_quiet [0, 1, 2, 3, 4, 5] (by rfl) (by kernel_rfl) ?_
    repeat (first | refine gd_ ?_ | refine hq_call rfl rfl (fun E _ => h6 E) ?_ | refine hq_call rfl rfl (fun E _ => h5 E) ?_)
    refine ha_fork1 6 (by rfl) (by kernel_rfl) (by rfl) (by first | exact Imp.refl _ | exact Imp.drop (Imp.refl _) | exact Imp.drop (Imp.drop (Imp.refl _)) | exact Imp.drop (Imp.drop (Imp.drop (Imp.refl _))) | exact Imp.drop (Imp.drop (Imp.drop (Imp.drop (Imp.refl _)))) | exact Imp.drop (Imp.drop (Imp.drop (Imp.drop (Imp.drop (Imp.refl _))))) | exact Imp.drop (Imp.drop (Imp.drop (Imp.drop (Imp.drop (Imp.drop (Imp.refl _)))))) | exact Imp.drop (Imp.drop (Imp.drop (Imp.drop (Imp.drop (Imp.drop (Imp.drop (Imp.refl _))))))) | exact Imp.drop (Imp.drop (Imp.drop (Imp.drop (Imp.drop (Imp.drop (Imp.drop (Imp.drop (Imp.refl _))))))))) ?_
    · skip
      repeat (first | refine op_ ?_ | refine bx_ (fun _ => ?_))
      refine ha_fork1 7 (by rfl) (by kernel_rfl) (by rfl) (by first | exact Imp.refl _ | exact Imp.drop (Imp.refl _) | exact Imp.drop (Imp.drop (Imp.refl _)) | exact Imp.drop (Imp.drop (Imp.drop (Imp.refl _))) | exact Imp.drop (Imp.drop (Imp.drop (Imp.drop (Imp.refl _)))) | exact Imp.drop (Imp.drop (Imp.drop (Imp.drop (Imp.drop (Imp.refl _))))) | exact Imp.drop (Imp.drop (Imp.drop (Imp.drop (Imp.drop (Imp.drop (Imp.refl _)))))) | exact Imp.drop (Imp.drop (Imp.drop (Imp.drop (Imp.drop (Imp.drop (Imp.drop (Imp.refl _))))))) | exact Imp.drop (Imp.drop (Imp.drop (Imp.drop (Imp.drop (Imp.drop (Imp.drop (Imp.drop (Imp.refl _))))))))) ?_
      · skip
        repeat (first | refine op_ ?_ | refine bx_ (fun _ => ?_))
        refine ha_quiet [8] (by rfl) (by kernel_rfl) ?_
        repeat (first | refine gd_ ?_ | refine hq_call rfl rfl (fun E _ => h6 E) ?_ | refine hq_call rfl rfl (fun E _ => h5 E) ?_)
        refine ha_end (by rfl) (by kernel_rfl) (by first | exact Imp.refl _ | exact Imp.drop (Imp.refl _) | exact Imp.drop (Imp.drop (Imp.refl _)) | exact Imp.drop (Imp.drop (Imp.drop (Imp.refl _))) | exact Imp.drop (Imp.drop (Imp.drop (Imp.drop (Imp.refl _)))) | exact Imp.drop (Imp.drop (Imp.drop (Imp.drop (Imp.drop (Imp.refl _))))) | exact Imp.drop (Imp.drop (Imp.drop (Imp.drop (Imp.drop (Imp.drop (Imp.refl _)))))) | exact Imp.drop (Imp.drop (Imp.drop (Imp.drop (Imp.drop (Imp.drop (Imp.drop (Imp.refl _))))))) | exact Imp.drop (Imp.drop (Imp.drop (Imp.drop (Imp.drop (Imp.drop (Imp.drop (Imp.drop (Imp.refl _))))))))) ?_
        exact ⟨_, ⟨rfl, rfl, rfl, rfl, rfl, trivial⟩, rfl⟩
  rintro fr M ⟨g11, hf, rfl⟩
  obtain ⟨base, rfl⟩ := hf.out
  clear hf
  repeat (first | refine go_ ?_ | refine bx_ (fun _ => ?_) | refine hl_eqTabT rfl rfl (fun _ _ => rfl) rfl ?_)
  exact fin1B rfl rfl rfl
theorem walk (l1 l2 : List Int) (w : World) (hl1 : l1.length = 6) (hb1 : ∀ x ∈ l1, -9223372036854775808 ≤ x ∧ x ≤ 9223372036854775807) (hl2 : l2.length = 6) (hb2 : ∀ x ∈ l2, -9223372036854775808 ≤ x ∧ x ≤ 9223372036854775807) :
    Calls Try.prog 8 #[arrV l1, arrV l2] w fun e w' => e = .returned (.bool true) ∧ Below w.heap.size w w' := by
  rw [map_of hl1, map_of hl2]
  exact calls_of_fn (law _ _ (sm_of hl1 hb1) (sm_of hl2 hb2)) fun _ _ h => h

/-! The step to the statement (written by program). -/
open Go.ChangeShapes Go.WideShapes Go.ChangeAt
set_option maxRecDepth 100000 in
theorem lifted (os : Os) (started : os.Started) (H : Type) (enc : TypeId × Value → H) :
    ReturnsInHanded {} Try.checked os 8 .any (Rows.affineTimesSpec.pre6 enc Try.prog Try.f8 Rows.affineTimesRow.domain false) (Rows.affineTimesSpec.post enc Try.prog Try.f8 false true false false) := by
  refine returnsInHanded_of_change (C := Try.checked) own started (by kernel_rfl) Try.func8
    (ChangeSpec.witness6 (enc := enc) (C := Try.checked) false ⟨#[], #[.agg #[.int .i64 0, .int .i64 0, .int .i64 0, .int .i64 0, .int .i64 0, .int .i64 0], .agg #[.int .i64 0, .int .i64 0, .int .i64 0, .int .i64 0, .int .i64 0, .int .i64 0]], []⟩ 8 (by kernel_rfl) (by kernel_rfl) (by kernel_rfl) (by kernel_rfl)) ?_
  intro W base args ds gs before hval0 hW hcnd _
  have hval : ∀ (j : Nat) t v, Try.f8.params[j]? = some t → args[j]? = some v → Value.okWide Try.prog W .any base t v := hval0
  have hW' := hW
  obtain ⟨p, q, hA0, hV, rfl, hfz, hnd⟩ := hW
  have hA : DataW.TrodAll enc Try.prog W 0 (fun _ => true) true Try.f8.params.toList args.toList ds p := hA0
  rw [Try.params8] at hA hval
  obtain ⟨v0, vs0, d0, ds0, p0, q0, hargs, rfl, rfl, h0, r0⟩ := trodAll_cons hA
  obtain ⟨v1, vs1, d1, ds1, p1, q1, rfl, rfl, rfl, h1, r1⟩ := trodAll_cons r0
  obtain ⟨rfl, rfl, rfl⟩ := trodAll_nil r1
  obtain rfl : args = #[v0, v1] := by cases args; simp_all
  obtain ⟨rfl, rfl⟩ := trodVars_none hV
  have k0 := h0
  have lt0 : ∀ x ∈ p0, x.block < W.heap.size := by obtain ⟨m, hm⟩ := k0; exact DataW.trod_lt m _ _ _ hm
  obtain ⟨l0, rfl, n0, b0⟩ := open_array Try.underlying23 Try.underlying3 (by kernel_rfl) (by kernel_rfl) (hval 0 23 v0 rfl rfl) k0
  have k1 := h1
  have lt1 : ∀ x ∈ p1, x.block < W.heap.size := by obtain ⟨m, hm⟩ := k1; exact DataW.trod_lt m _ _ _ hm
  obtain ⟨l1, rfl, n1, b1⟩ := open_array Try.underlying23 Try.underlying3 (by kernel_rfl) (by kernel_rfl) (hval 1 23 v1 rfl rfl) k1
  clear hA0 hval0
  refine (walk l0 l1 W n0 b0 n1 b1).mono fun e W' ⟨he, bel⟩ => ?_
  subst he
  exact ⟨_, rfl, _, _, _, [], _, [], hW', trodAll_mk1 (shut_bool Try.underlying4 _), (trodAll_cons_mk (Below.trod laidOut (by kernel_rfl) (of_decide_eq_true (by kernel_rfl)) k0 bel lt0) (trodAll_cons_mk (Below.trod laidOut (by kernel_rfl) (of_decide_eq_true (by kernel_rfl)) k1 bel lt1) trodAll_mk0)), rfl, bel.frame _, fun h => by cases h⟩

theorem over : Rows.affineTimesRow.holds Try.pinned (OpenSpec.ofChange Rows.affineTimesSpec) :=
  OpenClaim.holds_of_wide 8 Try.f8 rfl rfl rfl rfl rfl rfl rfl ⟨rfl, rfl, rfl, rfl, rfl⟩ rfl rfl rfl rfl rfl (by kernel_rfl) Try.func8 (by kernel_rfl)
    (of_decide_eq_true (by kernel_rfl)) (by unfold Func.isWrapper; first | (rw [if_pos (by decide +kernel)]; kernel_rfl) | (rw [if_neg (by decide +kernel)]; exact ⟨rfl, rfl⟩))
    (fun os started H enc _ => lifted os started H enc)

/-- The statement. -/
theorem proved : Rows.AffineTimesSaid := over
#print axioms proved
end Go.Proofs.Ytbgdligfdfhbkaa.affineTimes
