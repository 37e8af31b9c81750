/-
  PackEdits. No condition.
-/
import Derived.Test.YtoobhebbgbhahaaPJ
namespace Go.Proofs.Ytoobhebbgbhahaa.packEdits
open Go.RowKit
theorem length_put_le {f m : Nat → Int} {P Q : List Int} {S : List Pt} (hw : Ed.wf ⟨f10 f, P, S, f6 m, Q⟩) (hP : P.length ≤ 1000) (hS : S.length ≤ 1000) (hQ : Q.length ≤ 1000) : (Ed.put ⟨f10 f, P, S, f6 m, Q⟩).length ≤ 100000 := by
  obtain ⟨wf1, wP, wS, wm, wQ, _, _, lP, lS, lQ⟩ := hw
  dsimp only at wf1 wP wS wm wQ lP lS lQ
  have b0 := length_numsB_le wf1
  have b1 := length_lstB_le wP lP
  have b2 := length_numB_le (n := (S.length : Int)) ⟨by omega, by omega⟩
  have b3 := length_ptsB_le wS
  have b4 := length_numsB_le wm
  have b5 := length_lstB_le wQ lQ
  simp only [List.length_cons, List.length_nil] at b0 b4
  unfold Ed.put
  dsimp only
  simp only [List.length_append]
  omega
set_option maxHeartbeats 16000000 in
set_option maxRecDepth 100000 in
theorem law {w0 : World} {B : Nat} {H : List Ent} {f m : Nat → Int} {pa sa qa : Option Addr} {pn pc sn sc qn qc : Nat} {P Q : List Int} {S : List Pt} (hP : ∀ E, NumR w0 B E pa pn P) (hS : ∀ E, PtR w0 B E sa sn S) (hQ : ∀ E, NumR w0 B E qa qn Q)
    (wf : ∀ n ∈ f10 f, I64 n) (wm : ∀ n ∈ f6 m, I64 n) (wP : ∀ n ∈ P, I64 n) (wS : ∀ p ∈ S, I64 p.x ∧ I64 p.y) (wQ : ∀ n ∈ Q, I64 n) :
    Fn Try.prog w0 B 3 [.agg (edC f m (.slice pa pn pc) (.slice sa sn sc) (.slice qa qn qc)).toArray] H (fun u _ => u = .bool true) := by
  have eP := (hP H).eq
  have eS := (hS H).eq
  have eQ := (hQ H).eq
  refine fn_intro Try.func3 rfl (by kernel_rfl) rfl ?_
  by_cases h1 : 1000 < pn
  · repeat (first | refine go_ ?_ | refine bx_ (fun _ => ?_) | refine hl_callv rfl rfl (anchor_fn) ?_)
    exact fin1B rfl rfl rfl
  by_cases h2 : 1000 < sn
  · repeat (first | refine go_ ?_ | refine bx_ (fun _ => ?_) | refine hl_callv rfl rfl (anchor_fn) ?_)
    exact fin1B rfl rfl rfl
  by_cases h3 : 1000 < qn
  · repeat (first | refine go_ ?_ | refine bx_ (fun _ => ?_) | refine hl_callv rfl rfl (anchor_fn) ?_)
    exact fin1B rfl rfl rfl
  have hw : Ed.wf ⟨f10 f, P, S, f6 m, Q⟩ := ⟨wf, wP, wS, wm, wQ, rfl, rfl, by dsimp only; omega, by dsimp only; omega, by dsimp only; omega⟩
  have hlen := length_put_le hw (by omega) (by omega) (by omega)
  have hgp := getE_put hw
  repeat (first | refine go_ ?_ | refine bx_ (fun _ => ?_) | refine hl_callv rfl rfl (anchor_fn) ?_)
  rename_i gE
  obtain ⟨eb, heb⟩ : ∃ eb : Ent, eb = ⟨gE, 27, edC f m (.slice pa pn pc) (.slice sa sn sc) (.slice qa qn qc), 19⟩ := ⟨_, rfl⟩
  refine HL.perm (H' := eb :: H) ?_ (by rw [heb]; exact List.Perm.refl _)
  have tx : ∀ (Y T : List Ent), Take (Y ++ (eb :: T)) ⟨gE, 27, edC f m (.slice pa pn pc) (.slice sa sn sc) (.slice qa qn qc), 19⟩ (Y ++ T) := fun Y T => by rw [heb]; exact Take.app Y .here
  refine hl_call rfl rfl (putEdit_fn (hP _) (hS _) (hQ _) hw) (fun v M o => ?_)
  obtain ⟨ab, cb, rfl, _, _⟩ := o.form
  obtain ⟨Xb, hpb, hob⟩ := o.permE
  refine HL.perm ?_ hpb
  have bb : ∀ F, BytR w0 B (Xb ++ F) ab (Ed.put ⟨f10 f, P, S, f6 m, Q⟩).length cb (Ed.put ⟨f10 f, P, S, f6 m, Q⟩) := fun F => BytR.own (hob F)
  obtain ⟨bt, hput⟩ : ∃ bt, Ed.put ⟨f10 f, P, S, f6 m, Q⟩ = bt := ⟨_, rfl⟩
  rw [hput] at bb hgp hlen ⊢
  repeat (first | refine go_ ?_ | refine bx_ (fun _ => ?_))
  refine hl_call rfl rfl (getEdit_fn (bb (eb :: H)) (by omega)) (fun v M o => ?_)
  obtain ⟨f', m', pv', sv', qv', P', Q', S', Xp, Xs, Xq, rfl, hE, rfl, hop, hos, hoq⟩ := o
  rw [hgp] at hE ⊢
  dsimp only at hE ⊢
  injection hE with e1 e2 e3 e4 e5
  subst e2 e3 e5
  obtain ⟨pa', pc', rfl, _, _⟩ := (hop []).form
  obtain ⟨sa', sc', rfl, _, _⟩ := (hos []).form
  obtain ⟨qa', qc', rfl, _, _⟩ := (hoq []).form
  rw [← edC_congr e1 e4]
  repeat (first | refine go_ ?_ | refine bx_ (fun _ => ?_))
  rename_i g4
  obtain ⟨T, hT⟩ : ∃ T, T = Xp ++ (Xs ++ (Xq ++ (Xb ++ (eb :: H)))) := ⟨_, rfl⟩
  have tE : ∃ F, Take T ⟨gE, 27, edC f m (.slice pa pn pc) (.slice sa sn sc) (.slice qa qn qc), 19⟩ F := ⟨_, by rw [hT]; exact Take.app Xp (Take.app Xs (Take.app Xq (tx Xb H)))⟩
  have bT : BytR w0 B T ab bt.length cb bt := by rw [hT]; exact (bb _).imp ((Imp.tail Xp _).trans ((Imp.tail Xs _).trans (Imp.tail Xq _)))
  have nP : NumR w0 B T pa' P.length P := by rw [hT]; exact NumR.own (hop _)
  have nS : PtR w0 B T sa' S.length S := by rw [hT]; exact (PtR.own (hos _)).imp (Imp.tail Xp _)
  have nQ : NumR w0 B T qa' Q.length Q := by rw [hT]; exact (NumR.own (hoq _)).imp ((Imp.tail Xp _).trans (Imp.tail Xs _))
  obtain ⟨F, tE⟩ := tE
  obtain ⟨M0, hM0⟩ : ∃ M0, M0 = ⟨g4, 27, edC f m (.slice pa' P.length pc') (.slice sa' S.length sc') (.slice qa' Q.length qc'), 19⟩ :: T := ⟨_, rfl⟩
  have i0 : Imp M0 T := by rw [hM0]; exact Imp.drop (Imp.refl _)
  have tE0 : ∃ F, Take M0 ⟨gE, 27, edC f m (.slice pa pn pc) (.slice sa sn sc) (.slice qa qn qc), 19⟩ F := ⟨_, by rw [hM0]; exact .there tE⟩
  have t40 : ∃ F, Take M0 ⟨g4, 27, edC f m (.slice pa' P.length pc') (.slice sa' S.length sc') (.slice qa' Q.length qc'), 19⟩ F := ⟨_, by rw [hM0]; exact .here⟩
  obtain ⟨F1, tE0⟩ := tE0
  obtain ⟨F2, t40⟩ := t40
  rw [← hT]
  refine HC.perm (H' := M0) ?_ (by rw [hM0]; exact List.Perm.refl _)
  refine hc_meet (fun fr M => Agr fr [(2, .bool true)]) ?_ ?_
  · refine hc_drawA M0 (by kernel_rfl) ?_
    refine ha_quiet [0, 1] (by rfl) (by kernel_rfl) ?_
    repeat (first | refine hl_loadW rfl tE0 rfl rfl ?_ | refine hl_loadW rfl t40 rfl rfl ?_ | refine gd1_ ?_)
    refine ha_fork1 2 (by rfl) (by kernel_rfl) (by rfl) (by first | exact Imp.refl _ | exact Imp.drop (Imp.refl _) | exact Imp.drop (Imp.drop (Imp.refl _)) | exact Imp.drop (Imp.drop (Imp.drop (Imp.refl _))) | exact Imp.drop (Imp.drop (Imp.drop (Imp.drop (Imp.refl _)))) | exact Imp.drop (Imp.drop (Imp.drop (Imp.drop (Imp.drop (Imp.refl _))))) | exact Imp.drop (Imp.drop (Imp.drop (Imp.drop (Imp.drop (Imp.drop (Imp.refl _)))))) | exact Imp.drop (Imp.drop (Imp.drop (Imp.drop (Imp.drop (Imp.drop (Imp.drop (Imp.refl _))))))) | exact Imp.drop (Imp.drop (Imp.drop (Imp.drop (Imp.drop (Imp.drop (Imp.drop (Imp.drop (Imp.refl _)))))))) | assumption | exact imp_nil _ | exact Imp.drop2 (Imp.refl _) | exact Imp.drop2 (Imp.drop2 (Imp.refl _)) | exact Imp.drop (Imp.drop2 (Imp.refl _))) ?_
    · skip
      refine hl_call rfl rfl (medit_fn (hS _) (by omega)) (fun v M2 o2 => ?_)
      obtain ⟨a2, c2, X2, rfl, rfl, ho2⟩ := o2
      have i2 : Imp (X2 ++ M0) M0 := Imp.tail X2 _
      repeat (first | refine op_ ?_ | refine bx_ (fun _ => ?_))
      refine ha_fork1 3 (by rfl) (by kernel_rfl) (by rfl) (by first | exact Imp.refl _ | exact Imp.drop (Imp.refl _) | exact Imp.drop (Imp.drop (Imp.refl _)) | exact Imp.drop (Imp.drop (Imp.drop (Imp.refl _))) | exact Imp.drop (Imp.drop (Imp.drop (Imp.drop (Imp.refl _)))) | exact Imp.drop (Imp.drop (Imp.drop (Imp.drop (Imp.drop (Imp.refl _))))) | exact Imp.drop (Imp.drop (Imp.drop (Imp.drop (Imp.drop (Imp.drop (Imp.refl _)))))) | exact Imp.drop (Imp.drop (Imp.drop (Imp.drop (Imp.drop (Imp.drop (Imp.drop (Imp.refl _))))))) | exact Imp.drop (Imp.drop (Imp.drop (Imp.drop (Imp.drop (Imp.drop (Imp.drop (Imp.drop (Imp.refl _)))))))) | assumption | exact imp_nil _ | exact Imp.drop2 (Imp.refl _) | exact Imp.drop2 (Imp.drop2 (Imp.refl _)) | exact Imp.drop (Imp.drop2 (Imp.refl _))) ?_
      · skip
        refine hl_call rfl rfl (redit_fn (hP _) (PtR.own (ho2 M0)) (hQ _) hw) (fun v M3 o3 => ?_)
        rw [hput] at o3
        obtain ⟨a3, c3, rfl, _, _⟩ := o3.form
        have i3 : Imp M3 M0 := o3.imp.trans i2
        have b3 := BytR.own (w0 := w0) (B := B) o3
        have S3 := same_fn ((bT.imp i0).imp i3) b3 (by omega)
        rw [decide_eq_true rfl] at S3
        repeat (first | refine op_ ?_ | refine bx_ (fun _ => ?_))
        refine ha_fork1 4 (by rfl) (by kernel_rfl) (by rfl) (by first | exact Imp.refl _ | exact Imp.drop (Imp.refl _) | exact Imp.drop (Imp.drop (Imp.refl _)) | exact Imp.drop (Imp.drop (Imp.drop (Imp.refl _))) | exact Imp.drop (Imp.drop (Imp.drop (Imp.drop (Imp.refl _)))) | exact Imp.drop (Imp.drop (Imp.drop (Imp.drop (Imp.drop (Imp.refl _))))) | exact Imp.drop (Imp.drop (Imp.drop (Imp.drop (Imp.drop (Imp.drop (Imp.refl _)))))) | exact Imp.drop (Imp.drop (Imp.drop (Imp.drop (Imp.drop (Imp.drop (Imp.drop (Imp.refl _))))))) | exact Imp.drop (Imp.drop (Imp.drop (Imp.drop (Imp.drop (Imp.drop (Imp.drop (Imp.drop (Imp.refl _)))))))) | assumption | exact imp_nil _ | exact Imp.drop2 (Imp.refl _) | exact Imp.drop2 (Imp.drop2 (Imp.refl _)) | exact Imp.drop (Imp.drop2 (Imp.refl _))) ?_
        · skip
          refine hl_callv rfl rfl S3 ?_
          repeat (first | refine op_ ?_ | refine bx_ (fun _ => ?_))
          refine ha_quiet [5, 6, 7, 8, 9, 10, 11] (by rfl) (by kernel_rfl) ?_
          repeat (first | refine hl_loadW rfl tE0 rfl rfl ?_ | refine hl_loadW rfl t40 rfl rfl ?_ | refine gd1_ ?_)
          refine ha_fork1 12 (by rfl) (by kernel_rfl) (by rfl) (by first | exact Imp.refl _ | exact Imp.drop (Imp.refl _) | exact Imp.drop (Imp.drop (Imp.refl _)) | exact Imp.drop (Imp.drop (Imp.drop (Imp.refl _))) | exact Imp.drop (Imp.drop (Imp.drop (Imp.drop (Imp.refl _)))) | exact Imp.drop (Imp.drop (Imp.drop (Imp.drop (Imp.drop (Imp.refl _))))) | exact Imp.drop (Imp.drop (Imp.drop (Imp.drop (Imp.drop (Imp.drop (Imp.refl _)))))) | exact Imp.drop (Imp.drop (Imp.drop (Imp.drop (Imp.drop (Imp.drop (Imp.drop (Imp.refl _))))))) | exact Imp.drop (Imp.drop (Imp.drop (Imp.drop (Imp.drop (Imp.drop (Imp.drop (Imp.drop (Imp.refl _)))))))) | assumption | exact imp_nil _ | exact Imp.drop2 (Imp.refl _) | exact Imp.drop2 (Imp.drop2 (Imp.refl _)) | exact Imp.drop (Imp.drop2 (Imp.refl _))) ?_
          · skip
            refine hl_run (by rfl) (by rfl) rfl ?_
            refine hl_call rfl rfl (medit_fn (hS _) (by omega)) (fun v M5 o5 => ?_)
            obtain ⟨a5, c5, X5, rfl, rfl, ho5⟩ := o5
            have i5 : Imp (X5 ++ M3) M0 := (Imp.tail X5 _).trans i3
            repeat (first | refine op_ ?_ | refine bx_ (fun _ => ?_))
            refine ha_fork1 13 (by rfl) (by kernel_rfl) (by rfl) (by first | exact Imp.refl _ | exact Imp.drop (Imp.refl _) | exact Imp.drop (Imp.drop (Imp.refl _)) | exact Imp.drop (Imp.drop (Imp.drop (Imp.refl _))) | exact Imp.drop (Imp.drop (Imp.drop (Imp.drop (Imp.refl _)))) | exact Imp.drop (Imp.drop (Imp.drop (Imp.drop (Imp.drop (Imp.refl _))))) | exact Imp.drop (Imp.drop (Imp.drop (Imp.drop (Imp.drop (Imp.drop (Imp.refl _)))))) | exact Imp.drop (Imp.drop (Imp.drop (Imp.drop (Imp.drop (Imp.drop (Imp.drop (Imp.refl _))))))) | exact Imp.drop (Imp.drop (Imp.drop (Imp.drop (Imp.drop (Imp.drop (Imp.drop (Imp.drop (Imp.refl _)))))))) | assumption | exact imp_nil _ | exact Imp.drop2 (Imp.refl _) | exact Imp.drop2 (Imp.drop2 (Imp.refl _)) | exact Imp.drop (Imp.drop2 (Imp.refl _))) ?_
            · skip
              refine hl_run (by rfl) (by rfl) rfl ?_
              refine hl_callv rfl rfl (like_fn ((nP.imp i0).imp i5) (hP _) ((nS.imp i0).imp i5) (PtR.own (ho5 M3)) ((nQ.imp i0).imp i5) (hQ _) (by omega) (by omega) (by omega)) ?_
              repeat (first | refine op_ ?_ | refine bx_ (fun _ => ?_))
              refine ha_quiet [14, 15] (by rfl) (by kernel_rfl) ?_
              repeat (first | refine hl_loadW rfl tE0 rfl rfl ?_ | refine hl_loadW rfl t40 rfl rfl ?_ | refine gd1_ ?_)
              refine ha_end (by rfl) (by kernel_rfl) (by first | exact Imp.refl _ | exact Imp.drop (Imp.refl _) | exact Imp.drop (Imp.drop (Imp.refl _)) | exact Imp.drop (Imp.drop (Imp.drop (Imp.refl _))) | exact Imp.drop (Imp.drop (Imp.drop (Imp.drop (Imp.refl _)))) | exact Imp.drop (Imp.drop (Imp.drop (Imp.drop (Imp.drop (Imp.refl _))))) | exact Imp.drop (Imp.drop (Imp.drop (Imp.drop (Imp.drop (Imp.drop (Imp.refl _)))))) | exact Imp.drop (Imp.drop (Imp.drop (Imp.drop (Imp.drop (Imp.drop (Imp.drop (Imp.refl _))))))) | exact Imp.drop (Imp.drop (Imp.drop (Imp.drop (Imp.drop (Imp.drop (Imp.drop (Imp.drop (Imp.refl _)))))))) | assumption | exact imp_nil _ | exact Imp.drop2 (Imp.refl _) | exact Imp.drop2 (Imp.drop2 (Imp.refl _)) | exact Imp.drop (Imp.drop2 (Imp.refl _))) ?_
              exact ⟨rfl, trivial⟩
  rintro fr M hf
  obtain ⟨base, rfl⟩ := hf.out
  repeat (first | refine go_ ?_ | refine bx_ (fun _ => ?_))
  exact fin1B rfl rfl rfl
theorem walk (x : EdA) (w : World) (hx : x.wf w) :
    Calls Try.prog 3 #[x.v] w fun e w' => e = .returned (.bool true) ∧ Below w.heap.size w w' :=
  calls_of_fn (law (fun E => numR_of (Nat.le_refl _) hx.P.1) (fun E => ptR_of (Nat.le_refl _) hx.S.1) (fun E => numR_of (Nat.le_refl _) hx.Q.1) hx.f hx.m hx.P.2 hx.S.2 hx.Q.2) fun _ _ h => h

/-! The step to the statement (written by program). -/
open Go.ChangeShapes Go.WideShapes Go.ChangeAt
set_option maxRecDepth 100000 in
theorem lifted (os : Os) (started : os.Started) (H : Type) (enc : TypeId × Value → H) :
    ReturnsInHanded {} Try.checked os 3 .any (Rows.packEditsSpec.pre6 enc Try.prog Try.f3 Rows.packEditsRow.domain false) (Rows.packEditsSpec.post enc Try.prog Try.f3 false true false false) := by
  refine returnsInHanded_of_change (C := Try.checked) own started (by kernel_rfl) Try.func3
    (ChangeSpec.witness6 (enc := enc) (C := Try.checked) false ⟨#[], #[.agg #[.int .i64 0, .int .i64 0, .int .i64 0, .int .i64 0, .int .i64 0, .int .i64 0, .int .i64 0, .int .i64 0, .int .i64 0, .int .i64 0, .slice none 0 0, .slice none 0 0, .int .i64 0, .int .i64 0, .int .i64 0, .int .i64 0, .int .i64 0, .int .i64 0, .slice none 0 0]], []⟩ 8 (by kernel_rfl) (by kernel_rfl) (by kernel_rfl) (by kernel_rfl)) ?_
  intro W base args ds gs before hval0 hW hcnd _
  have hval : ∀ (j : Nat) t v, Try.f3.params[j]? = some t → args[j]? = some v → Value.okWide Try.prog W .any base t v := hval0
  have hW' := hW
  obtain ⟨p, q, hA0, hV, rfl, hfz, hnd⟩ := hW
  have hA : DataW.TrodAll enc Try.prog W 0 (fun _ => true) true Try.f3.params.toList args.toList ds p := hA0
  rw [Try.params3] at hA hval
  obtain ⟨v0, vs0, d0, ds0, p0, q0, hargs, rfl, rfl, h0, r0⟩ := trodAll_cons hA
  obtain ⟨rfl, rfl, rfl⟩ := trodAll_nil r0
  obtain rfl : args = #[v0] := by cases args; simp_all
  obtain ⟨rfl, rfl⟩ := trodVars_none hV
  have k0 := h0
  have lt0 : ∀ x ∈ p0, x.block < W.heap.size := by obtain ⟨m, hm⟩ := k0; exact DataW.trod_lt m _ _ _ hm
  obtain ⟨a0, rfl, w0⟩ := open_edit (hval 0 27 v0 rfl rfl) k0
  clear hA0 hval0
  refine (walk a0 W w0).mono fun e W' ⟨he, bel⟩ => ?_
  subst he
  exact ⟨_, rfl, _, _, _, [], _, [], hW', trodAll_mk1 (shut_bool Try.underlying4 _), (trodAll_cons_mk (Below.trod laidOut (by kernel_rfl) (of_decide_eq_true (by kernel_rfl)) k0 bel lt0) trodAll_mk0), rfl, bel.frame _, fun h => by cases h⟩

theorem over : Rows.packEditsRow.holds Try.pinned (OpenSpec.ofChange Rows.packEditsSpec) :=
  OpenClaim.holds_of_wide 3 Try.f3 rfl rfl rfl rfl rfl rfl rfl ⟨rfl, rfl, rfl, rfl, rfl⟩ rfl rfl rfl rfl rfl (by kernel_rfl) Try.func3 (by kernel_rfl)
    (of_decide_eq_true (by kernel_rfl)) (by unfold Func.isWrapper; first | (rw [if_pos (by decide +kernel)]; kernel_rfl) | (rw [if_neg (by decide +kernel)]; exact ⟨rfl, rfl⟩))
    (fun os started H enc _ => lifted os started H enc)

/-- The statement. -/
theorem proved : Rows.PackEditsSaid := over
#print axioms proved
end Go.Proofs.Ytoobhebbgbhahaa.packEdits
