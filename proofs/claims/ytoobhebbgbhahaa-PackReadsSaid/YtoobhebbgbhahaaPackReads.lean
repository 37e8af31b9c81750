/-
  PackReads. No condition.
-/
import Derived.Test.YtoobhebbgbhahaaPJ
namespace Go.Proofs.Ytoobhebbgbhahaa.packReads
open Go.RowKit
set_option maxHeartbeats 16000000 in
set_option maxRecDepth 100000 in
theorem law {w0 : World} {B : Nat} {H : List Ent} {a : Option Addr} {n c : Nat} {l : List UInt8} (hb : ∀ E, BytR w0 B E a n c l) :
    Fn Try.prog w0 B 4 [.slice a n c] H (fun u _ => u = .bool true) := by
  have he := (hb H).eq
  have hle := (hb H).le
  have hsm := (hb H).small
  refine fn_intro Try.func4 rfl (by kernel_rfl) rfl ?_
  by_cases hbig : 3000 < n
  · repeat (first | refine go_ ?_ | refine bx_ (fun _ => ?_) | refine hl_callv rfl rfl (anchor_fn) ?_)
    exact fin1B rfl rfl rfl
  have hlens := getE_lens (b := l) (by omega)
  repeat (first | refine go_ ?_ | refine bx_ (fun _ => ?_) | refine hl_callv rfl rfl (anchor_fn) ?_)
  refine hl_call rfl rfl (getEdit_fn (hb _) (by omega)) (fun v M o => ?_)
  obtain ⟨f, m, pv, sv, qv, P, Q, S, Xp, Xs, Xq, rfl, hE, rfl, hop, hos, hoq⟩ := o
  obtain ⟨pa, pc, rfl, _, _⟩ := (hop []).form
  obtain ⟨sa, sc, rfl, _, _⟩ := (hos []).form
  obtain ⟨qa, qc, rfl, _, _⟩ := (hoq []).form
  rw [hE] at hlens
  obtain ⟨l1, l2, l3⟩ := hlens
  dsimp only at l1 l2 l3
  repeat (first | refine go_ ?_ | refine bx_ (fun _ => ?_))
  rename_i g3
  refine hl_call rfl rfl (rgetEdit_fn (hb _) (by omega)) (fun v M o => ?_)
  obtain ⟨f', m', pv', sv', qv', P', Q', S', Xp', Xs', Xq', rfl, hE', rfl, hop', hos', hoq'⟩ := o
  rw [hE] at hE'
  injection hE' with e1 e2 e3 e4 e5
  subst e2 e3 e5
  obtain ⟨pa', pc', rfl, _, _⟩ := (hop' []).form
  obtain ⟨sa', sc', rfl, _, _⟩ := (hos' []).form
  obtain ⟨qa', qc', rfl, _, _⟩ := (hoq' []).form
  rw [← edC_congr e1 e4]
  have hwas := fun h => getE_was (b := l) h (by omega)
  rw [hE] at hwas
  obtain ⟨ee, hee⟩ : ∃ ee, ee = (getE l).2 := ⟨_, rfl⟩
  rw [← hee] at hwas ⊢
  obtain ⟨T, hT⟩ : ∃ T, T = Xp ++ (Xs ++ (Xq ++ H)) := ⟨_, rfl⟩
  rw [← hT]
  obtain ⟨b3, hb3⟩ : ∃ b3 : Ent, b3 = ⟨g3, 27, edC f m (.slice pa P.length pc) (.slice sa S.length sc) (.slice qa Q.length qc), 19⟩ := ⟨_, rfl⟩
  refine HL.perm (H' := Xp' ++ (Xs' ++ (Xq' ++ (b3 :: T)))) ?_ (by rw [hb3]; exact List.Perm.refl _)
  have iU : Imp (Xp' ++ (Xs' ++ (Xq' ++ (b3 :: T)))) T := (Imp.tail Xp' _).trans ((Imp.tail Xs' _).trans ((Imp.tail Xq' _).trans (Imp.drop (Imp.refl _))))
  have nP : NumR w0 B T pa P.length P := by rw [hT]; exact NumR.own (hop _)
  have nS : PtR w0 B T sa S.length S := by rw [hT]; exact (PtR.own (hos (Xq ++ H))).imp (Imp.tail Xp _)
  have nQ : NumR w0 B T qa Q.length Q := by rw [hT]; exact (NumR.own (hoq H)).imp ((Imp.tail Xp _).trans (Imp.tail Xs _))
  have nP' : NumR w0 B (Xp' ++ (Xs' ++ (Xq' ++ (b3 :: T)))) pa' P.length P := NumR.own (hop' _)
  have nS' : PtR w0 B (Xp' ++ (Xs' ++ (Xq' ++ (b3 :: T)))) sa' S.length S := (PtR.own (hos' (Xq' ++ (b3 :: T)))).imp (Imp.tail Xp' _)
  have nQ' : NumR w0 B (Xp' ++ (Xs' ++ (Xq' ++ (b3 :: T)))) qa' Q.length Q := (NumR.own (hoq' (b3 :: T))).imp ((Imp.tail Xp' _).trans (Imp.tail Xs' _))
  have t3 : ∃ F, Take (Xp' ++ (Xs' ++ (Xq' ++ (b3 :: T)))) ⟨g3, 27, edC f m (.slice pa P.length pc) (.slice sa S.length sc) (.slice qa Q.length qc), 19⟩ F := ⟨_, Take.app Xp' (Take.app Xs' (Take.app Xq' (by rw [hb3]; exact .here)))⟩
  obtain ⟨F, t3⟩ := t3
  generalize Xp' ++ (Xs' ++ (Xq' ++ (b3 :: T))) = U at *
  have L : ∀ e : Ent, Fn Try.prog w0 B 15 [.agg (edC f m (.slice pa P.length pc) (.slice sa S.length sc) (.slice qa Q.length qc)).toArray, .agg (edC f m (.slice pa' P.length pc') (.slice sa' S.length sc') (.slice qa' Q.length qc')).toArray] (e :: U) (fun v H' => v = .bool true ∧ H' = e :: U) := fun e =>
    like_fn (nP.imp (Imp.drop iU)) (nP'.imp (Imp.drop (Imp.refl _))) (nS.imp (Imp.drop iU)) (nS'.imp (Imp.drop (Imp.refl _))) (nQ.imp (Imp.drop iU)) (nQ'.imp (Imp.drop (Imp.refl _))) l1 l2 l3
  by_cases h0 : ee = 0
  · obtain ⟨hput, hw⟩ := hwas h0
    subst h0
    repeat (first | refine hl_loadW rfl (.there t3) rfl rfl ?_ | refine go1_ ?_ | refine bx_ (fun _ => ?_) | refine hl_callv rfl rfl (L _) ?_)
    refine hl_call rfl rfl (putEdit_fn (nP.imp (Imp.drop iU)) (nS.imp (Imp.drop iU)) (nQ.imp (Imp.drop iU)) hw) (fun v M o => ?_)
    rw [← hput] at o
    obtain ⟨ab, cb, rfl, _, _⟩ := o.form
    have S := same_fn (BytR.own (w0 := w0) (B := B) o) (hb M) (by omega)
    rw [decide_eq_true rfl] at S
    repeat (first | refine go_ ?_ | refine bx_ (fun _ => ?_) | refine hl_callv rfl rfl (S) ?_)
    exact fin1B rfl rfl rfl
  · repeat (first | refine hl_loadW rfl (.there t3) rfl rfl ?_ | refine go1_ ?_ | refine bx_ (fun _ => ?_) | refine hl_callv rfl rfl (L _) ?_)
    exact fin1B rfl rfl rfl
theorem walk (a : Option Addr) (len cap : Nat) (l : List UInt8) (w : World) (hl : Sl byteV w a len cap l) :
    Calls Try.prog 4 #[.slice a len cap] w fun e w' => e = .returned (.bool true) ∧ Below w.heap.size w w' :=
  calls_of_fn (law (fun E => BytR.of (Nat.le_refl _) hl)) fun _ _ h => h

/-! The step to the statement (written by program). -/
open Go.ChangeShapes Go.WideShapes Go.ChangeAt
set_option maxRecDepth 100000 in
theorem lifted (os : Os) (started : os.Started) (H : Type) (enc : TypeId × Value → H) :
    ReturnsInHanded {} Try.checked os 4 .any (Rows.packReadsSpec.pre6 enc Try.prog Try.f4 Rows.packReadsRow.domain false) (Rows.packReadsSpec.post enc Try.prog Try.f4 false true false false) := by
  refine returnsInHanded_of_change (C := Try.checked) own started (by kernel_rfl) Try.func4
    (ChangeSpec.witness6 (enc := enc) (C := Try.checked) false ⟨#[], #[.slice none 0 0], []⟩ 8 (by kernel_rfl) (by kernel_rfl) (by kernel_rfl) (by kernel_rfl)) ?_
  intro W base args ds gs before hval0 hW hcnd _
  have hval : ∀ (j : Nat) t v, Try.f4.params[j]? = some t → args[j]? = some v → Value.okWide Try.prog W .any base t v := hval0
  have hW' := hW
  obtain ⟨p, q, hA0, hV, rfl, hfz, hnd⟩ := hW
  have hA : DataW.TrodAll enc Try.prog W 0 (fun _ => true) true Try.f4.params.toList args.toList ds p := hA0
  rw [Try.params4] at hA hval
  obtain ⟨v0, vs0, d0, ds0, p0, q0, hargs, rfl, rfl, h0, r0⟩ := trodAll_cons hA
  obtain ⟨rfl, rfl, rfl⟩ := trodAll_nil r0
  obtain rfl : args = #[v0] := by cases args; simp_all
  obtain ⟨rfl, rfl⟩ := trodVars_none hV
  have k0 := h0
  have lt0 : ∀ x ∈ p0, x.block < W.heap.size := by obtain ⟨m, hm⟩ := k0; exact DataW.trod_lt m _ _ _ hm
  obtain ⟨a0, len0, cap0, e0⟩ := okWide_slice Try.underlying29 (hval 0 29 v0 rfl rfl)
  obtain ⟨l0, w0⟩ := open_bytes Try.underlying29 Try.underlying5 (by kernel_rfl) e0 k0
  subst e0
  clear hA0 hval0
  refine (walk a0 len0 cap0 l0 W w0).mono fun e W' ⟨he, bel⟩ => ?_
  subst he
  exact ⟨_, rfl, _, _, _, [], _, [], hW', trodAll_mk1 (shut_bool Try.underlying4 _), (trodAll_cons_mk (Below.trod laidOut (by kernel_rfl) (of_decide_eq_true (by kernel_rfl)) k0 bel lt0) trodAll_mk0), rfl, bel.frame _, fun h => by cases h⟩

theorem over : Rows.packReadsRow.holds Try.pinned (OpenSpec.ofChange Rows.packReadsSpec) :=
  OpenClaim.holds_of_wide 4 Try.f4 rfl rfl rfl rfl rfl rfl rfl ⟨rfl, rfl, rfl, rfl, rfl⟩ rfl rfl rfl rfl rfl (by kernel_rfl) Try.func4 (by kernel_rfl)
    (of_decide_eq_true (by kernel_rfl)) (by unfold Func.isWrapper; first | (rw [if_pos (by decide +kernel)]; kernel_rfl) | (rw [if_neg (by decide +kernel)]; exact ⟨rfl, rfl⟩))
    (fun os started H enc _ => lifted os started H enc)

/-- The statement. -/
theorem proved : Rows.PackReadsSaid := over
#print axioms proved
end Go.Proofs.Ytoobhebbgbhahaa.packReads
