/-
  PackCuts. No condition.
-/
import Derived.Test.YtoobhebbgbhahaaPJ
namespace Go.Proofs.Ytoobhebbgbhahaa.packCuts
open Go.RowKit
theorem length_put_le {f m : Nat → Int} {P Q : List Int} {S : List Pt} (hw : Ed.wf ⟨f10 f, P, S, f6 m, Q⟩) (hP : P.length ≤ 1000) (hS : S.length ≤ 1000) (hQ : Q.length ≤ 1000) : (Ed.put ⟨f10 f, P, S, f6 m, Q⟩).length ≤ 100000 ∧ 0 < (Ed.put ⟨f10 f, P, S, f6 m, Q⟩).length := by
  obtain ⟨wf1, wP, wS, wm, wQ, _, _, lP, lS, lQ⟩ := hw
  dsimp only at wf1 wP wS wm wQ lP lS lQ
  have b0 := length_numsB_le wf1
  have b1 := length_lstB_le wP lP
  have b2 := length_numB_le (n := (S.length : Int)) ⟨by omega, by omega⟩
  have b3 := length_ptsB_le wS
  have b4 := length_numsB_le wm
  have b5 := length_lstB_le wQ lQ
  have b6 := length_numB (S.length : Int)
  simp only [List.length_cons, List.length_nil] at b0 b4
  unfold Ed.put
  dsimp only
  simp only [List.length_append]
  omega
theorem xor_one {n : Int} (h : I64 n) : bits .xor .i64 n 1 ≠ n ∧ I64 (bits .xor .i64 n 1) := by
  obtain ⟨h1, h2⟩ := h
  rw [show bits .xor .i64 n 1 = IntKind.i64.wrap ((BitVec.ofInt 64 n ^^^ BitVec.ofInt 64 1).toNat : Int) from rfl]
  have hx : ((BitVec.ofInt 64 n).toNat : Int) = n % 18446744073709551616 := by
    rw [BitVec.toNat_ofInt]
    simp only [Nat.reducePow]
    omega
  have hlt := (BitVec.ofInt 64 n ^^^ BitVec.ofInt 64 1).isLt
  constructor
  · intro he
    rw [IntKind.wrap_i64] at he
    have : (BitVec.ofInt 64 n ^^^ BitVec.ofInt 64 1).toNat = (BitVec.ofInt 64 n).toNat := by omega
    have h3 := BitVec.eq_of_toNat_eq this
    have h4 : BitVec.ofInt 64 n ^^^ (BitVec.ofInt 64 n ^^^ BitVec.ofInt 64 1) = 0#64 := by rw [h3, BitVec.xor_self]
    rw [← BitVec.xor_assoc, BitVec.xor_self, BitVec.zero_xor] at h4
    exact absurd h4 (by decide)
  · rw [IntKind.wrap_i64]
    unfold I64
    omega
set_option maxHeartbeats 16000000 in
set_option maxRecDepth 100000 in
theorem law {w0 : World} {B : Nat} {H : List Ent} {f m : Nat → Int} {pa sa qa : Option Addr} {pn pc sn sc qn qc : Nat} {P Q : List Int} {S : List Pt} (hP : ∀ E, NumR w0 B E pa pn P) (hS : ∀ E, PtR w0 B E sa sn S) (hQ : ∀ E, NumR w0 B E qa qn Q)
    (wf : ∀ n ∈ f10 f, I64 n) (wm : ∀ n ∈ f6 m, I64 n) (wP : ∀ n ∈ P, I64 n) (wS : ∀ p ∈ S, I64 p.x ∧ I64 p.y) (wQ : ∀ n ∈ Q, I64 n) (at0 : Int) (hat : I64 at0) {a2 : Option Addr} {n2 c2 : Nat} {more : List UInt8} (hm2 : ∀ E, BytR w0 B E a2 n2 c2 more) (which : Int) (hwh : I64 which) :
    Fn Try.prog w0 B 6 [.agg (edC f m (.slice pa pn pc) (.slice sa sn sc) (.slice qa qn qc)).toArray, .int .i64 at0, .slice a2 n2 c2, .int .i64 which] H (fun u _ => u = .bool true) := by
  have eP := (hP H).eq
  have eS := (hS H).eq
  have eQ := (hQ H).eq
  have eM := (hm2 H).eq
  have hmc := (hm2 H).le
  have hms := (hm2 H).small
  unfold I64 at hat hwh
  refine fn_intro Try.func6 rfl (by kernel_rfl) rfl ?_
  by_cases h1 : 300 < pn
  · repeat (first | refine go_ ?_ | refine bx_ (fun _ => ?_) | refine hl_callv rfl rfl (anchor_fn) ?_)
    exact fin1B rfl rfl rfl
  by_cases h2 : 300 < sn
  · repeat (first | refine go_ ?_ | refine bx_ (fun _ => ?_) | refine hl_callv rfl rfl (anchor_fn) ?_)
    exact fin1B rfl rfl rfl
  by_cases h3 : 300 < qn
  · repeat (first | refine go_ ?_ | refine bx_ (fun _ => ?_) | refine hl_callv rfl rfl (anchor_fn) ?_)
    exact fin1B rfl rfl rfl
  by_cases h4 : at0 < 0
  · repeat (first | refine go_ ?_ | refine bx_ (fun _ => ?_) | refine hl_callv rfl rfl (anchor_fn) ?_)
    exact fin1B rfl rfl rfl
  by_cases h5 : n2 < 1
  · repeat (first | refine go_ ?_ | refine bx_ (fun _ => ?_) | refine hl_callv rfl rfl (anchor_fn) ?_)
    exact fin1B rfl rfl rfl
  by_cases h6 : 50 < n2
  · repeat (first | refine go_ ?_ | refine bx_ (fun _ => ?_) | refine hl_callv rfl rfl (anchor_fn) ?_)
    exact fin1B rfl rfl rfl
  obtain ⟨k0, rfl⟩ := Int.eq_ofNat_of_zero_le (show 0 ≤ at0 by omega)
  have hw : Ed.wf ⟨f10 f, P, S, f6 m, Q⟩ := ⟨wf, wP, wS, wm, wQ, rfl, rfl, by dsimp only; omega, by dsimp only; omega, by dsimp only; omega⟩
  obtain ⟨hlen, hpos⟩ := length_put_le hw (by omega) (by omega) (by omega)
  have hmne : more ≠ [] := fun h => by rw [h] at eM; simp at eM; omega
  have hcut := getE_cut hw (Nat.mod_lt k0 hpos)
  have hmore := getE_more hw hmne
  have hinj := fun (e' : Ed) (h' : e'.wf) => put_inj hw h'
  obtain ⟨bt, hput⟩ : ∃ bt, Ed.put ⟨f10 f, P, S, f6 m, Q⟩ = bt := ⟨_, rfl⟩
  repeat (first | refine go_ ?_ | refine bx_ (fun _ => ?_) | refine hl_callv rfl rfl (anchor_fn) ?_)
  rename_i gE
  obtain ⟨eb, heb⟩ : ∃ eb : Ent, eb = ⟨gE, 27, edC f m (.slice pa pn pc) (.slice sa sn sc) (.slice qa qn qc), 19⟩ := ⟨_, rfl⟩
  refine HL.perm (H' := eb :: H) ?_ (by rw [heb]; exact List.Perm.refl _)
  have tx : ∀ (Y T : List Ent), Take (Y ++ (eb :: T)) ⟨gE, 27, edC f m (.slice pa pn pc) (.slice sa sn sc) (.slice qa qn qc), 19⟩ (Y ++ T) := fun Y T => by rw [heb]; exact Take.app Y .here
  refine hl_call rfl rfl (putEdit_fn (hP _) (hS _) (hQ _) hw) (fun v M o => ?_)
  rw [hput] at o hlen hpos hcut hmore hinj
  obtain ⟨ab, cb, rfl, hc1, hc2⟩ := o.form
  obtain ⟨Xb, hpb, hob⟩ := o.permE
  refine HL.perm ?_ hpb
  have bb : ∀ F, BytR w0 B (Xb ++ F) ab bt.length cb bt := fun F => BytR.own (hob F)
  obtain ⟨L, hL⟩ : ∃ L, L = bt.length := ⟨_, rfl⟩
  rw [← hL] at bb hlen hpos hcut hc1 ⊢
  have hmod : (k0 : Int) % (L : Int) = ((k0 % L : Nat) : Int) := by simp
  have hmlt := Nat.mod_lt k0 hpos
  repeat (first | refine go_ ?_ | refine bx_ (fun _ => ?_) | refine hl_sliceTo (j := k0 % L) rfl rfl hmod (by omega) rfl ?_)
  have bk := (bb (eb :: H)).take (k0 % L) (Nat.le_of_lt (Nat.mod_lt k0 hpos))
  refine hl_call rfl rfl (getEdit_fn bk (by have := Nat.mod_lt k0 hpos; omega)) (fun v M o => ?_)
  obtain ⟨f1, m1, pv1, sv1, qv1, P1, Q1, S1, Xp1, Xs1, Xq1, rfl, _, rfl, hop1, hos1, hoq1⟩ := o
  rw [hcut]
  obtain ⟨pa1, pc1, rfl, _, _⟩ := (hop1 []).form
  obtain ⟨sa1, sc1, rfl, _, _⟩ := (hos1 []).form
  obtain ⟨qa1, qc1, rfl, _, _⟩ := (hoq1 []).form
  refine HL.imp ?_ ((Imp.tail Xp1 _).trans ((Imp.tail Xs1 _).trans (Imp.tail Xq1 _)))
  repeat (first | refine go_ ?_ | refine bx_ (fun _ => ?_))
  rename_i g10
  refine hl_call rfl rfl (join_fn ((bb (eb :: H)).imp (Imp.drop (Imp.refl _))) (hm2 _) (by omega) (by omega)) (fun v M o => ?_)
  obtain ⟨aj, cj, rfl, _, _⟩ := o.form
  have bj := BytR.own (w0 := w0) (B := B) o
  have ij := o.imp
  repeat (first | refine go_ ?_ | refine bx_ (fun _ => ?_))
  refine hl_call rfl rfl (getEdit_fn bj (by omega)) (fun v M2 o2 => ?_)
  obtain ⟨f2, m2', pv2, sv2, qv2, P2, Q2, S2, Xp2, Xs2, Xq2, rfl, _, rfl, hop2, hos2, hoq2⟩ := o2
  rw [hmore]
  obtain ⟨pa2, pc2, rfl, _, _⟩ := (hop2 []).form
  obtain ⟨sa2, sc2, rfl, _, _⟩ := (hos2 []).form
  obtain ⟨qa2, qc2, rfl, _, _⟩ := (hoq2 []).form
  refine HL.imp (H' := Xb ++ (eb :: H)) ?_ ((Imp.tail Xp2 _).trans ((Imp.tail Xs2 _).trans ((Imp.tail Xq2 _).trans (ij.trans (Imp.drop (Imp.refl _))))))
  repeat (first | refine hl_loadW rfl (.there (tx _ _)) rfl rfl ?_ | refine go1_ ?_ | refine bx_ (fun _ => ?_))
  rename_i g12 gx
  obtain ⟨T1, hT1⟩ : ∃ T1, T1 = ⟨g12, 27, edC f2 m2' (.slice pa2 P2.length pc2) (.slice sa2 S2.length sc2) (.slice qa2 Q2.length qc2), 19⟩ :: (Xb ++ (eb :: H)) := ⟨_, rfl⟩
  have bT : BytR w0 B T1 ab L cb bt := by rw [hT1]; exact (bb _).imp (Imp.drop (Imp.refl _))
  have tE : ∃ F, Take T1 ⟨gE, 27, edC f m (.slice pa pn pc) (.slice sa sn sc) (.slice qa qn qc), 19⟩ F := ⟨_, by rw [hT1]; exact .there (tx _ _)⟩
  obtain ⟨F, tE⟩ := tE
  refine HC.perm (H' := ⟨gx, 27, edC f m (.slice pa pn pc) (.slice sa sn sc) (.slice qa qn qc), 19⟩ :: T1) ?_ (by rw [hT1]; exact List.Perm.refl _)
  have w0f := wf (f 0) (by simp)
  have w3f := wf (f 3) (by simp)
  have w3m := wm (m 3) (by simp)
  refine hc_meet (fun fr M => ∃ (f' m' : Nat → Int) (qa' : Option Addr) (qn' qc' : Nat) (Q' : List Int) (T' : List Ent), M = ⟨gx, 27, edC f' m' (.slice pa pn pc) (.slice sa sn sc) (.slice qa' qn' qc'), 19⟩ :: T' ∧ Imp T' T1 ∧ (∀ e, NumR w0 B (e :: T') qa' qn' Q') ∧ Ed.wf ⟨f10 f', P, S, f6 m', Q'⟩ ∧ (⟨f10 f, P, S, f6 m, Q⟩ : Ed) ≠ ⟨f10 f', P, S, f6 m', Q'⟩ ∧ Q'.length ≤ 301 ∧
    Agr fr [(9, .slice ab L cb), (11, .int .i64 20), (13, .int .i64 25), (14, .pointer (some ⟨gx, 0, none⟩))]) ?_ ?_
  rotate_left
  · rintro fr M ⟨f', m', qa', qn', qc', Q', T', rfl, iT, nQ, hw', hne, hql, hff⟩
    obtain ⟨base, rfl⟩ := hff.out
    clear hff
    obtain ⟨hlen', _⟩ := length_put_le hw' (by omega) (by omega) (by omega)
    have hne2 : bt ≠ Ed.put ⟨f10 f', P, S, f6 m', Q'⟩ := fun h => hne (hinj _ hw' h)
    repeat (first | refine go_ ?_ | refine bx_ (fun _ => ?_))
    refine hl_call rfl rfl (putEdit_fn (hP _) (hS _) (nQ _) hw') (fun v M o => ?_)
    obtain ⟨a7, c7, rfl, _, _⟩ := o.form
    have S7 := same_fn ((bT.imp iT).imp ((Imp.drop (Imp.refl _) : Imp (⟨gx, 27, edC f' m' (.slice pa pn pc) (.slice sa sn sc) (.slice qa' qn' qc'), 19⟩ :: T') T')) |>.imp o.imp) (BytR.own (w0 := w0) (B := B) o) (by omega)
    rw [decide_eq_false hne2] at S7
    repeat (first | refine go_ ?_ | refine bx_ (fun _ => ?_) | refine hl_callv rfl rfl (S7) ?_)
    exact fin1B rfl rfl rfl
  by_cases hk0 : which = 0
  · subst hk0
    obtain ⟨x1, x2⟩ := xor_one w0f
    repeat (first | refine go_ ?_ | refine bx_ (fun _ => ?_))
    refine ⟨fun i => if i = 0 then bits .xor .i64 (f 0) 1 else f i, m, qa, qn, qc, Q, T1, rfl, Imp.refl _, fun e => hQ _, ⟨fun n hn => ?_, wP, wS, wm, wQ, rfl, rfl, by dsimp only; omega, by dsimp only; omega, by dsimp only; omega⟩, fun h => ?_, by omega, rfl, rfl, rfl, rfl, trivial⟩
    · have hn : n ∈ [bits .xor .i64 (f 0) 1, f 1, f 2, f 3, f 4, f 5, f 6, f 7, f 8, f 9] := hn
      rcases List.mem_cons.1 hn with rfl | hn
      · exact x2
      · exact wf n (List.mem_cons.2 (.inr hn))
    · have := congrArg (fun e => e.f.getD 0 0) h
      exact x1 this.symm
  rw [decide_eq_false hk0]
  by_cases hk1 : which = 1
  · subst hk1
    obtain ⟨x1, x2⟩ := xor_one w3f
    repeat (first | refine go_ ?_ | refine bx_ (fun _ => ?_))
    refine ⟨fun i => if i = 3 then bits .xor .i64 (f 3) 1 else f i, m, qa, qn, qc, Q, T1, rfl, Imp.refl _, fun e => hQ _, ⟨fun n hn => ?_, wP, wS, wm, wQ, rfl, rfl, by dsimp only; omega, by dsimp only; omega, by dsimp only; omega⟩, fun h => ?_, by omega, rfl, rfl, rfl, rfl, trivial⟩
    · have hn : n ∈ [f 0, f 1, f 2, bits .xor .i64 (f 3) 1, f 4, f 5, f 6, f 7, f 8, f 9] := hn
      simp only [List.mem_cons, List.not_mem_nil, or_false] at hn
      rcases hn with rfl | rfl | rfl | rfl | rfl | rfl | rfl | rfl | rfl | rfl <;> first | exact x2 | exact wf _ (by simp)
    · have := congrArg (fun e => e.f.getD 3 0) h
      exact x1 this.symm
  by_cases hk2 : which = 2
  · subst hk2
    obtain ⟨x1, x2⟩ := xor_one w3m
    repeat (first | refine go_ ?_ | refine bx_ (fun _ => ?_))
    refine ⟨f, fun i => if i = 3 then bits .xor .i64 (m 3) 1 else m i, qa, qn, qc, Q, T1, rfl, Imp.refl _, fun e => hQ _, ⟨wf, wP, wS, fun n hn => ?_, wQ, rfl, rfl, by dsimp only; omega, by dsimp only; omega, by dsimp only; omega⟩, fun h => ?_, by omega, rfl, rfl, rfl, rfl, trivial⟩
    · have hn : n ∈ [m 0, m 1, m 2, bits .xor .i64 (m 3) 1, m 4, m 5] := hn
      simp only [List.mem_cons, List.not_mem_nil, or_false] at hn
      rcases hn with rfl | rfl | rfl | rfl | rfl | rfl <;> first | exact x2 | exact wm _ (by simp)
    · have := congrArg (fun e => e.m.getD 3 0) h
      exact x1 this.symm
  · repeat (first | refine hl_load1 rfl (.there (.there tE)) rfl rfl ?_ | refine go1_ ?_ | refine bx_ (fun _ => ?_))
    have rQ := (hQ (⟨gx, 27, edC f m (.slice pa pn pc) (.slice sa sn sc) (.slice qa qn qc), 19⟩ :: T1)).rd
    refine hl_append rfl rfl .here rfl rQ.under (by rw [List.length_map, eQ]; exact (Nat.mul_one _).symm) rfl (by decide) (by decide) (by omega) (by omega) rfl (fun g1 c1 k1 k2 => ?_)
    rw [List.nil_append, Nat.zero_add] at *
    repeat (first | refine go_ ?_ | refine bx_ (fun _ => ?_))
    rename_i gz
    refine hl_append (n := qn) rfl rfl (.there .here) (by rw [List.length_map, eQ]; exact (Nat.mul_one _).symm) (Rds.ent (n := 1) (l := [.int .i64 0]) .here rfl (by simp [Value.oneCell'])) rfl rfl (by decide) (by omega) (by omega) (by omega) rfl (fun g3 c3 k3 k4 => ?_)
    repeat (first | refine go_ ?_ | refine bx_ (fun _ => ?_))
    refine ⟨f, m, some ⟨g3, 0, none⟩, qn + 1, c3, Q ++ [0], ⟨g3, 3, Q.map iV ++ [.int .i64 0], c3 * 1⟩ :: ⟨gz, 3, [.int .i64 0], 1 * 1⟩ :: T1, rfl, Imp.drop (Imp.drop (Imp.refl _)), fun e => NumR.ent (n := qn + 1) (i := 0) (.there .here) ?_ (by simp [eQ]), ⟨wf, wP, wS, wm, fun n hn => ?_, rfl, rfl, by dsimp only; omega, by dsimp only; omega, by dsimp only; rw [List.length_append]; simp; omega⟩, fun h => ?_, by rw [List.length_append]; simp; omega, rfl, rfl, rfl, rfl, trivial⟩
    · rw [List.drop_zero, List.map_append, List.take_of_length_le (by simp [eQ])]
      rfl
    · rcases List.mem_append.1 hn with hn | hn
      · exact wQ n hn
      · rw [List.mem_singleton.1 hn]; exact i64s (by omega)
    · have := congrArg (fun e => e.Q.length) h
      simp at this
theorem walk (x : EdA) (at0 : Int) (a2 : Option Addr) (n2 c2 : Nat) (more : List UInt8) (which : Int) (w : World) (hx : x.wf w) (hat : -9223372036854775808 ≤ at0 ∧ at0 ≤ 9223372036854775807) (hl : Sl byteV w a2 n2 c2 more) (hwh : -9223372036854775808 ≤ which ∧ which ≤ 9223372036854775807) :
    Calls Try.prog 6 #[x.v, .int .i64 at0, .slice a2 n2 c2, .int .i64 which] w fun e w' => e = .returned (.bool true) ∧ Below w.heap.size w w' :=
  calls_of_fn (law (fun E => numR_of (Nat.le_refl _) hx.P.1) (fun E => ptR_of (Nat.le_refl _) hx.S.1) (fun E => numR_of (Nat.le_refl _) hx.Q.1) hx.f hx.m hx.P.2 hx.S.2 hx.Q.2 at0 hat (fun E => BytR.of (Nat.le_refl _) hl) which hwh) fun _ _ h => h

/-! The step to the statement (written by program). -/
open Go.ChangeShapes Go.WideShapes Go.ChangeAt
set_option maxRecDepth 100000 in
theorem lifted (os : Os) (started : os.Started) (H : Type) (enc : TypeId × Value → H) :
    ReturnsInHanded {} Try.checked os 6 .any (Rows.packCutsSpec.pre6 enc Try.prog Try.f6 Rows.packCutsRow.domain false) (Rows.packCutsSpec.post enc Try.prog Try.f6 false true false false) := by
  refine returnsInHanded_of_change (C := Try.checked) own started (by kernel_rfl) Try.func6
    (ChangeSpec.witness6 (enc := enc) (C := Try.checked) false ⟨#[], #[.agg #[.int .i64 0, .int .i64 0, .int .i64 0, .int .i64 0, .int .i64 0, .int .i64 0, .int .i64 0, .int .i64 0, .int .i64 0, .int .i64 0, .slice none 0 0, .slice none 0 0, .int .i64 0, .int .i64 0, .int .i64 0, .int .i64 0, .int .i64 0, .int .i64 0, .slice none 0 0], .int .i64 0, .slice none 0 0, .int .i64 0], []⟩ 8 (by kernel_rfl) (by kernel_rfl) (by kernel_rfl) (by kernel_rfl)) ?_
  intro W base args ds gs before hval0 hW hcnd _
  have hval : ∀ (j : Nat) t v, Try.f6.params[j]? = some t → args[j]? = some v → Value.okWide Try.prog W .any base t v := hval0
  have hW' := hW
  obtain ⟨p, q, hA0, hV, rfl, hfz, hnd⟩ := hW
  have hA : DataW.TrodAll enc Try.prog W 0 (fun _ => true) true Try.f6.params.toList args.toList ds p := hA0
  rw [Try.params6] at hA hval
  obtain ⟨v0, vs0, d0, ds0, p0, q0, hargs, rfl, rfl, h0, r0⟩ := trodAll_cons hA
  obtain ⟨v1, vs1, d1, ds1, p1, q1, rfl, rfl, rfl, h1, r1⟩ := trodAll_cons r0
  obtain ⟨v2, vs2, d2, ds2, p2, q2, rfl, rfl, rfl, h2, r2⟩ := trodAll_cons r1
  obtain ⟨v3, vs3, d3, ds3, p3, q3, rfl, rfl, rfl, h3, r3⟩ := trodAll_cons r2
  obtain ⟨rfl, rfl, rfl⟩ := trodAll_nil r3
  obtain rfl : args = #[v0, v1, v2, v3] := by cases args; simp_all
  obtain ⟨rfl, rfl⟩ := trodVars_none hV
  have k0 := h0
  have lt0 : ∀ x ∈ p0, x.block < W.heap.size := by obtain ⟨m, hm⟩ := k0; exact DataW.trod_lt m _ _ _ hm
  obtain ⟨a0, rfl, w0⟩ := open_edit (hval 0 27 v0 rfl rfl) k0
  have k1 := h1
  have lt1 : ∀ x ∈ p1, x.block < W.heap.size := by obtain ⟨m, hm⟩ := k1; exact DataW.trod_lt m _ _ _ hm
  obtain ⟨a1, rfl, _, _, w1⟩ := open_int Try.underlying3 (hval 1 3 v1 rfl rfl) h1
  have w1 := wf_i64 w1
  have k2 := h2
  have lt2 : ∀ x ∈ p2, x.block < W.heap.size := by obtain ⟨m, hm⟩ := k2; exact DataW.trod_lt m _ _ _ hm
  obtain ⟨a2, len2, cap2, e2⟩ := okWide_slice Try.underlying29 (hval 2 29 v2 rfl rfl)
  obtain ⟨l2, w2⟩ := open_bytes Try.underlying29 Try.underlying5 (by kernel_rfl) e2 k2
  subst e2
  have k3 := h3
  have lt3 : ∀ x ∈ p3, x.block < W.heap.size := by obtain ⟨m, hm⟩ := k3; exact DataW.trod_lt m _ _ _ hm
  obtain ⟨a3, rfl, _, _, w3⟩ := open_int Try.underlying3 (hval 3 3 v3 rfl rfl) h3
  have w3 := wf_i64 w3
  clear hA0 hval0
  refine (walk a0 a1 a2 len2 cap2 l2 a3 W w0 w1 w2 w3).mono fun e W' ⟨he, bel⟩ => ?_
  subst he
  exact ⟨_, rfl, _, _, _, [], _, [], hW', trodAll_mk1 (shut_bool Try.underlying4 _), (trodAll_cons_mk (Below.trod laidOut (by kernel_rfl) (of_decide_eq_true (by kernel_rfl)) k0 bel lt0) (trodAll_cons_mk (Below.trod laidOut (by kernel_rfl) (of_decide_eq_true (by kernel_rfl)) k1 bel lt1) (trodAll_cons_mk (Below.trod laidOut (by kernel_rfl) (of_decide_eq_true (by kernel_rfl)) k2 bel lt2) (trodAll_cons_mk (Below.trod laidOut (by kernel_rfl) (of_decide_eq_true (by kernel_rfl)) k3 bel lt3) trodAll_mk0)))), rfl, bel.frame _, fun h => by cases h⟩

theorem over : Rows.packCutsRow.holds Try.pinned (OpenSpec.ofChange Rows.packCutsSpec) :=
  OpenClaim.holds_of_wide 6 Try.f6 rfl rfl rfl rfl rfl rfl rfl ⟨rfl, rfl, rfl, rfl, rfl⟩ rfl rfl rfl rfl rfl (by kernel_rfl) Try.func6 (by kernel_rfl)
    (of_decide_eq_true (by kernel_rfl)) (by unfold Func.isWrapper; first | (rw [if_pos (by decide +kernel)]; kernel_rfl) | (rw [if_neg (by decide +kernel)]; exact ⟨rfl, rfl⟩))
    (fun os started H enc _ => lifted os started H enc)

/-- The statement. -/
theorem proved : Rows.PackCutsSaid := over
#print axioms proved
end Go.Proofs.Ytoobhebbgbhahaa.packCuts
