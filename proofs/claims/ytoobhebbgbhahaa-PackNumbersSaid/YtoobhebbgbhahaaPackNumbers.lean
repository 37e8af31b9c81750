/-
  PackNumbers. No condition.
-/
import Derived.Test.YtoobhebbgbhahaaPI
namespace Go.Proofs.Ytoobhebbgbhahaa.packNumbers
open Go.RowKit
def E1 (n m : Int) : Ed := ⟨[n, m, 0, 0, 0, 0, 0, 0, 0, 0], [], [], [0, 0, 0, 0, 0, 0], []⟩
theorem E1_wf {n m : Int} (hn : I64 n) (hm : I64 m) : (E1 n m).wf := by
  refine ⟨?_, by simp [E1], by simp [E1], ?_, by simp [E1], rfl, rfl, by simp [E1], by simp [E1], by simp [E1]⟩
  · intro k hk
    simp only [E1, List.mem_cons, List.not_mem_nil, or_false] at hk
    rcases hk with rfl | rfl | rfl | rfl | rfl | rfl | rfl | rfl | rfl | rfl <;> first | assumption | exact i64s (by omega)
  · intro k hk
    simp only [E1, List.mem_cons, List.not_mem_nil, or_false] at hk
    exact i64s (by omega)
theorem E1_put (n m : Int) : ∃ t, (E1 n m).put = (numB n ++ numB m) ++ t := by
  refine ⟨numsB [0, 0, 0, 0, 0, 0, 0, 0] ++ (lstB [] ++ (numB ((([] : List Pt).length : Nat) : Int) ++ (ptsB [] ++ (numsB [0, 0, 0, 0, 0, 0] ++ lstB [])))), ?_⟩
  have h : (E1 n m).put = (numB n ++ (numB m ++ numsB [0, 0, 0, 0, 0, 0, 0, 0])) ++ (lstB [] ++ (numB ((([] : List Pt).length : Nat) : Int) ++ (ptsB [] ++ (numsB [0, 0, 0, 0, 0, 0] ++ lstB [])))) := rfl
  rw [h]
  simp only [List.append_assoc]
set_option maxHeartbeats 16000000 in
set_option maxRecDepth 100000 in
theorem law {w0 : World} {B : Nat} {H : List Ent} {n m : Int} (hn : I64 n) (hm : I64 m) :
    Fn Try.prog w0 B 5 [.int .i64 n, .int .i64 m] H (fun u _ => u = .bool true) := by
  refine fn_intro Try.func5 rfl (by kernel_rfl) rfl ?_
  repeat (first | refine go_ ?_ | refine bx_ (fun _ => ?_) | refine hl_callv rfl rfl (anchor_fn) ?_)
  have hw := E1_wf hn hm
  have hgp := getE_put hw
  obtain ⟨tl, htl⟩ := E1_put n m
  have C := putEdit_fn (w0 := w0) (B := B) (H := H) (f := fun i => [n, m, 0, 0, 0, 0, 0, 0, 0, 0].getD i 0) (m := fun _ => 0) (pa := none) (pn := 0) (pc := 0) (sa := none) (sn := 0) (sc := 0) (qa := none) (qn := 0) (qc := 0) NumR.zero PtR.zero NumR.zero hw
  refine hl_call rfl rfl C (fun v M o => ?_)
  have o : Own 5 1 v (E1 n m).put.length ((E1 n m).put.map byteV) H M := o
  have hlB : (E1 n m).put.length ≤ 1000 := by
    have h1 := length_numsB_le hw.f
    have h2 := length_numsB_le hw.m
    have h3 := length_numB_le (n := 0) (i64s (by omega))
    have h4 : (E1 n m).put = numsB (E1 n m).f ++ (lstB [] ++ (numB 0 ++ (ptsB [] ++ (numsB (E1 n m).m ++ lstB [])))) := rfl
    have h5 : (lstB []).length = (numB 0).length := by simp [lstB, numsB]
    have h6 : (E1 n m).f.length = 10 := rfl
    have h7 : (E1 n m).m.length = 6 := rfl
    have h8 : (ptsB []).length = 0 := rfl
    rw [h4]
    simp only [List.length_append, h5, h8]
    omega
  have b1 := length_numB_le hn
  have b2 := length_numB_le hm
  obtain ⟨ab, cb, rfl, hc1, hc2⟩ := o.form
  obtain ⟨Xb, hpb, hob⟩ := o.permE
  refine HL.perm ?_ hpb
  have bb : ∀ F, BytR w0 B (Xb ++ F) ab (E1 n m).put.length cb (E1 n m).put := fun F => BytR.own (hob F)
  have hpl : (numB n ++ numB m).length ≤ (E1 n m).put.length := by have := congrArg List.length htl; rw [List.length_append] at this; omega
  have htk : (E1 n m).put.take (numB n ++ numB m).length = numB n ++ numB m := by rw [htl, List.take_left]
  have hln : (numB n ++ numB m).length = (numB n).length + (numB m).length := List.length_append
  generalize (E1 n m).put = bt at *
  repeat (first | refine go_ ?_ | refine bx_ (fun _ => ?_))
  refine hl_call rfl rfl (rnum_fn hn) (fun v M o => ?_)
  obtain ⟨a1, c1, rfl, _, _⟩ := o.form
  obtain ⟨X1, hp1, ho1⟩ := o.permE
  refine HL.perm ?_ hp1
  repeat (first | refine go_ ?_ | refine bx_ (fun _ => ?_))
  refine hl_call rfl rfl (rnum_fn hm) (fun v M o => ?_)
  obtain ⟨a2, c2, rfl, _, _⟩ := o.form
  obtain ⟨X2, hp2, ho2⟩ := o.permE
  repeat (first | refine go_ ?_ | refine bx_ (fun _ => ?_))
  refine hl_join rfl rfl rfl ho1 ho2 hp2 rfl (by omega) rfl (fun a3 c3 X3 ho3 => ?_)
  have b3 : BytR w0 B (X3 ++ (Xb ++ H)) a3 ((numB n).length + (numB m).length) c3 (numB n ++ numB m) := by
    have := ho3 (Xb ++ H)
    exact BytR.own this
  have b4 := ((bb H).imp (Imp.tail X3 _)).take (numB n ++ numB m).length hpl
  rw [htk, hln] at b4
  rw [hln] at hpl
  have S := same_fn b4 b3 (by omega)
  rw [decide_eq_true rfl] at S
  repeat (first | refine go_ ?_ | refine bx_ (fun _ => ?_) | refine hl_sliceTo (j := (numB n).length + (numB m).length) rfl rfl rfl (by omega) rfl ?_ | refine hl_callv rfl rfl (S) ?_)
  refine hl_call rfl rfl (getEdit_fn ((bb H).imp (Imp.tail X3 _)) (by omega)) (fun v M o => ?_)
  obtain ⟨f, m', pv, sv, qv, P, Q, S', Xp, Xs, Xq, rfl, hE, rfl, hop, hos, hoq⟩ := o
  rw [hgp] at hE ⊢
  dsimp only at hE ⊢
  have hf := congrArg Ed.f hE
  have hf0 : f 0 = n := by have := congrArg (fun l => l.getD 0 0) hf; exact this.symm
  have hf1 : f 1 = m := by have := congrArg (fun l => l.getD 1 0) hf; exact this.symm
  obtain ⟨pa, pc, rfl, _, _⟩ := (hop []).form
  obtain ⟨sa, sc, rfl, _, _⟩ := (hos []).form
  obtain ⟨qa, qc, rfl, _, _⟩ := (hoq []).form
  repeat (first | refine go_ ?_ | refine bx_ (fun _ => ?_))
  exact fin1B rfl rfl rfl
theorem walk (n m : Int) (w : World) (hn : -9223372036854775808 ≤ n ∧ n ≤ 9223372036854775807) (hm : -9223372036854775808 ≤ m ∧ m ≤ 9223372036854775807) :
    Calls Try.prog 5 #[.int .i64 n, .int .i64 m] w fun e w' => e = .returned (.bool true) ∧ Below w.heap.size w w' :=
  calls_of_fn (law hn hm) fun _ _ h => h

/-! The step to the statement (written by program). -/
open Go.ChangeShapes Go.WideShapes Go.ChangeAt
set_option maxRecDepth 100000 in
theorem lifted (os : Os) (started : os.Started) (H : Type) (enc : TypeId × Value → H) :
    ReturnsInHanded {} Try.checked os 5 .any (Rows.packNumbersSpec.pre6 enc Try.prog Try.f5 Rows.packNumbersRow.domain false) (Rows.packNumbersSpec.post enc Try.prog Try.f5 false true false false) := by
  refine returnsInHanded_of_change (C := Try.checked) own started (by kernel_rfl) Try.func5
    (ChangeSpec.witness6 (enc := enc) (C := Try.checked) false ⟨#[], #[.int .i64 0, .int .i64 0], []⟩ 8 (by kernel_rfl) (by kernel_rfl) (by kernel_rfl) (by kernel_rfl)) ?_
  intro W base args ds gs before hval0 hW hcnd _
  have hval : ∀ (j : Nat) t v, Try.f5.params[j]? = some t → args[j]? = some v → Value.okWide Try.prog W .any base t v := hval0
  have hW' := hW
  obtain ⟨p, q, hA0, hV, rfl, hfz, hnd⟩ := hW
  have hA : DataW.TrodAll enc Try.prog W 0 (fun _ => true) true Try.f5.params.toList args.toList ds p := hA0
  rw [Try.params5] at hA hval
  obtain ⟨v0, vs0, d0, ds0, p0, q0, hargs, rfl, rfl, h0, r0⟩ := trodAll_cons hA
  obtain ⟨v1, vs1, d1, ds1, p1, q1, rfl, rfl, rfl, h1, r1⟩ := trodAll_cons r0
  obtain ⟨rfl, rfl, rfl⟩ := trodAll_nil r1
  obtain rfl : args = #[v0, v1] := by cases args; simp_all
  obtain ⟨rfl, rfl⟩ := trodVars_none hV
  have k0 := h0
  have lt0 : ∀ x ∈ p0, x.block < W.heap.size := by obtain ⟨m, hm⟩ := k0; exact DataW.trod_lt m _ _ _ hm
  obtain ⟨a0, rfl, _, _, w0⟩ := open_int Try.underlying3 (hval 0 3 v0 rfl rfl) h0
  have w0 := wf_i64 w0
  have k1 := h1
  have lt1 : ∀ x ∈ p1, x.block < W.heap.size := by obtain ⟨m, hm⟩ := k1; exact DataW.trod_lt m _ _ _ hm
  obtain ⟨a1, rfl, _, _, w1⟩ := open_int Try.underlying3 (hval 1 3 v1 rfl rfl) h1
  have w1 := wf_i64 w1
  clear hA0 hval0
  refine (walk a0 a1 W w0 w1).mono fun e W' ⟨he, bel⟩ => ?_
  subst he
  exact ⟨_, rfl, _, _, _, [], _, [], hW', trodAll_mk1 (shut_bool Try.underlying4 _), (trodAll_cons_mk (Below.trod laidOut (by kernel_rfl) (of_decide_eq_true (by kernel_rfl)) k0 bel lt0) (trodAll_cons_mk (Below.trod laidOut (by kernel_rfl) (of_decide_eq_true (by kernel_rfl)) k1 bel lt1) trodAll_mk0)), rfl, bel.frame _, fun h => by cases h⟩

theorem over : Rows.packNumbersRow.holds Try.pinned (OpenSpec.ofChange Rows.packNumbersSpec) :=
  OpenClaim.holds_of_wide 5 Try.f5 rfl rfl rfl rfl rfl rfl rfl ⟨rfl, rfl, rfl, rfl, rfl⟩ rfl rfl rfl rfl rfl (by kernel_rfl) Try.func5 (by kernel_rfl)
    (of_decide_eq_true (by kernel_rfl)) (by unfold Func.isWrapper; first | (rw [if_pos (by decide +kernel)]; kernel_rfl) | (rw [if_neg (by decide +kernel)]; exact ⟨rfl, rfl⟩))
    (fun os started H enc _ => lifted os started H enc)

/-- The statement. -/
theorem proved : Rows.PackNumbersSaid := over
#print axioms proved
end Go.Proofs.Ytoobhebbgbhahaa.packNumbers
