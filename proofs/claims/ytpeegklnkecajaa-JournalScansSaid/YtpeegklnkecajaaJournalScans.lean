/-
  JournalScans. No condition.
-/
import Derived.Test.YtpeegklnkecajaaC7
import Derived.Test.YtpeegklnkecajaaOpen
namespace Go.Proofs.Ytpeegklnkecajaa.journalScans
open Go.RowKit
set_option maxHeartbeats 8000000 in
set_option maxRecDepth 100000 in
theorem law {w0 : World} {B : Nat} {H : List Ent} {a a2 : Option Addr} {len cap n2 c2 : Nat} {b py : List UInt8} (hb : ∀ E, BytR w0 B E a len cap b) (hp : ∀ E, BytR w0 B E a2 n2 c2 py) :
    Fn Try.prog w0 B 3 [.slice a len cap, .slice a2 n2 c2] H (fun u _ => u = .bool true) := by
  have e1 := (hb H).le
  have e2 := (hb H).small
  have e3 := (hp H).le
  have e4 := (hp H).small
  refine fn_intro Try.func3 rfl (by kernel_rfl) rfl ?_
  by_cases h1 : 3000 < len
  · repeat (first | refine go_ ?_ | refine bx_ (fun _ => ?_) | refine hl_callv rfl rfl (anchor_fn) ?_)
    exact fin1B rfl rfl rfl
  by_cases h2 : 3000 < n2
  · repeat (first | refine go_ ?_ | refine bx_ (fun _ => ?_) | refine hl_callv rfl rfl (anchor_fn) ?_)
    exact fin1B rfl rfl rfl
  repeat (first | refine go_ ?_ | refine bx_ (fun _ => ?_) | refine hl_callv rfl rfl (anchor_fn) ?_)
  refine hl_call rfl rfl (scan_fn (hb _) (by omega)) (fun v M1 o1 => ?_)
  obtain ⟨sv, ps, Xo, Zc, rfl, hM1, hm1, hpm⟩ := o1
  obtain ⟨a5, c5, rfl, _, hr⟩ := hpm.read
  have p1 : PartsR w0 B M1 a5 ps.length ps := by rw [hM1, ← List.append_assoc]; exact hr H
  clear hM1
  obtain ⟨hb1, hb2⟩ := scan_ps hm1 p1.each
  have hbl := (hb H).eq
  repeat (first | refine go_ ?_ | refine bx_ (fun _ => ?_))
  refine hl_call rfl rfl (rscan_fn (hb _) (by omega)) (fun v M2 o2 => ?_)
  obtain ⟨sv2, qs, Xo2, rfl, rfl, hm2, ho2, hq⟩ := o2
  obtain ⟨a6, c6, rfl, hc6, _⟩ := (ho2 []).form
  have p2 := PartsR.ofOwn (ho2 M1) hq
  repeat (first | refine go_ ?_ | refine bx_ (fun _ => ?_))
  refine hl_call rfl rfl (record_fn (hp _) (by omega)) (fun v M3 o3 => ?_)
  obtain ⟨sv3, rfl, o3⟩ := o3
  obtain ⟨a7, c7, rfl, _, _⟩ := o3.form
  have S := psame_fn (c := c5) (c2 := c6) ((p1.imp (Imp.tail Xo2 M1)).imp o3.imp) (p2.imp o3.imp) (by omega) (fun p hp => by have := hb2 p hp; omega)
  rw [decide_eq_true (by rw [hm1, hm2])] at S
  repeat (first | refine go_ ?_ | refine bx_ (fun _ => ?_) | refine hl_callv rfl rfl (S) ?_)
  refine hl_call rfl rfl (rrecord_fn (hp _) (by omega)) (fun v M4 o4 => ?_)
  obtain ⟨a8, c8, rfl, _, _⟩ := o4.form
  have S2 := same_fn ((BytR.own (w0 := w0) (B := B) o3).imp o4.imp) (BytR.own o4) (by omega)
  rw [decide_eq_true rfl] at S2
  repeat (first | refine go_ ?_ | refine bx_ (fun _ => ?_) | refine hl_callv rfl rfl (S2) ?_)
  exact fin1B rfl rfl rfl
theorem walk (a : Option Addr) (len cap : Nat) (l : List UInt8) (a2 : Option Addr) (len2 cap2 : Nat) (l2 : List UInt8) (w : World) (hl : Sl byteV w a len cap l) (hl2 : Sl byteV w a2 len2 cap2 l2) :
    Calls Try.prog 3 #[.slice a len cap, .slice a2 len2 cap2] w fun e w' => e = .returned (.bool true) ∧ Below w.heap.size w w' :=
  calls_of_fn (law (fun E => BytR.of (Nat.le_refl _) hl) (fun E => BytR.of (Nat.le_refl _) hl2)) fun _ _ h => h

/-! The step to the statement (written by program). -/
open Go.ChangeShapes Go.WideShapes Go.ChangeAt
set_option maxRecDepth 100000 in
theorem lifted (os : Os) (started : os.Started) (H : Type) (enc : TypeId × Value → H) :
    ReturnsInHanded {} Try.checked os 3 .any (Rows.journalScansSpec.pre6 enc Try.prog Try.f3 Rows.journalScansRow.domain false) (Rows.journalScansSpec.post enc Try.prog Try.f3 false true false false) := by
  refine returnsInHanded_of_change (C := Try.checked) own started (by kernel_rfl) Try.func3
    (ChangeSpec.witness6 (enc := enc) (C := Try.checked) false ⟨#[], #[.slice none 0 0, .slice none 0 0], []⟩ 8 (by kernel_rfl) (by kernel_rfl) (by kernel_rfl) (by kernel_rfl)) ?_
  intro W base args ds gs before hval0 hW hcnd _
  have hval : ∀ (j : Nat) t v, Try.f3.params[j]? = some t → args[j]? = some v → Value.okWide Try.prog W .any base t v := hval0
  have hW' := hW
  obtain ⟨p, q, hA0, hV, rfl, hfz, hnd⟩ := hW
  have hA : DataW.TrodAll enc Try.prog W 0 (fun _ => true) true Try.f3.params.toList args.toList ds p := hA0
  rw [Try.params3] at hA hval
  obtain ⟨v0, vs0, d0, ds0, p0, q0, hargs, rfl, rfl, h0, r0⟩ := trodAll_cons hA
  obtain ⟨v1, vs1, d1, ds1, p1, q1, rfl, rfl, rfl, h1, r1⟩ := trodAll_cons r0
  obtain ⟨rfl, rfl, rfl⟩ := trodAll_nil r1
  obtain rfl : args = #[v0, v1] := by cases args; simp_all
  obtain ⟨rfl, rfl⟩ := trodVars_none hV
  have k0 := h0
  have lt0 : ∀ x ∈ p0, x.block < W.heap.size := by obtain ⟨m, hm⟩ := k0; exact DataW.trod_lt m _ _ _ hm
  obtain ⟨a0, len0, cap0, e0⟩ := okWide_slice Try.underlying22 (hval 0 22 v0 rfl rfl)
  obtain ⟨l0, w0⟩ := open_bytes Try.underlying22 Try.underlying5 (by kernel_rfl) e0 k0
  subst e0
  have k1 := h1
  have lt1 : ∀ x ∈ p1, x.block < W.heap.size := by obtain ⟨m, hm⟩ := k1; exact DataW.trod_lt m _ _ _ hm
  obtain ⟨a1, len1, cap1, e1⟩ := okWide_slice Try.underlying22 (hval 1 22 v1 rfl rfl)
  obtain ⟨l1, w1⟩ := open_bytes Try.underlying22 Try.underlying5 (by kernel_rfl) e1 k1
  subst e1
  clear hA0 hval0
  refine (walk a0 len0 cap0 l0 a1 len1 cap1 l1 W w0 w1).mono fun e W' ⟨he, bel⟩ => ?_
  subst he
  exact ⟨_, rfl, _, _, _, [], _, [], hW', trodAll_mk1 (shut_bool Try.underlying4 _), (trodAll_cons_mk (Below.trod laidOut (by kernel_rfl) (of_decide_eq_true (by kernel_rfl)) k0 bel lt0) (trodAll_cons_mk (Below.trod laidOut (by kernel_rfl) (of_decide_eq_true (by kernel_rfl)) k1 bel lt1) trodAll_mk0)), rfl, bel.frame _, fun h => by cases h⟩

theorem over : Rows.journalScansRow.holds Try.pinned (OpenSpec.ofChange Rows.journalScansSpec) :=
  OpenClaim.holds_of_wide 3 Try.f3 rfl rfl rfl rfl rfl rfl rfl ⟨rfl, rfl, rfl, rfl, rfl⟩ rfl rfl rfl rfl rfl (by kernel_rfl) Try.func3 (by kernel_rfl)
    (of_decide_eq_true (by kernel_rfl)) (by unfold Func.isWrapper; first | (rw [if_pos (by decide +kernel)]; kernel_rfl) | (rw [if_neg (by decide +kernel)]; exact ⟨rfl, rfl⟩))
    (fun os started H enc _ => lifted os started H enc)

/-- The statement. -/
theorem proved : Rows.JournalScansSaid := over
#print axioms proved
end Go.Proofs.Ytpeegklnkecajaa.journalScans
