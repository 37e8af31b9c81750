/-
  LzLimits. No condition.
-/
import Derived.Test.YtabaagelgfdkeaaL4
import Derived.Test.YtabaagelgfdkeaaOpen
namespace Go.Proofs.Ytabaagelgfdkeaa.lzLimits
open Go.RowKit
set_option maxHeartbeats 8000000 in
set_option maxRecDepth 100000 in
theorem law {w0 : World} {B : Nat} {H : List Ent} (hB : w0.heap.size ≤ B) {a : Option Addr} {len cap : Nat} {l : List UInt8} (hl : Sl byteV w0 a len cap l) (eff : Int) (he : -9223372036854775808 ≤ eff ∧ eff ≤ 9223372036854775807) (less : Int) (hs : -9223372036854775808 ≤ less ∧ less ≤ 9223372036854775807) :
    Fn Try.prog w0 B 6 [.slice a len cap, .int .i64 eff, .int .i64 less] H (fun u _ => u = .bool true) := by
  have e1 := hl.size_eq
  have e3 := hl.le
  have b1 : ∀ E, BArg w0 B E a len l := fun E => BArg.sl hB hl
  have r1 : ∀ E, Rds w0 B E a (l.map byteV) := fun E => Rds.sl (c := ⟨Try.prog, 0, w0, B⟩) hl hB (by simp [Value.oneCell', byteV])
  refine fn_intro Try.func6 rfl (by kernel_rfl) rfl ?_
  by_cases h1 : 3000 < len
  · repeat (first | refine go_ ?_ | refine bx_ (fun _ => ?_) | refine hl_callv rfl rfl (anchor_fn) ?_)
    exact fin1B rfl rfl rfl
  by_cases h2 : less < 0
  · repeat (first | refine go_ ?_ | refine bx_ (fun _ => ?_) | refine hl_callv rfl rfl (anchor_fn) ?_)
    exact fin1B rfl rfl rfl
  by_cases h3 : (len : Int) < less
  · repeat (first | refine go_ ?_ | refine bx_ (fun _ => ?_) | refine hl_callv rfl rfl (anchor_fn) ?_)
    exact fin1B rfl rfl rfl
  repeat (first | refine go_ ?_ | refine bx_ (fun _ => ?_) | refine hl_callv rfl rfl (anchor_fn) ?_)
  refine hl_call rfl rfl (find_fn (b1 _) e3 (by omega) eff he.2) (fun v M o => ?_)
  obtain ⟨ta, tc, rfl, _, _⟩ := o.form
  have hlt := length_tk l eff
  repeat (first | refine go_ ?_ | refine bx_ (fun _ => ?_))
  refine hl_call rfl rfl (bytes_fn rfl (fun h0 => by obtain ⟨g, c, e, _⟩ := o.posn h0; cases e; exact ⟨_, _, rfl⟩) (o.rds (c := ⟨Try.prog, 0, w0, B⟩) (one_toks _)) (wf_tk l eff (by omega)) (by omega) ((len : Int) - less) (by omega)) (fun v M2 o2 => ?_)
  obtain ⟨sv, rfl, o2⟩ := o2
  rw [lzB_tk l eff _ (by omega)] at o2 ⊢
  by_cases h0 : less = 0
  · rw [if_pos (by omega)] at o2 ⊢
    dsimp only at o2 ⊢
    obtain ⟨sa, sc, rfl, _, _⟩ := o2.form
    have r2 : Rds w0 B M2 _ _ := o2.rds (c := ⟨Try.prog, 0, w0, B⟩) (by simp [Value.oneCell', byteV])
    subst e1
    repeat (first | refine go_ ?_ | refine bx_ (fun _ => ?_))
    refine hl_convStr rfl r2 rfl ?_
    repeat (first | refine go_ ?_ | refine bx_ (fun _ => ?_))
    refine hl_convStr rfl (r1 _) rfl ?_
    repeat (first | refine go_ ?_ | refine bx_ (fun _ => ?_) | refine hl_strEqT rfl rfl rfl rfl ?_)
    exact fin1B rfl rfl rfl
  · rw [if_neg (by omega)] at o2 ⊢
    dsimp only at o2 ⊢
    obtain ⟨sa, sc, rfl, _, _⟩ := o2.form
    repeat (first | refine go_ ?_ | refine bx_ (fun _ => ?_))
    exact fin1B rfl rfl rfl
theorem walk (a : Option Addr) (len cap : Nat) (l : List UInt8) (eff less : Int) (w : World) (hl : Sl byteV w a len cap l) (he : -9223372036854775808 ≤ eff ∧ eff ≤ 9223372036854775807) (hs : -9223372036854775808 ≤ less ∧ less ≤ 9223372036854775807) :
    Calls Try.prog 6 #[.slice a len cap, .int .i64 eff, .int .i64 less] w fun e w' => e = .returned (.bool true) ∧ Below w.heap.size w w' :=
  calls_of_fn (law (Nat.le_refl _) hl eff he less hs) fun _ _ h => h

/-! The step to the statement (written by program). -/
open Go.ChangeShapes Go.WideShapes Go.ChangeAt
set_option maxRecDepth 100000 in
theorem lifted (os : Os) (started : os.Started) (H : Type) (enc : TypeId × Value → H) :
    ReturnsInHanded {} Try.checked os 6 .any (Rows.lzLimitsSpec.pre6 enc Try.prog Try.f6 Rows.lzLimitsRow.domain false) (Rows.lzLimitsSpec.post enc Try.prog Try.f6 false true false false) := by
  refine returnsInHanded_of_change (C := Try.checked) own started (by kernel_rfl) Try.func6
    (ChangeSpec.witness6 (enc := enc) (C := Try.checked) false ⟨#[], #[.slice none 0 0, .int .i64 0, .int .i64 0], []⟩ 8 (by kernel_rfl) (by kernel_rfl) (by kernel_rfl) (by kernel_rfl)) ?_
  intro W base args ds gs before hval0 hW hcnd _
  have hval : ∀ (j : Nat) t v, Try.f6.params[j]? = some t → args[j]? = some v → Value.okWide Try.prog W .any base t v := hval0
  have hW' := hW
  obtain ⟨p, q, hA0, hV, rfl, hfz, hnd⟩ := hW
  have hA : DataW.TrodAll enc Try.prog W 0 (fun _ => true) true Try.f6.params.toList args.toList ds p := hA0
  rw [Try.params6] at hA hval
  obtain ⟨v0, vs0, d0, ds0, p0, q0, hargs, rfl, rfl, h0, r0⟩ := trodAll_cons hA
  obtain ⟨v1, vs1, d1, ds1, p1, q1, rfl, rfl, rfl, h1, r1⟩ := trodAll_cons r0
  obtain ⟨v2, vs2, d2, ds2, p2, q2, rfl, rfl, rfl, h2, r2⟩ := trodAll_cons r1
  obtain ⟨rfl, rfl, rfl⟩ := trodAll_nil r2
  obtain rfl : args = #[v0, v1, v2] := by cases args; simp_all
  obtain ⟨rfl, rfl⟩ := trodVars_none hV
  have k0 := h0
  have lt0 : ∀ x ∈ p0, x.block < W.heap.size := by obtain ⟨m, hm⟩ := k0; exact DataW.trod_lt m _ _ _ hm
  obtain ⟨a0, len0, cap0, e0⟩ := okWide_slice Try.underlying24 (hval 0 24 v0 rfl rfl)
  obtain ⟨l0, w0⟩ := open_bytes Try.underlying24 Try.underlying5 (by kernel_rfl) e0 k0
  subst e0
  have k1 := h1
  have lt1 : ∀ x ∈ p1, x.block < W.heap.size := by obtain ⟨m, hm⟩ := k1; exact DataW.trod_lt m _ _ _ hm
  obtain ⟨a1, rfl, _, _, w1⟩ := open_int Try.underlying3 (hval 1 3 v1 rfl rfl) h1
  have w1 := wf_i64 w1
  have k2 := h2
  have lt2 : ∀ x ∈ p2, x.block < W.heap.size := by obtain ⟨m, hm⟩ := k2; exact DataW.trod_lt m _ _ _ hm
  obtain ⟨a2, rfl, _, _, w2⟩ := open_int Try.underlying3 (hval 2 3 v2 rfl rfl) h2
  have w2 := wf_i64 w2
  clear hA0 hval0
  refine (walk a0 len0 cap0 l0 a1 a2 W w0 w1 w2).mono fun e W' ⟨he, bel⟩ => ?_
  subst he
  exact ⟨_, rfl, _, _, _, [], _, [], hW', trodAll_mk1 (shut_bool Try.underlying4 _), (trodAll_cons_mk (Below.trod laidOut (by kernel_rfl) (of_decide_eq_true (by kernel_rfl)) k0 bel lt0) (trodAll_cons_mk (Below.trod laidOut (by kernel_rfl) (of_decide_eq_true (by kernel_rfl)) k1 bel lt1) (trodAll_cons_mk (Below.trod laidOut (by kernel_rfl) (of_decide_eq_true (by kernel_rfl)) k2 bel lt2) trodAll_mk0))), rfl, bel.frame _, fun h => by cases h⟩

theorem over : Rows.lzLimitsRow.holds Try.pinned (OpenSpec.ofChange Rows.lzLimitsSpec) :=
  OpenClaim.holds_of_wide 6 Try.f6 rfl rfl rfl rfl rfl rfl rfl ⟨rfl, rfl, rfl, rfl, rfl⟩ rfl rfl rfl rfl rfl (by kernel_rfl) Try.func6 (by kernel_rfl)
    (of_decide_eq_true (by kernel_rfl)) (by unfold Func.isWrapper; first | (rw [if_pos (by decide +kernel)]; kernel_rfl) | (rw [if_neg (by decide +kernel)]; exact ⟨rfl, rfl⟩))
    (fun os started H enc _ => lifted os started H enc)

/-- The statement. -/
theorem proved : Rows.LzLimitsSaid := over
#print axioms proved
end Go.Proofs.Ytabaagelgfdkeaa.lzLimits
