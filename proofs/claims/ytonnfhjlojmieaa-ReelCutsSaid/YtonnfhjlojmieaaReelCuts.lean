/-
  ReelCuts. No condition.
-/
import Derived.Test.YtonnfhjlojmieaaR2
import Derived.Test.YtonnfhjlojmieaaOpen
namespace Go.Proofs.Ytonnfhjlojmieaa.reelCuts
open Go.RowKit
set_option maxHeartbeats 8000000 in
theorem law {w0 : World} {B : Nat} {H : List Ent} (hB : w0.heap.size ≤ B) {a : Option Addr} {len cap : Nat} {l : List UInt8} (hl : Sl byteV w0 a len cap l) (n : Int) (hn : -9223372036854775808 ≤ n ∧ n ≤ 9223372036854775807)
    {a2 : Option Addr} {len2 cap2 : Nat} {l2 : List UInt8} (hl2 : Sl byteV w0 a2 len2 cap2 l2) (sync : Bool) :
    Fn Try.prog w0 B 5 [.slice a len cap, .int .i64 n, .slice a2 len2 cap2, .bool sync] H (fun u _ => u = .bool true) := by
  have e1 := hl.size_eq
  have e2 := hl2.size_eq
  have e3 := hl.le
  have r1 : ∀ E, Rds w0 B E a (l.map byteV) := fun E => Rds.sl (c := ⟨Try.prog, 0, w0, B⟩) hl hB (by simp [Value.oneCell', byteV])
  have r2 : ∀ E, Rds w0 B E a2 (l2.map byteV) := fun E => Rds.sl (c := ⟨Try.prog, 0, w0, B⟩) hl2 hB (by simp [Value.oneCell', byteV])
  refine fn_intro Try.func5 rfl (by kernel_rfl) rfl ?_
  by_cases h1 : 1500 < len
  · repeat (first | refine go_ ?_ | refine bx_ (fun _ => ?_) | refine hl_callv rfl rfl (anchor_fn) ?_)
    exact fin1B rfl rfl rfl
  by_cases h2 : 1500 < len2
  · repeat (first | refine go_ ?_ | refine bx_ (fun _ => ?_) | refine hl_callv rfl rfl (anchor_fn) ?_)
    exact fin1B rfl rfl rfl
  by_cases h3 : n < 0
  · repeat (first | refine go_ ?_ | refine bx_ (fun _ => ?_) | refine hl_callv rfl rfl (anchor_fn) ?_)
    exact fin1B rfl rfl rfl
  by_cases h4 : (len : Int) < n
  · repeat (first | refine go_ ?_ | refine bx_ (fun _ => ?_) | refine hl_callv rfl rfl (anchor_fn) ?_)
    exact fin1B rfl rfl rfl
  obtain ⟨n, rfl⟩ := Int.eq_ofNat_of_zero_le (show 0 ≤ n by omega)
  subst e1 e2
  repeat (first | refine go_ ?_ | refine bx_ (fun _ => ?_) | refine hl_callv rfl rfl (anchor_fn) ?_)
  refine hl_call rfl rfl (new_r 3000 (by decide)) (fun v H' hv => ?_)
  obtain ⟨g, X, rfl, rfl, h⟩ := hv
  repeat (first | refine go_ ?_ | refine bx_ (fun _ => ?_))
  refine hl_call rfl rfl (append_o h rfl (by omega) (r1 _) (by simp; omega)) (fun v H' hv => ?_)
  obtain ⟨rfl, X, rfl, h⟩ := hv
  rw [List.nil_append] at h
  repeat (first | refine go_ ?_ | refine bx_ (fun _ => ?_))
  have hlt : (l.take n).length = n := by rw [List.length_take]; omega
  cases sync
  all_goals
    repeat (first | refine go_ ?_ | refine bx_ (fun _ => ?_))
    try refine hl_call rfl rfl (sync_o h) (fun v H' hv => ?_)
    try obtain ⟨rfl, X, rfl, h⟩ := hv
    repeat (first | refine go_ ?_ | refine bx_ (fun _ => ?_))
    refine hl_call rfl rfl (cut_o h n (by omega)) (fun v H' hv => ?_)
    obtain ⟨rfl, X, rfl, h⟩ := hv
    repeat (first | refine go_ ?_ | refine bx_ (fun _ => ?_))
    refine hl_call rfl rfl (append_o h rfl (by omega) (r2 _) (by omega)) (fun v H' hv => ?_)
    obtain ⟨rfl, X, rfl, h⟩ := hv
    repeat (first | refine go_ ?_ | refine bx_ (fun _ => ?_))
    refine hl_call rfl rfl (size_r h) (fun v H' hv => ?_)
    obtain ⟨rfl, rfl⟩ := hv
    repeat (first | refine go_ ?_ | refine bx_ (fun _ => ?_))
    refine hl_call rfl rfl (read_all h rfl) (fun v H' hv => ?_)
    obtain ⟨ra, ca, Za, rfl, c1, c2, rfl, oa⟩ := hv
    dsimp only at oa c1
    repeat (first | refine go_ ?_ | refine bx_ (fun _ => ?_))
    refine HC.perm ?_ (app_swap Za X H)
    refine hc_meet (fun fr M => Agr fr [(8, .bool true)]) ?_ ?_
    · (refine hc_draw (by kernel_rfl) (by kernel_rfl) ?_; repeat (first | refine gd_ ?_ | refine hl_convStr (l := l.take n ++ l2) rfl ((OwnX.rds oa (X ++ H)).perm (app_swap _ _ _)) rfl ?_ | refine hl_convStr rfl (r2 _) rfl ?_ | refine hl_convStr (l := l.take n) (by rw [hlt]; rfl) (by have := (r1 (X ++ (Za ++ H))).take n; rwa [← List.map_take] at this) rfl ?_ | refine hl_sliceTo rfl rfl rfl (by omega) rfl ?_ | refine hl_strAddL rfl rfl (by omega) rfl ?_ | refine hl_strEqT rfl rfl rfl rfl ?_ | refine hd_call rfl rfl (safe_r h) ?_))
      exact ⟨congrArg Value.bool (decide_eq_true (by dsimp only; omega)), trivial⟩
    · rintro fr M hf
      obtain ⟨base, rfl⟩ := hf.out
      repeat (first | refine go_ ?_ | refine bx_ (fun _ => ?_))
      exact fin1B rfl rfl rfl
theorem walk (a : Option Addr) (len cap : Nat) (l : List UInt8) (n : Int) (a2 : Option Addr) (len2 cap2 : Nat) (l2 : List UInt8) (sync : Bool) (w : World) (hl : Sl byteV w a len cap l) (hn : -9223372036854775808 ≤ n ∧ n ≤ 9223372036854775807) (hl2 : Sl byteV w a2 len2 cap2 l2) :
    Calls Try.prog 5 #[.slice a len cap, .int .i64 n, .slice a2 len2 cap2, .bool sync] w fun e w' => e = .returned (.bool true) ∧ Below w.heap.size w w' :=
  calls_of_fn (law (Nat.le_refl _) hl n hn hl2 sync) fun _ _ h => h

/-! The step to the statement (written by program). -/
open Go.ChangeShapes Go.WideShapes Go.ChangeAt
set_option maxRecDepth 100000 in
theorem lifted (os : Os) (started : os.Started) (H : Type) (enc : TypeId × Value → H) :
    ReturnsInHanded {} Try.checked os 5 .any (Rows.reelCutsSpec.pre6 enc Try.prog Try.f5 Rows.reelCutsRow.domain false) (Rows.reelCutsSpec.post enc Try.prog Try.f5 false true false false) := by
  refine returnsInHanded_of_change (C := Try.checked) own started (by kernel_rfl) Try.func5
    (ChangeSpec.witness6 (enc := enc) (C := Try.checked) false ⟨#[], #[.slice none 0 0, .int .i64 0, .slice none 0 0, .bool false], []⟩ 8 (by kernel_rfl) (by kernel_rfl) (by kernel_rfl) (by kernel_rfl)) ?_
  intro W base args ds gs before hval0 hW hcnd _
  have hval : ∀ (j : Nat) t v, Try.f5.params[j]? = some t → args[j]? = some v → Value.okWide Try.prog W .any base t v := hval0
  have hW' := hW
  obtain ⟨p, q, hA0, hV, rfl, hfz, hnd⟩ := hW
  have hA : DataW.TrodAll enc Try.prog W 0 (fun _ => true) true Try.f5.params.toList args.toList ds p := hA0
  rw [Try.params5] at hA hval
  obtain ⟨v0, vs0, d0, ds0, p0, q0, hargs, rfl, rfl, h0, r0⟩ := trodAll_cons hA
  obtain ⟨v1, vs1, d1, ds1, p1, q1, rfl, rfl, rfl, h1, r1⟩ := trodAll_cons r0
  obtain ⟨v2, vs2, d2, ds2, p2, q2, rfl, rfl, rfl, h2, r2⟩ := trodAll_cons r1
  obtain ⟨v3, vs3, d3, ds3, p3, q3, rfl, rfl, rfl, h3, r3⟩ := trodAll_cons r2
  obtain ⟨rfl, rfl, rfl⟩ := trodAll_nil r3
  obtain rfl : args = #[v0, v1, v2, v3] := by cases args; simp_all
  obtain ⟨rfl, rfl⟩ := trodVars_none hV
  have k0 := h0
  have lt0 : ∀ x ∈ p0, x.block < W.heap.size := by obtain ⟨m, hm⟩ := k0; exact DataW.trod_lt m _ _ _ hm
  obtain ⟨a0, len0, cap0, e0⟩ := okWide_slice Try.underlying22 (hval 0 22 v0 rfl rfl)
  obtain ⟨l0, w0⟩ := open_bytes Try.underlying22 Try.underlying5 (by kernel_rfl) e0 k0
  subst e0
  have k1 := h1
  have lt1 : ∀ x ∈ p1, x.block < W.heap.size := by obtain ⟨m, hm⟩ := k1; exact DataW.trod_lt m _ _ _ hm
  obtain ⟨a1, rfl, _, _, w1⟩ := open_int Try.underlying3 (hval 1 3 v1 rfl rfl) h1
  have w1 := wf_i64 w1
  have k2 := h2
  have lt2 : ∀ x ∈ p2, x.block < W.heap.size := by obtain ⟨m, hm⟩ := k2; exact DataW.trod_lt m _ _ _ hm
  obtain ⟨a2, len2, cap2, e2⟩ := okWide_slice Try.underlying22 (hval 2 22 v2 rfl rfl)
  obtain ⟨l2, w2⟩ := open_bytes Try.underlying22 Try.underlying5 (by kernel_rfl) e2 k2
  subst e2
  have k3 := h3
  have lt3 : ∀ x ∈ p3, x.block < W.heap.size := by obtain ⟨m, hm⟩ := k3; exact DataW.trod_lt m _ _ _ hm
  obtain ⟨a3, rfl, _, _⟩ := open_bool Try.underlying4 (hval 3 4 v3 rfl rfl) h3
  clear hA0 hval0
  refine (walk a0 len0 cap0 l0 a1 a2 len2 cap2 l2 a3 W w0 w1 w2).mono fun e W' ⟨he, bel⟩ => ?_
  subst he
  exact ⟨_, rfl, _, _, _, [], _, [], hW', trodAll_mk1 (shut_bool Try.underlying4 _), (trodAll_cons_mk (Below.trod laidOut (by kernel_rfl) (of_decide_eq_true (by kernel_rfl)) k0 bel lt0) (trodAll_cons_mk (Below.trod laidOut (by kernel_rfl) (of_decide_eq_true (by kernel_rfl)) k1 bel lt1) (trodAll_cons_mk (Below.trod laidOut (by kernel_rfl) (of_decide_eq_true (by kernel_rfl)) k2 bel lt2) (trodAll_cons_mk (Below.trod laidOut (by kernel_rfl) (of_decide_eq_true (by kernel_rfl)) k3 bel lt3) trodAll_mk0)))), rfl, bel.frame _, fun h => by cases h⟩

theorem over : Rows.reelCutsRow.holds Try.pinned (OpenSpec.ofChange Rows.reelCutsSpec) :=
  OpenClaim.holds_of_wide 5 Try.f5 rfl rfl rfl rfl rfl rfl rfl ⟨rfl, rfl, rfl, rfl, rfl⟩ rfl rfl rfl rfl rfl (by kernel_rfl) Try.func5 (by kernel_rfl)
    (of_decide_eq_true (by kernel_rfl)) (by unfold Func.isWrapper; first | (rw [if_pos (by decide +kernel)]; kernel_rfl) | (rw [if_neg (by decide +kernel)]; exact ⟨rfl, rfl⟩))
    (fun os started H enc _ => lifted os started H enc)

/-- The statement. -/
theorem proved : Rows.ReelCutsSaid := over
#print axioms proved
end Go.Proofs.Ytonnfhjlojmieaa.reelCuts
