/-
  ReelSafe. No condition.
-/
import Derived.Test.YtonnfhjlojmieaaR2
import Derived.Test.YtonnfhjlojmieaaOpen
namespace Go.Proofs.Ytonnfhjlojmieaa.reelSafe
open Go.RowKit
theorem garbled_take (l g : List UInt8) (k m : Nat) (h : m + k ≤ l.length) : (garbled l g k).take m = l.take m := by
  induction k with
  | zero => rfl
  | succ k ih =>
    rw [garbled_succ, length_garbled, List.take_set_of_le (by omega)]
    exact ih (by omega)
set_option maxHeartbeats 8000000 in
set_option maxRecDepth 100000 in
theorem law {w0 : World} {B : Nat} {H : List Ent} (hB : w0.heap.size ≤ B) {a : Option Addr} {len cap : Nat} {l : List UInt8} (hl : Sl byteV w0 a len cap l)
    {a2 : Option Addr} {len2 cap2 : Nat} {l2 : List UInt8} (hl2 : Sl byteV w0 a2 len2 cap2 l2) (keep : Int) (hk : -9223372036854775808 ≤ keep ∧ keep ≤ 9223372036854775807)
    {a3 : Option Addr} {len3 cap3 : Nat} {l3 : List UInt8} (hl3 : Sl byteV w0 a3 len3 cap3 l3) :
    Fn Try.prog w0 B 3 [.slice a len cap, .slice a2 len2 cap2, .int .i64 keep, .slice a3 len3 cap3] H (fun u _ => u = .bool true) := by
  have e1 := hl.size_eq
  have e2 := hl2.size_eq
  have e3 := hl3.size_eq
  have e4 := hl2.le
  have r1 : ∀ E, Rds w0 B E a (l.map byteV) := fun E => Rds.sl (c := ⟨Try.prog, 0, w0, B⟩) hl hB (by simp [Value.oneCell', byteV])
  have r2 : ∀ E, Rds w0 B E a2 (l2.map byteV) := fun E => Rds.sl (c := ⟨Try.prog, 0, w0, B⟩) hl2 hB (by simp [Value.oneCell', byteV])
  have r3 : ∀ E, Rds w0 B E a3 (l3.map byteV) := fun E => Rds.sl (c := ⟨Try.prog, 0, w0, B⟩) hl3 hB (by simp [Value.oneCell', byteV])
  have hg : ∀ R, l3 = [] ∨ ∃ bb off, a3 = some ⟨bb, off, none⟩ ∧ Row w0 B R bb off l3.length .u8 (byteF l3) := fun R => by
    rcases Nat.eq_zero_or_pos l3.length with h0 | h0
    · exact .inl (List.eq_nil_of_length_eq_zero h0)
    · obtain ⟨bb, off, rfl, _⟩ := hl3.row 0 h0
      exact .inr ⟨bb, off, rfl, Rds.rowB (r3 R)⟩
  refine fn_intro Try.func3 rfl (by kernel_rfl) rfl ?_
  by_cases h1 : 1500 < len
  · repeat (first | refine go_ ?_ | refine bx_ (fun _ => ?_) | refine hl_callv rfl rfl (anchor_fn) ?_)
    exact fin1B rfl rfl rfl
  by_cases h2 : 1500 < len2
  · repeat (first | refine go_ ?_ | refine bx_ (fun _ => ?_) | refine hl_callv rfl rfl (anchor_fn) ?_)
    exact fin1B rfl rfl rfl
  by_cases h3 : 3000 < len3
  · repeat (first | refine go_ ?_ | refine bx_ (fun _ => ?_) | refine hl_callv rfl rfl (anchor_fn) ?_)
    exact fin1B rfl rfl rfl
  subst e1 e2 e3
  repeat (first | refine go_ ?_ | refine bx_ (fun _ => ?_) | refine hl_callv rfl rfl (anchor_fn) ?_)
  refine hl_call rfl rfl (new_r 4000 (by decide)) (fun v H' hv => ?_)
  obtain ⟨g, X, rfl, rfl, h⟩ := hv
  repeat (first | refine go_ ?_ | refine bx_ (fun _ => ?_))
  refine hl_call rfl rfl (append_o h rfl (by omega) (r1 _) (by simp; omega)) (fun v H' hv => ?_)
  obtain ⟨rfl, X, rfl, h⟩ := hv
  rw [List.nil_append] at h
  repeat (first | refine go_ ?_ | refine bx_ (fun _ => ?_))
  refine hl_call rfl rfl (sync_o h) (fun v H' hv => ?_)
  obtain ⟨rfl, X, rfl, h⟩ := hv
  repeat (first | refine go_ ?_ | refine bx_ (fun _ => ?_))
  refine hl_call rfl rfl (append_o h rfl (by omega) (r2 _) (by omega)) (fun v H' hv => ?_)
  obtain ⟨rfl, X, rfl, h⟩ := hv
  repeat (first | refine go_ ?_ | refine bx_ (fun _ => ?_))
  refine hl_call rfl rfl (crash_r h keep hk rfl (by omega) (hg _)) (fun v H' hv => ?_)
  obtain ⟨X, hi, h⟩ := hv
  refine HL.imp ?_ hi
  obtain ⟨k, hkd⟩ : ∃ k, k = RS.kept ⟨l ++ l2, 4000, l.length, -1, false⟩ keep := ⟨_, rfl⟩
  have hkz : (k : Int) = min (max keep 0) (l2.length : Int) := by
    rw [hkd]; unfold RS.kept; dsimp only; rw [List.length_append]; omega
  unfold RS.crash at h
  rw [← hkd] at h
  dsimp only at h
  clear hkd
  obtain ⟨L, hL⟩ : ∃ L, L = garbled ((l ++ l2).take (l.length + k)) l3 (min k l3.length) := ⟨_, rfl⟩
  rw [← hL] at h
  have hLl : L.length = l.length + k := by rw [hL, length_garbled, List.length_take, List.length_append]; omega
  have hL1 : L.take l.length = l := by
    rw [hL, garbled_take _ _ _ _ (by rw [List.length_take, List.length_append]; omega), List.take_take, Nat.min_eq_left (by omega), List.take_left']
    rfl
  have hL2 : (L.drop l.length).take (k - l3.length) = l2.take (k - l3.length) := by
    have : L.take (l.length + (k - l3.length)) = l ++ l2.take (k - l3.length) := by
      rw [hL, garbled_take _ _ _ _ (by rw [List.length_take, List.length_append]; omega), List.take_take, Nat.min_eq_left (by omega), List.take_length_add_append]
    have h5 := congrArg (List.drop l.length) this
    simpa [List.drop_take] using h5
  have hsub : (((l.length + k : Nat) : Int) - (l.length : Int)) = (k : Int) := by omega
  have hL3 : (L.drop l.length).take (k - l3.length) = l2.take (k - l3.length) := hL2
  clear hL hi
  by_cases hkeep : 0 ≤ keep
  all_goals
    repeat (first | rw [hsub] | refine go1_ ?_ | refine bx_ (fun _ => ?_) | refine hl_callv rfl rfl (size_q h hLl) ?_ | refine hl_callv rfl rfl (safe_q h (n := l.length + k) rfl) ?_)
    refine hl_call rfl rfl (read_q h rfl hLl) (fun v H' hv => ?_)
    obtain ⟨ra, ca, Za, rfl, c1, c2, rfl, oa⟩ := hv
    dsimp only at oa c1
    have rL : ∀ F, Rds w0 B (Za ++ F) ra (L.map byteV) := fun F => OwnX.rds oa F
    have rl : ∀ F, Rds w0 B (Za ++ F) ra (l.map byteV) := fun F => by
      have := (rL F).take l.length
      rwa [← List.map_take, hL1] at this
    repeat (first | refine go_ ?_ | refine bx_ (fun _ => ?_) | refine hl_sliceTo rfl rfl rfl (by omega) rfl ?_)
    refine hl_callv rfl rfl (same_fn rfl rfl (rl _) (r1 _)) ?_
    rw [beq_self_eq_true]
    repeat (first | refine go_ ?_ | refine bx_ (fun _ => ?_))
    obtain ⟨q, hq⟩ : ∃ q, q = k - l3.length := ⟨_, rfl⟩
    rw [← hq] at hL3
    have hmx : max 0 ((k : Int) - (l3.length : Int)) = (q : Int) := by omega
    have hqq : ((l.length : Int) + (q : Int)) = ((l.length + q : Nat) : Int) := by omega
    refine hc_meet (fun fr M => Agr fr [(8, .bool true)]) ?_ ?_
    · (refine hc_draw (by kernel_rfl) (by kernel_rfl) ?_; repeat (first | rw [hmx] | rw [hqq] | refine gd1_ ?_))
      refine hl_sliceR (i := l.length) (j := l.length + q) (l := L.map byteV) rfl (rL _) (by simp [hLl]) (by omega) (OwnX.nilc oa) rfl rfl (by omega) (by omega) rfl (fun sa hsa hna => ?_)
      rw [Nat.add_sub_cancel_left, ← List.map_drop, ← List.map_take, hL3] at hsa
      rw [Nat.add_sub_cancel_left]
      have hl2q : (l2.take q).length = q := by rw [List.length_take]; omega
      have r2q : ∀ E, Rds w0 B E a2 ((l2.take q).map byteV) := fun E => by
        have := (r2 E).take q
        rwa [← List.map_take] at this
      repeat (first | refine gd_ ?_ | refine hl_sliceTo rfl rfl rfl (by omega) rfl ?_ | refine hd_call rfl rfl (same_fn hl2q hl2q hsa (r2q _)) ?_)
      exact ⟨congrArg Value.bool (beq_self_eq_true _), trivial⟩
    · rintro fr M hf
      obtain ⟨base, rfl⟩ := hf.out
      repeat (first | refine go_ ?_ | refine bx_ (fun _ => ?_))
      exact fin1B rfl rfl rfl
theorem walk (a : Option Addr) (len cap : Nat) (l : List UInt8) (a2 : Option Addr) (len2 cap2 : Nat) (l2 : List UInt8) (keep : Int) (a3 : Option Addr) (len3 cap3 : Nat) (l3 : List UInt8) (w : World) (hl : Sl byteV w a len cap l) (hl2 : Sl byteV w a2 len2 cap2 l2) (hk : -9223372036854775808 ≤ keep ∧ keep ≤ 9223372036854775807) (hl3 : Sl byteV w a3 len3 cap3 l3) :
    Calls Try.prog 3 #[.slice a len cap, .slice a2 len2 cap2, .int .i64 keep, .slice a3 len3 cap3] w fun e w' => e = .returned (.bool true) ∧ Below w.heap.size w w' :=
  calls_of_fn (law (Nat.le_refl _) hl hl2 keep hk hl3) fun _ _ h => h

/-! The step to the statement (written by program). -/
open Go.ChangeShapes Go.WideShapes Go.ChangeAt
set_option maxRecDepth 100000 in
theorem lifted (os : Os) (started : os.Started) (H : Type) (enc : TypeId × Value → H) :
    ReturnsInHanded {} Try.checked os 3 .any (Rows.reelSafeSpec.pre6 enc Try.prog Try.f3 Rows.reelSafeRow.domain false) (Rows.reelSafeSpec.post enc Try.prog Try.f3 false true false false) := by
  refine returnsInHanded_of_change (C := Try.checked) own started (by kernel_rfl) Try.func3
    (ChangeSpec.witness6 (enc := enc) (C := Try.checked) false ⟨#[], #[.slice none 0 0, .slice none 0 0, .int .i64 0, .slice none 0 0], []⟩ 8 (by kernel_rfl) (by kernel_rfl) (by kernel_rfl) (by kernel_rfl)) ?_
  intro W base args ds gs before hval0 hW hcnd _
  have hval : ∀ (j : Nat) t v, Try.f3.params[j]? = some t → args[j]? = some v → Value.okWide Try.prog W .any base t v := hval0
  have hW' := hW
  obtain ⟨p, q, hA0, hV, rfl, hfz, hnd⟩ := hW
  have hA : DataW.TrodAll enc Try.prog W 0 (fun _ => true) true Try.f3.params.toList args.toList ds p := hA0
  rw [Try.params3] at hA hval
  obtain ⟨v0, vs0, d0, ds0, p0, q0, hargs, rfl, rfl, h0, r0⟩ := trodAll_cons hA
  obtain ⟨v1, vs1, d1, ds1, p1, q1, rfl, rfl, rfl, h1, r1⟩ := trodAll_cons r0
  obtain ⟨v2, vs2, d2, ds2, p2, q2, rfl, rfl, rfl, h2, r2⟩ := trodAll_cons r1
  obtain ⟨v3, vs3, d3, ds3, p3, q3, rfl, rfl, rfl, h3, r3⟩ := trodAll_cons r2
  obtain ⟨rfl, rfl, rfl⟩ := trodAll_nil r3
  obtain rfl : args = #[v0, v1, v2, v3] := by cases args; simp_all
  obtain ⟨rfl, rfl⟩ := trodVars_none hV
  have k0 := h0
  have lt0 : ∀ x ∈ p0, x.block < W.heap.size := by obtain ⟨m, hm⟩ := k0; exact DataW.trod_lt m _ _ _ hm
  obtain ⟨a0, len0, cap0, e0⟩ := okWide_slice Try.underlying22 (hval 0 22 v0 rfl rfl)
  obtain ⟨l0, w0⟩ := open_bytes Try.underlying22 Try.underlying5 (by kernel_rfl) e0 k0
  subst e0
  have k1 := h1
  have lt1 : ∀ x ∈ p1, x.block < W.heap.size := by obtain ⟨m, hm⟩ := k1; exact DataW.trod_lt m _ _ _ hm
  obtain ⟨a1, len1, cap1, e1⟩ := okWide_slice Try.underlying22 (hval 1 22 v1 rfl rfl)
  obtain ⟨l1, w1⟩ := open_bytes Try.underlying22 Try.underlying5 (by kernel_rfl) e1 k1
  subst e1
  have k2 := h2
  have lt2 : ∀ x ∈ p2, x.block < W.heap.size := by obtain ⟨m, hm⟩ := k2; exact DataW.trod_lt m _ _ _ hm
  obtain ⟨a2, rfl, _, _, w2⟩ := open_int Try.underlying3 (hval 2 3 v2 rfl rfl) h2
  have w2 := wf_i64 w2
  have k3 := h3
  have lt3 : ∀ x ∈ p3, x.block < W.heap.size := by obtain ⟨m, hm⟩ := k3; exact DataW.trod_lt m _ _ _ hm
  obtain ⟨a3, len3, cap3, e3⟩ := okWide_slice Try.underlying22 (hval 3 22 v3 rfl rfl)
  obtain ⟨l3, w3⟩ := open_bytes Try.underlying22 Try.underlying5 (by kernel_rfl) e3 k3
  subst e3
  clear hA0 hval0
  refine (walk a0 len0 cap0 l0 a1 len1 cap1 l1 a2 a3 len3 cap3 l3 W w0 w1 w2 w3).mono fun e W' ⟨he, bel⟩ => ?_
  subst he
  exact ⟨_, rfl, _, _, _, [], _, [], hW', trodAll_mk1 (shut_bool Try.underlying4 _), (trodAll_cons_mk (Below.trod laidOut (by kernel_rfl) (of_decide_eq_true (by kernel_rfl)) k0 bel lt0) (trodAll_cons_mk (Below.trod laidOut (by kernel_rfl) (of_decide_eq_true (by kernel_rfl)) k1 bel lt1) (trodAll_cons_mk (Below.trod laidOut (by kernel_rfl) (of_decide_eq_true (by kernel_rfl)) k2 bel lt2) (trodAll_cons_mk (Below.trod laidOut (by kernel_rfl) (of_decide_eq_true (by kernel_rfl)) k3 bel lt3) trodAll_mk0)))), rfl, bel.frame _, fun h => by cases h⟩

theorem over : Rows.reelSafeRow.holds Try.pinned (OpenSpec.ofChange Rows.reelSafeSpec) :=
  OpenClaim.holds_of_wide 3 Try.f3 rfl rfl rfl rfl rfl rfl rfl ⟨rfl, rfl, rfl, rfl, rfl⟩ rfl rfl rfl rfl rfl (by kernel_rfl) Try.func3 (by kernel_rfl)
    (of_decide_eq_true (by kernel_rfl)) (by unfold Func.isWrapper; first | (rw [if_pos (by decide +kernel)]; kernel_rfl) | (rw [if_neg (by decide +kernel)]; exact ⟨rfl, rfl⟩))
    (fun os started H enc _ => lifted os started H enc)

/-- The statement. -/
theorem proved : Rows.ReelSafeSaid := over
#print axioms proved
end Go.Proofs.Ytonnfhjlojmieaa.reelSafe
