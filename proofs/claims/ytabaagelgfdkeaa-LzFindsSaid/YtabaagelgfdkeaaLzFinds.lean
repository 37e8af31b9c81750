/-
  LzFinds. No condition.
-/
import Derived.Test.YtabaagelgfdkeaaL4
import Derived.Test.YtabaagelgfdkeaaHq
import Derived.Test.YtabaagelgfdkeaaOpen
namespace Go.Proofs.Ytabaagelgfdkeaa.lzFinds
open Go.RowKit
set_option maxHeartbeats 8000000 in
set_option maxRecDepth 100000 in
theorem law {w0 : World} {B : Nat} {H : List Ent} (hB : w0.heap.size ≤ B) {a : Option Addr} {len cap : Nat} {l : List UInt8} (hl : Sl byteV w0 a len cap l) (eff : Int) (he : -9223372036854775808 ≤ eff ∧ eff ≤ 9223372036854775807) :
    Fn Try.prog w0 B 4 [.slice a len cap, .int .i64 eff] H (fun u _ => u = .bool true) := by
  have e1 := hl.size_eq
  have e3 := hl.le
  have r1 : ∀ E, Rds w0 B E a (l.map byteV) := fun E => Rds.sl (c := ⟨Try.prog, 0, w0, B⟩) hl hB (by simp [Value.oneCell', byteV])
  refine fn_intro Try.func4 rfl (by kernel_rfl) rfl ?_
  by_cases h1 : 4000 < len
  · repeat (first | refine go_ ?_ | refine bx_ (fun _ => ?_) | refine hl_callv rfl rfl (anchor_fn) ?_)
    exact fin1B rfl rfl rfl
  repeat (first | refine go_ ?_ | refine bx_ (fun _ => ?_) | refine hl_callv rfl rfl (anchor_fn) ?_)
  have hn8 : ((len : Int) + 8) = ((len + 8 : Nat) : Int) := by omega
  rw [hn8]
  refine hl_makeC (n := len + 8) rfl rfl (by omega) (by omega) rfl (fun gg => ?_)
  repeat (first | refine go_ ?_ | refine bx_ (fun _ => ?_))
  refine hl_append rfl rfl .here rfl (r1 _) (by simp [e1]) rfl (by decide) (by omega) (by omega) (by omega) rfl (fun g1 c1 h2 h3 => ?_)
  rw [Nat.zero_add] at h2 ⊢
  repeat (first | refine go_ ?_ | refine bx_ (fun _ => ?_))
  have o0 : Own 5 1 (.slice (some ⟨g1, 0, none⟩) len c1) len (l.map byteV) H (⟨g1, 5, l.map byteV, c1 * 1⟩ :: H) := Own.mk h2 h3 (by simp [e1]) (List.Perm.refl _)
  have r0 : Rds w0 B (⟨g1, 5, l.map byteV, c1 * 1⟩ :: H) _ _ := o0.rds (c := ⟨Try.prog, 0, w0, B⟩) (by simp [Value.oneCell', byteV])
  change HL _ _ _ _ _ (⟨g1, 5, l.map byteV, c1 * 1⟩ :: H)
  refine hl_call rfl rfl (find_fn (BArg.own o0) h2 (by omega) eff he.2) (fun v M o => ?_)
  obtain ⟨ta, tc, rfl, _, _⟩ := o.form
  have hlt := length_tk l eff
  subst e1
  repeat (first | refine go_ ?_ | refine bx_ (fun _ => ?_))
  refine hl_convStr rfl (r0.weak fun w hw => o.imp _ _ _ hw) rfl ?_
  repeat (first | refine go_ ?_ | refine bx_ (fun _ => ?_))
  refine hl_convStr rfl (r1 _) rfl ?_
  repeat (first | refine go_ ?_ | refine bx_ (fun _ => ?_) | refine hl_strNeF rfl rfl rfl rfl ?_)
  obtain ⟨T, hT⟩ : ∃ T, T = tk l eff := ⟨_, rfl⟩
  have hlz := lzB_tk l eff (l.length : Int) (by omega)
  have hwf := wf_tk l eff (by omega)
  have hlits : eff ≤ 0 → T = l.map litT := fun h => by rw [hT]; unfold tk; rw [if_pos h]
  rw [← hT] at o hlt hlz hwf ⊢
  clear hT
  rw [if_pos (by omega)] at hlz
  refine hc_loopd (fun m fr M2 => ∃ k, k + m = T.length ∧ Agr fr [(0, .slice a l.length cap), (1, .int .i64 eff), (6, .slice ta T.length tc), (30, .slice ta T.length tc), (31, .int .i64 (T.length : Int)), (32, .int .i64 (k : Int))] ∧ M2 = M) T.length ?_ ?_
  · exact ⟨0, by omega, ⟨rfl, rfl, rfl, rfl, rfl, rfl, trivial⟩, rfl⟩
  have rT : Rds w0 B M ta (T.flatMap tokV) := o.rds (c := ⟨Try.prog, 0, w0, B⟩) (one_toks _)
  rintro m fr M2 ⟨k, hk, hf, rfl⟩
  obtain ⟨base, rfl⟩ := hf.out
  by_cases hkt : k < T.length
  · obtain ⟨gt, ct, he2, _⟩ := o.posn (by omega)
    cases he2
    have hpart := flat_part T k hkt
    obtain ⟨L, D, C, hxe⟩ : ∃ L D C, T[k] = ⟨L, D, C⟩ := ⟨_, _, _, rfl⟩
    rw [hxe] at hpart
    change _ = [Value.int .i64 L, .int .i64 D, .int .u8 (C.toNat : Int)] at hpart
    by_cases heff : eff ≤ 0
    · have hL0 : L = 0 := by
        have hm : T[k] ∈ l.map litT := by rw [← hlits heff]; exact List.getElem_mem _
        obtain ⟨c0, _, h9⟩ := List.mem_map.1 hm
        rw [hxe] at h9
        cases h9; rfl
      subst hL0
      repeat (first | refine go_ ?_ | refine bx_ (fun _ => ?_))
      refine hl_loadRN (off := 0) (j := k * 3) (by rw [Nat.zero_add]; rfl) rT (Imp.refl _) hpart rfl rfl ?_
      repeat (first | refine go_ ?_ | refine bx_ (fun _ => ?_))
      exact ⟨m - 1, by omega, _, Imp.drop (Imp.refl _), k + 1, by omega, ⟨rfl, rfl, rfl, rfl, rfl, rfl, trivial⟩, rfl⟩
    · repeat (first | refine go_ ?_ | refine bx_ (fun _ => ?_))
      refine hl_loadRN (off := 0) (j := k * 3) (by rw [Nat.zero_add]; rfl) rT (Imp.refl _) hpart rfl rfl ?_
      repeat (first | refine go_ ?_ | refine bx_ (fun _ => ?_))
      exact ⟨m - 1, by omega, _, Imp.drop (Imp.refl _), k + 1, by omega, ⟨rfl, rfl, rfl, rfl, rfl, rfl, trivial⟩, rfl⟩
  · obtain rfl : k = T.length := by omega
    have heff : eff ≤ 0 → T.length = l.length := fun h => by rw [hlits h, List.length_map]
    repeat (first | refine go_ ?_ | refine bx_ (fun _ => ?_))
    refine hl_call rfl rfl (bytes_fn rfl (fun h0 => by obtain ⟨g, c, e, _⟩ := o.posn h0; cases e; exact ⟨_, _, rfl⟩) rT hwf (by omega) (l.length : Int) (by omega)) (fun v M3 o3 => ?_)
    obtain ⟨sv, rfl, o3⟩ := o3
    rw [hlz] at o3 ⊢
    dsimp only at o3 ⊢
    obtain ⟨sa, sc, rfl, _, _⟩ := o3.form
    have r3 : Rds w0 B M3 _ _ := o3.rds (c := ⟨Try.prog, 0, w0, B⟩) (by simp [Value.oneCell', byteV])
    by_cases he0 : eff ≤ 0
    all_goals
      try have h10 := heff he0
      repeat (first | refine go_ ?_ | refine bx_ (fun _ => ?_))
      refine hl_convStr rfl (r1 _) rfl ?_
      repeat (first | refine go_ ?_ | refine bx_ (fun _ => ?_))
      refine hl_convStr rfl r3 rfl ?_
      repeat (first | refine go_ ?_ | refine bx_ (fun _ => ?_) | refine hl_strEqT rfl rfl rfl rfl ?_)
      exact fin1B rfl rfl rfl
theorem walk (a : Option Addr) (len cap : Nat) (l : List UInt8) (eff : Int) (w : World) (hl : Sl byteV w a len cap l) (he : -9223372036854775808 ≤ eff ∧ eff ≤ 9223372036854775807) :
    Calls Try.prog 4 #[.slice a len cap, .int .i64 eff] w fun e w' => e = .returned (.bool true) ∧ Below w.heap.size w w' :=
  calls_of_fn (law (Nat.le_refl _) hl eff he) fun _ _ h => h

/-! The step to the statement (written by program). -/
open Go.ChangeShapes Go.WideShapes Go.ChangeAt
set_option maxRecDepth 100000 in
theorem lifted (os : Os) (started : os.Started) (H : Type) (enc : TypeId × Value → H) :
    ReturnsInHanded {} Try.checked os 4 .any (Rows.lzFindsSpec.pre6 enc Try.prog Try.f4 Rows.lzFindsRow.domain false) (Rows.lzFindsSpec.post enc Try.prog Try.f4 false true false false) := by
  refine returnsInHanded_of_change (C := Try.checked) own started (by kernel_rfl) Try.func4
    (ChangeSpec.witness6 (enc := enc) (C := Try.checked) false ⟨#[], #[.slice none 0 0, .int .i64 0], []⟩ 8 (by kernel_rfl) (by kernel_rfl) (by kernel_rfl) (by kernel_rfl)) ?_
  intro W base args ds gs before hval0 hW hcnd _
  have hval : ∀ (j : Nat) t v, Try.f4.params[j]? = some t → args[j]? = some v → Value.okWide Try.prog W .any base t v := hval0
  have hW' := hW
  obtain ⟨p, q, hA0, hV, rfl, hfz, hnd⟩ := hW
  have hA : DataW.TrodAll enc Try.prog W 0 (fun _ => true) true Try.f4.params.toList args.toList ds p := hA0
  rw [Try.params4] at hA hval
  obtain ⟨v0, vs0, d0, ds0, p0, q0, hargs, rfl, rfl, h0, r0⟩ := trodAll_cons hA
  obtain ⟨v1, vs1, d1, ds1, p1, q1, rfl, rfl, rfl, h1, r1⟩ := trodAll_cons r0
  obtain ⟨rfl, rfl, rfl⟩ := trodAll_nil r1
  obtain rfl : args = #[v0, v1] := by cases args; simp_all
  obtain ⟨rfl, rfl⟩ := trodVars_none hV
  have k0 := h0
  have lt0 : ∀ x ∈ p0, x.block < W.heap.size := by obtain ⟨m, hm⟩ := k0; exact DataW.trod_lt m _ _ _ hm
  obtain ⟨a0, len0, cap0, e0⟩ := okWide_slice Try.underlying24 (hval 0 24 v0 rfl rfl)
  obtain ⟨l0, w0⟩ := open_bytes Try.underlying24 Try.underlying5 (by kernel_rfl) e0 k0
  subst e0
  have k1 := h1
  have lt1 : ∀ x ∈ p1, x.block < W.heap.size := by obtain ⟨m, hm⟩ := k1; exact DataW.trod_lt m _ _ _ hm
  obtain ⟨a1, rfl, _, _, w1⟩ := open_int Try.underlying3 (hval 1 3 v1 rfl rfl) h1
  have w1 := wf_i64 w1
  clear hA0 hval0
  refine (walk a0 len0 cap0 l0 a1 W w0 w1).mono fun e W' ⟨he, bel⟩ => ?_
  subst he
  exact ⟨_, rfl, _, _, _, [], _, [], hW', trodAll_mk1 (shut_bool Try.underlying4 _), (trodAll_cons_mk (Below.trod laidOut (by kernel_rfl) (of_decide_eq_true (by kernel_rfl)) k0 bel lt0) (trodAll_cons_mk (Below.trod laidOut (by kernel_rfl) (of_decide_eq_true (by kernel_rfl)) k1 bel lt1) trodAll_mk0)), rfl, bel.frame _, fun h => by cases h⟩

theorem over : Rows.lzFindsRow.holds Try.pinned (OpenSpec.ofChange Rows.lzFindsSpec) :=
  OpenClaim.holds_of_wide 4 Try.f4 rfl rfl rfl rfl rfl rfl rfl ⟨rfl, rfl, rfl, rfl, rfl⟩ rfl rfl rfl rfl rfl (by kernel_rfl) Try.func4 (by kernel_rfl)
    (of_decide_eq_true (by kernel_rfl)) (by unfold Func.isWrapper; first | (rw [if_pos (by decide +kernel)]; kernel_rfl) | (rw [if_neg (by decide +kernel)]; exact ⟨rfl, rfl⟩))
    (fun os started H enc _ => lifted os started H enc)

/-- The statement. -/
theorem proved : Rows.LzFindsSaid := over
#print axioms proved
end Go.Proofs.Ytabaagelgfdkeaa.lzFinds
