/-
  LzSame. No condition.
-/
import Derived.Test.YtabaagelgfdkeaaL4
import Derived.Test.YtabaagelgfdkeaaHq
import Derived.Test.YtabaagelgfdkeaaOpen
namespace Go.Proofs.Ytabaagelgfdkeaa.lzSame
open Go.RowKit
instance : TIntS Try.prog 27 3 := ⟨by kernel_rfl, by kernel_rfl⟩
set_option maxHeartbeats 8000000 in
set_option maxRecDepth 100000 in
theorem law {w0 : World} {B : Nat} {H : List Ent} (hB : w0.heap.size ≤ B) {a : Option Addr} {len cap : Nat} {l : List UInt8} (hl : Sl byteV w0 a len cap l) (eff : Int) (he : -9223372036854775808 ≤ eff ∧ eff ≤ 9223372036854775807) :
    Fn Try.prog w0 B 8 [.slice a len cap, .int .i64 eff] H (fun u _ => u = .bool true) := by
  have e1 := hl.size_eq
  have e3 := hl.le
  have b1 : ∀ E, BArg w0 B E a len l := fun E => BArg.sl hB hl
  have r1 : ∀ E, Rds w0 B E a (l.map byteV) := fun E => Rds.sl (c := ⟨Try.prog, 0, w0, B⟩) hl hB (by simp [Value.oneCell', byteV])
  refine fn_intro Try.func8 rfl (by kernel_rfl) rfl ?_
  by_cases h1 : 2000 < len
  · repeat (first | refine go_ ?_ | refine bx_ (fun _ => ?_) | refine hl_callv rfl rfl (anchor_fn) ?_)
    exact fin1B rfl rfl rfl
  repeat (first | refine go_ ?_ | refine bx_ (fun _ => ?_) | refine hl_callv rfl rfl (anchor_fn) ?_)
  refine hl_append rfl rfl .here rfl (r1 _).under (by simp [e1]) rfl (by decide) (by omega) (by omega) (by omega) rfl (fun g1 c1 h2 h3 => ?_)
  rw [Nat.zero_add] at h2 ⊢
  change HL _ _ _ _ _ (⟨g1, 5, l.map byteV, c1 * 1⟩ :: H)
  repeat (first | refine go_ ?_ | refine bx_ (fun _ => ?_))
  have o0 : Own 5 1 (.slice (some ⟨g1, 0, none⟩) len c1) len (l.map byteV) H (⟨g1, 5, l.map byteV, c1 * 1⟩ :: H) := Own.mk h2 h3 (by simp [e1]) (List.Perm.refl _)
  refine hl_call rfl rfl (find_fn (BArg.own o0) h2 (by omega) eff he.2) (fun v M o => ?_)
  obtain ⟨ta, tc, rfl, _, _⟩ := o.form
  have hlt := length_tk l eff
  obtain ⟨Z, hZ, o⟩ := o.permE
  refine HL.perm ?_ hZ
  clear hZ
  obtain ⟨T, hT⟩ : ∃ T, T = tk l eff := ⟨_, rfl⟩
  have hfind := fun E => find_fn (w0 := w0) (B := B) (b1 E) e3 (by omega) eff he.2
  rw [← hT] at hlt o ⊢
  rw [← hT] at hfind
  clear hT
  repeat (first | refine go_ ?_ | refine bx_ (fun _ => ?_))
  refine hc_loop (fun m fr M2 => ∃ (k : Nat) (C : List Int), k + m = len ∧ C.length = len ∧ Agr fr [(0, .slice a len cap), (1, .int .i64 eff), (5, .slice (some ⟨g1, 0, none⟩) len c1), (6, .slice ta T.length tc), (22, .slice (some ⟨g1, 0, none⟩) len c1), (23, .int .i64 (len : Int)), (24, .int .i64 (k : Int))] ∧ M2.Perm (⟨g1, 5, C.map (Value.int .u8), c1 * 1⟩ :: (Z ++ H))) len ?_ ?_
  · refine ⟨0, l.map (fun b => (b.toNat : Int)), by omega, by simp [e1], ⟨rfl, rfl, rfl, rfl, rfl, rfl, rfl, trivial⟩, ?_⟩
    rw [List.map_map]
    exact List.perm_middle
  rintro m fr M2 ⟨k, C, hk, hC, hf, hp⟩
  obtain ⟨base, rfl⟩ := hf.out
  refine HC.perm ?_ hp
  by_cases hkl : k < len
  · have hget : (C.map (Value.int .u8))[k]? = some (.int .u8 (C.getD k 0)) := by simp [hC, hkl]
    repeat (first | refine go_ ?_ | refine bx_ (fun _ => ?_))
    refine ⟨m - 1, by omega, k + 1, C.set k (bits .xor .u8 (C.getD k 0) 255), by omega, by simp [hC], ⟨rfl, rfl, rfl, rfl, rfl, rfl, rfl, trivial⟩, ?_⟩
    rw [List.map_set]
  refine HC.drop ?_
  clear hp hC hk hf C
  repeat (first | refine go_ ?_ | refine bx_ (fun _ => ?_))
  refine hl_call rfl rfl (hfind _) (fun v M3 o3 => ?_)
  obtain ⟨tb, tc3, rfl, _, _⟩ := o3.form
  have rTb : Rds w0 B M3 tb (T.flatMap tokV) := o3.rds (c := ⟨Try.prog, 0, w0, B⟩) (one_toks _)
  have rTa : Rds w0 B M3 ta (T.flatMap tokV) := ((o H).rds (c := ⟨Try.prog, 0, w0, B⟩) (one_toks _)).weak fun w hw => o3.imp _ _ _ hw
  repeat (first | refine go_ ?_ | refine bx_ (fun _ => ?_))
  refine hc_loopd (fun m fr M2 => ∃ k, k + m = T.length ∧ Agr fr [(6, .slice ta T.length tc), (8, .slice tb T.length tc3), (42, .slice ta T.length tc), (43, .int .i64 (T.length : Int)), (44, .int .i64 (k : Int))] ∧ M2 = M3) T.length ?_ ?_
  · exact ⟨0, by omega, ⟨rfl, rfl, rfl, rfl, rfl, trivial⟩, rfl⟩
  clear base
  rintro m fr M2 ⟨k, hk, hf, rfl⟩
  obtain ⟨base, rfl⟩ := hf.out
  by_cases hkt : k < T.length
  · obtain ⟨gt, ct, he2, _⟩ := (o H).posn (by omega)
    cases he2
    obtain ⟨gt2, ct2, he2, _⟩ := o3.posn (by omega)
    cases he2
    have hpart := flat_part T k hkt
    obtain ⟨L, D, C, hxe⟩ : ∃ L D C, T[k] = ⟨L, D, C⟩ := ⟨_, _, _, rfl⟩
    rw [hxe] at hpart
    change _ = [Value.int .i64 L, .int .i64 D, .int .u8 (C.toNat : Int)] at hpart
    repeat (first | refine go_ ?_ | refine bx_ (fun _ => ?_))
    refine hl_loadRN (off := 0) (j := k * 3) (by rw [Nat.zero_add]; rfl) rTa (Imp.refl _) hpart rfl rfl ?_
    repeat (first | refine go_ ?_ | refine bx_ (fun _ => ?_))
    (refine hc_draw (by kernel_rfl) (by kernel_rfl) ?_; repeat (first | refine gd_ ?_ | refine hl_loadRN (off := 0) (j := k * 3) (by rw [Nat.zero_add]; rfl) rTb (Imp.drop (Imp.refl _)) hpart rfl rfl ?_ | refine hl_neAggF rfl rfl (by simp) rfl rfl ?_ | refine hl_loadW rfl .here rfl rfl ?_))
    repeat (first | refine go_ ?_ | refine bx_ (fun _ => ?_))
    exact ⟨m - 1, by omega, _, Imp.drop (Imp.refl _), k + 1, by omega, ⟨rfl, rfl, rfl, rfl, rfl, trivial⟩, rfl⟩
  · repeat (first | refine go_ ?_ | refine bx_ (fun _ => ?_))
    exact fin1B rfl rfl rfl
theorem walk (a : Option Addr) (len cap : Nat) (l : List UInt8) (eff : Int) (w : World) (hl : Sl byteV w a len cap l) (he : -9223372036854775808 ≤ eff ∧ eff ≤ 9223372036854775807) :
    Calls Try.prog 8 #[.slice a len cap, .int .i64 eff] w fun e w' => e = .returned (.bool true) ∧ Below w.heap.size w w' :=
  calls_of_fn (law (Nat.le_refl _) hl eff he) fun _ _ h => h

/-! The step to the statement (written by program). -/
open Go.ChangeShapes Go.WideShapes Go.ChangeAt
set_option maxRecDepth 100000 in
theorem lifted (os : Os) (started : os.Started) (H : Type) (enc : TypeId × Value → H) :
    ReturnsInHanded {} Try.checked os 8 .any (Rows.lzSameSpec.pre6 enc Try.prog Try.f8 Rows.lzSameRow.domain false) (Rows.lzSameSpec.post enc Try.prog Try.f8 false true false false) := by
  refine returnsInHanded_of_change (C := Try.checked) own started (by kernel_rfl) Try.func8
    (ChangeSpec.witness6 (enc := enc) (C := Try.checked) false ⟨#[], #[.slice none 0 0, .int .i64 0], []⟩ 8 (by kernel_rfl) (by kernel_rfl) (by kernel_rfl) (by kernel_rfl)) ?_
  intro W base args ds gs before hval0 hW hcnd _
  have hval : ∀ (j : Nat) t v, Try.f8.params[j]? = some t → args[j]? = some v → Value.okWide Try.prog W .any base t v := hval0
  have hW' := hW
  obtain ⟨p, q, hA0, hV, rfl, hfz, hnd⟩ := hW
  have hA : DataW.TrodAll enc Try.prog W 0 (fun _ => true) true Try.f8.params.toList args.toList ds p := hA0
  rw [Try.params8] at hA hval
  obtain ⟨v0, vs0, d0, ds0, p0, q0, hargs, rfl, rfl, h0, r0⟩ := trodAll_cons hA
  obtain ⟨v1, vs1, d1, ds1, p1, q1, rfl, rfl, rfl, h1, r1⟩ := trodAll_cons r0
  obtain ⟨rfl, rfl, rfl⟩ := trodAll_nil r1
  obtain rfl : args = #[v0, v1] := by cases args; simp_all
  obtain ⟨rfl, rfl⟩ := trodVars_none hV
  have k0 := h0
  have lt0 : ∀ x ∈ p0, x.block < W.heap.size := by obtain ⟨m, hm⟩ := k0; exact DataW.trod_lt m _ _ _ hm
  obtain ⟨a0, len0, cap0, e0⟩ := okWide_slice Try.underlying24 (hval 0 24 v0 rfl rfl)
  obtain ⟨l0, w0⟩ := open_bytes Try.underlying24 Try.underlying5 (by kernel_rfl) e0 k0
  subst e0
  have k1 := h1
  have lt1 : ∀ x ∈ p1, x.block < W.heap.size := by obtain ⟨m, hm⟩ := k1; exact DataW.trod_lt m _ _ _ hm
  obtain ⟨a1, rfl, _, _, w1⟩ := open_int Try.underlying3 (hval 1 3 v1 rfl rfl) h1
  have w1 := wf_i64 w1
  clear hA0 hval0
  refine (walk a0 len0 cap0 l0 a1 W w0 w1).mono fun e W' ⟨he, bel⟩ => ?_
  subst he
  exact ⟨_, rfl, _, _, _, [], _, [], hW', trodAll_mk1 (shut_bool Try.underlying4 _), (trodAll_cons_mk (Below.trod laidOut (by kernel_rfl) (of_decide_eq_true (by kernel_rfl)) k0 bel lt0) (trodAll_cons_mk (Below.trod laidOut (by kernel_rfl) (of_decide_eq_true (by kernel_rfl)) k1 bel lt1) trodAll_mk0)), rfl, bel.frame _, fun h => by cases h⟩

theorem over : Rows.lzSameRow.holds Try.pinned (OpenSpec.ofChange Rows.lzSameSpec) :=
  OpenClaim.holds_of_wide 8 Try.f8 rfl rfl rfl rfl rfl rfl rfl ⟨rfl, rfl, rfl, rfl, rfl⟩ rfl rfl rfl rfl rfl (by kernel_rfl) Try.func8 (by kernel_rfl)
    (of_decide_eq_true (by kernel_rfl)) (by unfold Func.isWrapper; first | (rw [if_pos (by decide +kernel)]; kernel_rfl) | (rw [if_neg (by decide +kernel)]; exact ⟨rfl, rfl⟩))
    (fun os started H enc _ => lifted os started H enc)

/-- The statement. -/
theorem proved : Rows.LzSameSaid := over
#print axioms proved
end Go.Proofs.Ytabaagelgfdkeaa.lzSame
