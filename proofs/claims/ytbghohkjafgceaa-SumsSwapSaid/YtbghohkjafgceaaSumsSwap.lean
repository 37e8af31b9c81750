/-
  The statement SumsSwap holds, whatever the text, the place and the byte.
-/
import Derived.Test.YtbghohkjafgceaaSumsAnchor
import Derived.Test.YtbghohkjafgceaaOpen
import Derived.StillTailTactics
namespace Go.Proofs.Ytbghohkjafgceaa.sumsSwap
open Go.RowKit

set_option maxHeartbeats 1000000 in
theorem walk (a : Option Addr) (la ca : Nat) (xs : List UInt8) (at_ : Int) (c : Int) (w : World) (ha : Sl byteV w a la ca xs) (hat : -9223372036854775808 ≤ at_ ∧ at_ ≤ 9223372036854775807) (hc : 0 ≤ c ∧ c ≤ 255) :
    Calls Try.prog 7 #[.slice a la ca, .int .i64 at_, .int .u8 c] w fun e w' => e = .returned (.bool true) ∧ Below w.heap.size w w' := by
  have h1 := ha.le
  have h2 := ha.small
  have HA := Lib.hid ha
  clear ha
  by_cases hla : 3000 < la
  · go_enter Try.func7, Try.ntmps7
    go_wp2_with fail
    refine (anchor_any _).mono ?_
    rintro e w1 ⟨rfl, hb1⟩
    go_wp2_with fail
    go_ret
    exact ⟨rfl, hb1⟩
  by_cases hneg : at_ < 0
  · go_enter Try.func7, Try.ntmps7
    go_wp2_with fail
    refine (anchor_any _).mono ?_
    rintro e w1 ⟨rfl, hb1⟩
    go_wp2_with fail
    go_ret
    exact ⟨rfl, hb1⟩
  obtain ⟨k, rfl⟩ := Int.eq_ofNat_of_zero_le (show 0 ≤ at_ by omega)
  by_cases hbig : la < k
  · go_enter Try.func7, Try.ntmps7
    go_wp2_with fail
    refine (anchor_any _).mono ?_
    rintro e w1 ⟨rfl, hb1⟩
    go_wp2_with fail
    go_ret
    exact ⟨rfl, hb1⟩
  go_enter Try.func7, Try.ntmps7
  go_wp2_with fail
  refine (anchor_any _).mono ?_
  rintro e w1 ⟨rfl, hb1⟩
  go_wp2_with fail
  have hk2 : k ≤ la := by omega
  have hk1 : k ≤ ca := by omega
  go_still_tail 6, (by kernel_rfl)
  change wpList _ _ _ _ _ w1.drew
  have hb2 : Below w.heap.size w w1.drew := hb1.drew
  have HS := Lib.hid (HA.out.below hb2)
  generalize w1.drew = w2 at *
  have HT := Lib.hid (HS.out.take k hk2)
  have HD := Lib.hid (HS.out.drop k hk2)
  generalize (if ca = k then a else Option.map (fun x => x.add k) a) = a2 at HD ⊢
  go_wp2_with fail
  refine Calls.mono (adler_flat _ _ _ [⟨a, k, ca, xs.take k⟩, ⟨none, 0, 0, []⟩, ⟨a2, la - k, ca - k, xs.drop k⟩] _ ?_ xs (by simp)) ?_
  · refine Parts.lit _ _ _ _ _ _ _ rfl rfl rfl (by simp) ?_
    simp only [List.mem_cons, List.not_mem_nil, or_false, forall_eq_or_imp, forall_eq]
    exact ⟨HT.out, Sl.nil_mk _ _, HD.out⟩
  rintro e w' ⟨rfl, rfl⟩
  have HS3 := Lib.hid (HS.out.alloc (.cells #[.slice a k ca, .slice none 0 0, .slice a2 (la - k) (ca - k)] 24))
  have hb3 := hb2.alloc hb2.size (.cells #[.slice a k ca, .slice none 0 0, .slice a2 (la - k) (ca - k)] 24)
  generalize w2.alloc (.cells #[.slice a k ca, .slice none 0 0, .slice a2 (la - k) (ca - k)] 24) = w3 at *
  clear HS HT HD hb1 hb2
  go_wp2_with fail
  go_still_tail 6, (by kernel_rfl)
  change wpList _ _ _ _ _ w3.drew
  have hb2 : Below w.heap.size w w3.drew := hb3.drew
  have HS := Lib.hid HS3.out.drew
  clear HS3 hb3
  generalize w3.drew = w4 at *
  have HT := Lib.hid (HS.out.take k hk2)
  have HD := Lib.hid (HS.out.drop k hk2)
  generalize (if ca = k then a else Option.map (fun x => x.add k) a) = a3 at HD ⊢
  go_wp2_with fail
  refine Calls.mono (crc_flat _ _ _ [⟨none, 0, 0, []⟩, ⟨a, k, ca, xs.take k⟩, ⟨a3, la - k, ca - k, xs.drop k⟩, ⟨none, 0, 0, []⟩] _ ?_ xs (by simp)) ?_
  · refine Parts.lit _ _ _ _ _ _ _ rfl rfl rfl (by simp) ?_
    simp only [List.mem_cons, List.not_mem_nil, or_false, forall_eq_or_imp, forall_eq]
    exact ⟨Sl.nil_mk _ _, HT.out, HD.out, Sl.nil_mk _ _⟩
  rintro e w' ⟨rfl, rfl⟩
  have HS5 := Lib.hid (HS.out.alloc (.cells #[.slice none 0 0, .slice a k ca, .slice a3 (la - k) (ca - k), .slice none 0 0] 24))
  have hb5 := hb2.alloc hb2.size (.cells #[.slice none 0 0, .slice a k ca, .slice a3 (la - k) (ca - k), .slice none 0 0] 24)
  generalize w4.alloc (.cells #[.slice none 0 0, .slice a k ca, .slice a3 (la - k) (ca - k), .slice none 0 0] 24) = w5 at *
  clear HS HT HD hb2
  obtain ⟨s, hs⟩ : ∃ s, s = adL (1, 0) xs := ⟨_, rfl⟩
  have hsl := adL_lt (1, 0) xs (by decide)
  rw [← hs] at hsl ⊢
  have HSN : Hid (adNum (adL (1, 0) xs) = adNum s) := by show _ = _; rw [hs]
  clear hs
  obtain ⟨n, rfl⟩ := Int.eq_ofNat_of_zero_le hc.1
  obtain ⟨u, rfl⟩ : ∃ u : UInt8, n = u.toNat := ⟨UInt8.ofNat n, by rw [UInt8.toNat_ofNat_of_lt' (by show _ < 256; omega)]⟩
  have hu := u.toNat_lt
  clear hc
  have SL1 := hsl.1
  have SL2 := hsl.2
  have e1 : bits .and .i64 (adNum s : Int) 65535 = (s.1 : Int) := by
    rw [show (65535 : Int) = ((2 ^ 16 - 1 : Nat) : Int) from rfl, mask64 _ _ (by unfold adNum; omega) (by omega)]; unfold adNum; omega
  have e2 : (adNum s : Int) / 65536 = (s.2 : Int) := by unfold adNum; omega
  have hz1 := adL_lt s [u] hsl
  have hz2 : (adL s [u]).1 = (s.1 + u.toNat) % 65521 := rfl
  have hz3 : (adL s [u]).2 = (s.2 + (s.1 + u.toNat) % 65521) % 65521 := rfl
  have hb6 := hb5.size
  have ns : adNum s < 4294967296 := by unfold adNum; omega
  go_wp2_with fail
  refine Calls.mono (adlerMore_any s hsl _ _ _ [u] _ ?_) ?_
  · exact Sl.lit _ _ _ _ _ _ _ _ rfl rfl rfl (by simp)
  rintro e w' ⟨rfl, rfl⟩
  have HS7 := Lib.hid (HS5.out.alloc (.cells #[.int .u8 (u.toNat : Int)] 5))
  have hb7 := hb5.alloc hb6 (.cells #[.int .u8 (u.toNat : Int)] 5)
  generalize w5.alloc (.cells #[.int .u8 (u.toNat : Int)] 5) = w7 at *
  generalize adL s [u] = z at *
  have zl1 := hz1.1
  have zl2 := hz1.2
  have e3 : bits .and .i64 (adNum z : Int) 65535 = (z.1 : Int) := by
    rw [show (65535 : Int) = ((2 ^ 16 - 1 : Nat) : Int) from rfl, mask64 _ _ (by unfold adNum; omega) (by omega)]; unfold adNum; omega
  have e4 : (adNum z : Int) / 65536 = (z.2 : Int) := by unfold adNum; omega
  have q1 : ((z.1 : Int) == ((s.1 : Int) + (u.toNat : Int)) % 65521) = true := by rw [beq_iff_eq]; omega
  have q2 : ((z.2 : Int) == ((s.2 : Int) + ((s.1 : Int) + (u.toNat : Int)) % 65521) % 65521) = true := by rw [beq_iff_eq]; omega
  have nz : adNum z < 4294967296 := by unfold adNum; omega
  clear hz1 hz2 hz3 hsl hb5
  generalize adNum s = sn at *
  generalize adNum z = zn at *
  generalize s.1 = s1 at *
  generalize s.2 = s2 at *
  generalize z.1 = z1 at *
  generalize z.2 = z2 at *
  go_wp2_with fail
  refine (refAdler_any _ _ _ xs _ HS7.out).mono ?_
  rintro e w' ⟨rfl, rfl⟩
  rw [HSN.out]
  go_wp2_with fail
  refine (refCrc_any _ _ _ xs _ HS7.out).mono ?_
  rintro e w' ⟨rfl, rfl⟩
  go_wp2_with fail
  go_ret
  refine ⟨?_, hb7⟩
  have r1 := beq_iff_eq.1 q1
  have r2 := beq_iff_eq.1 q2
  clear q1 q2
  simp
  omega

/-! The step to the statement (written by program). -/
open Go.ChangeShapes Go.WideShapes Go.ChangeAt
set_option maxRecDepth 100000 in
theorem lifted (os : Os) (started : os.Started) (H : Type) (enc : TypeId × Value → H) :
    ReturnsInHanded {} Try.checked os 7 .any (Rows.sumsSwapSpec.pre6 enc Try.prog Try.f7 Rows.sumsSwapRow.domain false) (Rows.sumsSwapSpec.post enc Try.prog Try.f7 false true false false) := by
  refine returnsInHanded_of_change (C := Try.checked) own started (by kernel_rfl) Try.func7
    (ChangeSpec.witness6 (enc := enc) (C := Try.checked) false ⟨#[], #[.slice none 0 0, .int .i64 0, .int .u8 0], []⟩ 8 (by kernel_rfl) (by kernel_rfl) (by kernel_rfl) (by kernel_rfl)) ?_
  intro W base args ds gs before hval0 hW hcnd _
  have hval : ∀ (j : Nat) t v, Try.f7.params[j]? = some t → args[j]? = some v → Value.okWide Try.prog W .any base t v := hval0
  have hW' := hW
  obtain ⟨p, q, hA0, hV, rfl, hfz, hnd⟩ := hW
  have hA : DataW.TrodAll enc Try.prog W 0 (fun _ => true) true Try.f7.params.toList args.toList ds p := hA0
  rw [Try.params7] at hA hval
  obtain ⟨v0, vs0, d0, ds0, p0, q0, hargs, rfl, rfl, h0, r0⟩ := trodAll_cons hA
  obtain ⟨v1, vs1, d1, ds1, p1, q1, rfl, rfl, rfl, h1, r1⟩ := trodAll_cons r0
  obtain ⟨v2, vs2, d2, ds2, p2, q2, rfl, rfl, rfl, h2, r2⟩ := trodAll_cons r1
  obtain ⟨rfl, rfl, rfl⟩ := trodAll_nil r2
  obtain rfl : args = #[v0, v1, v2] := by cases args; simp_all
  obtain ⟨rfl, rfl⟩ := trodVars_none hV
  have k0 := h0
  have lt0 : ∀ x ∈ p0, x.block < W.heap.size := by obtain ⟨m, hm⟩ := k0; exact DataW.trod_lt m _ _ _ hm
  obtain ⟨a0, len0, cap0, e0⟩ := okWide_slice Try.underlying24 (hval 0 24 v0 rfl rfl)
  obtain ⟨l0, w0⟩ := open_bytes Try.underlying24 Try.underlying5 (by kernel_rfl) e0 k0
  subst e0
  have k1 := h1
  have lt1 : ∀ x ∈ p1, x.block < W.heap.size := by obtain ⟨m, hm⟩ := k1; exact DataW.trod_lt m _ _ _ hm
  obtain ⟨a1, rfl, _, _, w1⟩ := open_int Try.underlying3 (hval 1 3 v1 rfl rfl) h1
  have w1 := wf_i64 w1
  have k2 := h2
  have lt2 : ∀ x ∈ p2, x.block < W.heap.size := by obtain ⟨m, hm⟩ := k2; exact DataW.trod_lt m _ _ _ hm
  obtain ⟨a2, rfl, _, _, w2⟩ := open_int Try.underlying5 (hval 2 5 v2 rfl rfl) h2
  have w2 := wf_u8 w2
  clear hA0 hval0
  refine (walk a0 len0 cap0 l0 a1 a2 W w0 w1 w2).mono fun e W' ⟨he, bel⟩ => ?_
  subst he
  exact ⟨_, rfl, _, _, _, [], _, [], hW', trodAll_mk1 (shut_bool Try.underlying4 _), (trodAll_cons_mk (Below.trod laidOut (by kernel_rfl) (of_decide_eq_true (by kernel_rfl)) k0 bel lt0) (trodAll_cons_mk (Below.trod laidOut (by kernel_rfl) (of_decide_eq_true (by kernel_rfl)) k1 bel lt1) (trodAll_cons_mk (Below.trod laidOut (by kernel_rfl) (of_decide_eq_true (by kernel_rfl)) k2 bel lt2) trodAll_mk0))), rfl, bel.frame _, fun h => by cases h⟩

theorem over : Rows.sumsSwapRow.holds Try.pinned (OpenSpec.ofChange Rows.sumsSwapSpec) :=
  OpenClaim.holds_of_wide 7 Try.f7 rfl rfl rfl rfl rfl rfl rfl ⟨rfl, rfl, rfl, rfl, rfl⟩ rfl rfl rfl rfl rfl (by kernel_rfl) Try.func7 (by kernel_rfl)
    (of_decide_eq_true (by kernel_rfl)) (by unfold Func.isWrapper; first | (rw [if_pos (by decide +kernel)]; kernel_rfl) | (rw [if_neg (by decide +kernel)]; exact ⟨rfl, rfl⟩))
    (fun os started H enc _ => lifted os started H enc)

/-- The statement. -/
theorem proved : Rows.SumsSwapSaid := over
#print axioms proved
end Go.Proofs.Ytbghohkjafgceaa.sumsSwap
