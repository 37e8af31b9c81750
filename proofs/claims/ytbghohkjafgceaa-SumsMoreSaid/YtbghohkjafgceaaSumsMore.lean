/-
  The statement SumsMore holds, whatever the two texts: sums go on.
-/
import Derived.Test.YtbghohkjafgceaaSumsAnchor
import Derived.Test.YtbghohkjafgceaaOpen
namespace Go.Proofs.Ytbghohkjafgceaa.sumsMore
open Go.RowKit

theorem adL_append (s : Nat × Nat) (a b : List UInt8) : adL s (a ++ b) = adL (adL s a) b := by simp [adL, List.foldl_append]

set_option maxHeartbeats 1000000 in
theorem walk (a : Option Addr) (la ca : Nat) (xs : List UInt8) (b : Option Addr) (lb cb : Nat) (ys : List UInt8) (w : World) (ha : Sl byteV w a la ca xs) (hb : Sl byteV w b lb cb ys) :
    Calls Try.prog 4 #[.slice a la ca, .slice b lb cb] w fun e w' => e = .returned (.bool true) ∧ Below w.heap.size w w' := by
  have h1 := ha.le
  have h2 := ha.small
  have h3 := hb.le
  have h4 := hb.small
  have HA := Lib.hid ha
  have HB := Lib.hid hb
  clear ha hb
  by_cases hla : 2500 < la
  · go_enter Try.func4, Try.ntmps4
    go_wp2_with fail
    refine (anchor_any _).mono ?_
    rintro e w1 ⟨rfl, hb1⟩
    go_wp2_with fail
    go_ret
    exact ⟨rfl, hb1⟩
  by_cases hlb : 2500 < lb
  · go_enter Try.func4, Try.ntmps4
    go_wp2_with fail
    refine (anchor_any _).mono ?_
    rintro e w1 ⟨rfl, hb1⟩
    go_wp2_with fail
    go_ret
    exact ⟨rfl, hb1⟩
  go_enter Try.func4, Try.ntmps4
  go_wp2_with fail
  refine (anchor_any _).mono ?_
  rintro e w1 ⟨rfl, hb1⟩
  go_wp2_with fail
  refine (refJoin_any _ _ _ _ _ _ xs ys _ (HA.out.below hb1) (HB.out.below hb1) (by omega)).mono ?_
  rintro e w2 ⟨g, n, c, rfl, hsl, _, hb2⟩
  have hb2 : Below w.heap.size w w2 := hb1.trans (hb2.mono hb1.size)
  have HS := Lib.hid hsl
  clear hsl
  have HA2 := Lib.hid (HA.out.below hb2)
  have HB2 := Lib.hid (HB.out.below hb2)
  go_wp2_with fail
  refine (refCrc_any _ _ _ xs _ HA2.out).mono ?_
  rintro e w' ⟨rfl, rfl⟩
  go_wp2_with fail
  refine (crcMore_any (crc xs) _ _ _ ys _ HB2.out).mono ?_
  rintro e w' ⟨rfl, rfl⟩
  go_wp2_with fail
  refine (refCrc_any _ _ _ (xs ++ ys) _ HS.out).mono ?_
  rintro e w' ⟨rfl, rfl⟩
  rw [show crc (xs ++ ys) = crcMore (crc xs) ys from crcMore_append _ _ _]
  go_wp2_with fail
  refine (refAdler_any _ _ _ xs _ HA2.out).mono ?_
  rintro e w' ⟨rfl, rfl⟩
  go_wp2_with fail
  refine (adlerMore_any (adL (1, 0) xs) (adL_lt _ _ (by decide)) _ _ _ ys _ HB2.out).mono ?_
  rintro e w' ⟨rfl, rfl⟩
  go_wp2_with fail
  refine (refAdler_any _ _ _ (xs ++ ys) _ HS.out).mono ?_
  rintro e w' ⟨rfl, rfl⟩
  rw [adL_append]
  go_wp2_with fail
  go_ret
  exact ⟨by simp, hb2⟩

/-! The step to the statement (written by program). -/
open Go.ChangeShapes Go.WideShapes Go.ChangeAt
set_option maxRecDepth 100000 in
theorem lifted (os : Os) (started : os.Started) (H : Type) (enc : TypeId × Value → H) :
    ReturnsInHanded {} Try.checked os 4 .any (Rows.sumsMoreSpec.pre6 enc Try.prog Try.f4 Rows.sumsMoreRow.domain false) (Rows.sumsMoreSpec.post enc Try.prog Try.f4 false true false false) := by
  refine returnsInHanded_of_change (C := Try.checked) own started (by kernel_rfl) Try.func4
    (ChangeSpec.witness6 (enc := enc) (C := Try.checked) false ⟨#[], #[.slice none 0 0, .slice none 0 0], []⟩ 8 (by kernel_rfl) (by kernel_rfl) (by kernel_rfl) (by kernel_rfl)) ?_
  intro W base args ds gs before hval0 hW hcnd _
  have hval : ∀ (j : Nat) t v, Try.f4.params[j]? = some t → args[j]? = some v → Value.okWide Try.prog W .any base t v := hval0
  have hW' := hW
  obtain ⟨p, q, hA0, hV, rfl, hfz, hnd⟩ := hW
  have hA : DataW.TrodAll enc Try.prog W 0 (fun _ => true) true Try.f4.params.toList args.toList ds p := hA0
  rw [Try.params4] at hA hval
  obtain ⟨v0, vs0, d0, ds0, p0, q0, hargs, rfl, rfl, h0, r0⟩ := trodAll_cons hA
  obtain ⟨v1, vs1, d1, ds1, p1, q1, rfl, rfl, rfl, h1, r1⟩ := trodAll_cons r0
  obtain ⟨rfl, rfl, rfl⟩ := trodAll_nil r1
  obtain rfl : args = #[v0, v1] := by cases args; simp_all
  obtain ⟨rfl, rfl⟩ := trodVars_none hV
  have k0 := h0
  have lt0 : ∀ x ∈ p0, x.block < W.heap.size := by obtain ⟨m, hm⟩ := k0; exact DataW.trod_lt m _ _ _ hm
  obtain ⟨a0, len0, cap0, e0⟩ := okWide_slice Try.underlying24 (hval 0 24 v0 rfl rfl)
  obtain ⟨l0, w0⟩ := open_bytes Try.underlying24 Try.underlying5 (by kernel_rfl) e0 k0
  subst e0
  have k1 := h1
  have lt1 : ∀ x ∈ p1, x.block < W.heap.size := by obtain ⟨m, hm⟩ := k1; exact DataW.trod_lt m _ _ _ hm
  obtain ⟨a1, len1, cap1, e1⟩ := okWide_slice Try.underlying24 (hval 1 24 v1 rfl rfl)
  obtain ⟨l1, w1⟩ := open_bytes Try.underlying24 Try.underlying5 (by kernel_rfl) e1 k1
  subst e1
  clear hA0 hval0
  refine (walk a0 len0 cap0 l0 a1 len1 cap1 l1 W w0 w1).mono fun e W' ⟨he, bel⟩ => ?_
  subst he
  exact ⟨_, rfl, _, _, _, [], _, [], hW', trodAll_mk1 (shut_bool Try.underlying4 _), (trodAll_cons_mk (Below.trod laidOut (by kernel_rfl) (of_decide_eq_true (by kernel_rfl)) k0 bel lt0) (trodAll_cons_mk (Below.trod laidOut (by kernel_rfl) (of_decide_eq_true (by kernel_rfl)) k1 bel lt1) trodAll_mk0)), rfl, bel.frame _, fun h => by cases h⟩

theorem over : Rows.sumsMoreRow.holds Try.pinned (OpenSpec.ofChange Rows.sumsMoreSpec) :=
  OpenClaim.holds_of_wide 4 Try.f4 rfl rfl rfl rfl rfl rfl rfl ⟨rfl, rfl, rfl, rfl, rfl⟩ rfl rfl rfl rfl rfl (by kernel_rfl) Try.func4 (by kernel_rfl)
    (of_decide_eq_true (by kernel_rfl)) (by unfold Func.isWrapper; first | (rw [if_pos (by decide +kernel)]; kernel_rfl) | (rw [if_neg (by decide +kernel)]; exact ⟨rfl, rfl⟩))
    (fun os started H enc _ => lifted os started H enc)

/-- The statement. -/
theorem proved : Rows.SumsMoreSaid := over
#print axioms proved
end Go.Proofs.Ytbghohkjafgceaa.sumsMore
