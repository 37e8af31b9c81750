/-
  The statement PixMuls holds, whatever the two numbers.
-/
import Derived.Test.YtagpaebmpgnjhaaPixAnchor
import Derived.Test.YtagpaebmpgnjhaaOpen
namespace Go.Proofs.Ytagpaebmpgnjhaa.pixMuls
open Go.RowKit

theorem bare_back {a b : Int} (ha : Byte a) (hb : Byte b) (h0 : b ≠ 0) : -255 ≤ b * (bareZ (mulZ a b) b - a) ∧ b * (bareZ (mulZ a b) b - a) ≤ 255 := by
  have hn := mulZ_near a b
  have hmb := mulZ_bd ha hb
  obtain ⟨ha1, ha2⟩ := ha
  obtain ⟨hb1, hb2⟩ := hb
  unfold bareZ
  rw [if_neg h0]
  generalize mulZ a b = m at *
  obtain ⟨q, hq⟩ : ∃ q, q = (255 * m + b / 2) / b := ⟨_, rfl⟩
  rw [← hq]
  have h1 : b * q ≤ 255 * m + b / 2 := by rw [hq]; exact Int.mul_ediv_self_le (by omega)
  have h2 : 255 * m + b / 2 < b * q + b := by rw [hq]; exact Int.lt_mul_ediv_self_add (by omega)
  have h3 : 0 ≤ (255 - a) * b := Int.mul_nonneg (by omega) hb1
  rw [Int.sub_mul] at h3
  rw [Int.mul_sub, Int.mul_comm b a]
  rcases Int.lt_or_le 255 q with h | h
  · have h4 : b * 255 ≤ b * q := Int.mul_le_mul_of_nonneg_left (by omega) hb1
    rw [show min 255 q = 255 by omega]
    omega
  · rw [show min 255 q = q by omega]
    omega

set_option maxHeartbeats 1000000 in
theorem walk (a b : Int) (w : World) (ha : -9223372036854775808 ≤ a ∧ a ≤ 9223372036854775807) (hb : -9223372036854775808 ≤ b ∧ b ≤ 9223372036854775807) :
    Calls Try.prog 5 #[.int .i64 a, .int .i64 b] w fun e w' => e = .returned (.bool true) ∧ Below w.heap.size w w' := by
  by_cases hA : Byte a
  · by_cases hB : Byte b
    · have hn := mulZ_near a b
      have hmb := mulZ_bd hA hB
      have hc : mulZ b a = mulZ a b := mulZ_comm b a
      have hbk := bare_back hA hB
      have hxb := bareZ_bd (c := mulZ a b) (a := b) hmb.1 hB.1
      have hpr := prod_bd hA.1 hA.2 hB.1 hB.2
      obtain ⟨A1, A2⟩ := hA
      obtain ⟨B1, B2⟩ := hB
      have c1 := mul_any a b A1 (by omega) B1 (by omega)
      have c2 := refMul_any a b A1 (by omega) B1 (by omega)
      have c3 := mul_any b a B1 (by omega) A1 (by omega)
      have c4 := bare_any a b A1 (by omega) B1 (by omega)
      have c5 := refBare_any a b A1 (by omega) B1 (by omega)
      have c6 := bare_any (mulZ a b) b hmb.1 (by have := hmb.2; omega) B1 (by omega)
      rw [hc] at c3
      clear hc
      generalize mulZ a b = m at *
      generalize bareZ m b = x at *
      generalize bareZ a b = y at *
      obtain ⟨M1, M2⟩ := hmb
      obtain ⟨X1, X2⟩ := hxb
      obtain ⟨P1, P2⟩ := hpr
      obtain ⟨N1, N2⟩ := hn
      have C1 := Lib.hid c1
      have C2 := Lib.hid c2
      have C3 := Lib.hid c3
      have C4 := Lib.hid c4
      have C5 := Lib.hid c5
      have C6 := Lib.hid c6
      have HBK := Lib.hid hbk
      clear c1 c2 c3 c4 c5 c6 hbk
      have hx : ∀ z : Int, (z != z) = false := fun z => by simp
      go_enter Try.func5, Try.ntmps5
      go_wp2_with fail
      refine (anchor_any _).mono ?_
      rintro e w1 ⟨rfl, hb1⟩
      go_wp2_with fail
      refine (byteful_yes a ⟨A1, A2⟩ _).mono ?_
      rintro e w' ⟨rfl, rfl⟩
      go_wp2_with fail
      refine (byteful_yes b ⟨B1, B2⟩ _).mono ?_
      rintro e w' ⟨rfl, rfl⟩
      go_wp2_with fail
      refine (C1.out _).mono ?_
      rintro e w' ⟨rfl, rfl⟩
      go_wp2_with fail
      refine (C2.out _).mono ?_
      rintro e w' ⟨rfl, rfl⟩
      go_wp2_with fail
      refine (C3.out _).mono ?_
      rintro e w' ⟨rfl, rfl⟩
      go_wp2_with fail
      refine (C4.out _).mono ?_
      rintro e w' ⟨rfl, rfl⟩
      go_wp2_with fail
      refine (C5.out _).mono ?_
      rintro e w' ⟨rfl, rfl⟩
      go_wp2_with fail
      refine (C6.out _).mono ?_
      rintro e w' ⟨rfl, rfl⟩
      by_cases h0 : b = 0
      · have hz : (b == 0) = true := by rw [beq_iff_eq]; exact h0
        have H0 := Lib.hid h0
        clear h0
        go_wp2_with fail
        go_ret
        exact ⟨rfl, hb1⟩
      · have hz : (b == 0) = false := by rw [beq_eq_false_iff_ne]; exact h0
        have hq := HBK.out h0
        obtain ⟨q1, q2⟩ := hq
        clear h0
        go_wp2_with fail
        go_ret
        exact ⟨rfl, hb1⟩
    · obtain ⟨A1, A2⟩ := hA
      go_enter Try.func5, Try.ntmps5
      go_wp2_with fail
      refine (anchor_any _).mono ?_
      rintro e w1 ⟨rfl, hb1⟩
      go_wp2_with fail
      refine (byteful_yes a ⟨A1, A2⟩ _).mono ?_
      rintro e w' ⟨rfl, rfl⟩
      go_wp2_with fail
      refine (byteful_no b hB _).mono ?_
      rintro e w' ⟨rfl, rfl⟩
      go_wp2_with fail
      go_ret
      exact ⟨rfl, hb1⟩
  · go_enter Try.func5, Try.ntmps5
    go_wp2_with fail
    refine (anchor_any _).mono ?_
    rintro e w1 ⟨rfl, hb1⟩
    go_wp2_with fail
    refine (byteful_no a hA _).mono ?_
    rintro e w' ⟨rfl, rfl⟩
    go_wp2_with fail
    go_ret
    exact ⟨rfl, hb1⟩

/-! The step to the statement (written by program). -/
open Go.ChangeShapes Go.WideShapes Go.ChangeAt
set_option maxRecDepth 100000 in
theorem lifted (os : Os) (started : os.Started) (H : Type) (enc : TypeId × Value → H) :
    ReturnsInHanded {} Try.checked os 5 .any (Rows.pixMulsSpec.pre6 enc Try.prog Try.f5 Rows.pixMulsRow.domain false) (Rows.pixMulsSpec.post enc Try.prog Try.f5 false true false false) := by
  refine returnsInHanded_of_change (C := Try.checked) own started (by kernel_rfl) Try.func5
    (ChangeSpec.witness6 (enc := enc) (C := Try.checked) false ⟨#[], #[.int .i64 0, .int .i64 0], []⟩ 8 (by kernel_rfl) (by kernel_rfl) (by kernel_rfl) (by kernel_rfl)) ?_
  intro W base args ds gs before hval0 hW hcnd _
  have hval : ∀ (j : Nat) t v, Try.f5.params[j]? = some t → args[j]? = some v → Value.okWide Try.prog W .any base t v := hval0
  have hW' := hW
  obtain ⟨p, q, hA0, hV, rfl, hfz, hnd⟩ := hW
  have hA : DataW.TrodAll enc Try.prog W 0 (fun _ => true) true Try.f5.params.toList args.toList ds p := hA0
  rw [Try.params5] at hA hval
  obtain ⟨v0, vs0, d0, ds0, p0, q0, hargs, rfl, rfl, h0, r0⟩ := trodAll_cons hA
  obtain ⟨v1, vs1, d1, ds1, p1, q1, rfl, rfl, rfl, h1, r1⟩ := trodAll_cons r0
  obtain ⟨rfl, rfl, rfl⟩ := trodAll_nil r1
  obtain rfl : args = #[v0, v1] := by cases args; simp_all
  obtain ⟨rfl, rfl⟩ := trodVars_none hV
  have k0 := h0
  have lt0 : ∀ x ∈ p0, x.block < W.heap.size := by obtain ⟨m, hm⟩ := k0; exact DataW.trod_lt m _ _ _ hm
  obtain ⟨a0, rfl, _, _, w0⟩ := open_int Try.underlying3 (hval 0 3 v0 rfl rfl) h0
  have w0 := wf_i64 w0
  have k1 := h1
  have lt1 : ∀ x ∈ p1, x.block < W.heap.size := by obtain ⟨m, hm⟩ := k1; exact DataW.trod_lt m _ _ _ hm
  obtain ⟨a1, rfl, _, _, w1⟩ := open_int Try.underlying3 (hval 1 3 v1 rfl rfl) h1
  have w1 := wf_i64 w1
  clear hA0 hval0
  refine (walk a0 a1 W w0 w1).mono fun e W' ⟨he, bel⟩ => ?_
  subst he
  exact ⟨_, rfl, _, _, _, [], _, [], hW', trodAll_mk1 (shut_bool Try.underlying4 _), (trodAll_cons_mk (Below.trod laidOut (by kernel_rfl) (of_decide_eq_true (by kernel_rfl)) k0 bel lt0) (trodAll_cons_mk (Below.trod laidOut (by kernel_rfl) (of_decide_eq_true (by kernel_rfl)) k1 bel lt1) trodAll_mk0)), rfl, bel.frame _, fun h => by cases h⟩

theorem over : Rows.pixMulsRow.holds Try.pinned (OpenSpec.ofChange Rows.pixMulsSpec) :=
  OpenClaim.holds_of_wide 5 Try.f5 rfl rfl rfl rfl rfl rfl rfl ⟨rfl, rfl, rfl, rfl, rfl⟩ rfl rfl rfl rfl rfl (by kernel_rfl) Try.func5 (by kernel_rfl)
    (of_decide_eq_true (by kernel_rfl)) (by unfold Func.isWrapper; first | (rw [if_pos (by decide +kernel)]; kernel_rfl) | (rw [if_neg (by decide +kernel)]; exact ⟨rfl, rfl⟩))
    (fun os started H enc _ => lifted os started H enc)

/-- The statement. -/
theorem proved : Rows.PixMulsSaid := over
#print axioms proved
end Go.Proofs.Ytagpaebmpgnjhaa.pixMuls
