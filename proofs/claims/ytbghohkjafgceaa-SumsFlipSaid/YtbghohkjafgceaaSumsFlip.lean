/-
  The statement SumsFlip holds, whatever the text, the place and the bits: turned bits within thirty-two places turn the Crc.
-/
import Derived.Test.YtbghohkjafgceaaSumsAnchor
import Derived.Test.YtbghohkjafgceaaOpen
import Derived.Test.YtbghohkjafgceaaCrcFlip
import Derived.StillTailTactics
namespace Go.Proofs.Ytbghohkjafgceaa.sumsFlip
open Go.RowKit

set_option maxHeartbeats 1000000 in
theorem out (a : Option Addr) (la ca : Nat) (xs : List UInt8) (p q : Int) (w : World) (ha : Sl byteV w a la ca xs) (hp : -9223372036854775808 ≤ p ∧ p ≤ 9223372036854775807) (hq : -9223372036854775808 ≤ q ∧ q ≤ 9223372036854775807)
    (h : 3000 < la ∨ (la ≤ 3000 ∧ (p < 0 ∨ (0 ≤ p ∧ (8 * (la : Int) ≤ p ∨ (p < 8 * (la : Int) ∧ (q < 1 ∨ (1 ≤ q ∧ 4294967296 ≤ q)))))))) :
    Calls Try.prog 5 #[.slice a la ca, .int .i64 p, .int .i64 q] w fun e w' => e = .returned (.bool true) ∧ Below w.heap.size w w' := by
  have h1 := ha.le
  have h2 := ha.small
  clear ha
  rcases h with h | ⟨h3, h | ⟨h4, h | ⟨h5, h | ⟨h6, h⟩⟩⟩⟩
  all_goals
    go_enter Try.func5, Try.ntmps5
    go_wp2_with fail
    refine (anchor_any _).mono ?_
    rintro e w1 ⟨rfl, hb1⟩
    go_wp2_with fail
    go_ret
    exact ⟨rfl, hb1⟩

theorem shl1_u8 (r : Nat) (h : r < 8) : (2 : Int) ^ r % (256 : Int) = ((1 <<< UInt8.ofNat r : UInt8).toNat : Int) := by
  have h1 : ∀ r : Fin 8, (2 : Int) ^ r.val % (256 : Int) = ((1 <<< UInt8.ofNat r.val : UInt8).toNat : Int) := by decide
  exact h1 ⟨r, h⟩

set_option maxHeartbeats 2000000 in
theorem inn (a : Option Addr) (la ca : Nat) (xs : List UInt8) (p q : Nat) (w : World) (ha : Sl byteV w a la ca xs) (h3 : la ≤ 3000) (h5 : p < 8 * la) (h6 : 1 ≤ q) (h7 : q < 4294967296) :
    Calls Try.prog 5 #[.slice a la ca, .int .i64 (p : Int), .int .i64 (q : Int)] w fun e w' => e = .returned (.bool true) ∧ Below w.heap.size w w' := by
  obtain ⟨i0, hi, hz0, hz1, hz2⟩ := info_parts infoByte
  have h1 := ha.le
  have h2 := ha.small
  have HA := Lib.hid ha
  have hla := ha.size_eq
  have hl1 : xs.length ≤ la := by omega
  have hl2 : la ≤ xs.length := by omega
  clear ha hla
  go_enter Try.func5, Try.ntmps5
  go_wp2_with fail
  refine (anchor_any _).mono ?_
  rintro e w1 ⟨rfl, hb1⟩
  have hb1s := hb1.size
  go_wp2_with (at_builtin; refine stopHere ?_)
  have hown0 := World.ownsRow_lit (e := 5) (size := 1) (base := w.heap.size) w1 #[] 0 hb1s (by decide) rfl
  have hbx := hb1.alloc hb1s (.cells #[] 5)
  refine unhide (wpl_append rfl _ _ 24 rfl w.heap.size 5 i0 (.int .u8 0) 1 Try.underlying24 hi hz0 hz1 hz2 rfl byteV (fun _ => rfl) _ 0 [] rfl
    hown0 a la ca xs rfl (HA.out.below hbx) (by omega) (by omega) (by simp; omega) ?_)
  intro v1 w2 hown1 hg1 _hx
  clear _hx
  have hb2 := below_append hbx hg1 (by simp; omega) hown0
  rw [Nat.zero_add] at hown1
  obtain ⟨g, vcap, rfl, hgb⟩ := owns_pos hown1 (by omega)
  have HO := Lib.hid hown1
  clear hown1 hg1 hown0 hbx hb1 hb1s
  go_wp2_with fail
  go_loopw [1, 8] (fun v i wr => ∃ (k P : Nat) (cs : List UInt8), k ≤ 32 ∧ i = .int .i64 k ∧ v = .int .i64 (P : Int) ∧ P = p + k ∧ wr.ownsRow w.heap.size 5 1 (.slice (some ⟨g, 0, none⟩) la vcap) la (cs.map byteV) ∧ Below w.heap.size w wr ∧
    (∀ j, j < 8 * la → bitAt cs j = (bitAt xs j != (decide (p ≤ j) && decide (j < p + k) && q.testBit (j - p)))) ∧ (∀ i, i < k → q.testBit i = true → p + i < 8 * la)) (fun _ i _ => 32 - (intOf i).toNat)
  case atStart => exact ⟨0, p, xs, by omega, rfl, rfl, rfl, HO.out, hb2, fun j _ => by
    have : decide (j < p + 0) = !decide (p ≤ j) := by rw [Bool.eq_iff_iff]; simp
    rw [this]; simp, fun i hi => by omega⟩
  case round =>
    obtain ⟨k, P, cs, hk, rfl, rfl, hP, hown, hbr, hbits, hin⟩ := hrel
    have hP1 : P ≤ p + k := by omega
    have hP2 : p + k ≤ P := by omega
    clear hP
    have HO2 := Lib.hid hown
    have HB := Lib.hid hbits
    have HI := Lib.hid hin
    clear hown hbits hin
    by_cases hlt : k < 32
    · have hq2 := bit64 q k (by omega)
      by_cases hbit : q / 2 ^ k % 2 = 1
      · have hb : (bits .and .i64 ((q : Int) / 2 ^ k) 1 == 1) = true := by rw [hq2, hbit]; rfl
        have HQ := Lib.hid hbit
        clear hq2 hbit
        by_cases hr : P / 8 < la
        · have hr2 : (P : Int) / 8 < (la : Int) := by omega
          have hst := HO2.out.stored (P / 8) (byteV (cs.getD (P / 8) 0 ^^^ (1 <<< UInt8.ofNat (P % 8))))
          have hfz := HO2.out.frozenAt (P / 8)
          have hcl : cs.length = la := by have := HO2.out.1; simpa using this
          have hce : wr.cell? ⟨g, P / 8, none⟩ = some (byteV (cs.getD (P / 8) 0)) := by
            rw [HO2.out.cellAt (P / 8) (by omega)]; simp [List.getD, show P / 8 < cs.length by omega]
          have eq1 : IntKind.i64.wrap ((P : Int).tdiv 8) = ((P / 8 : Nat) : Int) := by
            rw [Int.tdiv_eq_ediv_of_nonneg (by omega), IntWalk.i64_in _ (by omega)]; omega
          have eq2 : ((P : Int).tmod 8) = ((P % 8 : Nat) : Int) := by
            rw [Int.tmod_eq_emod_of_nonneg (by omega)]; omega
          have eq3 : IntKind.i64.wrap ((P : Int) / 8) = ((P / 8 : Nat) : Int) := by
            rw [IntWalk.i64_in _ (by omega)]; omega
          have eq4 : (P : Int) % 8 = ((P % 8 : Nat) : Int) := by omega
          have HST := Lib.hid hst
          have HCL := Lib.hid hcl
          clear hst hcl
          have hbs := bitAt_set cs P (by have := HCL.out; omega)
          have HBS := Lib.hid hbs
          clear hbs
          generalize cs.getD (P / 8) 0 = u at *
          have hd8 : P / 8 ≤ 3100 := by omega
          have hr8 : P % 8 < 8 := by omega
          go_wp2
          generalize P / 8 = d at *
          generalize P % 8 = r at *
          go_still_tail 10, (by kernel_rfl)
          change wpList _ _ _ _ _ wr.drew
          go_wp2
          go_roundw
          case rel => exact ⟨k + 1, P + 1, cs.set d (u ^^^ (1 <<< UInt8.ofNat r)), by omega, by go_num, by go_num, by omega, by
            rw [shl1_u8 r hr8, bits_xor8, List.map_set]; exact HST.out.1.drew, by
            first | exact (hbr.setCell hgb _).drew | exact hbr.drew.setCell hgb _, fun j hj => by
            have hPk : P = p + k := by omega
            rw [HBS.out j, HB.out j hj]
            by_cases hjk : j = p + k
            · have e1 : decide (j = P) = true := decide_eq_true (by omega)
              have e2 : decide (j < p + k) = false := decide_eq_false (by omega)
              have e3 : decide (j < p + (k + 1)) = true := decide_eq_true (by omega)
              have e4 : decide (p ≤ j) = true := decide_eq_true (by omega)
              have e5 : q.testBit (j - p) = true := by rw [show j - p = k by omega, testBit_mod, decide_eq_true HQ.out]
              rw [e1, e2, e3, e4, e5]; cases bitAt xs j <;> rfl
            · have e1 : decide (j = P) = false := decide_eq_false (by omega)
              rw [e1, show decide (j < p + (k + 1)) = decide (j < p + k) from decide_eq_decide.2 (by omega)]
              cases (bitAt xs j != (decide (p ≤ j) && decide (j < p + k) && q.testBit (j - p))) <;> rfl, fun i hi hq => by
            by_cases hik : i = k
            · subst hik; omega
            · exact HI.out i (by omega) hq⟩
          case measure => simp [intOf]; omega
        · have hr2 : (la : Int) ≤ (P : Int) / 8 := by omega
          go_wp2
          go_ret
          exact ⟨rfl, hbr⟩
      · have hb : (bits .and .i64 ((q : Int) / 2 ^ k) 1 == 1) = false := by rw [hq2, beq_eq_false_iff_ne]; omega
        have HQ := Lib.hid hbit
        clear hq2 hbit
        go_wp2
        go_roundw
        case rel => exact ⟨k + 1, P + 1, cs, by omega, by go_num, by go_num, by omega, HO2.out, hbr, fun j hj => by
          rw [HB.out j hj]
          by_cases hjk : j = p + k
          · subst hjk
            rw [show p + k - p = k by omega, testBit_mod, decide_eq_false HQ.out]; simp
          · rw [show decide (j < p + (k + 1)) = decide (j < p + k) from decide_eq_decide.2 (by omega)], fun i hi hq => by
          by_cases hik : i = k
          · subst hik; rw [testBit_mod, decide_eq_true_eq] at hq; exact absurd hq HQ.out
          · exact HI.out i (by omega) hq⟩
        case measure => simp [intOf]; omega
    · obtain rfl : k = 32 := by omega
      obtain ⟨va, vcap2, e1, hsl, _⟩ := Sl.of_owns HO2.out
      cases e1
      have hcl : cs.length = xs.length := by have := HO2.out.1; simp at this; omega
      have hne : crc xs ≠ crc cs := by
        obtain ⟨i, hi⟩ := Nat.exists_testBit_of_ne_zero (show q ≠ 0 by omega)
        have hi32 : i < 32 := by
          rcases Nat.lt_or_ge i 32 with h | h
          · exact h
          · have : 2 ^ 32 ≤ 2 ^ i := Nat.pow_le_pow_right (by omega) h
            rw [Nat.testBit_lt_two_pow (by omega)] at hi; cases hi
        refine crc_flip xs cs hcl p (fun j => decide (p ≤ j) && decide (j < p + 32) && q.testBit (j - p)) (fun j hj => HB.out j (by omega)) (fun j hj => ?_) (fun j hj => ?_) (p + i) ?_ ?_
        · simp; omega
        · simp; omega
        · have := HI.out i hi32 hi; omega
        · simp only [Bool.and_eq_true, decide_eq_true_eq]
          exact ⟨⟨by omega, by omega⟩, by rw [show p + i - p = i by omega]; exact hi⟩
      have hne2 : (((crc xs).toNat : Int) != ((crc cs).toNat : Int)) = true := by
        rw [bne_iff_ne]; intro h; exact hne (BitVec.eq_of_toNat_eq (by omega))
      have HS := Lib.hid hsl
      have HN := Lib.hid hne2
      have hbs := hbr.size
      clear hsl hne hne2 hcl
      go_wp2_with fail
      refine (crc_one _ _ _ _ xs (HA.out.below hbr) _ rfl _).mono ?_
      rintro e w' ⟨rfl, rfl⟩
      go_wp2_with fail
      refine (crc_one _ _ _ _ cs (HS.out.alloc _) _ (by simp) _).mono ?_
      rintro e w' ⟨rfl, rfl⟩
      have hne2 := HN.out
      go_wp2_with fail
      go_ret
      exact ⟨by first | rfl | simp [hne2], by repeat (first | exact hbr | refine Below.alloc ?_ (by first | exact hbr.size | (simp; done) | (simp; omega)) _)⟩

theorem walk (a : Option Addr) (la ca : Nat) (xs : List UInt8) (p q : Int) (w : World) (ha : Sl byteV w a la ca xs) (hp : -9223372036854775808 ≤ p ∧ p ≤ 9223372036854775807) (hq : -9223372036854775808 ≤ q ∧ q ≤ 9223372036854775807) :
    Calls Try.prog 5 #[.slice a la ca, .int .i64 p, .int .i64 q] w fun e w' => e = .returned (.bool true) ∧ Below w.heap.size w w' := by
  by_cases h : 3000 < la ∨ (la ≤ 3000 ∧ (p < 0 ∨ (0 ≤ p ∧ (8 * (la : Int) ≤ p ∨ (p < 8 * (la : Int) ∧ (q < 1 ∨ (1 ≤ q ∧ 4294967296 ≤ q)))))))
  · exact out a la ca xs p q w ha hp hq h
  · obtain ⟨p, rfl⟩ := Int.eq_ofNat_of_zero_le (show 0 ≤ p by omega)
    obtain ⟨q, rfl⟩ := Int.eq_ofNat_of_zero_le (show 0 ≤ q by omega)
    exact inn a la ca xs p q w ha (by omega) (by omega) (by omega) (by omega)

/-! The step to the statement (written by program). -/
open Go.ChangeShapes Go.WideShapes Go.ChangeAt
set_option maxRecDepth 100000 in
theorem lifted (os : Os) (started : os.Started) (H : Type) (enc : TypeId × Value → H) :
    ReturnsInHanded {} Try.checked os 5 .any (Rows.sumsFlipSpec.pre6 enc Try.prog Try.f5 Rows.sumsFlipRow.domain false) (Rows.sumsFlipSpec.post enc Try.prog Try.f5 false true false false) := by
  refine returnsInHanded_of_change (C := Try.checked) own started (by kernel_rfl) Try.func5
    (ChangeSpec.witness6 (enc := enc) (C := Try.checked) false ⟨#[], #[.slice none 0 0, .int .i64 0, .int .i64 0], []⟩ 8 (by kernel_rfl) (by kernel_rfl) (by kernel_rfl) (by kernel_rfl)) ?_
  intro W base args ds gs before hval0 hW hcnd _
  have hval : ∀ (j : Nat) t v, Try.f5.params[j]? = some t → args[j]? = some v → Value.okWide Try.prog W .any base t v := hval0
  have hW' := hW
  obtain ⟨p, q, hA0, hV, rfl, hfz, hnd⟩ := hW
  have hA : DataW.TrodAll enc Try.prog W 0 (fun _ => true) true Try.f5.params.toList args.toList ds p := hA0
  rw [Try.params5] at hA hval
  obtain ⟨v0, vs0, d0, ds0, p0, q0, hargs, rfl, rfl, h0, r0⟩ := trodAll_cons hA
  obtain ⟨v1, vs1, d1, ds1, p1, q1, rfl, rfl, rfl, h1, r1⟩ := trodAll_cons r0
  obtain ⟨v2, vs2, d2, ds2, p2, q2, rfl, rfl, rfl, h2, r2⟩ := trodAll_cons r1
  obtain ⟨rfl, rfl, rfl⟩ := trodAll_nil r2
  obtain rfl : args = #[v0, v1, v2] := by cases args; simp_all
  obtain ⟨rfl, rfl⟩ := trodVars_none hV
  have k0 := h0
  have lt0 : ∀ x ∈ p0, x.block < W.heap.size := by obtain ⟨m, hm⟩ := k0; exact DataW.trod_lt m _ _ _ hm
  obtain ⟨a0, len0, cap0, e0⟩ := okWide_slice Try.underlying24 (hval 0 24 v0 rfl rfl)
  obtain ⟨l0, w0⟩ := open_bytes Try.underlying24 Try.underlying5 (by kernel_rfl) e0 k0
  subst e0
  have k1 := h1
  have lt1 : ∀ x ∈ p1, x.block < W.heap.size := by obtain ⟨m, hm⟩ := k1; exact DataW.trod_lt m _ _ _ hm
  obtain ⟨a1, rfl, _, _, w1⟩ := open_int Try.underlying3 (hval 1 3 v1 rfl rfl) h1
  have w1 := wf_i64 w1
  have k2 := h2
  have lt2 : ∀ x ∈ p2, x.block < W.heap.size := by obtain ⟨m, hm⟩ := k2; exact DataW.trod_lt m _ _ _ hm
  obtain ⟨a2, rfl, _, _, w2⟩ := open_int Try.underlying3 (hval 2 3 v2 rfl rfl) h2
  have w2 := wf_i64 w2
  clear hA0 hval0
  refine (walk a0 len0 cap0 l0 a1 a2 W w0 w1 w2).mono fun e W' ⟨he, bel⟩ => ?_
  subst he
  exact ⟨_, rfl, _, _, _, [], _, [], hW', trodAll_mk1 (shut_bool Try.underlying4 _), (trodAll_cons_mk (Below.trod laidOut (by kernel_rfl) (of_decide_eq_true (by kernel_rfl)) k0 bel lt0) (trodAll_cons_mk (Below.trod laidOut (by kernel_rfl) (of_decide_eq_true (by kernel_rfl)) k1 bel lt1) (trodAll_cons_mk (Below.trod laidOut (by kernel_rfl) (of_decide_eq_true (by kernel_rfl)) k2 bel lt2) trodAll_mk0))), rfl, bel.frame _, fun h => by cases h⟩

theorem over : Rows.sumsFlipRow.holds Try.pinned (OpenSpec.ofChange Rows.sumsFlipSpec) :=
  OpenClaim.holds_of_wide 5 Try.f5 rfl rfl rfl rfl rfl rfl rfl ⟨rfl, rfl, rfl, rfl, rfl⟩ rfl rfl rfl rfl rfl (by kernel_rfl) Try.func5 (by kernel_rfl)
    (of_decide_eq_true (by kernel_rfl)) (by unfold Func.isWrapper; first | (rw [if_pos (by decide +kernel)]; kernel_rfl) | (rw [if_neg (by decide +kernel)]; exact ⟨rfl, rfl⟩))
    (fun os started H enc _ => lifted os started H enc)

/-- The statement. -/
theorem proved : Rows.SumsFlipSaid := over
#print axioms proved
end Go.Proofs.Ytbghohkjafgceaa.sumsFlip
