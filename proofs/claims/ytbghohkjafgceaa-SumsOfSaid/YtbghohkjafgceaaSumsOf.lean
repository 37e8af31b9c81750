/-
  The walk of the statement SumsOf: it returns true, whatever the parts.
-/
import Derived.Test.YtbghohkjafgceaaSumsAnchor
import Derived.Test.YtbghohkjafgceaaOpen
namespace Go.Proofs.Ytbghohkjafgceaa.sumsOf
open Go.RowKit

set_option maxHeartbeats 1000000 in
theorem walk (a : Option Addr) (len cap : Nat) (ps : List Part) (w : World) (hps : Parts w a len cap ps) :
    Calls Try.prog 3 #[.slice a len cap] w fun e w' => e = .returned (.bool true) ∧ Below w.heap.size w w' := by
  obtain ⟨i0, hi, hz0, hz1, hz2⟩ := info_parts infoByte
  have HPS := Lib.hid hps
  have hm := hps.sl.small
  have hlc := hps.sl.le
  have hl1 : ps.length ≤ len := by have := hps.sl.size_eq; omega
  have hl2 : len ≤ ps.length := by have := hps.sl.size_eq; omega
  clear hps
  by_cases hbig : 100 < len
  · go_enter Try.func3, Try.ntmps3
    go_wp2_with fail
    refine (anchor_any _).mono ?_
    rintro e w1 ⟨rfl, hb1⟩
    go_wp2_with fail
    go_ret
    exact ⟨rfl, by assumption⟩
  · go_enter Try.func3, Try.ntmps3
    go_wp2_with fail
    refine (anchor_any _).mono ?_
    rintro e w1 ⟨rfl, hb1⟩
    go_wp2_with fail
    go_loopw [3, 13] (fun v i wr => ∃ (k : Nat) (xs : List UInt8), k ≤ len ∧ i = .int .i64 k ∧ xs.length ≤ 5000 ∧ wr.ownsRow w.heap.size 5 1 v xs.length (xs.map byteV) ∧ Below w.heap.size w wr ∧ xs = (ps.take k).flatMap (·.bs)) (fun _ i _ => len - (intOf i).toNat)
    case atStart => exact ⟨0, [], by omega, rfl, by simp, World.ownsRow_nil _ _ _ _, hb1, rfl⟩
    case round =>
      obtain ⟨k, xs, hk, rfl, hn, hown, hbr, hxs⟩ := hrel
      obtain ⟨va, vcap, rfl, hsl, hvb⟩ := Sl.of_owns hown
      have HO := Lib.hid hown
      have HX := Lib.hid hxs
      have HV := Lib.hid hvb
      have HS := Lib.hid hsl
      clear hown hxs hvb hsl
      have hpr := HPS.out.below hbr
      by_cases hlt : k < len
      · obtain ⟨b, off, rfl, hcell⟩ := hpr.sl.row k (by omega)
        have hp := hpr.each (ps[k]'(by omega)) (List.getElem_mem _)
        have htk : (ps.take (k + 1)).flatMap (·.bs) = (ps.take k).flatMap (·.bs) ++ (ps[k]'(by omega)).bs := by
          rw [List.take_succ_eq_append_getElem (show k < ps.length by omega), List.flatMap_append]; simp
        generalize ps[k]'(by omega) = p at hcell hp htk
        obtain ⟨pa, pl, pc, pb⟩ := p
        replace hcell : wr.cell? ⟨b, off + k, none⟩ = some (.slice pa pl pc) := hcell
        have hp1 := hp.le
        have hp2 := hp.small
        have hp3 := hp.size_eq
        simp only at hp1 hp2 hp3 htk
        have hp4 : pb.length ≤ pl := by omega
        have hp5 : pl ≤ pb.length := by omega
        have HP := Lib.hid hp
        have HT := Lib.hid htk
        clear hp htk hpr hp3
        by_cases hfull : (5000 : Int) - (xs.length : Int) < (pl : Int)
        · go_wp2
          go_ret
          exact ⟨rfl, by assumption⟩
        · go_wp2_with (at_builtin; refine stopHere ?_)
          refine unhide (wpl_append rfl _ _ 24 rfl w.heap.size 5 i0 (.int .u8 0) 1 Try.underlying24 hi hz0 hz1 hz2 rfl byteV (fun _ => rfl) _ xs.length xs rfl HO.out pa pl pc pb rfl HP.out (by omega) (by omega) hbr.size ?_)
          intro v1 w2 hown1 hg1 _
          have hb2 := below_append hbr hg1 hbr.size HO.out
          have H1 := Lib.hid hown1
          clear hown1 hg1
          go_wp2
          go_roundw
          case rel => exact ⟨k + 1, xs ++ pb, by omega, by go_num, by simp only [List.length_append]; omega, by
            have e : (xs ++ pb).length = xs.length + pl := by simp only [List.length_append]; omega
            rw [e]; exact H1.out, hb2, by rw [HT.out, HX.out]⟩
          case measure => simp [intOf]; omega
      · have hxs2 : ps.flatMap (·.bs) = xs := by rw [HX.out, List.take_of_length_le (by omega)]
        have HX2 := Lib.hid hxs2
        have HPR := Lib.hid hpr
        clear hxs2 hpr
        have e1 : ∀ x : Int, (x == x) = true := fun x => beq_self_eq_true x
        go_wp2_with (first | (go_at_call 10; refine (crc_flat _ _ _ ps _ HPR.out xs HX2.out).mono ?_; rintro e w' ⟨rfl, rfl⟩) | (go_at_call 12; refine (adler_flat _ _ _ ps _ HPR.out xs HX2.out).mono ?_; rintro e w' ⟨rfl, rfl⟩) | (go_at_call 11; refine (refCrc_any _ _ _ xs _ HS.out).mono ?_; rintro e w' ⟨rfl, rfl⟩) | (go_at_call 13; refine (refAdler_any _ _ _ xs _ HS.out).mono ?_; rintro e w' ⟨rfl, rfl⟩))
        go_ret
        exact ⟨rfl, by assumption⟩

/-! The step to the statement (written by program). -/
open Go.ChangeShapes Go.WideShapes Go.ChangeAt
set_option maxRecDepth 100000 in
theorem lifted (os : Os) (started : os.Started) (H : Type) (enc : TypeId × Value → H) :
    ReturnsInHanded {} Try.checked os 3 .any (Rows.sumsOfSpec.pre6 enc Try.prog Try.f3 Rows.sumsOfRow.domain false) (Rows.sumsOfSpec.post enc Try.prog Try.f3 false true false false) := by
  refine returnsInHanded_of_change (C := Try.checked) own started (by kernel_rfl) Try.func3
    (ChangeSpec.witness6 (enc := enc) (C := Try.checked) false ⟨#[], #[.slice none 0 0], []⟩ 8 (by kernel_rfl) (by kernel_rfl) (by kernel_rfl) (by kernel_rfl)) ?_
  intro W base args ds gs before hval0 hW hcnd _
  have hval : ∀ (j : Nat) t v, Try.f3.params[j]? = some t → args[j]? = some v → Value.okWide Try.prog W .any base t v := hval0
  have hW' := hW
  obtain ⟨p, q, hA0, hV, rfl, hfz, hnd⟩ := hW
  have hA : DataW.TrodAll enc Try.prog W 0 (fun _ => true) true Try.f3.params.toList args.toList ds p := hA0
  rw [Try.params3] at hA hval
  obtain ⟨v0, vs0, d0, ds0, p0, q0, hargs, rfl, rfl, h0, r0⟩ := trodAll_cons hA
  obtain ⟨rfl, rfl, rfl⟩ := trodAll_nil r0
  obtain rfl : args = #[v0] := by cases args; simp_all
  obtain ⟨rfl, rfl⟩ := trodVars_none hV
  have k0 := h0
  have lt0 : ∀ x ∈ p0, x.block < W.heap.size := by obtain ⟨m, hm⟩ := k0; exact DataW.trod_lt m _ _ _ hm
  obtain ⟨a0, len0, cap0, e0⟩ := okWide_slice Try.underlying22 (hval 0 22 v0 rfl rfl)
  obtain ⟨l0, w0⟩ := open_parts Try.underlying22 (by kernel_rfl) Try.underlying24 Try.underlying5 (by kernel_rfl) e0 k0
  subst e0
  clear hA0 hval0
  refine (walk a0 len0 cap0 l0 W w0).mono fun e W' ⟨he, bel⟩ => ?_
  subst he
  exact ⟨_, rfl, _, _, _, [], _, [], hW', trodAll_mk1 (shut_bool Try.underlying4 _), (trodAll_cons_mk (Below.trod laidOut (by kernel_rfl) (of_decide_eq_true (by kernel_rfl)) k0 bel lt0) trodAll_mk0), rfl, bel.frame _, fun h => by cases h⟩

theorem over : Rows.sumsOfRow.holds Try.pinned (OpenSpec.ofChange Rows.sumsOfSpec) :=
  OpenClaim.holds_of_wide 3 Try.f3 rfl rfl rfl rfl rfl rfl rfl ⟨rfl, rfl, rfl, rfl, rfl⟩ rfl rfl rfl rfl rfl (by kernel_rfl) Try.func3 (by kernel_rfl)
    (of_decide_eq_true (by kernel_rfl)) (by unfold Func.isWrapper; first | (rw [if_pos (by decide +kernel)]; kernel_rfl) | (rw [if_neg (by decide +kernel)]; exact ⟨rfl, rfl⟩))
    (fun os started H enc _ => lifted os started H enc)

/-- The statement. -/
theorem proved : Rows.SumsOfSaid := over
#print axioms proved
end Go.Proofs.Ytbghohkjafgceaa.sumsOf
