/-
  The statement SumsLinear holds, whatever the three texts: the Crc of an odd number of texts of one length, xored, is that of the xored text.
-/
import Derived.Test.YtbghohkjafgceaaSumsAnchor
import Derived.Test.YtbghohkjafgceaaOpen
import Derived.StillTailTactics
namespace Go.Proofs.Ytbghohkjafgceaa.sumsLinear
open Go.RowKit

/-! The plain law. -/
theorem crcBit_xor3 (a b c : BitVec 32) : crcBit a ^^^ crcBit b ^^^ crcBit c = crcBit (a ^^^ b ^^^ c) := by
  rw [crcBit_xor, crcBit_xor]
theorem crcBits_xor3 (n : Nat) (a b c : BitVec 32) : crcBits n a ^^^ crcBits n b ^^^ crcBits n c = crcBits n (a ^^^ b ^^^ c) := by
  induction n with
  | zero => rfl
  | succ n ih => simp only [crcBits, crcBit_xor3, ih]
theorem u32_xor (a b : UInt8) : u32 (a ^^^ b) = u32 a ^^^ u32 b := by
  apply BitVec.eq_of_toNat_eq; rw [BitVec.toNat_xor, u32_toNat, u32_toNat, u32_toNat, UInt8.toNat_xor]

def x3 : List UInt8 → List UInt8 → List UInt8 → List UInt8
  | a :: xs, b :: bs, c :: cs => (a ^^^ b ^^^ c) :: x3 xs bs cs
  | _, _, _ => []
theorem length_x3 : ∀ (a b c : List UInt8), b.length = a.length → c.length = a.length → (x3 a b c).length = a.length
  | [], _, _, _, _ => by simp [x3]
  | _ :: xs, _ :: bs, _ :: cs, h1, h2 => by simp [x3, length_x3 xs bs cs (by simpa using h1) (by simpa using h2)]
theorem getElem_x3 : ∀ (a b c : List UInt8) (i : Nat) (h : i < (x3 a b c).length) (h1 : i < a.length) (h2 : i < b.length) (h3 : i < c.length), (x3 a b c)[i] = a[i] ^^^ b[i] ^^^ c[i]
  | _ :: _, _ :: _, _ :: _, 0, _, _, _, _ => by simp [x3]
  | _ :: xs, _ :: bs, _ :: cs, i + 1, h, h1, h2, h3 => by
    simp only [x3, List.getElem_cons_succ]
    exact getElem_x3 xs bs cs i (by simpa [x3] using h) (by simpa using h1) (by simpa using h2) (by simpa using h3)

theorem crcL_x3 : ∀ (a b c : List UInt8) (p q r : BitVec 32), b.length = a.length → c.length = a.length → crcL p a ^^^ crcL q b ^^^ crcL r c = crcL (p ^^^ q ^^^ r) (x3 a b c)
  | [], [], [], p, q, r, _, _ => rfl
  | a :: xs, b :: bs, c :: cs, p, q, r, h1, h2 => by
    have h := crcL_x3 xs bs cs (crcByte p a) (crcByte q b) (crcByte r c) (by simpa using h1) (by simpa using h2)
    have e : crcByte p a ^^^ crcByte q b ^^^ crcByte r c = crcByte (p ^^^ q ^^^ r) (a ^^^ b ^^^ c) := by
      simp only [crcByte, crcBits_xor3, u32_xor]
      congr 1; ac_rfl
    rw [e] at h
    exact h

theorem crc_x3 (a b c : List UInt8) (h1 : b.length = a.length) (h2 : c.length = a.length) : crc a ^^^ crc b ^^^ crc c = crc (x3 a b c) := by
  have h := crcL_x3 a b c (bnot 0) (bnot 0) (bnot 0) h1 h2
  have e : bnot 0 ^^^ bnot 0 ^^^ bnot 0 = bnot 0 := by decide
  rw [e] at h
  simp only [crc, crcMore]
  rw [← h]
  simp only [bnot, ← BitVec.xor_allOnes]
  generalize crcL _ a = x, crcL _ b = y, crcL _ c = z
  rw [show (x ^^^ BitVec.allOnes 32 ^^^ (y ^^^ BitVec.allOnes 32) ^^^ (z ^^^ BitVec.allOnes 32)) = x ^^^ y ^^^ z ^^^ BitVec.allOnes 32 ^^^ (BitVec.allOnes 32 ^^^ BitVec.allOnes 32) from by ac_rfl]
  simp

theorem x3_step (xs ys zs ds : List UInt8) (k : Nat) (hk : k < xs.length) (h1 : ys.length = xs.length) (h2 : zs.length = xs.length) (hd : ds.length = xs.length)
    (hds : ds.take k = (x3 xs ys zs).take k) : (ds.set k (xs[k] ^^^ ys[k] ^^^ zs[k])).take (k + 1) = (x3 xs ys zs).take (k + 1) := by
  have hl := length_x3 xs ys zs h1 h2
  rw [List.take_succ_eq_append_getElem (by simpa using (by omega : k < ds.length)), List.take_succ_eq_append_getElem (by omega), List.take_set_of_le (Nat.le_refl k), hds, List.getElem_set_self, getElem_x3]

set_option maxHeartbeats 1000000 in
theorem walk (a : Option Addr) (la ca : Nat) (xs : List UInt8) (b : Option Addr) (lb cb : Nat) (ys : List UInt8) (c : Option Addr) (lc cc : Nat) (zs : List UInt8) (w : World)
    (ha : Sl byteV w a la ca xs) (hb : Sl byteV w b lb cb ys) (hc : Sl byteV w c lc cc zs) :
    Calls Try.prog 6 #[.slice a la ca, .slice b lb cb, .slice c lc cc] w fun e w' => e = .returned (.bool true) ∧ Below w.heap.size w w' := by
  obtain ⟨i0, hi, hz0, hz1, hz2⟩ := info_parts infoByte
  have h1 := ha.le
  have h2 := ha.small
  have h3 := hb.le
  have h4 := hb.small
  have h5 := hc.le
  have h6 := hc.small
  have l1 := ha.size_eq
  have l2 := hb.size_eq
  have l3 := hc.size_eq
  have HA := Lib.hid ha
  have HB := Lib.hid hb
  have HC := Lib.hid hc
  clear ha hb hc
  by_cases hla : 3000 < la
  · clear l1 l2 l3
    go_enter Try.func6, Try.ntmps6
    go_wp2_with fail
    refine (anchor_any _).mono ?_
    rintro e w1 ⟨rfl, hb1⟩
    go_wp2_with fail
    go_ret
    exact ⟨rfl, hb1⟩
  by_cases hlb : la = lb
  · by_cases hlc : la = lc
    · subst hlb hlc
      have l4 : ys.length = xs.length := by omega
      have l5 : zs.length = xs.length := by omega
      have hla1 : la ≤ xs.length := by omega
      have hla2 : xs.length ≤ la := by omega
      have L1 := Lib.hid l1
      have L4 := Lib.hid l4
      have L5 := Lib.hid l5
      clear l1 l2 l3 l4 l5
      go_enter Try.func6, Try.ntmps6
      go_wp2_with fail
      refine (anchor_any _).mono ?_
      rintro e w1 ⟨rfl, hb1⟩
      go_wp2_with (at_make; refine stopHere ?_)
      refine unhide (wpList_make_full _ rfl _ _ 24 rfl w.heap.size 5 i0 (.int .u8 0) 1 Try.underlying24 hi hz0 hz1 _ _ _ _ la rfl rfl rfl rfl (by rw [hz2]; omega) (by unfold maxLen; omega) hb1.size ?_)
      intro w2 hown hg
      have hb2 := hb1.grown hg hb1.size (fun k hk => by cases hk)
      have hg1 : w.heap.size ≤ w1.heap.size := hb1.size
      have hown2 : w2.ownsRow w.heap.size 5 1 (.slice (some ⟨w1.heap.size, 0, none⟩) la la) la ((List.replicate la (0 : UInt8)).map byteV) := by
        have e : (madeCells (Value.int .u8 0).cells (la * 1)).toList = (List.replicate la (0 : UInt8)).map byteV := by
          rw [Nat.mul_one, show (Value.int .u8 0).cells = #[Value.int .u8 0] from rfl, toList_madeCells_one, List.map_replicate]; rfl
        rw [← e]; exact hown
      clear hown hg
      generalize w1.heap.size = g at hown2 hg1 ⊢
      have HO := Lib.hid hown2
      clear hown2 hb1
      go_wp2
      go_loopw [33] (fun i wr => ∃ (k : Nat) (ds : List UInt8), k ≤ la ∧ i = .int .i64 k ∧ wr.ownsRow w.heap.size 5 1 (.slice (some ⟨g, 0, none⟩) la la) la (ds.map byteV) ∧ ds.take k = (x3 xs ys zs).take k ∧ Below w.heap.size w wr) (fun i _ => la - (intOf i).toNat)
      case atStart => exact ⟨0, _, by omega, rfl, HO.out, rfl, hb2⟩
      case round =>
        obtain ⟨k, ds, hk, rfl, hown, hds, hbr⟩ := hrel
        have HA2 := Lib.hid (HA.out.below hbr)
        have HB2 := Lib.hid (HB.out.below hbr)
        have HC2 := Lib.hid (HC.out.below hbr)
        have HO2 := Lib.hid hown
        have HD := Lib.hid hds
        have hdl : ds.length = la := by have := hown.1; simpa using this
        have HDL := Lib.hid hdl
        clear hown hds hdl
        by_cases hlt : k < la
        · obtain ⟨b1, o1, rfl, hc1⟩ := HA2.out.row k (by omega)
          obtain ⟨b2, o2, rfl, hc2⟩ := HB2.out.row k (by have := L4.out; omega)
          obtain ⟨b3, o3, rfl, hc3⟩ := HC2.out.row k (by have := L5.out; omega)
          have hstep := x3_step xs ys zs ds k (by omega) L4.out L5.out (by have := HDL.out; omega) HD.out
          have hst := HO2.out.stored k (byteV (xs[k]'(by omega) ^^^ ys[k]'(by have := L4.out; omega) ^^^ zs[k]'(by have := L5.out; omega)))
          have hfz := HO2.out.frozenAt k
          have hce := HO2.out.cellAt k (by omega)
          have hce2 : wr.cell? ⟨g, k, none⟩ = some (byteV (ds[k]'(by have := HDL.out; omega))) := by
            rw [hce]; simp [show k < ds.length by have := HDL.out; omega]
          clear hce
          generalize xs[k]'(by omega) = x at hc1 hstep hst
          generalize ys[k]'(by have := L4.out; omega) = y at hc2 hstep hst
          generalize zs[k]'(by have := L5.out; omega) = z at hc3 hstep hst
          generalize ds[k]'(by have := HDL.out; omega) = d at hce2
          have hx := x.toNat_lt
          have hy := y.toNat_lt
          have hz := z.toNat_lt
          have HST := Lib.hid hst
          have HSP := Lib.hid hstep
          clear hst hstep
          go_wp2
          go_still_tail 17, (by kernel_rfl)
          change wpList _ _ _ _ _ wr.drew
          go_wp2
          go_roundw
          case rel => exact ⟨k + 1, ds.set k (x ^^^ y ^^^ z), by omega, by go_num, by
            rw [bits_xor8, bits_xor8, List.map_set]; exact HST.out.1.drew, HSP.out, by
            first | exact (hbr.setCell hg1 _).drew | exact hbr.drew.setCell hg1 _⟩
          case measure => simp [intOf]; omega
        · obtain ⟨_, _, e1, hsl, _⟩ := Sl.of_owns HO2.out
          cases e1
          have hx : ds = x3 xs ys zs := by
            have := HD.out
            rwa [List.take_of_length_le (by have := HDL.out; omega), List.take_of_length_le (by rw [length_x3 _ _ _ L4.out L5.out]; omega)] at this
          have hcx := crc_x3 xs ys zs L4.out L5.out
          rw [← hx] at hcx
          obtain ⟨c1, hc1⟩ : ∃ c, c = crc xs := ⟨_, rfl⟩
          obtain ⟨c2, hc2⟩ : ∃ c, c = crc ys := ⟨_, rfl⟩
          obtain ⟨c3, hc3⟩ : ∃ c, c = crc zs := ⟨_, rfl⟩
          obtain ⟨c4, hc4⟩ : ∃ c, c = c1 ^^^ c2 := ⟨_, rfl⟩
          obtain ⟨c5, hc5⟩ : ∃ c, c = c4 ^^^ c3 := ⟨_, rfl⟩
          have e4 : bits .xor .i64 (c1.toNat : Int) (c2.toNat : Int) = (c4.toNat : Int) := by
            rw [xor64 _ _ (by have := c1.isLt; omega) (by have := c2.isLt; omega), hc4, BitVec.toNat_xor]
          have e5 : bits .xor .i64 (c4.toNat : Int) (c3.toNat : Int) = (c5.toNat : Int) := by
            rw [xor64 _ _ (by have := c4.isLt; omega) (by have := c3.isLt; omega), hc5, BitVec.toNat_xor]
          have hcd : crc ds = c5 := by rw [hc5, hc4, hc1, hc2, hc3, hcx]
          have H1 := Lib.hid hc1
          have H2 := Lib.hid hc2
          have H3 := Lib.hid hc3
          have H5 := Lib.hid hcd
          have HS := Lib.hid hsl
          clear hc1 hc2 hc3 hc4 hc5 hcd hcx hx hsl
          go_wp2_with fail
          refine (crc_one _ _ _ _ xs HA2.out _ rfl _).mono ?_
          rintro e w' ⟨rfl, rfl⟩
          rw [← H1.out]
          go_wp2_with fail
          refine (crc_one _ _ _ _ ys (HB2.out.below ((Below.refl _ _).alloc (Nat.le_refl _) _)) _ (by simp) _).mono ?_
          rintro e w' ⟨rfl, rfl⟩
          rw [← H2.out]
          go_wp2_with fail
          refine (crc_one _ _ _ _ zs (HC2.out.below (((Below.refl _ _).alloc (Nat.le_refl _) _).alloc (by simp) _)) _ (by simp) _).mono ?_
          rintro e w' ⟨rfl, rfl⟩
          rw [← H3.out]
          go_wp2_with fail
          refine (crc_one _ _ _ _ ds (HS.out.below ((((Below.refl _ _).alloc (Nat.le_refl _) _).alloc (by simp) _).alloc (by first | (simp; done) | (simp; omega)) _)) _ (by simp) _).mono ?_
          rintro e w' ⟨rfl, rfl⟩
          rw [H5.out]
          have hsz := hbr.size
          go_wp2_with fail
          go_ret
          exact ⟨by simp, by repeat (first | exact hbr | refine Below.alloc ?_ (by first | exact hbr.size | (simp; done) | (simp; omega)) _)⟩
    · have hne : ((la : Int) != (lc : Int)) = true := by rw [bne_iff_ne]; omega
      have hne1 : ((la : Int) != (lb : Int)) = false := by rw [bne_eq_false_iff_eq]; omega
      clear l1 l2 l3 hlb
      go_enter Try.func6, Try.ntmps6
      go_wp2_with fail
      refine (anchor_any _).mono ?_
      rintro e w1 ⟨rfl, hb1⟩
      go_wp2_with fail
      go_ret
      exact ⟨rfl, hb1⟩
  · have hne : ((la : Int) != (lb : Int)) = true := by rw [bne_iff_ne]; omega
    clear l1 l2 l3
    go_enter Try.func6, Try.ntmps6
    go_wp2_with fail
    refine (anchor_any _).mono ?_
    rintro e w1 ⟨rfl, hb1⟩
    go_wp2_with fail
    go_ret
    exact ⟨rfl, hb1⟩

/-! The step to the statement (written by program). -/
open Go.ChangeShapes Go.WideShapes Go.ChangeAt
set_option maxRecDepth 100000 in
theorem lifted (os : Os) (started : os.Started) (H : Type) (enc : TypeId × Value → H) :
    ReturnsInHanded {} Try.checked os 6 .any (Rows.sumsLinearSpec.pre6 enc Try.prog Try.f6 Rows.sumsLinearRow.domain false) (Rows.sumsLinearSpec.post enc Try.prog Try.f6 false true false false) := by
  refine returnsInHanded_of_change (C := Try.checked) own started (by kernel_rfl) Try.func6
    (ChangeSpec.witness6 (enc := enc) (C := Try.checked) false ⟨#[], #[.slice none 0 0, .slice none 0 0, .slice none 0 0], []⟩ 8 (by kernel_rfl) (by kernel_rfl) (by kernel_rfl) (by kernel_rfl)) ?_
  intro W base args ds gs before hval0 hW hcnd _
  have hval : ∀ (j : Nat) t v, Try.f6.params[j]? = some t → args[j]? = some v → Value.okWide Try.prog W .any base t v := hval0
  have hW' := hW
  obtain ⟨p, q, hA0, hV, rfl, hfz, hnd⟩ := hW
  have hA : DataW.TrodAll enc Try.prog W 0 (fun _ => true) true Try.f6.params.toList args.toList ds p := hA0
  rw [Try.params6] at hA hval
  obtain ⟨v0, vs0, d0, ds0, p0, q0, hargs, rfl, rfl, h0, r0⟩ := trodAll_cons hA
  obtain ⟨v1, vs1, d1, ds1, p1, q1, rfl, rfl, rfl, h1, r1⟩ := trodAll_cons r0
  obtain ⟨v2, vs2, d2, ds2, p2, q2, rfl, rfl, rfl, h2, r2⟩ := trodAll_cons r1
  obtain ⟨rfl, rfl, rfl⟩ := trodAll_nil r2
  obtain rfl : args = #[v0, v1, v2] := by cases args; simp_all
  obtain ⟨rfl, rfl⟩ := trodVars_none hV
  have k0 := h0
  have lt0 : ∀ x ∈ p0, x.block < W.heap.size := by obtain ⟨m, hm⟩ := k0; exact DataW.trod_lt m _ _ _ hm
  obtain ⟨a0, len0, cap0, e0⟩ := okWide_slice Try.underlying24 (hval 0 24 v0 rfl rfl)
  obtain ⟨l0, w0⟩ := open_bytes Try.underlying24 Try.underlying5 (by kernel_rfl) e0 k0
  subst e0
  have k1 := h1
  have lt1 : ∀ x ∈ p1, x.block < W.heap.size := by obtain ⟨m, hm⟩ := k1; exact DataW.trod_lt m _ _ _ hm
  obtain ⟨a1, len1, cap1, e1⟩ := okWide_slice Try.underlying24 (hval 1 24 v1 rfl rfl)
  obtain ⟨l1, w1⟩ := open_bytes Try.underlying24 Try.underlying5 (by kernel_rfl) e1 k1
  subst e1
  have k2 := h2
  have lt2 : ∀ x ∈ p2, x.block < W.heap.size := by obtain ⟨m, hm⟩ := k2; exact DataW.trod_lt m _ _ _ hm
  obtain ⟨a2, len2, cap2, e2⟩ := okWide_slice Try.underlying24 (hval 2 24 v2 rfl rfl)
  obtain ⟨l2, w2⟩ := open_bytes Try.underlying24 Try.underlying5 (by kernel_rfl) e2 k2
  subst e2
  clear hA0 hval0
  refine (walk a0 len0 cap0 l0 a1 len1 cap1 l1 a2 len2 cap2 l2 W w0 w1 w2).mono fun e W' ⟨he, bel⟩ => ?_
  subst he
  exact ⟨_, rfl, _, _, _, [], _, [], hW', trodAll_mk1 (shut_bool Try.underlying4 _), (trodAll_cons_mk (Below.trod laidOut (by kernel_rfl) (of_decide_eq_true (by kernel_rfl)) k0 bel lt0) (trodAll_cons_mk (Below.trod laidOut (by kernel_rfl) (of_decide_eq_true (by kernel_rfl)) k1 bel lt1) (trodAll_cons_mk (Below.trod laidOut (by kernel_rfl) (of_decide_eq_true (by kernel_rfl)) k2 bel lt2) trodAll_mk0))), rfl, bel.frame _, fun h => by cases h⟩

theorem over : Rows.sumsLinearRow.holds Try.pinned (OpenSpec.ofChange Rows.sumsLinearSpec) :=
  OpenClaim.holds_of_wide 6 Try.f6 rfl rfl rfl rfl rfl rfl rfl ⟨rfl, rfl, rfl, rfl, rfl⟩ rfl rfl rfl rfl rfl (by kernel_rfl) Try.func6 (by kernel_rfl)
    (of_decide_eq_true (by kernel_rfl)) (by unfold Func.isWrapper; first | (rw [if_pos (by decide +kernel)]; kernel_rfl) | (rw [if_neg (by decide +kernel)]; exact ⟨rfl, rfl⟩))
    (fun os started H enc _ => lifted os started H enc)

/-- The statement. -/
theorem proved : Rows.SumsLinearSaid := over
#print axioms proved
end Go.Proofs.Ytbghohkjafgceaa.sumsLinear
