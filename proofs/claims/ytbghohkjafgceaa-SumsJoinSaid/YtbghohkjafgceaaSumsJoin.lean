/-
  The statement SumsJoin holds, whatever the two texts and the number.
-/
import Derived.Test.YtbghohkjafgceaaSumsAnchor
import Derived.Test.YtbghohkjafgceaaOpen
import Derived.Test.YtbghohkjafgceaaCrcMul
import Derived.Deep.LoopGhost
namespace Go.Proofs.Ytbghohkjafgceaa.sumsJoin
open Go.RowKit

theorem tsum_rest (a b : BitVec 32) (k : Nat) (h : a <<< k = 0#32) : ∀ n, k + n ≤ 32 → tsum a b (k + n) = tsum a b k
  | 0, _ => rfl
  | n + 1, hn => by
    rw [show k + (n + 1) = k + n + 1 by omega, tsum, tsum_rest a b k h n (by omega)]
    have hb : a.getLsbD (31 - (k + n)) = false := by
      have := congrArg (fun x => BitVec.getLsbD x (31 - n)) h
      simp only [BitVec.getLsbD_shiftLeft] at this
      rw [show 31 - n - k = 31 - (k + n) by omega] at this
      simpa [show ¬ (31 - n < k) by omega, show 31 - n < 32 by omega] using this
    rw [hb]; simp

theorem tsum_end (a b : BitVec 32) (k : Nat) (hk : k ≤ 32) (h : a <<< k = 0#32) : tsum a b k = mul a b := by
  have := tsum_rest a b k h (32 - k) (by omega)
  rw [show k + (32 - k) = 32 by omega] at this
  exact this.symm

theorem top_bit (a : BitVec 32) (k : Nat) (hk : k < 32) : (bits .and .u32 (((a <<< k).toNat : Nat) : Int) 2147483648 != 0) = a.getLsbD (31 - k) := by
  rw [show (2147483648 : Int) = (((0x80000000#32 : BitVec 32)).toNat : Int) from rfl, bits_and32]
  have e : (a <<< k) &&& 0x80000000#32 = if a.getLsbD (31 - k) then 0x80000000#32 else 0#32 := by
    apply BitVec.eq_of_getLsbD_eq
    intro i hi
    have q : ∀ j : Fin 32, (0x80000000#32 : BitVec 32).getLsbD j.val = decide (j.val = 31) := by decide
    have q := q ⟨i, hi⟩
    simp only at q
    rw [BitVec.getLsbD_and, q, BitVec.getLsbD_shiftLeft]
    by_cases hi31 : i = 31
    · subst hi31
      cases a.getLsbD (31 - k) <;> simp [show ¬ (31 < k) by omega]
    · cases a.getLsbD (31 - k) <;> simp [hi31]
      have := q; simp only [hi31, decide_false] at this; exact this
  rw [e]
  cases a.getLsbD (31 - k) <;> rfl

set_option maxHeartbeats 1000000 in
theorem times_any (a b : BitVec 32) (w : World) :
    Calls Try.prog 18 #[.int .u32 (a.toNat : Int), .int .u32 (b.toNat : Int)] w fun e w' => e = .returned (.int .u32 ((mul a b).toNat : Int)) ∧ w = w' := by
  go_enter Try.func18, Try.ntmps18
  go_wp2
  go_loopg [0, 1, 5] 32 (fun m x y z wr => ∃ (k : Nat), k + m = 32 ∧ x = .int .u32 (((a <<< k).toNat : Nat) : Int) ∧ y = .int .u32 ((crcBits k b).toNat : Int) ∧ z = .int .u32 ((tsum a b k).toNat : Int) ∧ w = wr)
  case atStart => exact ⟨0, by omega, by simp, rfl, rfl, rfl⟩
  case round =>
    obtain ⟨k, hk, rfl, rfl, rfl, rfl⟩ := hrel
    have HZ : Hid (a <<< k = 0#32 → tsum a b k = mul a b) := fun h => tsum_end a b k (by omega) h
    by_cases h0 : (a <<< k).toNat = 0
    · have hz : (((a <<< k).toNat : Int) != 0) = false := by rw [bne_eq_false_iff_eq]; omega
      have HE : Hid (a <<< k = 0#32) := BitVec.eq_of_toNat_eq (by simpa using h0)
      clear h0
      generalize (a <<< k).toNat = A at *
      generalize (crcBits k b).toNat = B at *
      go_wp2
      go_ret
      exact ⟨by rw [HZ.out HE.out]; rfl, rfl⟩
    · have hz : (((a <<< k).toNat : Int) != 0) = true := by rw [bne_iff_ne]; omega
      have hk32 : k < 32 := by
        rcases Nat.lt_or_ge k 32 with h | h
        · exact h
        · obtain rfl : k = 32 := by omega
          exact absurd (by simp) h0
      have ht := top_bit a k hk32
      have e1 : (a <<< (k + 1)).toNat = ((a <<< k).toNat * 2) % 4294967296 := by
        rw [BitVec.shiftLeft_add, BitVec.toNat_shiftLeft, Nat.shiftLeft_eq]
      have hs : crcBits (k + 1) b = crcBit (crcBits k b) := rfl
      have hts : tsum a b (k + 1) = tsum a b k ^^^ (if a.getLsbD (31 - k) then crcBits k b else 0#32) := rfl
      generalize crcBits k b = B at *
      generalize tsum a b k = T at *
      have hB : B.toNat < 4294967296 := B.isLt
      have hT : T.toNat < 4294967296 := T.isLt
      have hA : (a <<< k).toNat < 4294967296 := (a <<< k).isLt
      have HE := Lib.hid e1
      have HS := Lib.hid hs
      have HTS := Lib.hid hts
      clear h0 e1 hs hts
      generalize (a <<< k).toNat = A at *
      have HT := Lib.hid ht
      clear ht
      cases hb : a.getLsbD (31 - k)
      · have hbit : (bits .and .u32 (A : Int) 2147483648 != 0) = false := by rw [HT.out, hb]
        have HBB := Lib.hid hb
        clear hb
        go_wp2
        go_roundg (gk - 1)
        case measure => omega
        case rel => exact ⟨k + 1, by omega, by rw [HE.out]; go_num, by rw [HS.out, ← crcBit_bits], by rw [HTS.out, HBB.out]; simp, rfl⟩
      · have hbit : (bits .and .u32 (A : Int) 2147483648 != 0) = true := by rw [HT.out, hb]
        have HBB := Lib.hid hb
        clear hb
        go_wp2
        go_roundg (gk - 1)
        case measure => omega
        case rel => exact ⟨k + 1, by omega, by rw [HE.out]; go_num, by rw [HS.out, ← crcBit_bits], by rw [HTS.out, HBB.out, bits_xor32]; simp, rfl⟩

theorem crcJoin_out (a b n : Int) (w : World) (hn : -9223372036854775808 ≤ n ∧ n ≤ 9223372036854775807) (h : n < 0 ∨ (0 ≤ n ∧ 1099511627776 < n)) :
    Calls Try.prog 17 #[.int .i64 a, .int .i64 b, .int .i64 n] w fun e w' => e = .returned (.int .i64 0) ∧ w = w' := by
  rcases h with h | ⟨h, h1⟩
  all_goals
    go_enter Try.func17, Try.ntmps17
    go_wp2
    go_ret
    exact ⟨rfl, rfl⟩

set_option maxHeartbeats 1000000 in
theorem crcJoin_any (a b : BitVec 32) (n : Nat) (w : World) (h : n ≤ 1099511627776) :
    Calls Try.prog 17 #[.int .i64 (a.toNat : Int), .int .i64 (b.toNat : Int), .int .i64 (n : Int)] w fun e w' => e = .returned (.int .i64 ((crcBits (8 * n) a ^^^ b).toNat : Int)) ∧ w = w' := by
  have hA : a.toNat < 4294967296 := a.isLt
  have hB : b.toNat < 4294967296 := b.isLt
  go_enter Try.func17, Try.ntmps17
  go_wp2
  go_loopg [2, 7, 8] n (fun m x y z wr => ∃ (r : Nat) (X p : BitVec 32), r ≤ m ∧ r ≤ 1099511627776 ∧ x = .int .i64 (r : Int) ∧ y = .int .u32 (X.toNat : Int) ∧ z = .int .u32 (p.toNat : Int) ∧ w = wr ∧ ∀ c, mul p (pw X r c) = crcBits (8 * n) c)
  case atStart => exact ⟨n, 0x800000#32, one, by omega, h, rfl, rfl, rfl, rfl, fun c => by rw [pw_x8, one_mul]⟩
  case round =>
    obtain ⟨r, X, p, hr, hr2, rfl, rfl, rfl, rfl, hop⟩ := hrel
    have HOP := Lib.hid hop
    clear hop
    by_cases h0 : r = 0
    · subst h0
      have e1 : crcBits (8 * n) a = mul p a := by rw [← HOP.out a]; rfl
      have E1 := Lib.hid e1
      clear e1
      obtain ⟨s, hs⟩ : ∃ s, s = mul p a := ⟨_, rfl⟩
      obtain ⟨t, ht⟩ : ∃ t, t = s ^^^ b := ⟨_, rfl⟩
      have e2 : bits .xor .u32 (s.toNat : Int) (b.toNat : Int) = (t.toNat : Int) := by rw [bits_xor32, ht]
      have E2 : Hid (crcBits (8 * n) a ^^^ b = t) := by show _ = _; rw [E1.out, ← hs, ht]
      have HS := Lib.hid hs
      have htl : t.toNat < 4294967296 := t.isLt
      clear hs ht
      go_wp2_with fail
      refine (times_any p a _).mono ?_
      rintro e w' ⟨rfl, rfl⟩
      rw [← HS.out]
      go_wp2_with fail
      go_ret
      exact ⟨by rw [E2.out]; rfl, rfl⟩
    · have hb : bits .and .i64 (r : Int) 1 = ((r % 2 : Nat) : Int) := by
        have := mask64 r 1 (by omega) (by omega)
        simpa using this
      have hlt : r / 2 < r := by omega
      by_cases hodd : r % 2 = 1
      · have ho : (bits .and .i64 (r : Int) 1 == 1) = true := by rw [hb, hodd]; rfl
        have HO := Lib.hid hodd
        clear hodd hb
        go_wp2_with fail
        refine (times_any X p _).mono ?_
        rintro e w' ⟨rfl, rfl⟩
        go_wp2_with fail
        refine (times_any X X _).mono ?_
        rintro e w' ⟨rfl, rfl⟩
        go_wp2_with fail
        go_roundg (r / 2)
        case measure => omega
        case rel => exact ⟨r / 2, mul X X, mul X p, by omega, by omega, by go_num, rfl, rfl, rfl, fun c => by
          rw [pw_sq, mul_assoc, pw_comm]
          have := HOP.out c
          rw [pw_comm, show r = 2 * (r / 2) + 1 by have := HO.out; omega] at this
          rw [← pw_comm, ← mul_assoc, mul_comm X p, mul_assoc]
          have h2 := HOP.out c
          rw [show r = 2 * (r / 2) + 1 by have := HO.out; omega] at h2
          exact h2⟩
      · have ho : (bits .and .i64 (r : Int) 1 == 1) = false := by rw [hb, beq_eq_false_iff_ne]; omega
        have HO := Lib.hid hodd
        clear hodd hb
        go_wp2_with fail
        refine (times_any X X _).mono ?_
        rintro e w' ⟨rfl, rfl⟩
        go_wp2_with fail
        go_roundg (r / 2)
        case measure => omega
        case rel => exact ⟨r / 2, mul X X, p, by omega, by omega, by go_num, rfl, rfl, rfl, fun c => by
          rw [pw_sq]
          have h2 := HOP.out c
          rw [show r = 2 * (r / 2) by have := HO.out; omega] at h2
          exact h2⟩

set_option maxHeartbeats 2000000 in
theorem walk (a : Option Addr) (la ca : Nat) (xs : List UInt8) (b : Option Addr) (lb cb : Nat) (ys : List UInt8) (n : Int) (w : World) (ha : Sl byteV w a la ca xs) (hb : Sl byteV w b lb cb ys) (hn : -9223372036854775808 ≤ n ∧ n ≤ 9223372036854775807) :
    Calls Try.prog 8 #[.slice a la ca, .slice b lb cb, .int .i64 n] w fun e w' => e = .returned (.bool true) ∧ Below w.heap.size w w' := by
  obtain ⟨i0, hi, hz0, hz1, hz2⟩ := info_parts infoByte
  have h1 := ha.le
  have h2 := ha.small
  have h3 := hb.le
  have h4 := hb.small
  have l2 := Lib.hid hb.size_eq
  have HA := Lib.hid ha
  have HB := Lib.hid hb
  clear ha hb
  by_cases hla : 1500 < la
  · go_enter Try.func8, Try.ntmps8
    go_wp2_with fail
    refine (anchor_any _).mono ?_
    rintro e w1 ⟨rfl, hb1⟩
    go_wp2_with fail
    go_ret
    exact ⟨rfl, hb1⟩
  by_cases hlb : 1500 < lb
  · go_enter Try.func8, Try.ntmps8
    go_wp2_with fail
    refine (anchor_any _).mono ?_
    rintro e w1 ⟨rfl, hb1⟩
    go_wp2_with fail
    go_ret
    exact ⟨rfl, hb1⟩
  go_enter Try.func8, Try.ntmps8
  go_wp2_with fail
  refine (anchor_any _).mono ?_
  rintro e w1 ⟨rfl, hb1⟩
  have HA1 := Lib.hid (HA.out.below hb1)
  have HB1 := Lib.hid (HB.out.below hb1)
  go_wp2_with fail
  refine (refCrc_any _ _ _ xs _ HA1.out).mono ?_
  rintro e w' ⟨rfl, rfl⟩
  go_wp2_with fail
  refine (refCrc_any _ _ _ ys _ HB1.out).mono ?_
  rintro e w' ⟨rfl, rfl⟩
  go_wp2_with fail
  refine (crcJoin_any (crc xs) (crc ys) lb _ (by omega)).mono ?_
  rintro e w' ⟨rfl, rfl⟩
  rw [show crcBits (8 * lb) (crc xs) ^^^ crc ys = crc (xs ++ ys) from by rw [crc_join, l2.out]]
  go_wp2_with fail
  refine (refJoin_any _ _ _ _ _ _ xs ys _ HA1.out HB1.out (by omega)).mono ?_
  rintro e w2 ⟨g, m, c, rfl, hsl, _, hb2⟩
  have hb2 : Below w.heap.size w w2 := hb1.trans (hb2.mono hb1.size)
  have HS := Lib.hid hsl
  have HA2 := Lib.hid (HA.out.below hb2)
  clear hsl
  go_wp2_with fail
  refine (refCrc_any _ _ _ (xs ++ ys) _ HS.out).mono ?_
  rintro e w' ⟨rfl, rfl⟩
  have hne : ((crc (xs ++ ys)).toNat : Int) ≠ ((crc (xs ++ ys)).toNat : Int) ↔ False := by simp
  clear hne
  by_cases hout : n < 0 ∨ (0 ≤ n ∧ 1099511627776 < n)
  · have hout2 := hout
    rcases hout2 with h | ⟨h, h'⟩
    all_goals
      go_wp2_with fail
      refine (crcJoin_out _ _ n _ hn hout).mono ?_
      rintro e w' ⟨rfl, rfl⟩
      go_wp2_with fail
      go_ret
      exact ⟨rfl, hb2⟩
  obtain ⟨n, rfl⟩ := Int.eq_ofNat_of_zero_le (show 0 ≤ n by omega)
  have hn1 : n ≤ 1099511627776 := by omega
  clear hout
  by_cases hbig : 2000 < n
  · go_wp2_with fail
    go_ret
    exact ⟨rfl, hb2⟩
  go_wp2_with (at_make; refine stopHere ?_)
  refine unhide (wpList_make_full _ rfl _ _ 24 rfl w.heap.size 5 i0 (.int .u8 0) 1 Try.underlying24 hi hz0 hz1 _ _ _ _ n rfl rfl rfl rfl (by rw [hz2]; omega) (by unfold maxLen; omega) hb2.size ?_)
  intro w3 hown hg
  have hb3 := hb2.grown hg hb2.size (fun k hk => by cases hk)
  have hown2 : w3.ownsRow w.heap.size 5 1 (.slice (some ⟨w2.heap.size, 0, none⟩) n n) n ((List.replicate n (0 : UInt8)).map byteV) := by
    have e : (madeCells (Value.int .u8 0).cells (n * 1)).toList = (List.replicate n (0 : UInt8)).map byteV := by
      rw [Nat.mul_one, show (Value.int .u8 0).cells = #[Value.int .u8 0] from rfl, toList_madeCells_one, List.map_replicate]; rfl
    rw [← e]; exact hown
  obtain ⟨_, _, e1, hsl, _⟩ := Sl.of_owns hown2
  cases e1
  have HZ := Lib.hid hsl
  have HA3 := Lib.hid (HA.out.below hb3)
  generalize w2.heap.size = g3 at *
  clear hown hg hown2 hsl
  obtain ⟨zs, hzs⟩ : ∃ zs, zs = List.replicate n (0 : UInt8) := ⟨_, rfl⟩
  have hzl : zs.length = n := by rw [hzs]; simp
  rw [← hzs] at HZ
  have HZL := Lib.hid hzl
  clear hzs hzl
  go_wp2_with fail
  refine (refCrc_any _ _ _ zs _ HZ.out).mono ?_
  rintro e w' ⟨rfl, rfl⟩
  go_wp2_with fail
  refine (crcJoin_any (crc xs) (crc zs) n _ (by omega)).mono ?_
  rintro e w' ⟨rfl, rfl⟩
  rw [show crcBits (8 * n) (crc xs) ^^^ crc zs = crc (xs ++ zs) from by rw [crc_join, HZL.out]]
  go_wp2_with fail
  refine (refJoin_any _ _ _ _ _ _ xs zs _ HA3.out HZ.out (by omega)).mono ?_
  rintro e w4 ⟨g4, m4, c4, rfl, hsl, _, hb4⟩
  have hb4 : Below w.heap.size w w4 := hb3.trans (hb4.mono hb3.size)
  have HS4 := Lib.hid hsl
  clear hsl
  go_wp2_with fail
  refine (refCrc_any _ _ _ (xs ++ zs) _ HS4.out).mono ?_
  rintro e w' ⟨rfl, rfl⟩
  go_wp2_with fail
  go_ret
  exact ⟨by simp, hb4⟩

/-! The step to the statement (written by program). -/
open Go.ChangeShapes Go.WideShapes Go.ChangeAt
set_option maxRecDepth 100000 in
theorem lifted (os : Os) (started : os.Started) (H : Type) (enc : TypeId × Value → H) :
    ReturnsInHanded {} Try.checked os 8 .any (Rows.sumsJoinSpec.pre6 enc Try.prog Try.f8 Rows.sumsJoinRow.domain false) (Rows.sumsJoinSpec.post enc Try.prog Try.f8 false true false false) := by
  refine returnsInHanded_of_change (C := Try.checked) own started (by kernel_rfl) Try.func8
    (ChangeSpec.witness6 (enc := enc) (C := Try.checked) false ⟨#[], #[.slice none 0 0, .slice none 0 0, .int .i64 0], []⟩ 8 (by kernel_rfl) (by kernel_rfl) (by kernel_rfl) (by kernel_rfl)) ?_
  intro W base args ds gs before hval0 hW hcnd _
  have hval : ∀ (j : Nat) t v, Try.f8.params[j]? = some t → args[j]? = some v → Value.okWide Try.prog W .any base t v := hval0
  have hW' := hW
  obtain ⟨p, q, hA0, hV, rfl, hfz, hnd⟩ := hW
  have hA : DataW.TrodAll enc Try.prog W 0 (fun _ => true) true Try.f8.params.toList args.toList ds p := hA0
  rw [Try.params8] at hA hval
  obtain ⟨v0, vs0, d0, ds0, p0, q0, hargs, rfl, rfl, h0, r0⟩ := trodAll_cons hA
  obtain ⟨v1, vs1, d1, ds1, p1, q1, rfl, rfl, rfl, h1, r1⟩ := trodAll_cons r0
  obtain ⟨v2, vs2, d2, ds2, p2, q2, rfl, rfl, rfl, h2, r2⟩ := trodAll_cons r1
  obtain ⟨rfl, rfl, rfl⟩ := trodAll_nil r2
  obtain rfl : args = #[v0, v1, v2] := by cases args; simp_all
  obtain ⟨rfl, rfl⟩ := trodVars_none hV
  have k0 := h0
  have lt0 : ∀ x ∈ p0, x.block < W.heap.size := by obtain ⟨m, hm⟩ := k0; exact DataW.trod_lt m _ _ _ hm
  obtain ⟨a0, len0, cap0, e0⟩ := okWide_slice Try.underlying24 (hval 0 24 v0 rfl rfl)
  obtain ⟨l0, w0⟩ := open_bytes Try.underlying24 Try.underlying5 (by kernel_rfl) e0 k0
  subst e0
  have k1 := h1
  have lt1 : ∀ x ∈ p1, x.block < W.heap.size := by obtain ⟨m, hm⟩ := k1; exact DataW.trod_lt m _ _ _ hm
  obtain ⟨a1, len1, cap1, e1⟩ := okWide_slice Try.underlying24 (hval 1 24 v1 rfl rfl)
  obtain ⟨l1, w1⟩ := open_bytes Try.underlying24 Try.underlying5 (by kernel_rfl) e1 k1
  subst e1
  have k2 := h2
  have lt2 : ∀ x ∈ p2, x.block < W.heap.size := by obtain ⟨m, hm⟩ := k2; exact DataW.trod_lt m _ _ _ hm
  obtain ⟨a2, rfl, _, _, w2⟩ := open_int Try.underlying3 (hval 2 3 v2 rfl rfl) h2
  have w2 := wf_i64 w2
  clear hA0 hval0
  refine (walk a0 len0 cap0 l0 a1 len1 cap1 l1 a2 W w0 w1 w2).mono fun e W' ⟨he, bel⟩ => ?_
  subst he
  exact ⟨_, rfl, _, _, _, [], _, [], hW', trodAll_mk1 (shut_bool Try.underlying4 _), (trodAll_cons_mk (Below.trod laidOut (by kernel_rfl) (of_decide_eq_true (by kernel_rfl)) k0 bel lt0) (trodAll_cons_mk (Below.trod laidOut (by kernel_rfl) (of_decide_eq_true (by kernel_rfl)) k1 bel lt1) (trodAll_cons_mk (Below.trod laidOut (by kernel_rfl) (of_decide_eq_true (by kernel_rfl)) k2 bel lt2) trodAll_mk0))), rfl, bel.frame _, fun h => by cases h⟩

theorem over : Rows.sumsJoinRow.holds Try.pinned (OpenSpec.ofChange Rows.sumsJoinSpec) :=
  OpenClaim.holds_of_wide 8 Try.f8 rfl rfl rfl rfl rfl rfl rfl ⟨rfl, rfl, rfl, rfl, rfl⟩ rfl rfl rfl rfl rfl (by kernel_rfl) Try.func8 (by kernel_rfl)
    (of_decide_eq_true (by kernel_rfl)) (by unfold Func.isWrapper; first | (rw [if_pos (by decide +kernel)]; kernel_rfl) | (rw [if_neg (by decide +kernel)]; exact ⟨rfl, rfl⟩))
    (fun os started H enc _ => lifted os started H enc)

/-- The statement. -/
theorem proved : Rows.SumsJoinSaid := over
#print axioms proved
end Go.Proofs.Ytbghohkjafgceaa.sumsJoin
