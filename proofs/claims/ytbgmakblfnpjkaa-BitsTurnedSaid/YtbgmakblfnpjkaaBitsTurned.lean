/-
  BitsTurned. No condition.
-/
import Derived.Test.YtbgmakblfnpjkaaB5
import Derived.Test.YtbgmakblfnpjkaaOpenNum
namespace Go.Proofs.Ytbgmakblfnpjkaa.bitsTurned
open Go.RowKit

set_option maxHeartbeats 8000000 in
set_option maxRecDepth 100000 in
theorem law {w0 : World} {B : Nat} {H : List Ent} (hB : w0.heap.size ≤ B) {a : Option Addr} {len cap : Nat} {l : List Num} (hl : SlS 3 numV w0 a len cap l) (hx : ∀ x ∈ l, x.wf) :
    Fn Try.prog w0 B 3 [.slice a len cap] H (fun u _ => u = .bool true) := by
  have hle := hl.size_eq
  have hcap := hl.small
  have hlc := hl.le
  refine fn_intro Try.func3 rfl (by kernel_rfl) rfl ?_
  by_cases h200 : 200 < len
  · repeat (first | refine go_ ?_ | refine bx_ (fun _ => ?_) | refine hl_callv rfl rfl (anchor_fn) ?_)
    exact fin1B rfl rfl rfl
  repeat (first | refine go_ ?_ | refine bx_ (fun _ => ?_) | refine hl_callv rfl rfl (anchor_fn) ?_)
  refine hl_call rfl rfl (new_x false) (fun _ H' h' => ?_)
  obtain ⟨ga, Xa, rfl, rfl, ha⟩ := h'
  repeat (first | refine go_ ?_ | refine bx_ (fun _ => ?_))
  refine hl_call rfl rfl (new_x true) (fun _ H' h' => ?_)
  obtain ⟨gb, Xb, rfl, rfl, hb⟩ := h'
  repeat (first | refine go_ ?_ | refine bx_ (fun _ => ?_))
  refine hc_loopd (fun m fr M => ∃ k L Xa Xb, k + m = len ∧ L.length ≤ 24 * k ∧ Agr fr [(0, .slice a len cap), (3, .pointer (some ⟨ga, 0, none⟩)), (4, .pointer (some ⟨gb, 0, none⟩)), (28, .slice a len cap), (29, .int .i64 (len : Int)), (30, .int .i64 (k : Int))]
    ∧ M = Xb ++ (Xa ++ H) ∧ WrX ga false L Xa ∧ WrX gb true L Xb) len ?_ ?_
  · exact ⟨0, [], Xa, Xb, by omega, by simp, ⟨rfl, rfl, rfl, rfl, rfl, rfl, trivial⟩, rfl, ha, hb⟩
  clear ha hb Xa Xb
  rintro m fr M ⟨k, L, Xa, Xb, hk, hL, hf, rfl, ha, hb⟩
  obtain ⟨base, rfl⟩ := hf.out
  by_cases hlt : k < len
  · have hkl : k < l.length := by omega
    obtain ⟨b, off, rfl, hrow⟩ := hl.row k hkl
    have hwf := hx _ (List.getElem_mem hkl)
    obtain ⟨v, n, f, hxe⟩ : ∃ v n f, l[k] = ⟨v, n, f⟩ := ⟨_, _, _, rfl⟩
    obtain ⟨hv, hn⟩ := hwf
    rw [hxe] at hv hn
    change -9223372036854775808 ≤ v ∧ v ≤ 9223372036854775807 at hv
    change -9223372036854775808 ≤ n ∧ n ≤ 9223372036854775807 at hn
    repeat (first | refine go_ ?_ | refine bx_ (fun _ => ?_))
    refine hl_loadE (k := 3) (f := numV) hl hkl hB rfl (by decide) rfl rfl ?_
    rw [hxe]
    change HL _ _ _ _ (updO _ _ (.agg #[.int .i64 v, .int .i64 n, .bool f])) _
    by_cases hright : Right v n
    · cases f
      · have hright' := id hright
        obtain ⟨h1, h2, h3, h4⟩ := hright'
        obtain ⟨n, rfl⟩ := Int.eq_ofNat_of_zero_le h1
        obtain ⟨v, rfl⟩ := Int.eq_ofNat_of_zero_le h3
        have h5 := h4
        rw [Int.toNat_natCast, show ((2 : Int) ^ n) = ((2 ^ n : Nat) : Int) by simp] at h5
        have h24 : 2 ^ n ≤ 2 ^ 24 := Nat.pow_le_pow_right (by decide) (by omega)
        have hnl := length_numBits v n false
        repeat (first | refine go_ ?_ | refine bx_ (fun _ => ?_) | refine hl_callv rfl rfl (right_yes v n false hright) ?_)
        rename_i x
        refine hc_loop (fun m2 fr M => ∃ j, j + m2 = n ∧ Agr fr [(0, .slice (some ⟨b, off, none⟩) len cap), (3, .pointer (some ⟨ga, 0, none⟩)), (4, .pointer (some ⟨gb, 0, none⟩)), (6, .pointer (some ⟨x, 0, none⟩)), (7, .int .i64 ((numH ((numBits v n false).take j) : Nat) : Int)), (8, .int .i64 (j : Int)), (28, .slice (some ⟨b, off, none⟩) len cap), (29, .int .i64 (len : Int)), (30, .int .i64 (k : Int))]
          ∧ M = ⟨x, 27, [.int .i64 (v : Int), .int .i64 (n : Int), .bool false], 3⟩ :: (Xb ++ (Xa ++ H))) n ?_ ?_
        · exact ⟨0, by omega, ⟨rfl, rfl, rfl, rfl, rfl, rfl, rfl, rfl, rfl, trivial⟩, rfl⟩
        · clear hf base
          rintro m2 fr M ⟨j, hj, hf, rfl⟩
          obtain ⟨base, rfl⟩ := hf.out
          by_cases hjn : j < n
          · have hN := numH_lt ((numBits v n false).take j)
            rw [List.length_take, hnl, Nat.min_eq_left (by omega)] at hN
            have h24j : 2 ^ j ≤ 2 ^ 24 := Nat.pow_le_pow_right (by decide) (by omega)
            have hb1 := bit_valN v j (by omega)
            have hb2 : (v.testBit j).toNat ≤ 1 := by cases v.testBit j <;> decide
            repeat (first | rw [hb1] | refine go1_ ?_ | refine bx_ (fun _ => ?_))
            refine ⟨m2 - 1, by omega, j + 1, by omega, ⟨rfl, rfl, rfl, rfl, ?_, rfl, rfl, rfl, rfl, trivial⟩, rfl⟩
            refine congrArg (Value.int .i64) (show 2 * ((numH ((numBits v n false).take j) : Nat) : Int) + ((v.testBit j).toNat : Int) = ((numH ((numBits v n false).take (j + 1)) : Nat) : Int) from ?_)
            rw [numBits_take _ _ _ _ hjn, numH_snoc]
            simp
          · obtain rfl : j = n := by omega
            rw [List.take_of_length_le (show (numBits v j false).length ≤ j by omega)]
            have hN := numH_lt (numBits v j false)
            rw [hnl] at hN
            have hm1 : numMore false L v j = L ++ numBits v j false := by unfold numMore; rw [if_pos hright]; rfl
            have hr2 : Right (numH (numBits v j false) : Nat) j := ⟨h1, h2, by omega, by rw [Int.toNat_natCast, show ((2 : Int) ^ j) = ((2 ^ j : Nat) : Int) by simp]; omega⟩
            have hm2 : numMore true L (numH (numBits v j false) : Nat) j = L ++ numBits v j false := by
              unfold numMore
              rw [if_pos hr2, Int.toNat_natCast, Int.toNat_natCast]
              congr 1
              have := numBits_numH (numBits v j false)
              rwa [hnl] at this
            repeat (first | refine go_ ?_ | refine bx_ (fun _ => ?_))
            refine HL.perm ?_ (((app_swap Xb Xa H).cons _).trans List.perm_middle.symm)
            refine hl_call rfl rfl (Put_x ha (by omega) v j hv hn) (fun r H5 h5 => ?_)
            obtain ⟨rfl, Xa', rfl, ha'⟩ := h5
            rw [decide_eq_true hright]
            rw [hm1] at ha'
            refine HL.perm ?_ List.perm_middle
            repeat (first | refine go_ ?_ | refine bx_ (fun _ => ?_))
            refine HL.perm ?_ (((app_swap Xa' Xb H).cons _).trans List.perm_middle.symm)
            refine hl_call rfl rfl (Put_x hb (by omega) (numH (numBits v j false) : Nat) j (by omega) hn) (fun r H5 h5 => ?_)
            obtain ⟨rfl, Xb', rfl, hb'⟩ := h5
            rw [decide_eq_true hr2]
            rw [hm2] at hb'
            repeat (first | refine go_ ?_ | refine bx_ (fun _ => ?_))
            exact ⟨m - 1, by omega, Xb' ++ (Xa' ++ H), Imp.perm List.perm_middle (Imp.drop (Imp.refl _)), k + 1, L ++ numBits v j false, Xa', Xb', by omega, by rw [List.length_append, hnl]; omega, ⟨rfl, rfl, rfl, rfl, rfl, rfl, trivial⟩, rfl, ha', hb'⟩
      · repeat (first | refine go_ ?_ | refine bx_ (fun _ => ?_) | refine hl_callv rfl rfl (right_yes v n true hright) ?_)
        exact ⟨m - 1, by omega, Xb ++ (Xa ++ H), Imp.drop (Imp.refl _), k + 1, L, Xa, Xb, by omega, by omega, ⟨rfl, rfl, rfl, rfl, rfl, rfl, trivial⟩, rfl, ha, hb⟩
    · repeat (first | refine go_ ?_ | refine bx_ (fun _ => ?_) | refine hl_callv rfl rfl (right_no v n f hright) ?_)
      exact ⟨m - 1, by omega, Xb ++ (Xa ++ H), Imp.drop (Imp.refl _), k + 1, L, Xa, Xb, by omega, by omega, ⟨rfl, rfl, rfl, rfl, rfl, rfl, trivial⟩, rfl, ha, hb⟩
  · repeat (first | refine go_ ?_ | refine bx_ (fun _ => ?_))
    refine HL.perm ?_ (app_swap _ _ _)
    refine hl_call rfl rfl (bytes_x ha (by omega)) (fun v1 M1 o1 => ?_)
    obtain ⟨a1, c1, rfl, hc1, hc2⟩ := o1.form
    obtain ⟨Z1, hZ1, o1⟩ := o1.permE
    repeat (first | refine go_ ?_ | refine bx_ (fun _ => ?_))
    refine HL.perm ?_ (hZ1.trans (((app_swap Xa Xb H).append_left Z1).trans (app_swap Z1 Xb (Xa ++ H))))
    refine hl_call rfl rfl (bytes_x hb (by omega)) (fun v2 M2 o2 => ?_)
    obtain ⟨a2, c2, rfl, hc3, hc4⟩ := o2.form
    obtain ⟨Z2, hZ2, o2⟩ := o2.permE
    refine HL.perm ?_ (hZ2.trans ((app_swap Xb Z1 (Xa ++ H)).append_left Z2))
    generalize Xb ++ (Xa ++ H) = R
    clear ha hb hf
    obtain ⟨n, hn⟩ : ∃ n, n = (L.length + 7) / 8 := ⟨_, rfl⟩
    rw [← hn] at o1 o2 hc1 hc3 ⊢
    have hl1 := length_bytesOf false L
    have hl2 := length_bytesOf true L
    rw [← hn] at hl1 hl2
    repeat (first | refine go_ ?_ | refine bx_ (fun _ => ?_))
    refine hc_loop (fun m fr M => ∃ i, i + m = n ∧ Agr fr [(9, .slice a1 n c1), (10, .slice a2 n c2), (80, .slice a1 n c1), (81, .int .i64 (n : Int)), (82, .int .i64 (i : Int))] ∧ M.Perm (Z2 ++ (Z1 ++ R))) n ?_ ?_
    · exact ⟨0, by omega, ⟨rfl, rfl, rfl, rfl, rfl, trivial⟩, List.Perm.refl _⟩
    clear base
    rintro m fr M ⟨i, hi, hf, hp⟩
    obtain ⟨base, rfl⟩ := hf.out
    by_cases hin : i < n
    · obtain ⟨g1, d1, he1, _, _, _, p1⟩ := (o1 R).posn (by omega)
      obtain ⟨g2, d2, he2, _, _, _, p2⟩ := (o2 (Z1 ++ R)).posn (by omega)
      cases he1
      cases he2
      have hpp := hp.trans (p2.trans (p1.cons _))
      refine HC.perm ?_ hpp
      repeat (first | refine go_ ?_ | refine bx_ (fun _ => ?_))
      refine hl_load1 (v := byteV ((bytesOf false L).getD i 0)) rfl (.there .here) (by simp [hl1, hin]) rfl ?_
      have hturn := byte_turned L i
      obtain ⟨c, hc⟩ : ∃ c, c = (bytesOf false L).getD i 0 := ⟨_, rfl⟩
      rw [← hc] at hturn ⊢
      have hnl := length_numBits c.toNat 8 false
      repeat (first | refine go_ ?_ | refine bx_ (fun _ => ?_))
      refine hc_loop (fun m2 fr M => ∃ j, j + m2 = 8 ∧ Agr fr [(9, .slice (some ⟨g1, 0, none⟩) n c1), (10, .slice (some ⟨g2, 0, none⟩) n c2), (80, .slice (some ⟨g1, 0, none⟩) n c1), (81, .int .i64 (n : Int)), (82, .int .i64 (i : Int)), (11, .int .i64 (i : Int)), (12, byteV c), (13, .int .i64 ((numH ((numBits c.toNat 8 false).take j) : Nat) : Int)), (14, .int .i64 (j : Int))]
        ∧ M = ⟨g2, 5, (bytesOf true L).map byteV, c2 * 1⟩ :: ⟨g1, 5, (bytesOf false L).map byteV, c1 * 1⟩ :: R) 8 ?_ ?_
      · exact ⟨0, by omega, ⟨rfl, rfl, rfl, rfl, rfl, rfl, rfl, rfl, rfl, trivial⟩, rfl⟩
      clear hf base
      rintro m2 fr M ⟨j, hj, hf, rfl⟩
      obtain ⟨base, rfl⟩ := hf.out
      by_cases hj8 : j < 8
      · have hN := numH_lt ((numBits c.toNat 8 false).take j)
        rw [List.length_take, hnl, Nat.min_eq_left (by omega)] at hN
        have h24j : 2 ^ j ≤ 2 ^ 8 := Nat.pow_le_pow_right (by decide) (by omega)
        have hb1 := and8_bit c j
        have hb2 : (c.toNat.testBit j).toNat ≤ 1 := by cases c.toNat.testBit j <;> decide
        repeat (first | rw [hb1] | refine go1_ ?_ | refine bx_ (fun _ => ?_))
        refine ⟨m2 - 1, by omega, j + 1, by omega, ⟨rfl, rfl, rfl, rfl, rfl, rfl, rfl, ?_, rfl, trivial⟩, rfl⟩
        refine congrArg (Value.int .i64) (show 2 * ((numH ((numBits c.toNat 8 false).take j) : Nat) : Int) + ((c.toNat.testBit j).toNat : Int) = ((numH ((numBits c.toNat 8 false).take (j + 1)) : Nat) : Int) from ?_)
        rw [numBits_take _ _ _ _ hj8, numH_snoc]
        simp
      · obtain rfl : j = 8 := by omega
        rw [List.take_of_length_le (by omega), hturn]
        have hlt2 := ((bytesOf true L).getD i 0).toNat_lt
        repeat (first | refine go_ ?_ | refine bx_ (fun _ => ?_))
        refine hl_load1 (v := byteV ((bytesOf true L).getD i 0)) rfl .here (by simp [hl2, hin]) rfl ?_
        repeat (first | refine go_ ?_ | refine bx_ (fun _ => ?_))
        exact ⟨m - 1, by omega, i + 1, by omega, ⟨rfl, rfl, rfl, rfl, rfl, trivial⟩, (p2.trans (p1.cons _)).symm⟩
    · repeat (first | refine go_ ?_ | refine bx_ (fun _ => ?_))
      exact fin1B rfl rfl rfl
theorem walk (a : Option Addr) (len cap : Nat) (l : List Num) (w : World) (hl : SlS 3 numV w a len cap l) (hx : ∀ x ∈ l, x.wf) :
    Calls Try.prog 3 #[.slice a len cap] w fun e w' => e = .returned (.bool true) ∧ Below w.heap.size w w' :=
  calls_of_fn (law (Nat.le_refl _) hl hx) fun _ _ h => h

/-! The step to the statement (written by program). -/
open Go.ChangeShapes Go.WideShapes Go.ChangeAt
set_option maxRecDepth 100000 in
theorem lifted (os : Os) (started : os.Started) (H : Type) (enc : TypeId × Value → H) :
    ReturnsInHanded {} Try.checked os 3 .any (Rows.bitsTurnedSpec.pre6 enc Try.prog Try.f3 Rows.bitsTurnedRow.domain false) (Rows.bitsTurnedSpec.post enc Try.prog Try.f3 false true false false) := by
  refine returnsInHanded_of_change (C := Try.checked) own started (by kernel_rfl) Try.func3
    (ChangeSpec.witness6 (enc := enc) (C := Try.checked) false ⟨#[], #[.slice none 0 0], []⟩ 8 (by kernel_rfl) (by kernel_rfl) (by kernel_rfl) (by kernel_rfl)) ?_
  intro W base args ds gs before hval0 hW hcnd _
  have hval : ∀ (j : Nat) t v, Try.f3.params[j]? = some t → args[j]? = some v → Value.okWide Try.prog W .any base t v := hval0
  have hW' := hW
  obtain ⟨p, q, hA0, hV, rfl, hfz, hnd⟩ := hW
  have hA : DataW.TrodAll enc Try.prog W 0 (fun _ => true) true Try.f3.params.toList args.toList ds p := hA0
  rw [Try.params3] at hA hval
  obtain ⟨v0, vs0, d0, ds0, p0, q0, hargs, rfl, rfl, h0, r0⟩ := trodAll_cons hA
  obtain ⟨rfl, rfl, rfl⟩ := trodAll_nil r0
  obtain rfl : args = #[v0] := by cases args; simp_all
  obtain ⟨rfl, rfl⟩ := trodVars_none hV
  have k0 := h0
  have lt0 : ∀ x ∈ p0, x.block < W.heap.size := by obtain ⟨m, hm⟩ := k0; exact DataW.trod_lt m _ _ _ hm
  obtain ⟨a0, len0, cap0, e0⟩ := okWide_slice Try.underlying22 (hval 0 22 v0 rfl rfl)
  obtain ⟨l0, w0, b0⟩ := open_numL e0 k0
  subst e0
  clear hA0 hval0
  refine (walk a0 len0 cap0 l0 W w0 b0).mono fun e W' ⟨he, bel⟩ => ?_
  subst he
  exact ⟨_, rfl, _, _, _, [], _, [], hW', trodAll_mk1 (shut_bool Try.underlying4 _), (trodAll_cons_mk (Below.trod laidOut (by kernel_rfl) (of_decide_eq_true (by kernel_rfl)) k0 bel lt0) trodAll_mk0), rfl, bel.frame _, fun h => by cases h⟩

theorem over : Rows.bitsTurnedRow.holds Try.pinned (OpenSpec.ofChange Rows.bitsTurnedSpec) :=
  OpenClaim.holds_of_wide 3 Try.f3 rfl rfl rfl rfl rfl rfl rfl ⟨rfl, rfl, rfl, rfl, rfl⟩ rfl rfl rfl rfl rfl (by kernel_rfl) Try.func3 (by kernel_rfl)
    (of_decide_eq_true (by kernel_rfl)) (by unfold Func.isWrapper; first | (rw [if_pos (by decide +kernel)]; kernel_rfl) | (rw [if_neg (by decide +kernel)]; exact ⟨rfl, rfl⟩))
    (fun os started H enc _ => lifted os started H enc)

/-- The statement. -/
theorem proved : Rows.BitsTurnedSaid := over
#print axioms proved
end Go.Proofs.Ytbgmakblfnpjkaa.bitsTurned
