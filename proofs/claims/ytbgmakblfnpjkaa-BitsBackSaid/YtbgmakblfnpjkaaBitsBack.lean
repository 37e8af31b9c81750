/-
  BitsBack. No condition.
-/
import Derived.Test.YtbgmakblfnpjkaaB4
import Derived.Test.YtbgmakblfnpjkaaOpenNum
namespace Go.Proofs.Ytbgmakblfnpjkaa.bitsBack
open Go.RowKit

set_option maxHeartbeats 8000000 in
set_option maxRecDepth 100000 in
theorem law {w0 : World} {B : Nat} {H : List Ent} (hB : w0.heap.size ≤ B) {a : Option Addr} {len cap : Nat} {l : List Num} (hl : SlS 3 numV w0 a len cap l) (hx : ∀ x ∈ l, x.wf) (high : Bool) :
    Fn Try.prog w0 B 7 [.slice a len cap, .bool high] H (fun u _ => u = .bool true) := by
  have hle := hl.size_eq
  refine fn_intro Try.func7 rfl (by kernel_rfl) rfl ?_
  have hcap := hl.small
  have hlc := hl.le
  by_cases h300 : 300 < len
  · repeat (first | refine go_ ?_ | refine bx_ (fun _ => ?_) | refine hl_callv rfl rfl (anchor_fn) ?_)
    exact fin1B rfl rfl rfl
  · repeat (first | refine go_ ?_ | refine bx_ (fun _ => ?_) | refine hl_callv rfl rfl (anchor_fn) ?_)
    refine hl_call rfl rfl (new_fn high) (fun _ H' h' => ?_)
    obtain ⟨g, rfl, h⟩ := h'
    change WrB g high [] _ _ at h
    repeat (first | refine go_ ?_ | refine bx_ (fun _ => ?_))
    refine hc_loopd (fun m fr H' => ∃ k, k + m = len ∧ Agr fr [(0, .slice a len cap), (1, .bool high), (5, .pointer (some ⟨g, 0, none⟩)), (22, .slice a len cap), (23, .int .i64 (len : Int)), (24, .int .i64 (k : Int))] ∧ WrB g high (bitsOf high [] (l.take k)) H H') len ?_ ?_
    · exact ⟨0, by omega, ⟨rfl, rfl, rfl, rfl, rfl, rfl, trivial⟩, h⟩
    · rintro m fr H' ⟨k, hk, hf, hw⟩
      obtain ⟨base, rfl⟩ := hf.out
      by_cases hlt : k < len
      · have hkl : k < l.length := by omega
        obtain ⟨b, off, rfl, hrow⟩ := hl.row k hkl
        have hwf := hx _ (List.getElem_mem hkl)
        obtain ⟨v, n, f, hxe⟩ : ∃ v n f, l[k] = ⟨v, n, f⟩ := ⟨_, _, _, rfl⟩
        obtain ⟨hv, hn⟩ := hwf
        rw [hxe] at hv hn
        change -9223372036854775808 ≤ v ∧ v ≤ 9223372036854775807 at hv
        change -9223372036854775808 ≤ n ∧ n ≤ 9223372036854775807 at hn
        have hlen := length_bitsOf high l k (by omega)
        have hstep := bitsOf_take high l k hkl
        rw [hxe] at hstep
        repeat (first | refine go_ ?_ | refine bx_ (fun _ => ?_))
        refine hl_loadE (k := 3) (f := numV) hl hkl hB rfl (by decide) rfl rfl ?_
        rw [hxe]
        change HL _ _ _ _ (updO _ _ (.agg #[.int .i64 v, .int .i64 n, .bool f])) _
        cases f
        · repeat (first | refine go_ ?_ | refine bx_ (fun _ => ?_))
          refine HL.drop ?_
          refine hl_call rfl rfl (Put_any hw (by omega) v n hv hn) (fun r H2 h2 => ?_)
          obtain ⟨rfl, h2⟩ := h2
          repeat (first | refine go_ ?_ | refine bx_ (fun _ => ?_))
          exact ⟨m - 1, by omega, _, Imp.refl _, k + 1, by omega, ⟨rfl, rfl, rfl, rfl, rfl, rfl, trivial⟩, by rw [hstep]; exact h2⟩
        · repeat (first | refine go_ ?_ | refine bx_ (fun _ => ?_))
          refine HL.drop ?_
          refine hl_call rfl rfl (fill_fn hw (by omega) v hv) (fun r H2 h2 => ?_)
          repeat (first | refine go_ ?_ | refine bx_ (fun _ => ?_))
          exact ⟨m - 1, by omega, _, Imp.refl _, k + 1, by omega, ⟨rfl, rfl, rfl, rfl, rfl, rfl, trivial⟩, by rw [hstep]; exact h2⟩
      · obtain rfl : k = len := by omega
        rw [List.take_of_length_le (by omega)] at hw
        have hlen := length_bitsOf high l l.length (by omega)
        rw [List.take_length] at hlen
        obtain ⟨L, hL⟩ : ∃ L, L = bitsOf high [] l := ⟨_, rfl⟩
        rw [← hL] at hw hlen
        have hbl := length_bytesOf high L
        repeat (first | refine go_ ?_ | refine bx_ (fun _ => ?_))
        refine hl_call rfl rfl (bytes_fn hw (by omega)) (fun v H2 h2 => ?_)
        obtain ⟨a', cap', rfl, _, _⟩ := h2.form
        repeat (first | refine go_ ?_ | refine bx_ (fun _ => ?_))
        refine hl_call rfl rfl (open_fn rfl (by omega) (h2.rds (by simp [Value.oneCell'])) high) (fun v H3 h3 => ?_)
        obtain ⟨gr, rfl, h3⟩ := h3
        obtain ⟨H4, hi4, h4⟩ := h3.cut h2
        refine HL.imp ?_ hi4
        repeat (first | refine go_ ?_ | refine bx_ (fun _ => ?_))
        refine hc_loopd (fun m fr H4 => ∃ j, j + m = k ∧ Agr fr [(0, .slice a k cap), (1, .bool high), (5, .pointer (some ⟨g, 0, none⟩)), (8, .pointer (some ⟨gr, 0, none⟩)), (47, .slice a k cap), (48, .int .i64 (k : Int)), (49, .int .i64 (j : Int))] ∧ Rdr gr high (bytesOf high L) (bitsOf high [] (l.take j)).length H' H4) k ?_ ?_
        · exact ⟨0, by omega, ⟨rfl, rfl, rfl, rfl, rfl, rfl, rfl, trivial⟩, h4⟩
        · clear h3 hi4 h4 H4 hf base
          rintro m fr H4 ⟨j, hj, hf, hr⟩
          obtain ⟨base, rfl⟩ := hf.out
          by_cases hjk : j < k
          · have hkl : j < l.length := by omega
            obtain ⟨b, off, rfl, hrow⟩ := hl.row j hkl
            have hwf := hx _ (List.getElem_mem hkl)
            obtain ⟨v, n, f, hxe⟩ : ∃ v n f, l[j] = ⟨v, n, f⟩ := ⟨_, _, _, rfl⟩
            obtain ⟨hv, hn⟩ := hwf
            rw [hxe] at hv hn
            change -9223372036854775808 ≤ v ∧ v ≤ 9223372036854775807 at hv
            change -9223372036854775808 ≤ n ∧ n ≤ 9223372036854775807 at hn
            have hstep := bitsOf_take high l j hkl
            rw [hxe] at hstep
            obtain ⟨t, ht⟩ : ∃ t, L = bitsOf high [] (l.take (j + 1)) ++ t := by
              obtain ⟨t, ht⟩ := bitsOf_pre high (l.drop (j + 1)) (bitsOf high [] (l.take (j + 1)))
              refine ⟨t, ?_⟩
              rw [← ht, hL]
              unfold bitsOf
              rw [← List.foldl_append, List.take_append_drop]
            have hpos : (bitsOf high [] (l.take (j + 1))).length ≤ L.length := by rw [ht, List.length_append]; omega
            have hpos0 : (bitsOf high [] (l.take j)).length ≤ (bitsOf high [] (l.take (j + 1))).length := by
              rw [hstep]
              obtain ⟨t, ht⟩ := bitMore_pre high (bitsOf high [] (l.take j)) ⟨v, n, f⟩
              rw [ht, List.length_append]; omega
            repeat (first | refine go_ ?_ | refine bx_ (fun _ => ?_))
            refine hl_loadE (k := 3) (f := numV) hl hkl hB rfl (by decide) rfl rfl ?_
            rw [hxe]
            change HL _ _ _ _ (updO _ _ (.agg #[.int .i64 v, .int .i64 n, .bool f])) _
            cases f
            · by_cases hright : Right v n
              · have hb := hstep
                rw [show bitMore high (bitsOf high [] (l.take j)) ⟨v, n, false⟩ = bitsOf high [] (l.take j) ++ numBits v.toNat n.toNat high from if_pos hright] at hb
                have hright' := id hright
                obtain ⟨h1, h2, h3, h4⟩ := hright'
                obtain ⟨n, rfl⟩ := Int.eq_ofNat_of_zero_le h1
                obtain ⟨v, rfl⟩ := Int.eq_ofNat_of_zero_le h3
                rw [Int.toNat_natCast, show ((2 : Int) ^ n) = ((2 ^ n : Nat) : Int) by simp] at h4
                rw [Int.toNat_natCast, Int.toNat_natCast] at hb
                have hbl2 : (bitsOf high [] (l.take (j + 1))).length = (bitsOf high [] (l.take j)).length + n := by rw [hb, List.length_append, length_numBits]
                have hnum : numOf high (bitsAt (bytesOf high L) high (bitsOf high [] (l.take j)).length n) = v := by
                  rw [ht, hb, bitsAt_num]
                  exact numOf_bits v n high (by omega)
                repeat (first | refine go_ ?_ | refine bx_ (fun _ => ?_) | refine hl_callv rfl rfl (right_yes v n false hright) ?_)
                refine hl_call rfl rfl (Get_yes (hr.under _) (by omega) n (by omega) (by omega)) (fun r H5 h5 => ?_)
                obtain ⟨rfl, h5⟩ := h5
                rw [hnum]
                rw [← hbl2] at h5
                obtain ⟨X, hX, hY⟩ := h5.open
                refine HL.perm ?_ (hX.trans List.perm_middle)
                repeat (first | refine go_ ?_ | refine bx_ (fun _ => ?_))
                exact ⟨m - 1, by omega, X ++ H', Imp.drop (Imp.refl _), j + 1, by omega, ⟨rfl, rfl, rfl, rfl, rfl, rfl, rfl, trivial⟩, hY H'⟩
              · repeat (first | refine go_ ?_ | refine bx_ (fun _ => ?_) | refine hl_callv rfl rfl (right_no v n false hright) ?_)
                refine ⟨m - 1, by omega, H4, Imp.drop (Imp.refl _), j + 1, by omega, ⟨rfl, rfl, rfl, rfl, rfl, rfl, rfl, trivial⟩, ?_⟩
                rw [hstep, show bitMore high (bitsOf high [] (l.take j)) ⟨v, n, false⟩ = bitsOf high [] (l.take j) from if_neg hright]
                exact hr
            · repeat (first | refine go_ ?_ | refine bx_ (fun _ => ?_))
              refine HL.drop ?_
              refine hl_call rfl rfl (align_fn hr (by omega) (by omega)) (fun r H5 h5 => ?_)
              repeat (first | refine go_ ?_ | refine bx_ (fun _ => ?_))
              refine ⟨m - 1, by omega, _, Imp.refl _, j + 1, by omega, ⟨rfl, rfl, rfl, rfl, rfl, rfl, rfl, trivial⟩, ?_⟩
              rw [hstep, show (bitMore high (bitsOf high [] (l.take j)) ⟨v, n, true⟩).length = ((bitsOf high [] (l.take j)).length + 7) / 8 * 8 from by
                rw [show bitMore high (bitsOf high [] (l.take j)) ⟨v, n, true⟩ = bitsOf high [] (l.take j) ++ fillBits (bitsOf high [] (l.take j)).length (decide (v % 2 = 1)) from rfl, List.length_append, fillBits, List.length_replicate]
                omega]
              exact h5
          · obtain rfl : j = k := by omega
            rw [List.take_of_length_le (by omega), ← hL] at hr
            obtain ⟨F1, hw1⟩ := hr.wrt hw
            repeat (first | refine go_ ?_ | refine bx_ (fun _ => ?_) | refine hl_callv rfl rfl (at_q hr) ?_ | refine hl_callv rfl rfl (count_q hw1) ?_ | refine hl_callv rfl rfl (left_q hr (by omega) (by omega)) ?_)
            exact fin1B rfl rfl rfl
theorem walk (a : Option Addr) (len cap : Nat) (l : List Num) (high : Bool) (w : World) (hl : SlS 3 numV w a len cap l) (hx : ∀ x ∈ l, x.wf) :
    Calls Try.prog 7 #[.slice a len cap, .bool high] w fun e w' => e = .returned (.bool true) ∧ Below w.heap.size w w' :=
  calls_of_fn (law (Nat.le_refl _) hl hx high) fun _ _ h => h

/-! The step to the statement (written by program). -/
open Go.ChangeShapes Go.WideShapes Go.ChangeAt
set_option maxRecDepth 100000 in
theorem lifted (os : Os) (started : os.Started) (H : Type) (enc : TypeId × Value → H) :
    ReturnsInHanded {} Try.checked os 7 .any (Rows.bitsBackSpec.pre6 enc Try.prog Try.f7 Rows.bitsBackRow.domain false) (Rows.bitsBackSpec.post enc Try.prog Try.f7 false true false false) := by
  refine returnsInHanded_of_change (C := Try.checked) own started (by kernel_rfl) Try.func7
    (ChangeSpec.witness6 (enc := enc) (C := Try.checked) false ⟨#[], #[.slice none 0 0, .bool false], []⟩ 8 (by kernel_rfl) (by kernel_rfl) (by kernel_rfl) (by kernel_rfl)) ?_
  intro W base args ds gs before hval0 hW hcnd _
  have hval : ∀ (j : Nat) t v, Try.f7.params[j]? = some t → args[j]? = some v → Value.okWide Try.prog W .any base t v := hval0
  have hW' := hW
  obtain ⟨p, q, hA0, hV, rfl, hfz, hnd⟩ := hW
  have hA : DataW.TrodAll enc Try.prog W 0 (fun _ => true) true Try.f7.params.toList args.toList ds p := hA0
  rw [Try.params7] at hA hval
  obtain ⟨v0, vs0, d0, ds0, p0, q0, hargs, rfl, rfl, h0, r0⟩ := trodAll_cons hA
  obtain ⟨v1, vs1, d1, ds1, p1, q1, rfl, rfl, rfl, h1, r1⟩ := trodAll_cons r0
  obtain ⟨rfl, rfl, rfl⟩ := trodAll_nil r1
  obtain rfl : args = #[v0, v1] := by cases args; simp_all
  obtain ⟨rfl, rfl⟩ := trodVars_none hV
  have k0 := h0
  have lt0 : ∀ x ∈ p0, x.block < W.heap.size := by obtain ⟨m, hm⟩ := k0; exact DataW.trod_lt m _ _ _ hm
  obtain ⟨a0, len0, cap0, e0⟩ := okWide_slice Try.underlying22 (hval 0 22 v0 rfl rfl)
  obtain ⟨l0, w0, b0⟩ := open_numL e0 k0
  subst e0
  have k1 := h1
  have lt1 : ∀ x ∈ p1, x.block < W.heap.size := by obtain ⟨m, hm⟩ := k1; exact DataW.trod_lt m _ _ _ hm
  obtain ⟨a1, rfl, _, _⟩ := open_bool Try.underlying4 (hval 1 4 v1 rfl rfl) h1
  clear hA0 hval0
  refine (walk a0 len0 cap0 l0 a1 W w0 b0).mono fun e W' ⟨he, bel⟩ => ?_
  subst he
  exact ⟨_, rfl, _, _, _, [], _, [], hW', trodAll_mk1 (shut_bool Try.underlying4 _), (trodAll_cons_mk (Below.trod laidOut (by kernel_rfl) (of_decide_eq_true (by kernel_rfl)) k0 bel lt0) (trodAll_cons_mk (Below.trod laidOut (by kernel_rfl) (of_decide_eq_true (by kernel_rfl)) k1 bel lt1) trodAll_mk0)), rfl, bel.frame _, fun h => by cases h⟩

theorem over : Rows.bitsBackRow.holds Try.pinned (OpenSpec.ofChange Rows.bitsBackSpec) :=
  OpenClaim.holds_of_wide 7 Try.f7 rfl rfl rfl rfl rfl rfl rfl ⟨rfl, rfl, rfl, rfl, rfl⟩ rfl rfl rfl rfl rfl (by kernel_rfl) Try.func7 (by kernel_rfl)
    (of_decide_eq_true (by kernel_rfl)) (by unfold Func.isWrapper; first | (rw [if_pos (by decide +kernel)]; kernel_rfl) | (rw [if_neg (by decide +kernel)]; exact ⟨rfl, rfl⟩))
    (fun os started H enc _ => lifted os started H enc)

/-- The statement. -/
theorem proved : Rows.BitsBackSaid := over
#print axioms proved
end Go.Proofs.Ytbgmakblfnpjkaa.bitsBack
