/-
  JournalFlips. No condition.
-/
import Derived.Test.YtpeegklnkecajaaC9
import Derived.Test.YtpeegklnkecajaaOpen
namespace Go.Proofs.Ytpeegklnkecajaa.journalFlips
open Go.RowKit
set_option maxHeartbeats 8000000 in
set_option maxRecDepth 100000 in
theorem law {w0 : World} {B : Nat} {H : List Ent} {a a2 : Option Addr} {len cap n2 c2 : Nat} {ps : List Part} {py : List UInt8} (hp : ∀ E, PartsR w0 B E a len ps) (hcap : len ≤ cap) (hcs : cap ≤ 9223372036854775807) (hy : ∀ E, BytR w0 B E a2 n2 c2 py)
    (p0 : Int) (hp0 : -9223372036854775808 ≤ p0 ∧ p0 ≤ 9223372036854775807) (bt : Int) (hbt : -9223372036854775808 ≤ bt ∧ bt ≤ 9223372036854775807) :
    Fn Try.prog w0 B 5 [.slice a len cap, .slice a2 n2 c2, .int .i64 p0, .int .i64 bt] H (fun u _ => u = .bool true) := by
  have he := (hp H).eq
  obtain ⟨L, hL⟩ : ∃ L, L = ps.map Part.bs := ⟨_, rfl⟩
  have hLl : L.length = len := by rw [hL, List.length_map, he]
  have hye := (hy H).eq
  have hyl := (hy H).le
  have hys := (hy H).small
  refine fn_intro Try.func5 rfl (by kernel_rfl) rfl ?_
  by_cases h1 : 8 < len
  · repeat (first | refine go_ ?_ | refine bx_ (fun _ => ?_) | refine hl_callv rfl rfl (anchor_fn) ?_)
    exact fin1B rfl rfl rfl
  by_cases h2 : 300 < n2
  · repeat (first | refine go_ ?_ | refine bx_ (fun _ => ?_) | refine hl_callv rfl rfl (anchor_fn) ?_)
    exact fin1B rfl rfl rfl
  by_cases h3 : p0 < 0
  · repeat (first | refine go_ ?_ | refine bx_ (fun _ => ?_) | refine hl_callv rfl rfl (anchor_fn) ?_)
    exact fin1B rfl rfl rfl
  by_cases h4 : 8 * (n2 : Int) ≤ p0
  · repeat (first | refine go_ ?_ | refine bx_ (fun _ => ?_) | refine hl_callv rfl rfl (anchor_fn) ?_)
    exact fin1B rfl rfl rfl
  by_cases h5 : bt < 1
  · repeat (first | refine go_ ?_ | refine bx_ (fun _ => ?_) | refine hl_callv rfl rfl (anchor_fn) ?_)
    exact fin1B rfl rfl rfl
  by_cases h6 : 4294967296 ≤ bt
  · repeat (first | refine go_ ?_ | refine bx_ (fun _ => ?_) | refine hl_callv rfl rfl (anchor_fn) ?_)
    exact fin1B rfl rfl rfl
  obtain ⟨p0, rfl⟩ : ∃ c : Nat, p0 = (c : Int) := ⟨p0.toNat, by omega⟩
  obtain ⟨bt, rfl⟩ : ∃ c : Nat, bt = (c : Int) := ⟨bt.toNat, by omega⟩
  repeat (first | refine go_ ?_ | refine bx_ (fun _ => ?_) | refine hl_callv rfl rfl (anchor_fn) ?_)
  refine hc_loopd (fun q fr M => ∃ k v n Xb, k + q = len ∧ n = (recs (L.take k)).length ∧ n ≤ 208 * k ∧ (∀ p ∈ L.take k, p.length ≤ 200) ∧ (∀ F, Own 5 1 v n ((recs (L.take k)).map byteV) F (Xb ++ F)) ∧ Imp M (Xb ++ H) ∧
    Agr fr [(0, .slice a len cap), (1, .slice a2 n2 c2), (2, .int .i64 (p0 : Int)), (3, .int .i64 (bt : Int)), (9, v), (48, .slice a len cap), (49, .int .i64 (len : Int)), (50, .int .i64 (k : Int))]) len ?_ ?_
  · exact ⟨0, _, 0, [], by omega, rfl, by omega, fun p hp => by simp at hp, fun F => Own.nil, Imp.refl _, rfl, rfl, rfl, rfl, rfl, rfl, rfl, rfl, trivial⟩
  rintro q fr M ⟨k, v, n, Xb, hk, hn, hnb, hsm, ho, hi, hf⟩
  obtain ⟨base, rfl⟩ := hf.out
  clear hf
  refine HC.imp ?_ hi
  obtain ⟨a3, c3, rfl, hc3, hc4⟩ := (ho []).form
  by_cases hlt : k < len
  · obtain ⟨bb, off, rfl⟩ := (hp H).pos (by omega)
    obtain ⟨p, hkl, hpe, hcell, hok⟩ := (hp (Xb ++ H)).at hlt
    have hkL : k < L.length := by omega
    have hLk : L[k] = p.bs := by subst hL; rw [hpe]; simp
    have hpl := hok.eq
    by_cases hbig : 200 < p.len
    · repeat (first | refine hl_loadRd rfl (hp _).rd (Imp.refl _) hcell rfl ?_ | refine go1_ ?_ | refine bx_ (fun _ => ?_))
      exact fin1B rfl rfl rfl
    repeat (first | refine hl_loadRd rfl (hp _).rd (Imp.refl _) hcell rfl ?_ | refine go1_ ?_ | refine bx_ (fun _ => ?_))
    refine hl_call rfl rfl (record_fn hok (by omega)) (fun v M3 o3 => ?_)
    obtain ⟨sv3, rfl, o3⟩ := o3
    obtain ⟨a7, c7, rfl, _, _⟩ := o3.form
    obtain ⟨Xr, hpm, hr⟩ := o3.permE
    refine HL.perm ?_ (hpm.trans (app_swap Xr Xb H))
    have oo := ho (Xr ++ H)
    have br : BytR w0 B (Xb ++ (Xr ++ H)) a7 (p.len + 8) c7 (recB p.bs) := (BytR.own (hr H)).imp (Imp.tail Xb _)
    repeat (first | refine go_ ?_ | refine bx_ (fun _ => ?_))
    refine hl_append_own rfl rfl oo br.rd (by rw [List.length_map, br.eq, Nat.mul_one]) rfl (by decide) (by omega) (by omega) rfl (fun v4 M4 o4 => ?_)
    obtain ⟨a4, c4, rfl, _, _⟩ := o4.form
    rw [← List.map_append, ← hLk, ← recs_take hkL] at o4
    obtain ⟨X4, hp4, h4⟩ := o4.permE
    repeat (first | refine go_ ?_ | refine bx_ (fun _ => ?_))
    refine ⟨q - 1, by omega, _, Imp.refl _, k + 1, _, _, X4, by omega, ?_, by omega, ?_, h4, ?_, rfl, rfl, rfl, rfl, rfl, rfl, rfl, rfl, trivial⟩
    · rw [recs_take hkL, List.length_append, length_recB, ← hn, hLk, hpl]
    · rw [List.take_succ_eq_append_getElem hkL]
      intro x hx
      rcases List.mem_append.1 hx with hx | hx
      · exact hsm x hx
      · simp only [List.mem_singleton] at hx
        rw [hx, hLk]; omega
    · exact Imp.perm hp4 (Imp.sub (List.Sublist.append (List.Sublist.refl _) (List.sublist_append_right _ _)))
  obtain rfl : len = k := by omega
  rw [List.take_of_length_le (by omega)] at hn hsm ho
  have bA : ∀ F, BytR w0 B (Xb ++ F) a3 n c3 (recs L) := fun F => BytR.own (ho F)
  repeat (first | refine go_ ?_ | refine bx_ (fun _ => ?_))
  refine hl_call rfl rfl (record_fn (hy _) (by omega)) (fun v M3 o3 => ?_)
  obtain ⟨sv3, rfl, o3⟩ := o3
  obtain ⟨gr, cr, rfl, hr1, hr2, hr3, hr4⟩ := o3.posn (by omega)
  refine HL.perm ?_ hr4
  have hrec : recB py = be4 py.length ++ (py ++ be4 (crc (be4 py.length ++ py)).toNat) := by unfold recB; rw [List.append_assoc]
  obtain ⟨t4, ht4⟩ : ∃ t4, t4 = be4 (crc (be4 py.length ++ py)).toNat := ⟨_, rfl⟩
  have ht4l : t4.length = 4 := by rw [ht4]; rfl
  rw [← ht4] at hrec
  rw [hrec]
  repeat (first | refine go_ ?_ | refine bx_ (fun _ => ?_))
  refine hc_loopd (fun m fr M => ∃ (k : Nat) (q' : List UInt8), k + m = 32 ∧ q'.length = n2 ∧ (∀ j, j < 8 * n2 → bitAt q' j = (bitAt py j != (decide (p0 ≤ j) && decide (j < p0 + k) && bt.testBit (j - p0)))) ∧ (∀ i, i < k → bt.testBit i = true → p0 + i < 8 * n2) ∧
    Imp M (⟨gr, 5, (be4 py.length ++ (q' ++ t4)).map byteV, cr * 1⟩ :: (Xb ++ H)) ∧
    Agr fr [(0, .slice a len cap), (1, .slice a2 n2 c2), (2, .int .i64 (p0 : Int)), (3, .int .i64 (bt : Int)), (9, .slice a3 n c3), (14, .slice (some ⟨gr, 0, none⟩) (n2 + 8) cr), (16, .int .i64 (k : Int))]) 32 ?_ ?_
  · refine ⟨0, py, by omega, hye, fun j _ => ?_, fun i hi => by omega, Imp.refl _, rfl, rfl, rfl, rfl, rfl, rfl, rfl, trivial⟩
    rw [show decide (j < p0 + 0) = !decide (p0 ≤ j) by rw [Bool.eq_iff_iff]; simp]
    simp
  clear base hi hlt
  rintro m fr M4 ⟨k, q', hk4, hql, hbits, hin, hi, hf⟩
  obtain ⟨base, rfl⟩ := hf.out
  clear hf
  refine HC.imp ?_ hi
  by_cases hlt : k < 32
  · have hb64 := bit64 bt k (by omega)
    by_cases hbit : bt / 2 ^ k % 2 = 1
    · rw [hbit] at hb64
      obtain ⟨d, hd⟩ : ∃ d, d = (p0 + k) / 8 := ⟨_, rfl⟩
      obtain ⟨r, hr⟩ : ∃ r, r = (p0 + k) % 8 := ⟨_, rfl⟩
      have e1 : ((p0 : Int) + (k : Int)) / 8 = (d : Int) := by omega
      have e2 : ((p0 : Int) + (k : Int)) % 8 = (r : Int) := by omega
      by_cases hdl : n2 ≤ d
      · repeat (first | rw [hb64] | rw [e1] | refine go1_ ?_ | refine bx_ (fun _ => ?_))
        exact fin1B rfl rfl rfl
      have hget : ((be4 py.length ++ (q' ++ t4)).map byteV)[4 + d]? = some (byteV (q'.getD d 0)) := by
        rw [List.getElem?_map, getD_mid _ _ _ (length_be4 _) d (by omega)]; rfl
      have e4 : 4 + (d : Int) = ((4 + d : Nat) : Int) := by omega
      have hs8 := shl1_u8 r (by omega)
      repeat (first | rw [hb64] | rw [e1] | refine go1_ ?_ | refine bx_ (fun _ => ?_))
      (refine hc_drawS (by kernel_rfl) (by kernel_rfl) ?_; repeat (first | rw [e1] | rw [e2] | rw [e4] | rw [xor8] | refine gd1_ ?_ | (refine is_cons ?_; refine hl_load1 rfl .here hget rfl ?_)))
      repeat (first | refine go_ ?_ | refine bx_ (fun _ => ?_))
      have hw8 : IntKind.u8.wrap (1 * 2 ^ r) = ((1 <<< UInt8.ofNat r : UInt8).toNat : Int) := by rw [Int.one_mul]; exact hs8
      refine ⟨m - 1, by omega, _, Imp.refl _, k + 1, q'.set d (q'.getD d 0 ^^^ (1 <<< UInt8.ofNat r)), by omega, by rw [List.length_set]; exact hql, fun j hj => ?_, fun i hi hq => ?_, ?_, rfl, rfl, rfl, rfl, rfl, rfl, rfl, trivial⟩
      · have hbs := bitAt_set q' (p0 + k) (by omega) j
        rw [← hd, ← hr] at hbs
        rw [hbs, hbits j hj]
        by_cases hjk : j = p0 + k
        · rw [decide_eq_true hjk, show decide (j < p0 + k) = false from decide_eq_false (by omega), show decide (j < p0 + (k + 1)) = true from decide_eq_true (by omega), show decide (p0 ≤ j) = true from decide_eq_true (by omega),
            show bt.testBit (j - p0) = true by rw [show j - p0 = k by omega, testBit_mod, decide_eq_true hbit]]
          cases bitAt py j <;> rfl
        · rw [decide_eq_false hjk, show decide (j < p0 + (k + 1)) = decide (j < p0 + k) from decide_eq_decide.2 (by omega), Bool.bne_false]
      · by_cases hik : i = k
        · subst hik; omega
        · exact hin i (by omega) hq
      · rw [hw8, xor8, ← set_mid _ _ _ (length_be4 _) d (by omega), List.map_set]
        exact Imp.refl _
    · have hb0 : bt / 2 ^ k % 2 = 0 := by omega
      rw [hb0] at hb64
      repeat (first | rw [hb64] | refine go1_ ?_ | refine bx_ (fun _ => ?_))
      refine ⟨m - 1, by omega, _, Imp.refl _, k + 1, q', by omega, hql, fun j hj => ?_, fun i hi hq => ?_, Imp.refl _, rfl, rfl, rfl, rfl, rfl, rfl, rfl, trivial⟩
      · rw [hbits j hj]
        by_cases hjk : j = p0 + k
        · subst hjk
          rw [show p0 + k - p0 = k by omega, testBit_mod, decide_eq_false hbit]; simp
        · rw [show decide (j < p0 + (k + 1)) = decide (j < p0 + k) from decide_eq_decide.2 (by omega)]
      · by_cases hik : i = k
        · subst hik; rw [testBit_mod, decide_eq_true_eq] at hq; exact absurd hq hbit
        · exact hin i (by omega) hq
  obtain rfl : k = 32 := by omega
  have bR : ∀ M F, Take M ⟨gr, 5, (be4 py.length ++ (q' ++ t4)).map byteV, cr * 1⟩ F → BytR w0 B M (some ⟨gr, 0, none⟩) (n2 + 8) cr (be4 py.length ++ (q' ++ t4)) := fun M F ht => BytR.ent ht rfl (by rw [List.length_append, List.length_append, length_be4]; omega) (by omega) (by omega)
  have hc := flip_crc (h4 := be4 py.length) (q := py) (q' := q') (length_be4 _) (by omega) (fun j hj => hbits j (by omega)) (fun i h1 h2 => by have := hin i h1 h2; omega) (by omega) (by omega)
  have hno := stepN_flip (b := recs L ++ (be4 py.length ++ (q' ++ t4))) (pre := recs L) (q := py) (q' := q') (by rw [← ht4]) (by omega) (by omega) hc
  have hsc := scan_recs (ls := L) (fun p hp => by have := hsm p hp; omega) hno
  repeat (first | refine go_ ?_ | refine bx_ (fun _ => ?_))
  refine hl_call rfl rfl (join_fn (((bA H)).imp (Imp.drop (Imp.refl _))) (bR _ _ .here) (by omega) (by omega)) (fun v M1 o1 => ?_)
  obtain ⟨a7, c7, rfl, _, _⟩ := o1.form
  obtain ⟨Xj, hj1, hj2⟩ := o1.permE
  refine HL.perm ?_ hj1
  repeat (first | refine go_ ?_ | refine bx_ (fun _ => ?_))
  refine hl_call rfl rfl (scan_fn (BytR.own (hj2 _)) (by omega)) (fun v M1 o1 => ?_)
  obtain ⟨sv, qs, Xo, Zc, rfl, rfl, hm1, hpm⟩ := o1
  rw [hsc] at hm1 ⊢
  dsimp only at hm1
  obtain ⟨a5, c5, rfl, hc5, hr⟩ := hpm.read
  have p1 := hr (Xj ++ (⟨gr, 5, (be4 py.length ++ (q' ++ t4)).map byteV, cr * 1⟩ :: (Xb ++ H)))
  rw [List.append_assoc] at p1
  have hq : qs.length = len := by have := congrArg List.length hm1; rw [List.length_map] at this; omega
  have hqz : ∀ p ∈ qs, p.len ≤ 500 := fun p hp => by
    rw [← (p1.each p hp).eq]
    have := hsm p.bs (by rw [← hm1]; exact List.mem_map_of_mem hp)
    omega
  have S := psame_fn (c := c5) (c2 := cap) p1 (hp _) (by omega) (fun p hp => by have := hqz p hp; omega)
  rw [decide_eq_true (by rw [hm1, hL])] at S
  dsimp only
  rw [← hn]
  repeat (first | refine go_ ?_ | refine bx_ (fun _ => ?_) | refine hl_callv rfl rfl (S) ?_)
  exact fin1B rfl rfl rfl
theorem walk (a : Option Addr) (len cap : Nat) (ps : List Part) (a2 : Option Addr) (len2 cap2 : Nat) (l2 : List UInt8) (p0 bt : Int) (w : World) (hp : Parts w a len cap ps) (hl2 : Sl byteV w a2 len2 cap2 l2) (hp0 : -9223372036854775808 ≤ p0 ∧ p0 ≤ 9223372036854775807)
    (hbt : -9223372036854775808 ≤ bt ∧ bt ≤ 9223372036854775807) :
    Calls Try.prog 5 #[.slice a len cap, .slice a2 len2 cap2, .int .i64 p0, .int .i64 bt] w fun e w' => e = .returned (.bool true) ∧ Below w.heap.size w w' :=
  calls_of_fn (law (fun E => PartsR.of (Nat.le_refl _) hp) hp.sl.le hp.sl.small (fun E => BytR.of (Nat.le_refl _) hl2) p0 hp0 bt hbt) fun _ _ h => h

/-! The step to the statement (written by program). -/
open Go.ChangeShapes Go.WideShapes Go.ChangeAt
set_option maxRecDepth 100000 in
theorem lifted (os : Os) (started : os.Started) (H : Type) (enc : TypeId × Value → H) :
    ReturnsInHanded {} Try.checked os 5 .any (Rows.journalFlipsSpec.pre6 enc Try.prog Try.f5 Rows.journalFlipsRow.domain false) (Rows.journalFlipsSpec.post enc Try.prog Try.f5 false true false false) := by
  refine returnsInHanded_of_change (C := Try.checked) own started (by kernel_rfl) Try.func5
    (ChangeSpec.witness6 (enc := enc) (C := Try.checked) false ⟨#[], #[.slice none 0 0, .slice none 0 0, .int .i64 0, .int .i64 0], []⟩ 8 (by kernel_rfl) (by kernel_rfl) (by kernel_rfl) (by kernel_rfl)) ?_
  intro W base args ds gs before hval0 hW hcnd _
  have hval : ∀ (j : Nat) t v, Try.f5.params[j]? = some t → args[j]? = some v → Value.okWide Try.prog W .any base t v := hval0
  have hW' := hW
  obtain ⟨p, q, hA0, hV, rfl, hfz, hnd⟩ := hW
  have hA : DataW.TrodAll enc Try.prog W 0 (fun _ => true) true Try.f5.params.toList args.toList ds p := hA0
  rw [Try.params5] at hA hval
  obtain ⟨v0, vs0, d0, ds0, p0, q0, hargs, rfl, rfl, h0, r0⟩ := trodAll_cons hA
  obtain ⟨v1, vs1, d1, ds1, p1, q1, rfl, rfl, rfl, h1, r1⟩ := trodAll_cons r0
  obtain ⟨v2, vs2, d2, ds2, p2, q2, rfl, rfl, rfl, h2, r2⟩ := trodAll_cons r1
  obtain ⟨v3, vs3, d3, ds3, p3, q3, rfl, rfl, rfl, h3, r3⟩ := trodAll_cons r2
  obtain ⟨rfl, rfl, rfl⟩ := trodAll_nil r3
  obtain rfl : args = #[v0, v1, v2, v3] := by cases args; simp_all
  obtain ⟨rfl, rfl⟩ := trodVars_none hV
  have k0 := h0
  have lt0 : ∀ x ∈ p0, x.block < W.heap.size := by obtain ⟨m, hm⟩ := k0; exact DataW.trod_lt m _ _ _ hm
  obtain ⟨a0, len0, cap0, e0⟩ := okWide_slice Try.underlying24 (hval 0 24 v0 rfl rfl)
  obtain ⟨l0, w0⟩ := open_parts Try.underlying24 (by kernel_rfl) Try.underlying22 Try.underlying5 (by kernel_rfl) e0 k0
  subst e0
  have k1 := h1
  have lt1 : ∀ x ∈ p1, x.block < W.heap.size := by obtain ⟨m, hm⟩ := k1; exact DataW.trod_lt m _ _ _ hm
  obtain ⟨a1, len1, cap1, e1⟩ := okWide_slice Try.underlying22 (hval 1 22 v1 rfl rfl)
  obtain ⟨l1, w1⟩ := open_bytes Try.underlying22 Try.underlying5 (by kernel_rfl) e1 k1
  subst e1
  have k2 := h2
  have lt2 : ∀ x ∈ p2, x.block < W.heap.size := by obtain ⟨m, hm⟩ := k2; exact DataW.trod_lt m _ _ _ hm
  obtain ⟨a2, rfl, _, _, w2⟩ := open_int Try.underlying3 (hval 2 3 v2 rfl rfl) h2
  have w2 := wf_i64 w2
  have k3 := h3
  have lt3 : ∀ x ∈ p3, x.block < W.heap.size := by obtain ⟨m, hm⟩ := k3; exact DataW.trod_lt m _ _ _ hm
  obtain ⟨a3, rfl, _, _, w3⟩ := open_int Try.underlying3 (hval 3 3 v3 rfl rfl) h3
  have w3 := wf_i64 w3
  clear hA0 hval0
  refine (walk a0 len0 cap0 l0 a1 len1 cap1 l1 a2 a3 W w0 w1 w2 w3).mono fun e W' ⟨he, bel⟩ => ?_
  subst he
  exact ⟨_, rfl, _, _, _, [], _, [], hW', trodAll_mk1 (shut_bool Try.underlying4 _), (trodAll_cons_mk (Below.trod laidOut (by kernel_rfl) (of_decide_eq_true (by kernel_rfl)) k0 bel lt0) (trodAll_cons_mk (Below.trod laidOut (by kernel_rfl) (of_decide_eq_true (by kernel_rfl)) k1 bel lt1) (trodAll_cons_mk (Below.trod laidOut (by kernel_rfl) (of_decide_eq_true (by kernel_rfl)) k2 bel lt2) (trodAll_cons_mk (Below.trod laidOut (by kernel_rfl) (of_decide_eq_true (by kernel_rfl)) k3 bel lt3) trodAll_mk0)))), rfl, bel.frame _, fun h => by cases h⟩

theorem over : Rows.journalFlipsRow.holds Try.pinned (OpenSpec.ofChange Rows.journalFlipsSpec) :=
  OpenClaim.holds_of_wide 5 Try.f5 rfl rfl rfl rfl rfl rfl rfl ⟨rfl, rfl, rfl, rfl, rfl⟩ rfl rfl rfl rfl rfl (by kernel_rfl) Try.func5 (by kernel_rfl)
    (of_decide_eq_true (by kernel_rfl)) (by unfold Func.isWrapper; first | (rw [if_pos (by decide +kernel)]; kernel_rfl) | (rw [if_neg (by decide +kernel)]; exact ⟨rfl, rfl⟩))
    (fun os started H enc _ => lifted os started H enc)

/-- The statement. -/
theorem proved : Rows.JournalFlipsSaid := over
#print axioms proved
end Go.Proofs.Ytpeegklnkecajaa.journalFlips
