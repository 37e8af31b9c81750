/-
  JournalBack. No condition.
-/
import Derived.Test.YtpeegklnkecajaaC8
import Derived.Test.YtpeegklnkecajaaOpen
namespace Go.Proofs.Ytpeegklnkecajaa.journalBack
open Go.RowKit
set_option maxHeartbeats 8000000 in
set_option maxRecDepth 100000 in
theorem law {w0 : World} {B : Nat} {H : List Ent} {a : Option Addr} {len cap : Nat} {ps : List Part} (hp : ∀ E, PartsR w0 B E a len ps) (hcap : len ≤ cap) (hcs : cap ≤ 9223372036854775807) (cut : Int) (hcut : -9223372036854775808 ≤ cut ∧ cut ≤ 9223372036854775807) :
    Fn Try.prog w0 B 4 [.slice a len cap, .int .i64 cut] H (fun u _ => u = .bool true) := by
  have he := (hp H).eq
  obtain ⟨L, hL⟩ : ∃ L, L = ps.map Part.bs := ⟨_, rfl⟩
  have hLl : L.length = len := by rw [hL, List.length_map, he]
  refine fn_intro Try.func4 rfl (by kernel_rfl) rfl ?_
  by_cases h1 : 30 < len
  · repeat (first | refine go_ ?_ | refine bx_ (fun _ => ?_) | refine hl_callv rfl rfl (anchor_fn) ?_)
    exact fin1B rfl rfl rfl
  by_cases h2 : cut < 0
  · repeat (first | refine go_ ?_ | refine bx_ (fun _ => ?_) | refine hl_callv rfl rfl (anchor_fn) ?_)
    exact fin1B rfl rfl rfl
  obtain ⟨cu, rfl⟩ : ∃ c : Nat, cut = (c : Int) := ⟨cut.toNat, by omega⟩
  repeat (first | refine go_ ?_ | refine bx_ (fun _ => ?_) | refine hl_callv rfl rfl (anchor_fn) ?_)
  refine hc_loopd (fun q fr M => ∃ k v n Xb, k + q = len ∧ n = (recs (L.take k)).length ∧ n ≤ 508 * k ∧ (∀ p ∈ L.take k, p.length ≤ 500) ∧ (∀ F, Own 5 1 v n ((recs (L.take k)).map byteV) F (Xb ++ F)) ∧ Imp M (Xb ++ H) ∧
    Agr fr [(0, .slice a len cap), (1, .int .i64 (cu : Int)), (5, v), (23, .slice a len cap), (24, .int .i64 (len : Int)), (25, .int .i64 (k : Int))]) len ?_ ?_
  · exact ⟨0, _, 0, [], by omega, rfl, by omega, fun p hp => by simp at hp, fun F => Own.nil, Imp.refl _, rfl, rfl, rfl, rfl, rfl, rfl, trivial⟩
  rintro q fr M ⟨k, v, n, Xb, hk, hn, hnb, hsm, ho, hi, hf⟩
  obtain ⟨base, rfl⟩ := hf.out
  clear hf
  refine HC.imp ?_ hi
  obtain ⟨a3, c3, rfl, hc3, hc4⟩ := (ho []).form
  by_cases hlt : k < len
  · obtain ⟨bb, off, rfl⟩ := (hp H).pos (by omega)
    obtain ⟨p, hkl, hpe, hcell, hok⟩ := (hp (Xb ++ H)).at hlt
    have hkL : k < L.length := by omega
    have hLk : L[k] = p.bs := by subst hL; rw [hpe]; simp
    have hpl := hok.eq
    by_cases hbig : 500 < p.len
    · repeat (first | refine hl_loadRd rfl (hp _).rd (Imp.refl _) hcell rfl ?_ | refine go1_ ?_ | refine bx_ (fun _ => ?_))
      exact fin1B rfl rfl rfl
    repeat (first | refine hl_loadRd rfl (hp _).rd (Imp.refl _) hcell rfl ?_ | refine go1_ ?_ | refine bx_ (fun _ => ?_))
    refine hl_call rfl rfl (record_fn hok (by omega)) (fun v M3 o3 => ?_)
    obtain ⟨sv3, rfl, o3⟩ := o3
    obtain ⟨a7, c7, rfl, _, _⟩ := o3.form
    obtain ⟨Xr, hpm, hr⟩ := o3.permE
    refine HL.perm ?_ (hpm.trans (app_swap Xr Xb H))
    have oo := ho (Xr ++ H)
    have br : BytR w0 B (Xb ++ (Xr ++ H)) a7 (p.len + 8) c7 (recB p.bs) := (BytR.own (hr H)).imp (Imp.tail Xb _)
    repeat (first | refine go_ ?_ | refine bx_ (fun _ => ?_))
    refine hl_append_own rfl rfl oo br.rd (by rw [List.length_map, br.eq, Nat.mul_one]) rfl (by decide) (by omega) (by omega) rfl (fun v4 M4 o4 => ?_)
    obtain ⟨a4, c4, rfl, _, _⟩ := o4.form
    rw [← List.map_append, ← hLk, ← recs_take hkL] at o4
    obtain ⟨X4, hp4, h4⟩ := o4.permE
    repeat (first | refine go_ ?_ | refine bx_ (fun _ => ?_))
    refine ⟨q - 1, by omega, _, Imp.refl _, k + 1, _, _, X4, by omega, ?_, by omega, ?_, h4, ?_, rfl, rfl, rfl, rfl, rfl, rfl, trivial⟩
    · rw [recs_take hkL, List.length_append, length_recB, ← hn, hLk, hpl]
    · rw [List.take_succ_eq_append_getElem hkL]
      intro x hx
      rcases List.mem_append.1 hx with hx | hx
      · exact hsm x hx
      · simp only [List.mem_singleton] at hx
        rw [hx, hLk]; omega
    · exact Imp.perm hp4 (Imp.sub (List.Sublist.append (List.Sublist.refl _) (List.sublist_append_right _ _)))
  obtain rfl : k = len := by omega
  rw [List.take_of_length_le (by omega)] at hn hsm ho
  have bA : ∀ F, BytR w0 B (Xb ++ F) a3 n c3 (recs L) := fun F => BytR.own (ho F)
  have hsc := scan_recs (ls := L) (post := []) (fun p hp => by have := hsm p hp; omega) (by rw [List.append_nil]; exact stepN_end _)
  rw [List.append_nil] at hsc
  repeat (first | refine go_ ?_ | refine bx_ (fun _ => ?_))
  refine hl_call rfl rfl (scan_fn (bA H) (by omega)) (fun v M1 o1 => ?_)
  obtain ⟨sv, qs, Xo, Zc, rfl, rfl, hm1, hpm⟩ := o1
  rw [hsc] at hm1 ⊢
  dsimp only at hm1
  obtain ⟨a5, c5, rfl, hc5, hr⟩ := hpm.read
  have p1 := hr (Xb ++ H)
  rw [List.append_assoc] at p1
  have hq : qs.length = k := by have := congrArg List.length hm1; rw [List.length_map] at this; omega
  have hqz : ∀ p ∈ qs, p.len ≤ 500 := fun p hp => by
    rw [← (p1.each p hp).eq]
    exact hsm p.bs (by rw [← hm1]; exact List.mem_map_of_mem hp)
  have S := psame_fn (c := c5) (c2 := cap) p1 (hp _) (by omega) (fun p hp => by have := hqz p hp; omega)
  rw [decide_eq_true (by rw [hm1, hL])] at S
  dsimp only
  rw [← hn]
  by_cases h0 : k = 0
  · repeat (first | refine go_ ?_ | refine bx_ (fun _ => ?_) | refine hl_callv rfl rfl (S) ?_)
    exact fin1B rfl rfl rfl
  obtain ⟨bb, off, rfl⟩ := (hp H).pos (by omega)
  obtain ⟨p, hkl, hpe, hcell, hok⟩ := (hp (Xo ++ (Zc ++ (Xb ++ H)))).at (show k - 1 < k by omega)
  have hLk : L[k - 1]'(by omega) = p.bs := by subst hL; rw [hpe]; simp
  have hpl := hok.eq
  obtain ⟨d, hd⟩ : ∃ d, d = k - 1 := ⟨_, rfl⟩
  have hsplit : recs L = recs (L.take d) ++ recB p.bs := by
    have := recs_take (L := L) (k := d) (by omega)
    rw [List.take_of_length_le (by omega)] at this
    rw [this]; congr 2
    rw [← hLk]
    subst hd
    rfl
  have hrl : n = (recs (L.take d)).length + (p.len + 8) := by rw [hn, hsplit, List.length_append, length_recB, hpl]
  obtain ⟨kk, hkk⟩ : ∃ kk, kk = 1 + cu % (p.len + 8) := ⟨_, rfl⟩
  have hkb : cu % (p.len + 8) < p.len + 8 := Nat.mod_lt _ (by omega)
  have hpz : p.len ≤ 500 := by rw [← hpl, ← hLk]; exact hsm _ (List.getElem_mem _)
  repeat (first | refine hl_loadRd rfl (hp _).rd (Imp.refl _) hcell rfl ?_ | refine go1_ ?_ | refine bx_ (fun _ => ?_) | refine hl_callv rfl rfl (S) ?_)
  rw [show ((k : Int) - 1) = ((d : Nat) : Int) by omega]
  rw [← hd] at hcell
  repeat (first | refine hl_loadRd rfl (hp _).rd (Imp.refl _) hcell rfl ?_ | refine go1_ ?_ | refine bx_ (fun _ => ?_) | refine hl_callv rfl rfl (S) ?_)
  obtain ⟨b3, off3, rfl⟩ := (bA H).pos (by omega)
  have k1 : 1 ≤ kk := by omega
  have k2 : kk ≤ p.len + 8 := by omega
  have e1 : IntKind.i64.wrap (1 + (cu : Int) % ((p.len : Int) + 8)) = (kk : Int) := by
    rw [show (cu : Int) % ((p.len : Int) + 8) = ((cu % (p.len + 8) : Nat) : Int) by simp]
    rw [IntWalk.i64_in _ (by omega)]; omega
  have e2 : IntKind.i64.wrap ((n : Int) - (kk : Int)) = ((n - kk : Nat) : Int) := by
    rw [IntWalk.i64_in _ (by omega)]; omega
  rw [e1, e2]
  refine hl_sliceX (i := 0) (j := n - kk) (ki := .i64) (kj := .i64) rfl rfl rfl (by omega) (by omega) (by omega) rfl ?_
  have b4 := ((bA (Xo ++ (Zc ++ (Xb ++ H)))).drop 0 (n - kk) (by omega))
  have b5 := (bA H).drop 0 (n - kk) (by omega)
  have hb5 : ((recs L).drop 0).take (n - kk) = recs (L.take d) ++ (recB p.bs).take (p.len + 8 - kk) := by
    rw [List.drop_zero, hsplit, List.take_append, List.take_of_length_le (by omega)]
    congr 2
    omega
  rw [hb5] at b5
  clear b4
  have hsc2 := scan_recs (ls := L.take d) (post := (recB p.bs).take (p.len + 8 - kk)) (fun p hp => by have := hsm p (List.mem_of_mem_take hp); omega) (stepN_cut rfl (by omega) (by omega))
  refine hl_call rfl rfl (scan_fn (b5.imp (Imp.trans (Imp.tail Xo _) (Imp.tail Zc _))) (by omega)) (fun v M5 o5 => ?_)
  obtain ⟨sv5, qs5, Xo5, Zc5, rfl, rfl, hm5, hpm5⟩ := o5
  rw [hsc2] at hm5 ⊢
  dsimp only at hm5 ⊢
  obtain ⟨a8, c8, rfl, hc8, hr8⟩ := hpm5.read
  have p5 := hr8 (Xo ++ (Zc ++ (Xb ++ H)))
  rw [List.append_assoc] at p5
  have hq5 : qs5.length = d := by have := congrArg List.length hm5; rw [List.length_map, List.length_take] at this; omega
  have hqz5 : ∀ p ∈ qs5, p.len ≤ 500 := fun p hp => by
    rw [← (p5.each p hp).eq]
    exact hsm p.bs (List.mem_of_mem_take (by rw [← hm5]; exact List.mem_map_of_mem hp))
  have S5 := psame_fn (c := c8) (c2 := cap - 0) p5 ((hp _).take (show d ≤ k by omega)) (by omega) (fun p hp => by have := hqz5 p hp; omega)
  rw [decide_eq_true (by rw [hm5, List.map_take, hL])] at S5
  obtain ⟨m, hm⟩ : ∃ m, m = (recs (L.take d)).length := ⟨_, rfl⟩
  rw [← hm]
  rw [← hm] at hrl
  repeat (first | refine hl_loadRd rfl (hp _).rd (Imp.refl _) hcell rfl ?_ | refine go1_ ?_ | refine bx_ (fun _ => ?_) | refine hl_sliceX (i := 0) (j := d) (ki := .i64) (kj := .i64) rfl rfl rfl (by omega) (by omega) (by omega) rfl ?_ | refine hl_callv rfl rfl (S5) ?_)
  exact fin1B rfl rfl rfl
theorem walk (a : Option Addr) (len cap : Nat) (ps : List Part) (cut : Int) (w : World) (hp : Parts w a len cap ps) (hcut : -9223372036854775808 ≤ cut ∧ cut ≤ 9223372036854775807) :
    Calls Try.prog 4 #[.slice a len cap, .int .i64 cut] w fun e w' => e = .returned (.bool true) ∧ Below w.heap.size w w' :=
  calls_of_fn (law (fun E => PartsR.of (Nat.le_refl _) hp) hp.sl.le hp.sl.small cut hcut) fun _ _ h => h

/-! The step to the statement (written by program). -/
open Go.ChangeShapes Go.WideShapes Go.ChangeAt
set_option maxRecDepth 100000 in
theorem lifted (os : Os) (started : os.Started) (H : Type) (enc : TypeId × Value → H) :
    ReturnsInHanded {} Try.checked os 4 .any (Rows.journalBackSpec.pre6 enc Try.prog Try.f4 Rows.journalBackRow.domain false) (Rows.journalBackSpec.post enc Try.prog Try.f4 false true false false) := by
  refine returnsInHanded_of_change (C := Try.checked) own started (by kernel_rfl) Try.func4
    (ChangeSpec.witness6 (enc := enc) (C := Try.checked) false ⟨#[], #[.slice none 0 0, .int .i64 0], []⟩ 8 (by kernel_rfl) (by kernel_rfl) (by kernel_rfl) (by kernel_rfl)) ?_
  intro W base args ds gs before hval0 hW hcnd _
  have hval : ∀ (j : Nat) t v, Try.f4.params[j]? = some t → args[j]? = some v → Value.okWide Try.prog W .any base t v := hval0
  have hW' := hW
  obtain ⟨p, q, hA0, hV, rfl, hfz, hnd⟩ := hW
  have hA : DataW.TrodAll enc Try.prog W 0 (fun _ => true) true Try.f4.params.toList args.toList ds p := hA0
  rw [Try.params4] at hA hval
  obtain ⟨v0, vs0, d0, ds0, p0, q0, hargs, rfl, rfl, h0, r0⟩ := trodAll_cons hA
  obtain ⟨v1, vs1, d1, ds1, p1, q1, rfl, rfl, rfl, h1, r1⟩ := trodAll_cons r0
  obtain ⟨rfl, rfl, rfl⟩ := trodAll_nil r1
  obtain rfl : args = #[v0, v1] := by cases args; simp_all
  obtain ⟨rfl, rfl⟩ := trodVars_none hV
  have k0 := h0
  have lt0 : ∀ x ∈ p0, x.block < W.heap.size := by obtain ⟨m, hm⟩ := k0; exact DataW.trod_lt m _ _ _ hm
  obtain ⟨a0, len0, cap0, e0⟩ := okWide_slice Try.underlying24 (hval 0 24 v0 rfl rfl)
  obtain ⟨l0, w0⟩ := open_parts Try.underlying24 (by kernel_rfl) Try.underlying22 Try.underlying5 (by kernel_rfl) e0 k0
  subst e0
  have k1 := h1
  have lt1 : ∀ x ∈ p1, x.block < W.heap.size := by obtain ⟨m, hm⟩ := k1; exact DataW.trod_lt m _ _ _ hm
  obtain ⟨a1, rfl, _, _, w1⟩ := open_int Try.underlying3 (hval 1 3 v1 rfl rfl) h1
  have w1 := wf_i64 w1
  clear hA0 hval0
  refine (walk a0 len0 cap0 l0 a1 W w0 w1).mono fun e W' ⟨he, bel⟩ => ?_
  subst he
  exact ⟨_, rfl, _, _, _, [], _, [], hW', trodAll_mk1 (shut_bool Try.underlying4 _), (trodAll_cons_mk (Below.trod laidOut (by kernel_rfl) (of_decide_eq_true (by kernel_rfl)) k0 bel lt0) (trodAll_cons_mk (Below.trod laidOut (by kernel_rfl) (of_decide_eq_true (by kernel_rfl)) k1 bel lt1) trodAll_mk0)), rfl, bel.frame _, fun h => by cases h⟩

theorem over : Rows.journalBackRow.holds Try.pinned (OpenSpec.ofChange Rows.journalBackSpec) :=
  OpenClaim.holds_of_wide 4 Try.f4 rfl rfl rfl rfl rfl rfl rfl ⟨rfl, rfl, rfl, rfl, rfl⟩ rfl rfl rfl rfl rfl (by kernel_rfl) Try.func4 (by kernel_rfl)
    (of_decide_eq_true (by kernel_rfl)) (by unfold Func.isWrapper; first | (rw [if_pos (by decide +kernel)]; kernel_rfl) | (rw [if_neg (by decide +kernel)]; exact ⟨rfl, rfl⟩))
    (fun os started H enc _ => lifted os started H enc)

/-- The statement. -/
theorem proved : Rows.JournalBackSaid := over
#print axioms proved
end Go.Proofs.Ytpeegklnkecajaa.journalBack
