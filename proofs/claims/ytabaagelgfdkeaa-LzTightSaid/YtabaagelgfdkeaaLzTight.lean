/-
  LzTight. No condition.
-/
import Derived.Test.YtabaagelgfdkeaaL4
import Derived.Test.YtabaagelgfdkeaaOpen
namespace Go.Proofs.Ytabaagelgfdkeaa.lzTight
open Go.RowKit
theorem three_eq (l : List UInt8) (q p : Nat) (hq : q + 3 ≤ l.length) (hp : p + 3 ≤ l.length) (h : (l.drop q).take 3 = (l.drop p).take 3) : ∀ i, i < 3 → l.getD (q + i) 0 = l.getD (p + i) 0 := by
  intro i hi
  have h1 := congrArg (fun x => x[i]?) h
  simp only [List.getElem?_take, List.getElem?_drop, if_pos hi] at h1
  rw [List.getD_eq_getElem?_getD, List.getD_eq_getElem?_getD, h1]
set_option maxHeartbeats 8000000 in
set_option maxRecDepth 100000 in
theorem there_fn {w0 : World} {B : Nat} {H : List Ent} {a : Option Addr} {n cap : Nat} {b : List UInt8} (hl : b.length = n) (hr : Rds w0 B H a (b.map byteV)) (hcap : n ≤ cap) (hnil : a = none → cap = 0) (hn : n ≤ 100000) (p : Nat) (hp : p ≤ n)
    (h : p + 3 ≤ n → ∀ d, 1 ≤ d → d ≤ p → d ≤ 32768 → ¬ ∀ i, i < 3 → b.getD (p - d + i) 0 = b.getD (p + i) 0) :
    Fn Try.prog w0 B 12 [.slice a n cap, .int .i64 (p : Int)] H (fun v H' => v = .bool false ∧ H' = H) := by
  refine fn_intro Try.func12 rfl (by kernel_rfl) rfl ?_
  by_cases h3 : n < p + 3
  · repeat (first | refine go_ ?_ | refine bx_ (fun _ => ?_))
    exact fin1B rfl rfl ⟨rfl, rfl⟩
  have h9 := h (by omega)
  subst hl
  repeat (first | refine go_ ?_ | refine bx_ (fun _ => ?_))
  refine hc_loop (fun m fr M => ∃ d, m + d = p + 1 ∧ 1 ≤ d ∧ Agr fr [(0, .slice a b.length cap), (1, .int .i64 (p : Int)), (5, .int .i64 (d : Int))] ∧ M = H) p ?_ ?_
  · exact ⟨1, by omega, by omega, ⟨rfl, rfl, rfl, trivial⟩, rfl⟩
  rintro m fr M ⟨d, hm, hd, hf, rfl⟩
  obtain ⟨base, rfl⟩ := hf.out
  by_cases hdp : p < d
  · repeat (first | refine go_ ?_ | refine bx_ (fun _ => ?_))
    exact fin1B rfl rfl ⟨rfl, rfl⟩
  by_cases hw : 32768 < d
  · repeat (first | refine go_ ?_ | refine bx_ (fun _ => ?_))
    exact fin1B rfl rfl ⟨rfl, rfl⟩
  have hne := h9 d hd (by omega) (by omega)
  have hi1 : ((p : Int) - (d : Int)) = ((p - d : Nat) : Int) := by omega
  have hi2 : (((p - d : Nat) : Int) + 3) = ((p - d + 3 : Nat) : Int) := by omega
  have hi3 : ((p : Int) + 3) = ((p + 3 : Nat) : Int) := by omega
  repeat (first | refine go_ ?_ | refine bx_ (fun _ => ?_))
  (refine hc_draw (by kernel_rfl) (by kernel_rfl) ?_; repeat (first | rw [hi1] | rw [hi2] | rw [hi3] | refine gd1_ ?_))
  refine hl_sliceR (i := p - d) (j := p - d + 3) (l := b.map byteV) rfl hr (by simp) hcap hnil rfl rfl (by omega) (by omega) rfl (fun a1 hr1 hn1 => ?_)
  rw [Nat.add_sub_cancel_left, ← List.map_drop, ← List.map_take] at hr1
  rw [Nat.add_sub_cancel_left]
  have hl1 : ((b.drop (p - d)).take 3).length = 3 := by rw [List.length_take, List.length_drop]; omega
  refine hl_convStr (l := (b.drop (p - d)).take 3) (by rw [hl1]; rfl) hr1 rfl ?_
  repeat (first | rw [hi3] | refine gd1_ ?_)
  refine hl_sliceR (i := p) (j := p + 3) (l := b.map byteV) rfl hr (by simp) hcap hnil rfl rfl (by omega) (by omega) rfl (fun a2 hr2 hn2 => ?_)
  rw [Nat.add_sub_cancel_left, ← List.map_drop, ← List.map_take] at hr2
  rw [Nat.add_sub_cancel_left]
  have hl2 : ((b.drop p).take 3).length = 3 := by rw [List.length_take, List.length_drop]; omega
  refine hl_convStr (l := (b.drop p).take 3) (by rw [hl2]; rfl) hr2 rfl ?_
  refine hl_strEqL rfl rfl rfl ?_
  rw [show ((b.drop (p - d)).take 3 == (b.drop p).take 3) = false from by
    rw [beq_eq_false_iff_ne]
    exact fun e => hne (three_eq b _ _ (by omega) (by omega) e)]
  repeat (first | refine gd_ ?_)
  repeat (first | refine go_ ?_ | refine bx_ (fun _ => ?_))
  exact ⟨m - 1, by omega, d + 1, by omega, by omega, ⟨rfl, rfl, rfl, trivial⟩, rfl⟩
set_option maxHeartbeats 8000000 in
set_option maxRecDepth 100000 in
theorem law {w0 : World} {B : Nat} {H : List Ent} (hB : w0.heap.size ≤ B) {a : Option Addr} {len cap : Nat} {l : List UInt8} (hl : Sl byteV w0 a len cap l) (eff : Int) (he : -9223372036854775808 ≤ eff ∧ eff ≤ 9223372036854775807) :
    Fn Try.prog w0 B 5 [.slice a len cap, .int .i64 eff] H (fun u _ => u = .bool true) := by
  have e1 := hl.size_eq
  have e3 := hl.le
  have b1 : ∀ E, BArg w0 B E a len l := fun E => BArg.sl hB hl
  have r1 : ∀ E, Rds w0 B E a (l.map byteV) := fun E => Rds.sl (c := ⟨Try.prog, 0, w0, B⟩) hl hB (by simp [Value.oneCell', byteV])
  refine fn_intro Try.func5 rfl (by kernel_rfl) rfl ?_
  by_cases h1 : 600 < len
  · repeat (first | refine go_ ?_ | refine bx_ (fun _ => ?_) | refine hl_callv rfl rfl (anchor_fn) ?_)
    exact fin1B rfl rfl rfl
  by_cases h2 : eff < 1
  · repeat (first | refine go_ ?_ | refine bx_ (fun _ => ?_) | refine hl_callv rfl rfl (anchor_fn) ?_)
    exact fin1B rfl rfl rfl
  obtain ⟨e, hee⟩ := Int.eq_ofNat_of_zero_le (show 0 ≤ min eff 64 by omega)
  repeat (first | refine go_ ?_ | refine bx_ (fun _ => ?_) | refine hl_callv rfl rfl (anchor_fn) ?_)
  refine hl_call rfl rfl (find1_fn (b1 _) e3 (by omega) eff (by omega) he.2 e hee.symm) (fun v M o => ?_)
  obtain ⟨ta, tc, rfl, _, _⟩ := o.form
  obtain ⟨T, hT⟩ : ∃ T, T = found l e := ⟨_, rfl⟩
  have hlT : T.length ≤ l.length := by rw [hT]; exact length_findF _ _ _ _
  have hT0 : T.drop 0 = findF l e l.length 0 := hT
  rw [← hT] at o ⊢
  clear hT
  subst e1
  repeat (first | refine go_ ?_ | refine bx_ (fun _ => ?_))
  have rT : Rds w0 B M ta (T.flatMap tokV) := o.rds (c := ⟨Try.prog, 0, w0, B⟩) (one_toks _)
  refine hc_loopd (fun m fr M2 => ∃ k p f, k + m = T.length ∧ T.drop k = findF l e f p ∧ l.length ≤ p + f ∧ p ≤ l.length ∧ Agr fr [(0, .slice a l.length cap), (1, .int .i64 eff), (5, .int .i64 (p : Int)), (6, .int .i64 0), (20, .slice ta T.length tc), (21, .int .i64 (T.length : Int)), (22, .int .i64 (k : Int))] ∧ M2 = M) T.length ?_ ?_
  · exact ⟨0, 0, l.length, by omega, hT0, by omega, by omega, ⟨rfl, rfl, rfl, rfl, rfl, rfl, rfl, trivial⟩, rfl⟩
  rintro m fr M2 ⟨k, p, f, hk, hD, hf1, hpl, hf, rfl⟩
  obtain ⟨base, rfl⟩ := hf.out
  by_cases hkt : k < T.length
  · obtain ⟨gt, ct, he2, _⟩ := o.posn (by omega)
    cases he2
    have hpart := flat_part T k hkt
    have hdrop : T.drop k = T[k] :: T.drop (k + 1) := (List.getElem_cons_drop ..).symm
    rw [hdrop] at hD
    cases f with
    | zero => cases (show T[k] :: T.drop (k + 1) = [] from hD)
    | succ f =>
      unfold findF at hD
      by_cases hpn : p < l.length
      · rw [if_pos hpn] at hD
        by_cases hL0 : (best l e p).1 = 0
        · rw [if_pos hL0] at hD
          obtain ⟨hh, hD⟩ := List.cons.inj hD
          rw [hh] at hpart
          change _ = [Value.int .i64 0, .int .i64 0, .int .u8 ((l.getD p 0).toNat : Int)] at hpart
          have hth : ∀ E, Fn Try.prog w0 B 12 [.slice a l.length cap, .int .i64 (p : Int)] E (fun v H' => v = .bool false ∧ H' = E) := fun E =>
            there_fn rfl (r1 E) e3 hl.nil (by omega) p hpl (fun h3 d hd hdp hw => best_none l e p hL0 h3 d hd hdp hw)
          repeat (first | refine go_ ?_ | refine bx_ (fun _ => ?_))
          refine hl_loadRN (off := 0) (j := k * 3) (by rw [Nat.zero_add]; rfl) rT (Imp.refl _) hpart rfl rfl ?_
          repeat (first | refine go_ ?_ | refine bx_ (fun _ => ?_) | refine hl_callv rfl rfl (hth _) ?_)
          exact ⟨m - 1, by omega, _, Imp.drop (Imp.refl _), k + 1, p + 1, f, by omega, hD, by omega, by omega, ⟨rfl, rfl, rfl, rfl, rfl, rfl, rfl, trivial⟩, rfl⟩
        · rw [if_neg hL0] at hD
          obtain ⟨hh, hD⟩ := List.cons.inj hD
          rw [hh] at hpart
          rcases best_good l e p with ⟨hg1, _⟩ | ⟨hg1, hg2, hg3, hg4, hg5, hg6, _⟩
          · exact absurd hg1 hL0
          obtain ⟨L, hLe⟩ : ∃ L, L = (best l e p).1 := ⟨_, rfl⟩
          obtain ⟨D, hDe⟩ : ∃ D, D = (best l e p).2 := ⟨_, rfl⟩
          rw [← hLe] at hg1 hg2 hg6 hpart hD
          rw [← hDe] at hpart
          change _ = [Value.int .i64 (L : Int), .int .i64 (D : Int), .int .u8 0] at hpart
          clear hLe hDe hL0 hg3 hg4 hg5
          repeat (first | refine go_ ?_ | refine bx_ (fun _ => ?_))
          refine hl_loadRN (off := 0) (j := k * 3) (by rw [Nat.zero_add]; rfl) rT (Imp.refl _) hpart rfl rfl ?_
          have hmx : max (1 : Int) (L : Int) = (L : Int) := by omega
          repeat (first | rw [hmx] | refine go1_ ?_ | refine bx_ (fun _ => ?_))
          exact ⟨m - 1, by omega, _, Imp.drop (Imp.refl _), k + 1, p + L, f, by omega, hD, by omega, by omega, ⟨rfl, rfl, rfl, rfl, rfl, rfl, rfl, trivial⟩, rfl⟩
      · rw [if_neg hpn] at hD; cases hD
  · obtain rfl : k = T.length := by omega
    have hpe : p = l.length := by
      rw [List.drop_length] at hD
      cases f with
      | zero => omega
      | succ f =>
        unfold findF at hD
        split at hD
        · split at hD <;> cases hD
        · omega
    subst hpe
    repeat (first | refine go_ ?_ | refine bx_ (fun _ => ?_))
    exact fin1B rfl rfl rfl
theorem walk (a : Option Addr) (len cap : Nat) (l : List UInt8) (eff : Int) (w : World) (hl : Sl byteV w a len cap l) (he : -9223372036854775808 ≤ eff ∧ eff ≤ 9223372036854775807) :
    Calls Try.prog 5 #[.slice a len cap, .int .i64 eff] w fun e w' => e = .returned (.bool true) ∧ Below w.heap.size w w' :=
  calls_of_fn (law (Nat.le_refl _) hl eff he) fun _ _ h => h

/-! The step to the statement (written by program). -/
open Go.ChangeShapes Go.WideShapes Go.ChangeAt
set_option maxRecDepth 100000 in
theorem lifted (os : Os) (started : os.Started) (H : Type) (enc : TypeId × Value → H) :
    ReturnsInHanded {} Try.checked os 5 .any (Rows.lzTightSpec.pre6 enc Try.prog Try.f5 Rows.lzTightRow.domain false) (Rows.lzTightSpec.post enc Try.prog Try.f5 false true false false) := by
  refine returnsInHanded_of_change (C := Try.checked) own started (by kernel_rfl) Try.func5
    (ChangeSpec.witness6 (enc := enc) (C := Try.checked) false ⟨#[], #[.slice none 0 0, .int .i64 0], []⟩ 8 (by kernel_rfl) (by kernel_rfl) (by kernel_rfl) (by kernel_rfl)) ?_
  intro W base args ds gs before hval0 hW hcnd _
  have hval : ∀ (j : Nat) t v, Try.f5.params[j]? = some t → args[j]? = some v → Value.okWide Try.prog W .any base t v := hval0
  have hW' := hW
  obtain ⟨p, q, hA0, hV, rfl, hfz, hnd⟩ := hW
  have hA : DataW.TrodAll enc Try.prog W 0 (fun _ => true) true Try.f5.params.toList args.toList ds p := hA0
  rw [Try.params5] at hA hval
  obtain ⟨v0, vs0, d0, ds0, p0, q0, hargs, rfl, rfl, h0, r0⟩ := trodAll_cons hA
  obtain ⟨v1, vs1, d1, ds1, p1, q1, rfl, rfl, rfl, h1, r1⟩ := trodAll_cons r0
  obtain ⟨rfl, rfl, rfl⟩ := trodAll_nil r1
  obtain rfl : args = #[v0, v1] := by cases args; simp_all
  obtain ⟨rfl, rfl⟩ := trodVars_none hV
  have k0 := h0
  have lt0 : ∀ x ∈ p0, x.block < W.heap.size := by obtain ⟨m, hm⟩ := k0; exact DataW.trod_lt m _ _ _ hm
  obtain ⟨a0, len0, cap0, e0⟩ := okWide_slice Try.underlying24 (hval 0 24 v0 rfl rfl)
  obtain ⟨l0, w0⟩ := open_bytes Try.underlying24 Try.underlying5 (by kernel_rfl) e0 k0
  subst e0
  have k1 := h1
  have lt1 : ∀ x ∈ p1, x.block < W.heap.size := by obtain ⟨m, hm⟩ := k1; exact DataW.trod_lt m _ _ _ hm
  obtain ⟨a1, rfl, _, _, w1⟩ := open_int Try.underlying3 (hval 1 3 v1 rfl rfl) h1
  have w1 := wf_i64 w1
  clear hA0 hval0
  refine (walk a0 len0 cap0 l0 a1 W w0 w1).mono fun e W' ⟨he, bel⟩ => ?_
  subst he
  exact ⟨_, rfl, _, _, _, [], _, [], hW', trodAll_mk1 (shut_bool Try.underlying4 _), (trodAll_cons_mk (Below.trod laidOut (by kernel_rfl) (of_decide_eq_true (by kernel_rfl)) k0 bel lt0) (trodAll_cons_mk (Below.trod laidOut (by kernel_rfl) (of_decide_eq_true (by kernel_rfl)) k1 bel lt1) trodAll_mk0)), rfl, bel.frame _, fun h => by cases h⟩

theorem over : Rows.lzTightRow.holds Try.pinned (OpenSpec.ofChange Rows.lzTightSpec) :=
  OpenClaim.holds_of_wide 5 Try.f5 rfl rfl rfl rfl rfl rfl rfl ⟨rfl, rfl, rfl, rfl, rfl⟩ rfl rfl rfl rfl rfl (by kernel_rfl) Try.func5 (by kernel_rfl)
    (of_decide_eq_true (by kernel_rfl)) (by unfold Func.isWrapper; first | (rw [if_pos (by decide +kernel)]; kernel_rfl) | (rw [if_neg (by decide +kernel)]; exact ⟨rfl, rfl⟩))
    (fun os started H enc _ => lifted os started H enc)

/-- The statement. -/
theorem proved : Rows.LzTightSaid := over
#print axioms proved
end Go.Proofs.Ytabaagelgfdkeaa.lzTight
