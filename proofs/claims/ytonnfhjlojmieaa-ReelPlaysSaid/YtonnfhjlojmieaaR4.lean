/-
  A step of a play, of the reel and of the document's. No condition.
-/
import Derived.Test.YtonnfhjlojmieaaR3
namespace Go.Proofs.Ytonnfhjlojmieaa
open Go.RowKit
structure DArg (w0 : World) (B : Nat) (a : Option Addr) (len : Nat) (d : List UInt8) : Prop where
  dl : d.length = len
  le : len ≤ 1000
  rds : ∀ E, Rds w0 B E a (d.map byteV)
  row : ∀ E, d = [] ∨ ∃ bb off, a = some ⟨bb, off, none⟩ ∧ Row w0 B E bb off d.length .u8 (byteF d)
def StepR (g gt : Nat) (S' : RS) (R : List Ent) (v : Value) (H' : List Ent) : Prop := v = .bool true ∧ ∃ X' Y', Imp H' (X' ++ (Y' ++ R)) ∧ Rl g S' X' ∧ Tw gt S' Y'
section
variable {w0 : World} {B : Nat} {R : List Ent} {g gt : Nat} {s : RS} {X Y : List Ent}
set_option maxHeartbeats 16000000 in
set_option maxRecDepth 100000 in
theorem step0_fn (hx : Rl g s X) (hy : Tw gt s Y) (K : Int) (hK : K ≠ 1 ∧ K ≠ 2 ∧ K ≠ 3 ∧ K ≠ 4 ∧ K ≠ 5 ∧ K ≠ 6) (N Mi : Int) (hN : -9223372036854775808 ≤ N ∧ N ≤ 9223372036854775807) (hM : -9223372036854775808 ≤ Mi ∧ Mi ≤ 9223372036854775807) {a : Option Addr} {len cp : Nat} {d : List UInt8} (hd : DArg w0 B a len d) :
    Fn Try.prog w0 B 21 [.pointer (some ⟨g, 0, none⟩), .pointer (some ⟨gt, 0, none⟩), .agg #[.int .i64 K, .int .i64 N, .int .i64 Mi, .slice a len cp]] (X ++ (Y ++ R)) (StepR g gt (s) R) := by
  obtain ⟨bv, tl, Yb, rfl, ht1, ht2, a', c', rfl, hc1, hc2, hc0, hrd⟩ := hy
  obtain ⟨w1, w2, w3, w4, w5⟩ := id hx.1
  obtain ⟨l, cap, safe, left, down⟩ := s
  dsimp only at w1 w2 w3 w4 w5 ht1 hc1 hrd
  obtain ⟨dl, dle, dr, drow⟩ := hd
  refine Fn.perm (H' := TwB gt (.slice a' l.length c') cap safe tl (decide (0 ≤ left)) down :: (Yb ++ (X ++ R))) ?_ (List.perm_middle.trans ((app_swap X Yb R).cons _))
  refine fn_intro Try.func21 rfl (by kernel_rfl) rfl ?_
  obtain ⟨k1, k2, k3, k4, k5, k6⟩ := hK
  repeat (first | refine go_ ?_ | refine bx_ (fun _ => ?_))
  exact fin1B rfl rfl ⟨rfl, X, TwB gt (.slice a' l.length c') cap safe tl (decide (0 ≤ left)) down :: Yb, Imp.drop (Imp.perm (List.perm_middle.trans ((app_swap X Yb R).cons _)).symm (Imp.refl _)), hx, .slice a' l.length c', tl, Yb, rfl, ht1, ht2, a', c', rfl, hc1, hc2, hc0, hrd⟩
set_option maxHeartbeats 16000000 in
set_option maxRecDepth 100000 in
theorem step5_fn (hx : Rl g s X) (hy : Tw gt s Y)  (N Mi : Int) (hN : -9223372036854775808 ≤ N ∧ N ≤ 9223372036854775807) (hM : -9223372036854775808 ≤ Mi ∧ Mi ≤ 9223372036854775807) {a : Option Addr} {len cp : Nat} {d : List UInt8} (hd : DArg w0 B a len d) :
    Fn Try.prog w0 B 21 [.pointer (some ⟨g, 0, none⟩), .pointer (some ⟨gt, 0, none⟩), .agg #[.int .i64 5, .int .i64 N, .int .i64 Mi, .slice a len cp]] (X ++ (Y ++ R)) (StepR g gt (s.arm N) R) := by
  obtain ⟨bv, tl, Yb, rfl, ht1, ht2, a', c', rfl, hc1, hc2, hc0, hrd⟩ := hy
  obtain ⟨w1, w2, w3, w4, w5⟩ := id hx.1
  obtain ⟨l, cap, safe, left, down⟩ := s
  dsimp only at w1 w2 w3 w4 w5 ht1 hc1 hrd
  obtain ⟨dl, dle, dr, drow⟩ := hd
  refine Fn.perm (H' := TwB gt (.slice a' l.length c') cap safe tl (decide (0 ≤ left)) down :: (Yb ++ (X ++ R))) ?_ (List.perm_middle.trans ((app_swap X Yb R).cons _))
  refine fn_intro Try.func21 rfl (by kernel_rfl) rfl ?_
  repeat (first | refine go_ ?_ | refine bx_ (fun _ => ?_))
  rename_i x
  refine HL.perm ?_ (app_swap (_ :: _ :: Yb) X R)
  refine hl_call rfl rfl (arm_r hx N hN) (fun v H' hv => ?_)
  obtain ⟨X', rfl, hx'⟩ := hv
  refine HL.perm ?_ (app_swap X' [_, _] (Yb ++ R))
  change HL _ _ _ _ _ (⟨x, 47, [.int .i64 5, .int .i64 N, .int .i64 Mi, .slice a len cp], 4⟩ :: TwB gt (.slice a' l.length c') cap safe tl (decide (0 ≤ left)) down :: (X' ++ (Yb ++ R)))
  repeat (first | refine go_ ?_ | refine bx_ (fun _ => ?_))
  refine hc_meet (fun fr M => M = TwB gt (.slice a' l.length c') cap safe N (decide (0 ≤ N)) down :: ⟨x, 47, [.int .i64 5, .int .i64 N, .int .i64 Mi, .slice a len cp], 4⟩ :: (X' ++ (Yb ++ R))) ?_ ?_
  · refine hc_drawA (⟨x, 47, [.int .i64 5, .int .i64 N, .int .i64 Mi, .slice a len cp], 4⟩ :: (X' ++ (Yb ++ R))) (by kernel_rfl) ?_
    refine ha_quiet [0, 1, 2, 3, 4, 5, 6, 7, 8] (by rfl) (by kernel_rfl) ?_
    repeat (first | refine gd_ ?_)
    refine ha_fork1 9 (by rfl) (by kernel_rfl) (by rfl) (by first | exact Imp.refl _ | exact Imp.drop (Imp.refl _) | exact Imp.drop (Imp.drop (Imp.refl _)) | exact Imp.drop (Imp.drop (Imp.drop (Imp.refl _))) | exact Imp.drop (Imp.drop (Imp.drop (Imp.drop (Imp.refl _)))) | exact Imp.drop (Imp.drop (Imp.drop (Imp.drop (Imp.drop (Imp.refl _))))) | exact Imp.drop (Imp.drop (Imp.drop (Imp.drop (Imp.drop (Imp.drop (Imp.refl _)))))) | exact Imp.drop (Imp.drop (Imp.drop (Imp.drop (Imp.drop (Imp.drop (Imp.drop (Imp.refl _))))))) | exact Imp.drop (Imp.drop (Imp.drop (Imp.drop (Imp.drop (Imp.drop (Imp.drop (Imp.drop (Imp.refl _)))))))) | assumption | exact Imp.drop2 (Imp.refl _) | exact Imp.drop2 (Imp.drop2 (Imp.refl _)) | exact Imp.drop (Imp.drop2 (Imp.refl _))) ?_
    · skip
      repeat (first | refine op_ ?_ | refine bx_ (fun _ => ?_))
      refine ha_quiet [10, 11] (by rfl) (by kernel_rfl) ?_
      repeat (first | refine gd_ ?_)
      refine ha_fork1 12 (by rfl) (by kernel_rfl) (by rfl) (by first | exact Imp.refl _ | exact Imp.drop (Imp.refl _) | exact Imp.drop (Imp.drop (Imp.refl _)) | exact Imp.drop (Imp.drop (Imp.drop (Imp.refl _))) | exact Imp.drop (Imp.drop (Imp.drop (Imp.drop (Imp.refl _)))) | exact Imp.drop (Imp.drop (Imp.drop (Imp.drop (Imp.drop (Imp.refl _))))) | exact Imp.drop (Imp.drop (Imp.drop (Imp.drop (Imp.drop (Imp.drop (Imp.refl _)))))) | exact Imp.drop (Imp.drop (Imp.drop (Imp.drop (Imp.drop (Imp.drop (Imp.drop (Imp.refl _))))))) | exact Imp.drop (Imp.drop (Imp.drop (Imp.drop (Imp.drop (Imp.drop (Imp.drop (Imp.drop (Imp.refl _)))))))) | assumption | exact Imp.drop2 (Imp.refl _) | exact Imp.drop2 (Imp.drop2 (Imp.refl _)) | exact Imp.drop (Imp.drop2 (Imp.refl _))) ?_
      · skip
        repeat (first | refine op_ ?_ | refine bx_ (fun _ => ?_))
        refine ha_end (by rfl) (by kernel_rfl) (by first | exact Imp.refl _ | exact Imp.drop (Imp.refl _) | exact Imp.drop (Imp.drop (Imp.refl _)) | exact Imp.drop (Imp.drop (Imp.drop (Imp.refl _))) | exact Imp.drop (Imp.drop (Imp.drop (Imp.drop (Imp.refl _)))) | exact Imp.drop (Imp.drop (Imp.drop (Imp.drop (Imp.drop (Imp.refl _))))) | exact Imp.drop (Imp.drop (Imp.drop (Imp.drop (Imp.drop (Imp.drop (Imp.refl _)))))) | exact Imp.drop (Imp.drop (Imp.drop (Imp.drop (Imp.drop (Imp.drop (Imp.drop (Imp.refl _))))))) | exact Imp.drop (Imp.drop (Imp.drop (Imp.drop (Imp.drop (Imp.drop (Imp.drop (Imp.drop (Imp.refl _)))))))) | assumption | exact Imp.drop2 (Imp.refl _) | exact Imp.drop2 (Imp.drop2 (Imp.refl _)) | exact Imp.drop (Imp.drop2 (Imp.refl _))) ?_
        rfl
  rintro fr M rfl
  repeat (first | refine go_ ?_ | refine bx_ (fun _ => ?_))
  have harm : decide (0 ≤ N) = decide (0 ≤ max N (-1)) := decide_eq_decide.2 (by omega)
  rw [harm]
  refine fin1B rfl rfl ⟨rfl, X', TwB gt (.slice a' l.length c') cap safe N (decide (0 ≤ max N (-1))) down :: Yb, Imp.drop2 (Imp.perm List.perm_middle.symm (Imp.refl _)), hx', .slice a' l.length c', N, Yb, rfl, fun h => ?_, hN, a', c', rfl, hc1, hc2, hc0, hrd⟩
  unfold RS.arm at h ⊢
  dsimp only at h ⊢
  omega
set_option maxHeartbeats 16000000 in
set_option maxRecDepth 100000 in
theorem step6_fn (hx : Rl g s X) (hy : Tw gt s Y)  (N Mi : Int) (hN : -9223372036854775808 ≤ N ∧ N ≤ 9223372036854775807) (hM : -9223372036854775808 ≤ Mi ∧ Mi ≤ 9223372036854775807) {a : Option Addr} {len cp : Nat} {d : List UInt8} (hd : DArg w0 B a len d) :
    Fn Try.prog w0 B 21 [.pointer (some ⟨g, 0, none⟩), .pointer (some ⟨gt, 0, none⟩), .agg #[.int .i64 6, .int .i64 N, .int .i64 Mi, .slice a len cp]] (X ++ (Y ++ R)) (StepR g gt (s.crash N d) R) := by
  obtain ⟨bv, tl, Yb, rfl, ht1, ht2, a', c', rfl, hc1, hc2, hc0, hrd⟩ := hy
  obtain ⟨w1, w2, w3, w4, w5⟩ := id hx.1
  obtain ⟨l, cap, safe, left, down⟩ := s
  dsimp only at w1 w2 w3 w4 w5 ht1 hc1 hrd
  obtain ⟨dl, dle, dr, drow⟩ := hd
  refine Fn.perm (H' := TwB gt (.slice a' l.length c') cap safe tl (decide (0 ≤ left)) down :: (Yb ++ (X ++ R))) ?_ (List.perm_middle.trans ((app_swap X Yb R).cons _))
  refine fn_intro Try.func21 rfl (by kernel_rfl) rfl ?_
  subst dl
  repeat (first | refine go_ ?_ | refine bx_ (fun _ => ?_))
  rename_i x
  refine HL.perm ?_ (app_swap (_ :: _ :: Yb) X R)
  refine hl_call rfl rfl (crash_r hx N hN rfl (by omega) (drow _)) (fun v H' hv => ?_)
  obtain ⟨X', hi, hx'⟩ := hv
  refine HL.imp ?_ hi
  refine HL.perm (H' := TwB gt (.slice a' l.length c') cap safe tl (decide (0 ≤ left)) down :: (Yb ++ (⟨x, 47, [.int .i64 6, .int .i64 N, .int .i64 Mi, .slice a d.length cp], 4⟩ :: (X' ++ R)))) ?_ ((app_swap X' [_, _] (Yb ++ R)).trans ((List.Perm.swap _ _ _).trans ((app_swap (_ :: X') Yb R).cons _)))
  have hy : Tw gt ⟨l, cap, safe, left, down⟩ (TwB gt (.slice a' l.length c') cap safe tl (decide (0 ≤ left)) down :: Yb) := ⟨.slice a' l.length c', tl, Yb, rfl, ht1, ht2, a', c', rfl, hc1, hc2, hc0, hrd⟩
  refine HL.perm ?_ (List.perm_middle (l₁ := TwB gt (.slice a' l.length c') cap safe tl (decide (0 ≤ left)) down :: Yb))
  repeat (first | refine go_ ?_ | refine bx_ (fun _ => ?_))
  refine HL.perm ?_ (List.perm_middle (l₁ := TwB gt (.slice a' l.length c') cap safe tl (decide (0 ≤ left)) down :: Yb)).symm
  refine hl_call rfl rfl (crash_t hx.1 hy N hN rfl (by omega) (drow _)) (fun v H' hv => ?_)
  obtain ⟨Y', hi2, hy'⟩ := hv
  refine HL.imp ?_ hi2
  repeat (first | refine go_ ?_ | refine bx_ (fun _ => ?_))
  exact fin1B rfl rfl ⟨rfl, X', Y', Imp.perm List.perm_middle (Imp.drop (Imp.perm (app_swap Y' X' R) (Imp.refl _))), hx', hy'⟩
set_option maxHeartbeats 16000000 in
set_option maxRecDepth 100000 in
theorem step2_fn (hx : Rl g s X) (hy : Tw gt s Y)  (N Mi : Int) (hN : -9223372036854775808 ≤ N ∧ N ≤ 9223372036854775807) (hM : -9223372036854775808 ≤ Mi ∧ Mi ≤ 9223372036854775807) {a : Option Addr} {len cp : Nat} {d : List UInt8} (hd : DArg w0 B a len d) :
    Fn Try.prog w0 B 21 [.pointer (some ⟨g, 0, none⟩), .pointer (some ⟨gt, 0, none⟩), .agg #[.int .i64 2, .int .i64 N, .int .i64 Mi, .slice a len cp]] (X ++ (Y ++ R)) (StepR g gt (s.sync) R) := by
  obtain ⟨bv, tl, Yb, rfl, ht1, ht2, a', c', rfl, hc1, hc2, hc0, hrd⟩ := hy
  obtain ⟨w1, w2, w3, w4, w5⟩ := id hx.1
  obtain ⟨l, cap, safe, left, down⟩ := s
  dsimp only at w1 w2 w3 w4 w5 ht1 hc1 hrd
  obtain ⟨dl, dle, dr, drow⟩ := hd
  refine Fn.perm (H' := TwB gt (.slice a' l.length c') cap safe tl (decide (0 ≤ left)) down :: (Yb ++ (X ++ R))) ?_ (List.perm_middle.trans ((app_swap X Yb R).cons _))
  refine fn_intro Try.func21 rfl (by kernel_rfl) rfl ?_
  cases down
  · repeat (first | refine go_ ?_ | refine bx_ (fun _ => ?_))
    refine HL.perm ?_ (List.Perm.swap _ _ _)
    refine hl_call rfl rfl (goes_fn w4 ht1 ht2) (fun v H' hv => ?_)
    obtain ⟨rfl, tl', rfl, hg1, hg2⟩ := hv
    by_cases h0 : left = 0
    · rw [show RS.sync ⟨l, cap, safe, left, false⟩ = ⟨l, cap, safe, left, true⟩ from by simp [RS.sync, RS.step, h0]]
      have hE : RS.syncE ⟨l, cap, safe, left, false⟩ = 11 := by simp [RS.syncE, RS.step, h0]
      have hS : RS.sync ⟨l, cap, safe, left, false⟩ = ⟨l, cap, safe, left, true⟩ := by simp [RS.sync, RS.step, h0]
      have hcall := fun R => sync_r (w0 := w0) (B := B) (R := R) hx
      rw [hE, hS] at hcall
      rw [decide_eq_true h0]
      rw [if_neg (show ¬ 0 < left by omega)] at hg1 ⊢
      repeat (first | refine go_ ?_ | refine bx_ (fun _ => ?_))
      refine HL.perm ?_ (app_swap (_ :: _ :: Yb) X R)
      refine hl_call rfl rfl (hcall _) (fun v H' hv => ?_)
      obtain ⟨rfl, X', rfl, hx'⟩ := hv
      repeat (first | refine go_ ?_ | refine bx_ (fun _ => ?_))
      exact fin1B rfl rfl ⟨rfl, X', _ :: Yb, Imp.perm ((List.Perm.swap _ _ _).append_left X') (Imp.perm List.perm_middle (Imp.drop (Imp.refl _))), hx', .slice a' l.length c', tl', Yb, rfl, hg1, hg2, a', c', rfl, hc1, hc2, hc0, hrd⟩
    · rw [show RS.sync ⟨l, cap, safe, left, false⟩ = ⟨l, cap, l.length, if 0 < left then left - 1 else left, false⟩ from by simp [RS.sync, RS.step, h0]]
      have hE : RS.syncE ⟨l, cap, safe, left, false⟩ = 0 := by simp [RS.syncE, RS.step, h0]
      have hS : RS.sync ⟨l, cap, safe, left, false⟩ = ⟨l, cap, l.length, if 0 < left then left - 1 else left, false⟩ := by simp [RS.sync, RS.step, h0]
      have hcall := fun R => sync_r (w0 := w0) (B := B) (R := R) hx
      rw [hE, hS] at hcall
      rw [decide_eq_false h0]
      repeat (first | refine go_ ?_ | refine bx_ (fun _ => ?_))
      refine HL.perm ?_ (app_swap (_ :: _ :: Yb) X R)
      refine hl_call rfl rfl (hcall _) (fun v H' hv => ?_)
      obtain ⟨rfl, X', rfl, hx'⟩ := hv
      repeat (first | refine go_ ?_ | refine bx_ (fun _ => ?_))
      exact fin1B rfl rfl ⟨rfl, X', _ :: Yb, Imp.perm ((List.Perm.swap _ _ _).append_left X') (Imp.perm List.perm_middle (Imp.drop (Imp.refl _))), hx', .slice a' l.length c', tl', Yb, rfl, hg1, hg2, a', c', rfl, hc1, hc2, hc0, hrd⟩
  · repeat (first | refine go_ ?_ | refine bx_ (fun _ => ?_))
    refine HL.perm ?_ (app_swap (_ :: _ :: Yb) X R)
    refine hl_call rfl rfl (sync_r hx) (fun v H' hv => ?_)
    obtain ⟨rfl, X', rfl, hx'⟩ := hv
    rw [show RS.syncE ⟨l, cap, safe, left, true⟩ = 11 from rfl]
    repeat (first | refine go_ ?_ | refine bx_ (fun _ => ?_))
    exact fin1B rfl rfl ⟨rfl, X', _ :: Yb, Imp.perm List.perm_middle (Imp.drop (Imp.refl _)), hx', ⟨.slice a' l.length c', tl, Yb, rfl, ht1, ht2, a', c', rfl, hc1, hc2, hc0, hrd⟩⟩
set_option maxHeartbeats 16000000 in
set_option maxRecDepth 100000 in
theorem step3_fn (hx : Rl g s X) (hy : Tw gt s Y)  (N Mi : Int) (hN : -9223372036854775808 ≤ N ∧ N ≤ 9223372036854775807) (hM : -9223372036854775808 ≤ Mi ∧ Mi ≤ 9223372036854775807) {a : Option Addr} {len cp : Nat} {d : List UInt8} (hd : DArg w0 B a len d) :
    Fn Try.prog w0 B 21 [.pointer (some ⟨g, 0, none⟩), .pointer (some ⟨gt, 0, none⟩), .agg #[.int .i64 3, .int .i64 N, .int .i64 Mi, .slice a len cp]] (X ++ (Y ++ R)) (StepR g gt (s.cut N) R) := by
  obtain ⟨bv, tl, Yb, rfl, ht1, ht2, a', c', rfl, hc1, hc2, hc0, hrd⟩ := hy
  obtain ⟨w1, w2, w3, w4, w5⟩ := id hx.1
  obtain ⟨l, cap, safe, left, down⟩ := s
  dsimp only at w1 w2 w3 w4 w5 ht1 hc1 hrd
  obtain ⟨dl, dle, dr, drow⟩ := hd
  refine Fn.perm (H' := TwB gt (.slice a' l.length c') cap safe tl (decide (0 ≤ left)) down :: (Yb ++ (X ++ R))) ?_ (List.perm_middle.trans ((app_swap X Yb R).cons _))
  refine fn_intro Try.func21 rfl (by kernel_rfl) rfl ?_
  cases down
  · by_cases hr : N < 0 ∨ (l.length : Int) < N
    · have hE : RS.cutE ⟨l, cap, safe, left, false⟩ N = 12 := by simp only [RS.cutE, if_pos hr]; rfl
      have hS : RS.cut ⟨l, cap, safe, left, false⟩ N = ⟨l, cap, safe, left, false⟩ := by simp only [RS.cut, if_pos hr]; rfl
      have hcall := fun R => cut_r (w0 := w0) (B := B) (R := R) hx N hN
      rw [hE, hS] at hcall
      rw [hS]
      by_cases h0 : N < 0
      all_goals
        repeat (first | refine go_ ?_ | refine bx_ (fun _ => ?_))
        (refine hc_draw (by kernel_rfl) (by kernel_rfl) ?_; repeat (first | refine gd_ ?_))
        repeat (first | refine go_ ?_ | refine bx_ (fun _ => ?_))
        refine HL.perm ?_ (app_swap (_ :: _ :: Yb) X R)
        refine hl_call rfl rfl (hcall _) (fun v H' hv => ?_)
        obtain ⟨rfl, X', rfl, hx'⟩ := hv
        repeat (first | refine go_ ?_ | refine bx_ (fun _ => ?_))
        exact fin1B rfl rfl ⟨rfl, X', _ :: Yb, Imp.perm List.perm_middle (Imp.drop (Imp.refl _)), hx', ⟨.slice a' l.length c', tl, Yb, rfl, ht1, ht2, a', c', rfl, hc1, hc2, hc0, hrd⟩⟩
    obtain ⟨k, rfl⟩ := Int.eq_ofNat_of_zero_le (show 0 ≤ N by omega)
    have hkl : k ≤ l.length := by omega
    repeat (first | refine go_ ?_ | refine bx_ (fun _ => ?_))
    (refine hc_draw (by kernel_rfl) (by kernel_rfl) ?_; repeat (first | refine gd_ ?_))
    repeat (first | refine go_ ?_ | refine bx_ (fun _ => ?_))
    refine HL.perm ?_ (List.Perm.swap _ _ _)
    refine hl_call rfl rfl (goes_fn w4 ht1 ht2) (fun v H' hv => ?_)
    obtain ⟨rfl, tl', rfl, hg1, hg2⟩ := hv
    by_cases h0 : left = 0
    · have hE : RS.cutE ⟨l, cap, safe, left, false⟩ (k : Int) = 11 := by simp only [RS.cutE, if_neg hr]; simp [RS.step, h0]
      have hS : RS.cut ⟨l, cap, safe, left, false⟩ (k : Int) = ⟨l, cap, safe, left, true⟩ := by simp only [RS.cut, if_neg hr]; simp [RS.step, h0]
      have hcall := fun R => cut_r (w0 := w0) (B := B) (R := R) hx (k : Int) hN
      rw [hE, hS] at hcall
      rw [hS]
      rw [decide_eq_true h0]
      rw [if_neg (show ¬ 0 < left by omega)] at hg1 ⊢
      repeat (first | refine go_ ?_ | refine bx_ (fun _ => ?_))
      refine HL.perm ?_ (app_swap (_ :: _ :: Yb) X R)
      refine hl_call rfl rfl (hcall _) (fun v H' hv => ?_)
      obtain ⟨rfl, X', rfl, hx'⟩ := hv
      repeat (first | refine go_ ?_ | refine bx_ (fun _ => ?_))
      exact fin1B rfl rfl ⟨rfl, X', _ :: Yb, Imp.perm ((List.Perm.swap _ _ _).append_left X') (Imp.perm List.perm_middle (Imp.drop (Imp.refl _))), hx', .slice a' l.length c', tl', Yb, rfl, hg1, hg2, a', c', rfl, hc1, hc2, hc0, hrd⟩
    · have hE : RS.cutE ⟨l, cap, safe, left, false⟩ (k : Int) = 0 := by simp only [RS.cutE, if_neg hr]; simp [RS.step, h0]
      have hS : RS.cut ⟨l, cap, safe, left, false⟩ (k : Int) = ⟨l.take k, cap, min safe k, if 0 < left then left - 1 else left, false⟩ := by simp only [RS.cut, if_neg hr]; simp [RS.step, h0]
      have hcall := fun R => cut_r (w0 := w0) (B := B) (R := R) hx (k : Int) hN
      rw [hE, hS] at hcall
      rw [hS]
      rw [decide_eq_false h0]
      have hmin : min (safe : Int) (k : Int) = ((min safe k : Nat) : Int) := by omega
      repeat (first | refine go_ ?_ | refine bx_ (fun _ => ?_))
      rename_i x
      refine hc_meet (fun fr M => Agr fr [(0, .pointer (some ⟨g, 0, none⟩)), (5, .pointer (some ⟨x, 0, none⟩)), (9, .int .i64 0)] ∧ M = TwB gt (.slice a' k k) cap (min safe k) tl' (decide (0 ≤ if 0 < left then left - 1 else left)) false :: ⟨x, 47, [.int .i64 3, .int .i64 (k : Int), .int .i64 Mi, .slice a len cp], 4⟩ :: (Yb ++ (X ++ R))) ?_ ?_
      · refine hc_drawA (⟨x, 47, [.int .i64 3, .int .i64 (k : Int), .int .i64 Mi, .slice a len cp], 4⟩ :: (Yb ++ (X ++ R))) (by kernel_rfl) ?_
        refine ha_quiet [0, 1, 2, 3, 4, 6, 7, 8, 9, 11, 12, 13, 15, 16] (by rfl) (by kernel_rfl) ?_
        repeat (first | refine gd_ ?_ | refine hl_sliceTo3 (j := k) rfl rfl rfl rfl (by omega) rfl ?_)
        refine ha_fork2 5 14 (by rfl) (by kernel_rfl) (by rfl) (by rfl) (by first | exact Imp.refl _ | exact Imp.drop (Imp.refl _) | exact Imp.drop (Imp.drop (Imp.refl _)) | exact Imp.drop (Imp.drop (Imp.drop (Imp.refl _))) | exact Imp.drop (Imp.drop (Imp.drop (Imp.drop (Imp.refl _)))) | exact Imp.drop (Imp.drop (Imp.drop (Imp.drop (Imp.drop (Imp.refl _))))) | exact Imp.drop (Imp.drop (Imp.drop (Imp.drop (Imp.drop (Imp.drop (Imp.refl _)))))) | exact Imp.drop (Imp.drop (Imp.drop (Imp.drop (Imp.drop (Imp.drop (Imp.drop (Imp.refl _))))))) | exact Imp.drop (Imp.drop (Imp.drop (Imp.drop (Imp.drop (Imp.drop (Imp.drop (Imp.drop (Imp.refl _)))))))) | assumption | exact Imp.drop2 (Imp.refl _) | exact Imp.drop2 (Imp.drop2 (Imp.refl _)) | exact Imp.drop (Imp.drop2 (Imp.refl _))) ?_ ?_
        · skip
          repeat (first | refine op_ ?_ | refine bx_ (fun _ => ?_))
          refine ha_quiet [10] (by rfl) (by kernel_rfl) ?_
          repeat (first | refine gd_ ?_ | refine hl_sliceTo3 (j := k) rfl rfl rfl rfl (by omega) rfl ?_)
          refine ha_fork1 14 (by rfl) (by kernel_rfl) (by rfl) (by first | exact Imp.refl _ | exact Imp.drop (Imp.refl _) | exact Imp.drop (Imp.drop (Imp.refl _)) | exact Imp.drop (Imp.drop (Imp.drop (Imp.refl _))) | exact Imp.drop (Imp.drop (Imp.drop (Imp.drop (Imp.refl _)))) | exact Imp.drop (Imp.drop (Imp.drop (Imp.drop (Imp.drop (Imp.refl _))))) | exact Imp.drop (Imp.drop (Imp.drop (Imp.drop (Imp.drop (Imp.drop (Imp.refl _)))))) | exact Imp.drop (Imp.drop (Imp.drop (Imp.drop (Imp.drop (Imp.drop (Imp.drop (Imp.refl _))))))) | exact Imp.drop (Imp.drop (Imp.drop (Imp.drop (Imp.drop (Imp.drop (Imp.drop (Imp.drop (Imp.refl _)))))))) | assumption | exact Imp.drop2 (Imp.refl _) | exact Imp.drop2 (Imp.drop2 (Imp.refl _)) | exact Imp.drop (Imp.drop2 (Imp.refl _))) ?_
          · skip
            repeat (first | refine op_ ?_ | refine bx_ (fun _ => ?_))
            refine ha_quiet [17, 18, 19] (by rfl) (by kernel_rfl) ?_
            repeat (first | refine gd_ ?_ | refine hl_sliceTo3 (j := k) rfl rfl rfl rfl (by omega) rfl ?_)
            refine ha_fork1 20 (by rfl) (by kernel_rfl) (by rfl) (by first | exact Imp.refl _ | exact Imp.drop (Imp.refl _) | exact Imp.drop (Imp.drop (Imp.refl _)) | exact Imp.drop (Imp.drop (Imp.drop (Imp.refl _))) | exact Imp.drop (Imp.drop (Imp.drop (Imp.drop (Imp.refl _)))) | exact Imp.drop (Imp.drop (Imp.drop (Imp.drop (Imp.drop (Imp.refl _))))) | exact Imp.drop (Imp.drop (Imp.drop (Imp.drop (Imp.drop (Imp.drop (Imp.refl _)))))) | exact Imp.drop (Imp.drop (Imp.drop (Imp.drop (Imp.drop (Imp.drop (Imp.drop (Imp.refl _))))))) | exact Imp.drop (Imp.drop (Imp.drop (Imp.drop (Imp.drop (Imp.drop (Imp.drop (Imp.drop (Imp.refl _)))))))) | assumption | exact Imp.drop2 (Imp.refl _) | exact Imp.drop2 (Imp.drop2 (Imp.refl _)) | exact Imp.drop (Imp.drop2 (Imp.refl _))) ?_
            · skip
              repeat (first | refine op_ ?_ | refine bx_ (fun _ => ?_))
              refine ha_quiet [21, 22] (by rfl) (by kernel_rfl) ?_
              repeat (first | refine gd_ ?_ | refine hl_sliceTo3 (j := k) rfl rfl rfl rfl (by omega) rfl ?_)
              refine ha_fork1 23 (by rfl) (by kernel_rfl) (by rfl) (by first | exact Imp.refl _ | exact Imp.drop (Imp.refl _) | exact Imp.drop (Imp.drop (Imp.refl _)) | exact Imp.drop (Imp.drop (Imp.drop (Imp.refl _))) | exact Imp.drop (Imp.drop (Imp.drop (Imp.drop (Imp.refl _)))) | exact Imp.drop (Imp.drop (Imp.drop (Imp.drop (Imp.drop (Imp.refl _))))) | exact Imp.drop (Imp.drop (Imp.drop (Imp.drop (Imp.drop (Imp.drop (Imp.refl _)))))) | exact Imp.drop (Imp.drop (Imp.drop (Imp.drop (Imp.drop (Imp.drop (Imp.drop (Imp.refl _))))))) | exact Imp.drop (Imp.drop (Imp.drop (Imp.drop (Imp.drop (Imp.drop (Imp.drop (Imp.drop (Imp.refl _)))))))) | assumption | exact Imp.drop2 (Imp.refl _) | exact Imp.drop2 (Imp.drop2 (Imp.refl _)) | exact Imp.drop (Imp.drop2 (Imp.refl _))) ?_
              · skip
                repeat (first | refine op_ ?_ | refine bx_ (fun _ => ?_))
                refine ha_end (by rfl) (by kernel_rfl) (by first | exact Imp.refl _ | exact Imp.drop (Imp.refl _) | exact Imp.drop (Imp.drop (Imp.refl _)) | exact Imp.drop (Imp.drop (Imp.drop (Imp.refl _))) | exact Imp.drop (Imp.drop (Imp.drop (Imp.drop (Imp.refl _)))) | exact Imp.drop (Imp.drop (Imp.drop (Imp.drop (Imp.drop (Imp.refl _))))) | exact Imp.drop (Imp.drop (Imp.drop (Imp.drop (Imp.drop (Imp.drop (Imp.refl _)))))) | exact Imp.drop (Imp.drop (Imp.drop (Imp.drop (Imp.drop (Imp.drop (Imp.drop (Imp.refl _))))))) | exact Imp.drop (Imp.drop (Imp.drop (Imp.drop (Imp.drop (Imp.drop (Imp.drop (Imp.drop (Imp.refl _)))))))) | assumption | exact Imp.drop2 (Imp.refl _) | exact Imp.drop2 (Imp.drop2 (Imp.refl _)) | exact Imp.drop (Imp.drop2 (Imp.refl _))) ?_
                exact ⟨⟨rfl, rfl, rfl, trivial⟩, by rw [hmin]; rfl⟩
        · skip
          repeat (first | refine op_ ?_ | refine bx_ (fun _ => ?_))
          refine ha_quiet [17] (by rfl) (by kernel_rfl) ?_
          repeat (first | refine gd_ ?_ | refine hl_sliceTo3 (j := k) rfl rfl rfl rfl (by omega) rfl ?_)
          refine ha_fork1 5 (by rfl) (by kernel_rfl) (by rfl) (by first | exact Imp.refl _ | exact Imp.drop (Imp.refl _) | exact Imp.drop (Imp.drop (Imp.refl _)) | exact Imp.drop (Imp.drop (Imp.drop (Imp.refl _))) | exact Imp.drop (Imp.drop (Imp.drop (Imp.drop (Imp.refl _)))) | exact Imp.drop (Imp.drop (Imp.drop (Imp.drop (Imp.drop (Imp.refl _))))) | exact Imp.drop (Imp.drop (Imp.drop (Imp.drop (Imp.drop (Imp.drop (Imp.refl _)))))) | exact Imp.drop (Imp.drop (Imp.drop (Imp.drop (Imp.drop (Imp.drop (Imp.drop (Imp.refl _))))))) | exact Imp.drop (Imp.drop (Imp.drop (Imp.drop (Imp.drop (Imp.drop (Imp.drop (Imp.drop (Imp.refl _)))))))) | assumption | exact Imp.drop2 (Imp.refl _) | exact Imp.drop2 (Imp.drop2 (Imp.refl _)) | exact Imp.drop (Imp.drop2 (Imp.refl _))) ?_
          · skip
            repeat (first | refine op_ ?_ | refine bx_ (fun _ => ?_))
            refine ha_quiet [10, 18, 19] (by rfl) (by kernel_rfl) ?_
            repeat (first | refine gd_ ?_ | refine hl_sliceTo3 (j := k) rfl rfl rfl rfl (by omega) rfl ?_)
            refine ha_fork1 20 (by rfl) (by kernel_rfl) (by rfl) (by first | exact Imp.refl _ | exact Imp.drop (Imp.refl _) | exact Imp.drop (Imp.drop (Imp.refl _)) | exact Imp.drop (Imp.drop (Imp.drop (Imp.refl _))) | exact Imp.drop (Imp.drop (Imp.drop (Imp.drop (Imp.refl _)))) | exact Imp.drop (Imp.drop (Imp.drop (Imp.drop (Imp.drop (Imp.refl _))))) | exact Imp.drop (Imp.drop (Imp.drop (Imp.drop (Imp.drop (Imp.drop (Imp.refl _)))))) | exact Imp.drop (Imp.drop (Imp.drop (Imp.drop (Imp.drop (Imp.drop (Imp.drop (Imp.refl _))))))) | exact Imp.drop (Imp.drop (Imp.drop (Imp.drop (Imp.drop (Imp.drop (Imp.drop (Imp.drop (Imp.refl _)))))))) | assumption | exact Imp.drop2 (Imp.refl _) | exact Imp.drop2 (Imp.drop2 (Imp.refl _)) | exact Imp.drop (Imp.drop2 (Imp.refl _))) ?_
            · skip
              repeat (first | refine op_ ?_ | refine bx_ (fun _ => ?_))
              refine ha_quiet [21, 22] (by rfl) (by kernel_rfl) ?_
              repeat (first | refine gd_ ?_ | refine hl_sliceTo3 (j := k) rfl rfl rfl rfl (by omega) rfl ?_)
              refine ha_fork1 23 (by rfl) (by kernel_rfl) (by rfl) (by first | exact Imp.refl _ | exact Imp.drop (Imp.refl _) | exact Imp.drop (Imp.drop (Imp.refl _)) | exact Imp.drop (Imp.drop (Imp.drop (Imp.refl _))) | exact Imp.drop (Imp.drop (Imp.drop (Imp.drop (Imp.refl _)))) | exact Imp.drop (Imp.drop (Imp.drop (Imp.drop (Imp.drop (Imp.refl _))))) | exact Imp.drop (Imp.drop (Imp.drop (Imp.drop (Imp.drop (Imp.drop (Imp.refl _)))))) | exact Imp.drop (Imp.drop (Imp.drop (Imp.drop (Imp.drop (Imp.drop (Imp.drop (Imp.refl _))))))) | exact Imp.drop (Imp.drop (Imp.drop (Imp.drop (Imp.drop (Imp.drop (Imp.drop (Imp.drop (Imp.refl _)))))))) | assumption | exact Imp.drop2 (Imp.refl _) | exact Imp.drop2 (Imp.drop2 (Imp.refl _)) | exact Imp.drop (Imp.drop2 (Imp.refl _))) ?_
              · skip
                repeat (first | refine op_ ?_ | refine bx_ (fun _ => ?_))
                refine ha_end (by rfl) (by kernel_rfl) (by first | exact Imp.refl _ | exact Imp.drop (Imp.refl _) | exact Imp.drop (Imp.drop (Imp.refl _)) | exact Imp.drop (Imp.drop (Imp.drop (Imp.refl _))) | exact Imp.drop (Imp.drop (Imp.drop (Imp.drop (Imp.refl _)))) | exact Imp.drop (Imp.drop (Imp.drop (Imp.drop (Imp.drop (Imp.refl _))))) | exact Imp.drop (Imp.drop (Imp.drop (Imp.drop (Imp.drop (Imp.drop (Imp.refl _)))))) | exact Imp.drop (Imp.drop (Imp.drop (Imp.drop (Imp.drop (Imp.drop (Imp.drop (Imp.refl _))))))) | exact Imp.drop (Imp.drop (Imp.drop (Imp.drop (Imp.drop (Imp.drop (Imp.drop (Imp.drop (Imp.refl _)))))))) | assumption | exact Imp.drop2 (Imp.refl _) | exact Imp.drop2 (Imp.drop2 (Imp.refl _)) | exact Imp.drop (Imp.drop2 (Imp.refl _))) ?_
                exact ⟨⟨rfl, rfl, rfl, trivial⟩, by rw [hmin]; rfl⟩
      rintro fr M ⟨hf, rfl⟩
      obtain ⟨base, rfl⟩ := hf.out
      repeat (first | refine go_ ?_ | refine bx_ (fun _ => ?_))
      refine HL.perm ?_ (app_swap (_ :: _ :: Yb) X R)
      refine hl_call rfl rfl (hcall _) (fun v H' hv => ?_)
      obtain ⟨rfl, X', rfl, hx'⟩ := hv
      repeat (first | refine go_ ?_ | refine bx_ (fun _ => ?_))
      have hlk : (l.take k).length = k := by rw [List.length_take]; omega
      refine fin1B rfl rfl ⟨rfl, X', _ :: Yb, Imp.perm ((List.Perm.swap _ _ _).append_left X') (Imp.perm List.perm_middle (Imp.drop (Imp.refl _))), hx', .slice a' k k, tl', Yb, rfl, hg1, hg2, a', k, by rw [hlk], by rw [hlk]; exact Nat.le_refl _, by omega, fun h => by have := hc0 h; omega, fun w0 B F => ?_⟩
      have := (hrd w0 B F).take k
      rwa [← List.map_take] at this
  · repeat (first | refine go_ ?_ | refine bx_ (fun _ => ?_))
    refine HL.perm ?_ (app_swap (_ :: _ :: Yb) X R)
    refine hl_call rfl rfl (cut_r hx N hN) (fun v H' hv => ?_)
    obtain ⟨rfl, X', rfl, hx'⟩ := hv
    rw [show RS.cutE ⟨l, cap, safe, left, true⟩ N = 11 from rfl]
    repeat (first | refine go_ ?_ | refine bx_ (fun _ => ?_))
    exact fin1B rfl rfl ⟨rfl, X', _ :: Yb, Imp.perm List.perm_middle (Imp.drop (Imp.refl _)), hx', ⟨.slice a' l.length c', tl, Yb, rfl, ht1, ht2, a', c', rfl, hc1, hc2, hc0, hrd⟩⟩
set_option maxHeartbeats 16000000 in
set_option maxRecDepth 100000 in
theorem step1_fn (hx : Rl g s X) (hy : Tw gt s Y)  (N Mi : Int) (hN : -9223372036854775808 ≤ N ∧ N ≤ 9223372036854775807) (hM : -9223372036854775808 ≤ Mi ∧ Mi ≤ 9223372036854775807) {a : Option Addr} {len cp : Nat} {d : List UInt8} (hd : DArg w0 B a len d) :
    Fn Try.prog w0 B 21 [.pointer (some ⟨g, 0, none⟩), .pointer (some ⟨gt, 0, none⟩), .agg #[.int .i64 1, .int .i64 N, .int .i64 Mi, .slice a len cp]] (X ++ (Y ++ R)) (StepR g gt (s.append d) R) := by
  obtain ⟨bv, tl, Yb, rfl, ht1, ht2, a', c', rfl, hc1, hc2, hc0, hrd⟩ := hy
  obtain ⟨w1, w2, w3, w4, w5⟩ := id hx.1
  obtain ⟨l, cap, safe, left, down⟩ := s
  dsimp only at w1 w2 w3 w4 w5 ht1 hc1 hrd
  obtain ⟨dl, dle, dr, drow⟩ := hd
  refine Fn.perm (H' := TwB gt (.slice a' l.length c') cap safe tl (decide (0 ≤ left)) down :: (Yb ++ (X ++ R))) ?_ (List.perm_middle.trans ((app_swap X Yb R).cons _))
  refine fn_intro Try.func21 rfl (by kernel_rfl) rfl ?_
  subst dl
  cases down
  · by_cases hfit : cap < l.length + d.length
    · have hE : RS.appendE ⟨l, cap, safe, left, false⟩ d = 10 := by simp [RS.appendE, hfit]
      have hS : RS.append ⟨l, cap, safe, left, false⟩ d = ⟨l, cap, safe, left, false⟩ := by simp [RS.append, hfit]
      have hcall := fun R => append_r (w0 := w0) (B := B) (R := R) (cp := cp) hx rfl (by omega) (dr _)
      rw [hE, hS] at hcall
      rw [hS]
      repeat (first | refine go_ ?_ | refine bx_ (fun _ => ?_))
      (refine hc_draw (by kernel_rfl) (by kernel_rfl) ?_; repeat (first | refine gd_ ?_))
      repeat (first | refine go_ ?_ | refine bx_ (fun _ => ?_))
      refine HL.perm ?_ (app_swap (_ :: _ :: Yb) X R)
      refine hl_call rfl rfl (hcall _) (fun v H' hv => ?_)
      obtain ⟨rfl, X', rfl, hx'⟩ := hv
      repeat (first | refine go_ ?_ | refine bx_ (fun _ => ?_))
      exact fin1B rfl rfl ⟨rfl, X', _ :: Yb, Imp.perm List.perm_middle (Imp.drop (Imp.refl _)), hx', ⟨.slice a' l.length c', tl, Yb, rfl, ht1, ht2, a', c', rfl, hc1, hc2, hc0, hrd⟩⟩
    have hS : RS.append ⟨l, cap, safe, left, false⟩ d = ⟨l ++ d, cap, safe, if 0 < left then left - 1 else left, false || decide (left = 0)⟩ := by simp [RS.append, hfit, RS.step]
    have hcall := fun R => append_r (w0 := w0) (B := B) (R := R) (cp := cp) hx rfl (by omega) (dr _)
    rw [hS] at hcall ⊢
    rw [Bool.false_or] at hcall ⊢
    repeat (first | refine go_ ?_ | refine bx_ (fun _ => ?_))
    (refine hc_draw (by kernel_rfl) (by kernel_rfl) ?_; repeat (first | refine gd_ ?_))
    repeat (first | refine go_ ?_ | refine bx_ (fun _ => ?_))
    rename_i x
    refine hc_meet (fun fr M => ∃ gb cb, Agr fr [(0, .pointer (some ⟨g, 0, none⟩)), (1, .pointer (some ⟨gt, 0, none⟩)), (5, .pointer (some ⟨x, 0, none⟩)), (7, .int .i64 0)] ∧ l.length + d.length ≤ cb ∧ cb ≤ 9223372036854775807 ∧ M = TwB gt (.slice (some ⟨gb, 0, none⟩) (l.length + d.length) cb) cap safe tl (decide (0 ≤ left)) false :: ⟨gb, 5, l.map byteV ++ d.map byteV, cb * 1⟩ :: ⟨x, 47, [.int .i64 1, .int .i64 N, .int .i64 Mi, .slice a d.length cp], 4⟩ :: (Yb ++ (X ++ R))) ?_ ?_
    · refine hc_drawA (⟨x, 47, [.int .i64 1, .int .i64 N, .int .i64 Mi, .slice a d.length cp], 4⟩ :: (Yb ++ (X ++ R))) (by kernel_rfl) ?_
      refine ha_quiet [0, 2, 3, 4, 7, 8] (by rfl) (by kernel_rfl) ?_
      repeat (first | refine gd_ ?_)
      refine ha_fork2 1 5 (by rfl) (by kernel_rfl) (by rfl) (by rfl) (by first | exact Imp.refl _ | exact Imp.drop (Imp.refl _) | exact Imp.drop (Imp.drop (Imp.refl _)) | exact Imp.drop (Imp.drop (Imp.drop (Imp.refl _))) | exact Imp.drop (Imp.drop (Imp.drop (Imp.drop (Imp.refl _)))) | exact Imp.drop (Imp.drop (Imp.drop (Imp.drop (Imp.drop (Imp.refl _))))) | exact Imp.drop (Imp.drop (Imp.drop (Imp.drop (Imp.drop (Imp.drop (Imp.refl _)))))) | exact Imp.drop (Imp.drop (Imp.drop (Imp.drop (Imp.drop (Imp.drop (Imp.drop (Imp.refl _))))))) | exact Imp.drop (Imp.drop (Imp.drop (Imp.drop (Imp.drop (Imp.drop (Imp.drop (Imp.drop (Imp.refl _)))))))) | assumption | exact Imp.drop2 (Imp.refl _) | exact Imp.drop2 (Imp.drop2 (Imp.refl _)) | exact Imp.drop (Imp.drop2 (Imp.refl _))) ?_ ?_
      · skip
        refine bx_ (fun gl => ?_)
        repeat (first | refine op_ ?_ | refine bx_ (fun _ => ?_))
        refine ha_fork1 5 (by rfl) (by kernel_rfl) (by rfl) (by first | exact Imp.refl _ | exact Imp.drop (Imp.refl _) | exact Imp.drop (Imp.drop (Imp.refl _)) | exact Imp.drop (Imp.drop (Imp.drop (Imp.refl _))) | exact Imp.drop (Imp.drop (Imp.drop (Imp.drop (Imp.refl _)))) | exact Imp.drop (Imp.drop (Imp.drop (Imp.drop (Imp.drop (Imp.refl _))))) | exact Imp.drop (Imp.drop (Imp.drop (Imp.drop (Imp.drop (Imp.drop (Imp.refl _)))))) | exact Imp.drop (Imp.drop (Imp.drop (Imp.drop (Imp.drop (Imp.drop (Imp.drop (Imp.refl _))))))) | exact Imp.drop (Imp.drop (Imp.drop (Imp.drop (Imp.drop (Imp.drop (Imp.drop (Imp.drop (Imp.refl _)))))))) | assumption | exact Imp.drop2 (Imp.refl _) | exact Imp.drop2 (Imp.drop2 (Imp.refl _)) | exact Imp.drop (Imp.drop2 (Imp.refl _))) ?_
        · skip
          repeat (first | refine op_ ?_ | refine bx_ (fun _ => ?_))
          refine ha_fork1 6 (by rfl) (by kernel_rfl) (by rfl) (by first | exact Imp.refl _ | exact Imp.drop (Imp.refl _) | exact Imp.drop (Imp.drop (Imp.refl _)) | exact Imp.drop (Imp.drop (Imp.drop (Imp.refl _))) | exact Imp.drop (Imp.drop (Imp.drop (Imp.drop (Imp.refl _)))) | exact Imp.drop (Imp.drop (Imp.drop (Imp.drop (Imp.drop (Imp.refl _))))) | exact Imp.drop (Imp.drop (Imp.drop (Imp.drop (Imp.drop (Imp.drop (Imp.refl _)))))) | exact Imp.drop (Imp.drop (Imp.drop (Imp.drop (Imp.drop (Imp.drop (Imp.drop (Imp.refl _))))))) | exact Imp.drop (Imp.drop (Imp.drop (Imp.drop (Imp.drop (Imp.drop (Imp.drop (Imp.drop (Imp.refl _)))))))) | assumption | exact Imp.drop2 (Imp.refl _) | exact Imp.drop2 (Imp.drop2 (Imp.refl _)) | exact Imp.drop (Imp.drop2 (Imp.refl _))) ?_
          · skip
            refine hl_append rfl rfl .here rfl ((hrd w0 B (X ++ R)).under.under.under) (by simp) rfl (by decide) (by decide) (by omega) (by omega) rfl (fun g1 c1 e1 e2 => ?_)
            rw [Nat.zero_add] at e1 ⊢
            repeat (first | refine op_ ?_ | refine bx_ (fun _ => ?_))
            refine ha_fork1 9 (by rfl) (by kernel_rfl) (by rfl) (by first | exact Imp.refl _ | exact Imp.drop (Imp.refl _) | exact Imp.drop (Imp.drop (Imp.refl _)) | exact Imp.drop (Imp.drop (Imp.drop (Imp.refl _))) | exact Imp.drop (Imp.drop (Imp.drop (Imp.drop (Imp.refl _)))) | exact Imp.drop (Imp.drop (Imp.drop (Imp.drop (Imp.drop (Imp.refl _))))) | exact Imp.drop (Imp.drop (Imp.drop (Imp.drop (Imp.drop (Imp.drop (Imp.refl _)))))) | exact Imp.drop (Imp.drop (Imp.drop (Imp.drop (Imp.drop (Imp.drop (Imp.drop (Imp.refl _))))))) | exact Imp.drop (Imp.drop (Imp.drop (Imp.drop (Imp.drop (Imp.drop (Imp.drop (Imp.drop (Imp.refl _)))))))) | assumption | exact Imp.drop2 (Imp.refl _) | exact Imp.drop2 (Imp.drop2 (Imp.refl _)) | exact Imp.drop (Imp.drop2 (Imp.refl _))) ?_
            · skip
              refine hl_append rfl rfl .here (by simp) (dr _) (by simp) rfl (by decide) (by omega) (by omega) (by omega) rfl (fun g2 c2 e3 e4 => ?_)
              repeat (first | refine op_ ?_ | refine bx_ (fun _ => ?_))
              refine ha_quiet [10, 11] (by rfl) (by kernel_rfl) ?_
              repeat (first | refine gd_ ?_)
              refine ha_fork1 12 (by rfl) (by kernel_rfl) (by rfl) (by first | exact Imp.refl _ | exact Imp.drop (Imp.refl _) | exact Imp.drop (Imp.drop (Imp.refl _)) | exact Imp.drop (Imp.drop (Imp.drop (Imp.refl _))) | exact Imp.drop (Imp.drop (Imp.drop (Imp.drop (Imp.refl _)))) | exact Imp.drop (Imp.drop (Imp.drop (Imp.drop (Imp.drop (Imp.refl _))))) | exact Imp.drop (Imp.drop (Imp.drop (Imp.drop (Imp.drop (Imp.drop (Imp.refl _)))))) | exact Imp.drop (Imp.drop (Imp.drop (Imp.drop (Imp.drop (Imp.drop (Imp.drop (Imp.refl _))))))) | exact Imp.drop (Imp.drop (Imp.drop (Imp.drop (Imp.drop (Imp.drop (Imp.drop (Imp.drop (Imp.refl _)))))))) | assumption | exact Imp.drop2 (Imp.refl _) | exact Imp.drop2 (Imp.drop2 (Imp.refl _)) | exact Imp.drop (Imp.drop2 (Imp.refl _))) ?_
              · skip
                repeat (first | refine op_ ?_ | refine bx_ (fun _ => ?_))
                refine ha_end (by rfl) (by kernel_rfl) (by first | exact Imp.refl _ | exact Imp.drop (Imp.refl _) | exact Imp.drop (Imp.drop (Imp.refl _)) | exact Imp.drop (Imp.drop (Imp.drop (Imp.refl _))) | exact Imp.drop (Imp.drop (Imp.drop (Imp.drop (Imp.refl _)))) | exact Imp.drop (Imp.drop (Imp.drop (Imp.drop (Imp.drop (Imp.refl _))))) | exact Imp.drop (Imp.drop (Imp.drop (Imp.drop (Imp.drop (Imp.drop (Imp.refl _)))))) | exact Imp.drop (Imp.drop (Imp.drop (Imp.drop (Imp.drop (Imp.drop (Imp.drop (Imp.refl _))))))) | exact Imp.drop (Imp.drop (Imp.drop (Imp.drop (Imp.drop (Imp.drop (Imp.drop (Imp.drop (Imp.refl _)))))))) | assumption | exact Imp.drop2 (Imp.refl _) | exact Imp.drop2 (Imp.drop2 (Imp.refl _)) | exact Imp.drop (Imp.drop2 (Imp.refl _))) ?_
                exact ⟨g2, c2, ⟨rfl, rfl, rfl, rfl, trivial⟩, e3, e4, rfl⟩
      · skip
        repeat (first | refine op_ ?_ | refine bx_ (fun _ => ?_))
        refine ha_fork1 1 (by rfl) (by kernel_rfl) (by rfl) (by first | exact Imp.refl _ | exact Imp.drop (Imp.refl _) | exact Imp.drop (Imp.drop (Imp.refl _)) | exact Imp.drop (Imp.drop (Imp.drop (Imp.refl _))) | exact Imp.drop (Imp.drop (Imp.drop (Imp.drop (Imp.refl _)))) | exact Imp.drop (Imp.drop (Imp.drop (Imp.drop (Imp.drop (Imp.refl _))))) | exact Imp.drop (Imp.drop (Imp.drop (Imp.drop (Imp.drop (Imp.drop (Imp.refl _)))))) | exact Imp.drop (Imp.drop (Imp.drop (Imp.drop (Imp.drop (Imp.drop (Imp.drop (Imp.refl _))))))) | exact Imp.drop (Imp.drop (Imp.drop (Imp.drop (Imp.drop (Imp.drop (Imp.drop (Imp.drop (Imp.refl _)))))))) | assumption | exact Imp.drop2 (Imp.refl _) | exact Imp.drop2 (Imp.drop2 (Imp.refl _)) | exact Imp.drop (Imp.drop2 (Imp.refl _))) ?_
        · skip
          refine bx_ (fun gl => ?_)
          repeat (first | refine op_ ?_ | refine bx_ (fun _ => ?_))
          refine ha_fork1 6 (by rfl) (by kernel_rfl) (by rfl) (by first | exact Imp.refl _ | exact Imp.drop (Imp.refl _) | exact Imp.drop (Imp.drop (Imp.refl _)) | exact Imp.drop (Imp.drop (Imp.drop (Imp.refl _))) | exact Imp.drop (Imp.drop (Imp.drop (Imp.drop (Imp.refl _)))) | exact Imp.drop (Imp.drop (Imp.drop (Imp.drop (Imp.drop (Imp.refl _))))) | exact Imp.drop (Imp.drop (Imp.drop (Imp.drop (Imp.drop (Imp.drop (Imp.refl _)))))) | exact Imp.drop (Imp.drop (Imp.drop (Imp.drop (Imp.drop (Imp.drop (Imp.drop (Imp.refl _))))))) | exact Imp.drop (Imp.drop (Imp.drop (Imp.drop (Imp.drop (Imp.drop (Imp.drop (Imp.drop (Imp.refl _)))))))) | assumption | exact Imp.drop2 (Imp.refl _) | exact Imp.drop2 (Imp.drop2 (Imp.refl _)) | exact Imp.drop (Imp.drop2 (Imp.refl _))) ?_
          · skip
            refine hl_append rfl rfl .here rfl ((hrd w0 B (X ++ R)).under.under.under) (by simp) rfl (by decide) (by decide) (by omega) (by omega) rfl (fun g1 c1 e1 e2 => ?_)
            rw [Nat.zero_add] at e1 ⊢
            repeat (first | refine op_ ?_ | refine bx_ (fun _ => ?_))
            refine ha_fork1 9 (by rfl) (by kernel_rfl) (by rfl) (by first | exact Imp.refl _ | exact Imp.drop (Imp.refl _) | exact Imp.drop (Imp.drop (Imp.refl _)) | exact Imp.drop (Imp.drop (Imp.drop (Imp.refl _))) | exact Imp.drop (Imp.drop (Imp.drop (Imp.drop (Imp.refl _)))) | exact Imp.drop (Imp.drop (Imp.drop (Imp.drop (Imp.drop (Imp.refl _))))) | exact Imp.drop (Imp.drop (Imp.drop (Imp.drop (Imp.drop (Imp.drop (Imp.refl _)))))) | exact Imp.drop (Imp.drop (Imp.drop (Imp.drop (Imp.drop (Imp.drop (Imp.drop (Imp.refl _))))))) | exact Imp.drop (Imp.drop (Imp.drop (Imp.drop (Imp.drop (Imp.drop (Imp.drop (Imp.drop (Imp.refl _)))))))) | assumption | exact Imp.drop2 (Imp.refl _) | exact Imp.drop2 (Imp.drop2 (Imp.refl _)) | exact Imp.drop (Imp.drop2 (Imp.refl _))) ?_
            · skip
              refine hl_append rfl rfl .here (by simp) (dr _) (by simp) rfl (by decide) (by omega) (by omega) (by omega) rfl (fun g2 c2 e3 e4 => ?_)
              repeat (first | refine op_ ?_ | refine bx_ (fun _ => ?_))
              refine ha_quiet [10, 11] (by rfl) (by kernel_rfl) ?_
              repeat (first | refine gd_ ?_)
              refine ha_fork1 12 (by rfl) (by kernel_rfl) (by rfl) (by first | exact Imp.refl _ | exact Imp.drop (Imp.refl _) | exact Imp.drop (Imp.drop (Imp.refl _)) | exact Imp.drop (Imp.drop (Imp.drop (Imp.refl _))) | exact Imp.drop (Imp.drop (Imp.drop (Imp.drop (Imp.refl _)))) | exact Imp.drop (Imp.drop (Imp.drop (Imp.drop (Imp.drop (Imp.refl _))))) | exact Imp.drop (Imp.drop (Imp.drop (Imp.drop (Imp.drop (Imp.drop (Imp.refl _)))))) | exact Imp.drop (Imp.drop (Imp.drop (Imp.drop (Imp.drop (Imp.drop (Imp.drop (Imp.refl _))))))) | exact Imp.drop (Imp.drop (Imp.drop (Imp.drop (Imp.drop (Imp.drop (Imp.drop (Imp.drop (Imp.refl _)))))))) | assumption | exact Imp.drop2 (Imp.refl _) | exact Imp.drop2 (Imp.drop2 (Imp.refl _)) | exact Imp.drop (Imp.drop2 (Imp.refl _))) ?_
              · skip
                repeat (first | refine op_ ?_ | refine bx_ (fun _ => ?_))
                refine ha_end (by rfl) (by kernel_rfl) (by first | exact Imp.refl _ | exact Imp.drop (Imp.refl _) | exact Imp.drop (Imp.drop (Imp.refl _)) | exact Imp.drop (Imp.drop (Imp.drop (Imp.refl _))) | exact Imp.drop (Imp.drop (Imp.drop (Imp.drop (Imp.refl _)))) | exact Imp.drop (Imp.drop (Imp.drop (Imp.drop (Imp.drop (Imp.refl _))))) | exact Imp.drop (Imp.drop (Imp.drop (Imp.drop (Imp.drop (Imp.drop (Imp.refl _)))))) | exact Imp.drop (Imp.drop (Imp.drop (Imp.drop (Imp.drop (Imp.drop (Imp.drop (Imp.refl _))))))) | exact Imp.drop (Imp.drop (Imp.drop (Imp.drop (Imp.drop (Imp.drop (Imp.drop (Imp.drop (Imp.refl _)))))))) | assumption | exact Imp.drop2 (Imp.refl _) | exact Imp.drop2 (Imp.drop2 (Imp.refl _)) | exact Imp.drop (Imp.drop2 (Imp.refl _))) ?_
                exact ⟨g2, c2, ⟨rfl, rfl, rfl, rfl, trivial⟩, e3, e4, rfl⟩
    rintro fr M ⟨gb, cb, hf, e3, e4, rfl⟩
    obtain ⟨base, rfl⟩ := hf.out
    have hBV : BV (.slice (some ⟨gb, 0, none⟩) (l.length + d.length) cb) (l ++ d) [⟨gb, 5, l.map byteV ++ d.map byteV, cb * 1⟩] := BV.own (by simp) fun F => by
      rw [List.map_append]
      exact Own.mk e3 e4 (by simp) (List.Perm.refl _)
    repeat (first | refine go_ ?_ | refine bx_ (fun _ => ?_))
    refine hl_call rfl rfl (goes_fn w4 ht1 ht2) (fun v H' hv => ?_)
    obtain ⟨rfl, tl', rfl, hg1, hg2⟩ := hv
    by_cases h0 : left = 0
    · have hE : RS.appendE ⟨l, cap, safe, left, false⟩ d = 11 := by simp [RS.appendE, hfit, RS.step, h0]
      rw [hE] at hcall
      rw [decide_eq_true h0] at hcall ⊢
      repeat (first | refine go_ ?_ | refine bx_ (fun _ => ?_))
      refine HL.perm ?_ (app_swap (_ :: _ :: _ :: Yb) X R)
      refine hl_call rfl rfl (hcall _) (fun v H' hv => ?_)
      obtain ⟨rfl, X', rfl, hx'⟩ := hv
      repeat (first | refine go_ ?_ | refine bx_ (fun _ => ?_))
      exact fin1B rfl rfl ⟨rfl, X', [_, _], Imp.perm (((app_swap [_, _] (_ :: Yb) R).append_left X').trans (app_swap X' (_ :: Yb) _)) (Imp.tail (_ :: Yb) _), hx', _, tl', _, rfl, hg1, hg2, hBV⟩
    · have hE : RS.appendE ⟨l, cap, safe, left, false⟩ d = 0 := by simp [RS.appendE, hfit, RS.step, h0]
      rw [hE] at hcall
      rw [decide_eq_false h0] at hcall ⊢
      repeat (first | refine go_ ?_ | refine bx_ (fun _ => ?_))
      refine HL.perm ?_ (app_swap (_ :: _ :: _ :: Yb) X R)
      refine hl_call rfl rfl (hcall _) (fun v H' hv => ?_)
      obtain ⟨rfl, X', rfl, hx'⟩ := hv
      repeat (first | refine go_ ?_ | refine bx_ (fun _ => ?_))
      exact fin1B rfl rfl ⟨rfl, X', [_, _], Imp.perm (((app_swap [_, _] (_ :: Yb) R).append_left X').trans (app_swap X' (_ :: Yb) _)) (Imp.tail (_ :: Yb) _), hx', _, tl', _, rfl, hg1, hg2, hBV⟩
  · repeat (first | refine go_ ?_ | refine bx_ (fun _ => ?_))
    refine HL.perm ?_ (app_swap (_ :: _ :: Yb) X R)
    refine hl_call rfl rfl (append_r hx rfl (by omega) (dr _)) (fun v H' hv => ?_)
    obtain ⟨rfl, X', rfl, hx'⟩ := hv
    rw [show RS.appendE ⟨l, cap, safe, left, true⟩ d = 11 from rfl]
    repeat (first | refine go_ ?_ | refine bx_ (fun _ => ?_))
    exact fin1B rfl rfl ⟨rfl, X', _ :: Yb, Imp.perm List.perm_middle (Imp.drop (Imp.refl _)), hx', ⟨.slice a' l.length c', tl, Yb, rfl, ht1, ht2, a', c', rfl, hc1, hc2, hc0, hrd⟩⟩
set_option maxHeartbeats 16000000 in
set_option maxRecDepth 100000 in
theorem step4_fn (hx : Rl g s X) (hy : Tw gt s Y)  (N Mi : Int) (hN : -9223372036854775808 ≤ N ∧ N ≤ 9223372036854775807) (hM : -9223372036854775808 ≤ Mi ∧ Mi ≤ 9223372036854775807) {a : Option Addr} {len cp : Nat} {d : List UInt8} (hd : DArg w0 B a len d) :
    Fn Try.prog w0 B 21 [.pointer (some ⟨g, 0, none⟩), .pointer (some ⟨gt, 0, none⟩), .agg #[.int .i64 4, .int .i64 N, .int .i64 Mi, .slice a len cp]] (X ++ (Y ++ R)) (StepR g gt (s) R) := by
  obtain ⟨bv, tl, Yb, rfl, ht1, ht2, a', c', rfl, hc1, hc2, hc0, hrd⟩ := hy
  obtain ⟨w1, w2, w3, w4, w5⟩ := id hx.1
  obtain ⟨l, cap, safe, left, down⟩ := s
  dsimp only at w1 w2 w3 w4 w5 ht1 hc1 hrd
  obtain ⟨dl, dle, dr, drow⟩ := hd
  refine Fn.perm (H' := TwB gt (.slice a' l.length c') cap safe tl (decide (0 ≤ left)) down :: (Yb ++ (X ++ R))) ?_ (List.perm_middle.trans ((app_swap X Yb R).cons _))
  refine fn_intro Try.func21 rfl (by kernel_rfl) rfl ?_
  cases down
  · by_cases hok : 0 ≤ N ∧ 0 ≤ Mi ∧ N + Mi ≤ (l.length : Int)
    · obtain ⟨i, rfl⟩ := Int.eq_ofNat_of_zero_le hok.1
      obtain ⟨n, rfl⟩ := Int.eq_ofNat_of_zero_le hok.2.1
      have hin : i + n ≤ l.length := by omega
      repeat (first | refine go_ ?_ | refine bx_ (fun _ => ?_))
      rename_i x
      refine HL.perm ?_ (app_swap (_ :: _ :: Yb) X R)
      refine hl_call rfl rfl (read_r hx i n rfl hin) (fun v H' hv => ?_)
      obtain ⟨sv, rfl, oz⟩ := hv
      obtain ⟨az, cz, rfl, hz1, hz2⟩ := oz.form
      obtain ⟨Z, hZ, oz⟩ := oz.permE
      refine HL.perm ?_ (hZ.trans (((app_swap X (_ :: _ :: Yb) R).append_left Z).trans (app_swap Z (_ :: _ :: Yb) (X ++ R))))
      change HL _ _ _ _ _ (⟨x, 47, [.int .i64 4, .int .i64 (i : Int), .int .i64 (n : Int), .slice a len cp], 4⟩ :: TwB gt (.slice a' l.length c') cap safe tl (decide (0 ≤ left)) false :: (Yb ++ (Z ++ (X ++ R))))
      have hln : ((l.drop i).take n).length = n := by rw [List.length_take, List.length_drop]; omega
      have rz : Rds w0 B (⟨x, 47, [.int .i64 4, .int .i64 (i : Int), .int .i64 (n : Int), .slice a len cp], 4⟩ :: TwB gt (.slice a' l.length c') cap safe tl (decide (0 ≤ left)) false :: (Yb ++ (Z ++ (X ++ R)))) az (((l.drop i).take n).map byteV) := ((OwnX.rds oz (Yb ++ (X ++ R))).perm (app_swap Yb Z (X ++ R))).under.under
      have hix : ((i : Int) + (n : Int)) = ((i + n : Nat) : Int) := by omega
      repeat (first | refine go_ ?_ | refine bx_ (fun _ => ?_))
      (refine hc_draw (by kernel_rfl) (by kernel_rfl) ?_; repeat (first | refine gd_ ?_))
      repeat (first | refine go_ ?_ | refine bx_ (fun _ => ?_))
      refine hc_meet (fun fr M => Agr fr [(10, .slice az n cz), (12, .bool true)] ∧ M = ⟨x, 47, [.int .i64 4, .int .i64 (i : Int), .int .i64 (n : Int), .slice a len cp], 4⟩ :: TwB gt (.slice a' l.length c') cap safe tl (decide (0 ≤ left)) false :: (Yb ++ (Z ++ (X ++ R)))) ?_ ?_
      · (refine hc_draw (by kernel_rfl) (by kernel_rfl) ?_; repeat (first | rw [hix] | refine gd1_ ?_))
        refine hl_sliceR (i := i) (j := i + n) (l := l.map byteV) rfl ((hrd w0 B _).under.under) (by simp) hc1 hc0 rfl rfl (by omega) hin rfl (fun a2 hr2 hn2 => ?_)
        rw [Nat.add_sub_cancel_left, ← List.map_drop, ← List.map_take] at hr2
        rw [Nat.add_sub_cancel_left]
        have hsame := same_fn (w0 := w0) (B := B) (c := cz) (c2 := c' - i) hln hln rz hr2
        rw [beq_self_eq_true] at hsame
        repeat (first | refine gd_ ?_ | refine hd_call rfl rfl (hsame) ?_)
        exact ⟨⟨rfl, rfl, trivial⟩, rfl⟩
      rintro fr M ⟨hf, rfl⟩
      obtain ⟨base, rfl⟩ := hf.out
      repeat (first | refine go_ ?_ | refine bx_ (fun _ => ?_))
      refine hc_loop (fun m fr M => ∃ (j : Nat) (C : List Int), j + m = n ∧ C.length = n ∧ Agr fr [(10, .slice az n cz), (12, .bool true), (213, .slice az n cz), (214, .int .i64 (n : Int)), (215, .int .i64 (j : Int))] ∧ Own 5 1 (.slice az n cz) n (C.map (Value.int .u8)) (⟨x, 47, [.int .i64 4, .int .i64 (i : Int), .int .i64 (n : Int), .slice a len cp], 4⟩ :: TwB gt (.slice a' l.length c') cap safe tl (decide (0 ≤ left)) false :: (Yb ++ (X ++ R))) M) n ?_ ?_
      · refine ⟨0, ((l.drop i).take n).map (fun b => (b.toNat : Int)), by omega, by rw [List.length_map, hln], ⟨rfl, rfl, rfl, rfl, rfl, trivial⟩, ?_⟩
        rw [List.map_map]
        exact (oz (⟨x, 47, [.int .i64 4, .int .i64 (i : Int), .int .i64 (n : Int), .slice a len cp], 4⟩ :: TwB gt (.slice a' l.length c') cap safe tl (decide (0 ≤ left)) false :: (Yb ++ (X ++ R)))).perm (app_swap (_ :: _ :: Yb) Z (X ++ R))
      clear hf base rz
      rintro m fr M ⟨j, C, hj, hC, hf, o1⟩
      obtain ⟨base, rfl⟩ := hf.out
      by_cases hjn : j < n
      · obtain ⟨g1, d1, he1, _, _, _, p1⟩ := o1.posn (by omega)
        cases he1
        refine HC.perm ?_ p1
        have hget : (C.map (Value.int .u8))[j]? = some (.int .u8 (C.getD j 0)) := by simp [hC, hjn]
        repeat (first | refine go_ ?_ | refine bx_ (fun _ => ?_))
        refine ⟨m - 1, by omega, j + 1, C.set j (bits .xor .u8 (C.getD j 0) 255), by omega, by simp [hC], ⟨rfl, rfl, rfl, rfl, rfl, trivial⟩, ?_⟩
        rw [List.map_set]
        exact Own.mk (by omega) (by omega) (by simp [hC]) (List.Perm.refl _)
      · repeat (first | refine go_ ?_ | refine bx_ (fun _ => ?_))
        exact fin1B rfl rfl ⟨rfl, X, _ :: Yb, o1.imp.trans (Imp.drop (Imp.perm (List.perm_middle.trans ((app_swap X Yb R).cons _)).symm (Imp.refl _))), hx, ⟨.slice a' l.length c', tl, Yb, rfl, ht1, ht2, a', c', rfl, hc1, hc2, hc0, hrd⟩⟩
    · have hrd4 := fun R => read_n (w0 := w0) (B := B) (R := R) hx N Mi hN hM (.inr hok)
      have hbad : N < 0 ∨ (0 ≤ N ∧ Mi < 0) ∨ (0 ≤ N ∧ 0 ≤ Mi ∧ (l.length : Int) < N) ∨ (0 ≤ N ∧ 0 ≤ Mi ∧ N ≤ (l.length : Int) ∧ (l.length : Int) - N < Mi) := by omega
      clear hok
      rcases hbad with h6 | ⟨h6, h7⟩ | ⟨h6, h7, h8⟩ | ⟨h6, h7, h8, h9⟩
      all_goals
        repeat (first | refine go_ ?_ | refine bx_ (fun _ => ?_))
        refine HL.perm ?_ (app_swap (_ :: _ :: Yb) X R)
        refine hl_callv rfl rfl (hrd4 _) ?_
        refine HL.perm ?_ (app_swap (_ :: _ :: Yb) X R).symm
        change HL _ _ _ _ _ (_ :: TwB gt (.slice a' l.length c') cap safe tl (decide (0 ≤ left)) false :: (Yb ++ (X ++ R)))
        rw [if_neg (show ¬ (false = true) from fun h => by cases h)]
        repeat (first | refine go_ ?_ | refine bx_ (fun _ => ?_))
        (refine hc_draw (by kernel_rfl) (by kernel_rfl) ?_; repeat (first | refine gd_ ?_))
        repeat (first | refine go_ ?_ | refine bx_ (fun _ => ?_))
        exact fin1B rfl rfl ⟨rfl, X, _ :: Yb, Imp.drop (Imp.perm (List.perm_middle.trans ((app_swap X Yb R).cons _)).symm (Imp.refl _)), hx, ⟨.slice a' l.length c', tl, Yb, rfl, ht1, ht2, a', c', rfl, hc1, hc2, hc0, hrd⟩⟩
  · have hrd4 := fun R => read_n (w0 := w0) (B := B) (R := R) hx N Mi hN hM (.inl rfl)
    repeat (first | refine go_ ?_ | refine bx_ (fun _ => ?_))
    refine HL.perm ?_ (app_swap (_ :: _ :: Yb) X R)
    refine hl_callv rfl rfl (hrd4 _) ?_
    refine HL.perm ?_ (app_swap (_ :: _ :: Yb) X R).symm
    change HL _ _ _ _ _ (_ :: TwB gt (.slice a' l.length c') cap safe tl (decide (0 ≤ left)) true :: (Yb ++ (X ++ R)))
    rw [if_pos (show (true = true) from rfl)]
    repeat (first | refine go_ ?_ | refine bx_ (fun _ => ?_))
    exact fin1B rfl rfl ⟨rfl, X, _ :: Yb, Imp.drop (Imp.perm (List.perm_middle.trans ((app_swap X Yb R).cons _)).symm (Imp.refl _)), hx, ⟨.slice a' l.length c', tl, Yb, rfl, ht1, ht2, a', c', rfl, hc1, hc2, hc0, hrd⟩⟩
end
end Go.Proofs.Ytonnfhjlojmieaa
