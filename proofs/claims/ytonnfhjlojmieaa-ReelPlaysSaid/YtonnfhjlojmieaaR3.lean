/-
  The document's reel. No condition.
-/
import Derived.Test.YtonnfhjlojmieaaR2
namespace Go.Proofs.Ytonnfhjlojmieaa
open Go.RowKit
/-- Bytes that stand in some blocks. -/
def BV (bv : Value) (l : List UInt8) (Xb : List Ent) : Prop := ∃ a c, bv = .slice a l.length c ∧ l.length ≤ c ∧ c ≤ 9223372036854775807 ∧ (a = none → c = 0) ∧ ∀ (w0 : World) (B : Nat) (F : List Ent), Rds w0 B (Xb ++ F) a (l.map byteV)
theorem BV.nil : BV (.slice none 0 0) [] [] := ⟨none, 0, rfl, Nat.le_refl _, by decide, fun _ => rfl, fun _ _ _ => ⟨(by rintro _ _ _ h; cases h), (fun _ => rfl), (by intro _ h; cases h)⟩⟩
theorem BV.own {a : Option Addr} {n c : Nat} {l : List UInt8} {Z : List Ent} (hn : l.length = n) (o : ∀ F, Own 5 1 (.slice a n c) n (l.map byteV) F (Z ++ F)) : BV (.slice a n c) l Z := by
  subst hn
  refine ⟨a, c, rfl, ?_, ?_, OwnX.nilc o, fun w0 B F => OwnX.rds o F⟩
  · obtain ⟨_, _, e, h, _⟩ := (o []).form; cases e; exact h
  · obtain ⟨_, _, e, _, h⟩ := (o []).form; cases e; exact h
abbrev TwB (gt : Nat) (bv : Value) (cap safe : Nat) (tl : Int) (armed off : Bool) : Ent := ⟨gt, 45, [bv, .int .i64 (cap : Int), .int .i64 (safe : Int), .int .i64 tl, .bool armed, .bool off], 6⟩
def Tw (gt : Nat) (s : RS) (X : List Ent) : Prop := ∃ bv tl Xb, X = TwB gt bv s.cap s.safe tl (decide (0 ≤ s.left)) s.down :: Xb ∧ (0 ≤ s.left → tl = s.left) ∧ (-9223372036854775808 ≤ tl ∧ tl ≤ 9223372036854775807) ∧ BV bv s.l Xb
section
variable {w0 : World} {B : Nat} {H R : List Ent} {gt cap safe : Nat} {bv : Value}
theorem goes_down {off : Bool} : Fn Try.prog w0 B 24 [.pointer (some ⟨gt, 0, none⟩)] (TwB gt bv cap safe 0 true off :: R) (fun v H' => v = .bool false ∧ H' = TwB gt bv cap safe 0 true true :: R) := by
  refine fn_intro Try.func24 rfl (by kernel_rfl) rfl ?_
  repeat (first | refine go_ ?_ | refine bx_ (fun _ => ?_))
  exact fin1B rfl rfl ⟨rfl, rfl⟩
theorem goes_one {off : Bool} {tl : Int} (h : 0 < tl) (h2 : tl ≤ 9223372036854775807) : Fn Try.prog w0 B 24 [.pointer (some ⟨gt, 0, none⟩)] (TwB gt bv cap safe tl true off :: R) (fun v H' => v = .bool true ∧ H' = TwB gt bv cap safe (tl - 1) true off :: R) := by
  refine fn_intro Try.func24 rfl (by kernel_rfl) rfl ?_
  repeat (first | refine go_ ?_ | refine bx_ (fun _ => ?_))
  exact fin1B rfl rfl ⟨rfl, rfl⟩
theorem goes_un {off : Bool} {tl : Int} : Fn Try.prog w0 B 24 [.pointer (some ⟨gt, 0, none⟩)] (TwB gt bv cap safe tl false off :: R) (fun v H' => v = .bool true ∧ H' = TwB gt bv cap safe tl false off :: R) := by
  refine fn_intro Try.func24 rfl (by kernel_rfl) rfl ?_
  repeat (first | refine go_ ?_ | refine bx_ (fun _ => ?_))
  exact fin1B rfl rfl ⟨rfl, rfl⟩
/-- As the reel's step. -/
theorem goes_fn {left tl : Int} (h : -1 ≤ left) (h1 : 0 ≤ left → tl = left) (h2 : -9223372036854775808 ≤ tl ∧ tl ≤ 9223372036854775807) :
    Fn Try.prog w0 B 24 [.pointer (some ⟨gt, 0, none⟩)] (TwB gt bv cap safe tl (decide (0 ≤ left)) false :: R)
      (fun v H' => v = .bool (!decide (left = 0)) ∧ ∃ tl', H' = TwB gt bv cap safe tl' (decide (0 ≤ if 0 < left then left - 1 else left)) (decide (left = 0)) :: R ∧ (0 ≤ (if 0 < left then left - 1 else left) → tl' = if 0 < left then left - 1 else left) ∧ (-9223372036854775808 ≤ tl' ∧ tl' ≤ 9223372036854775807)) := by
  by_cases h3 : left = 0
  · subst h3
    obtain rfl := h1 (by omega)
    exact goes_down.mono fun v H' ⟨e1, e2⟩ => ⟨e1, 0, by rw [e2]; rfl, fun _ => rfl, by decide⟩
  · by_cases h4 : 0 < left
    · obtain rfl := h1 (by omega)
      rw [decide_eq_true (show 0 ≤ tl by omega), if_pos h4, decide_eq_false h3, decide_eq_true (show 0 ≤ tl - 1 by omega)]
      exact (goes_one h4 h2.2).mono fun v H' ⟨e1, e2⟩ => ⟨e1, tl - 1, e2, fun _ => rfl, by omega⟩
    · rw [decide_eq_false (show ¬ 0 ≤ left by omega), if_neg h4, decide_eq_false h3, decide_eq_false (show ¬ 0 ≤ left by omega)]
      exact goes_un.mono fun v H' ⟨e1, e2⟩ => ⟨e1, tl, e2, fun h5 => by omega, h2⟩
set_option maxHeartbeats 8000000 in
set_option maxRecDepth 100000 in
theorem crash_t {s : RS} {X : List Ent} (hw : s.wf) (h : Tw gt s X) (keep : Int) (hk : -9223372036854775808 ≤ keep ∧ keep ≤ 9223372036854775807) {a : Option Addr} {len cp : Nat} {b : List UInt8} (hl : b.length = len) (hlc : len ≤ 9223372036854775807)
    (hr : b = [] ∨ ∃ bb off, a = some ⟨bb, off, none⟩ ∧ Row w0 B R bb off b.length .u8 (byteF b)) :
    Fn Try.prog w0 B 25 [.pointer (some ⟨gt, 0, none⟩), .int .i64 keep, .slice a len cp] (X ++ R) (fun _ H' => ∃ X', Imp H' (X' ++ R) ∧ Tw gt (s.crash keep b) X') := by
  obtain ⟨bv, tl, Xb, rfl, ht1, ht2, a', c', rfl, hc1, hc2, hc0, hrd⟩ := h
  obtain ⟨l, cap, safe, left, down⟩ := s
  obtain ⟨h1, h2, h3, h4, h5⟩ := id hw
  dsimp only at h1 h2 h3 h4 h5 ht1 hc1 hrd
  obtain ⟨k, hkd⟩ : ∃ k, k = RS.kept ⟨l, cap, safe, left, down⟩ keep := ⟨_, rfl⟩
  have hkz : (k : Int) = min (max keep 0) ((l.length : Int) - safe) := by
    rw [hkd]; unfold RS.kept; dsimp only; omega
  unfold RS.crash
  rw [← hkd]
  dsimp only [List.cons_append]
  clear hkd
  subst hl
  refine fn_intro Try.func25 rfl (by kernel_rfl) rfl ?_
  repeat (first | refine go_ ?_ | refine bx_ (fun _ => ?_))
  refine hc_loop (fun m fr M => ∃ j, j + m = k ∧ Agr fr [(0, .pointer (some ⟨gt, 0, none⟩)), (1, .int .i64 keep), (2, .slice a b.length cp), (6, .int .i64 ((safe + j : Nat) : Int))] ∧ M = TwB gt (.slice a' l.length c') cap safe tl (decide (0 ≤ left)) down :: (Xb ++ R)) k ?_ ?_
  · exact ⟨0, by omega, ⟨rfl, rfl, rfl, rfl, trivial⟩, rfl⟩
  rintro m fr M ⟨j, hj, hf, rfl⟩
  obtain ⟨base, rfl⟩ := hf.out
  by_cases hjk : j < k
  · repeat (first | refine go_ ?_ | refine bx_ (fun _ => ?_))
    exact ⟨m - 1, by omega, j + 1, by omega, ⟨rfl, rfl, rfl, rfl, trivial⟩, rfl⟩
  obtain rfl : j = k := by omega
  obtain ⟨n, hn⟩ : ∃ n, n = safe + j := ⟨_, rfl⟩
  rw [← hn]
  have hend : (n = l.length) ∨ (n < l.length ∧ keep ≤ (n : Int) - safe) := by omega
  have hln : (l.take n).length = n := by rw [List.length_take]; omega
  have hrn : ∀ F, Rds w0 B (Xb ++ F) a' ((l.take n).map byteV) := fun F => by
    have := (hrd w0 B F).take n
    rwa [← List.map_take] at this
  have hq0 : j = n - safe := by omega
  rcases hend with he | ⟨he, he2⟩
  all_goals
    repeat (first | refine go_ ?_ | refine bx_ (fun _ => ?_) | refine hl_sliceTo rfl rfl rfl (by omega) rfl ?_)
    refine hl_append rfl rfl .here rfl ((hrn R).under.under) (by rw [List.length_map, hln, Nat.mul_one]) rfl (by decide) (by decide) (by omega) (by omega) rfl (fun gb cb hd1 hd2 => HL.perm ?_ (List.Perm.swap _ _ _))
    rw [Nat.zero_add] at hd1 ⊢
    repeat (first | refine go_ ?_ | refine bx_ (fun _ => ?_))
    refine HC.perm (H' := Xb ++ (TwB gt (.slice a' l.length c') cap safe tl (decide (0 ≤ left)) down :: ⟨gb, 5, (l.take n).map byteV, cb * 1⟩ :: R)) ?_ (app_swap [_, _] Xb R)
    refine HC.imp ?_ (Imp.tail Xb _)
    refine hc_loop (fun m fr M => ∃ i, i + m = min j b.length ∧ Agr fr [(0, .pointer (some ⟨gt, 0, none⟩)), (2, .slice a b.length cp), (6, .int .i64 (n : Int)), (7, .slice (some ⟨gb, 0, none⟩) n cb), (8, .int .i64 ((i + 1 : Nat) : Int))] ∧ M.Perm (TwB gt (.slice a' l.length c') cap safe tl (decide (0 ≤ left)) down :: ⟨gb, 5, (garbled (l.take n) b i).map byteV, cb * 1⟩ :: R)) (min j b.length) ?_ ?_
    · exact ⟨0, by omega, ⟨rfl, rfl, rfl, rfl, rfl, trivial⟩, List.Perm.refl _⟩
    clear hf base
    rintro m fr M ⟨i, hi, hf, hp⟩
    obtain ⟨base, rfl⟩ := hf.out
    refine HC.perm ?_ hp
    have hlg := length_garbled (l.take n) b i
    rw [hln] at hlg
    by_cases hlt : i < min j b.length
    · rcases hr with rfl | ⟨bb, off, rfl, hrow⟩
      · simp only [List.length_nil] at hlt; omega
      have hget : ((garbled (l.take n) b i).map byteV)[n - (i + 1)]? = some (.int .u8 (((garbled (l.take n) b i).getD (n - (i + 1)) 0).toNat : Int)) := by
        have : n - (i + 1) < (garbled (l.take n) b i).length := by omega
        simp [this, byteV]
      repeat (first | refine go_ ?_ | refine bx_ (fun _ => ?_))
      (refine hc_drawS (by kernel_rfl) (by kernel_rfl) ?_; repeat (first | rw [show ((n : Int) - ((i + 1 : Nat) : Int)) = ((n - (i + 1) : Nat) : Int) from by omega] | rw [show ((b.length : Int) - ((i + 1 : Nat) : Int)) = ((b.length - (i + 1) : Nat) : Int) from by omega] | rw [xor8] | refine gd1_ ?_))
      repeat (first | refine go_ ?_ | refine bx_ (fun _ => ?_))
      refine ⟨m - 1, by omega, i + 1, by omega, ⟨rfl, rfl, rfl, rfl, rfl, trivial⟩, (List.Perm.swap _ _ _).trans ?_⟩
      rw [garbled_succ, hlg, List.map_set]
    · obtain rfl : i = min j b.length := by omega
      have hBV : BV (.slice (some ⟨gb, 0, none⟩) n cb) (garbled (l.take n) b (min j b.length)) [⟨gb, 5, (garbled (l.take n) b (min j b.length)).map byteV, cb * 1⟩] := BV.own hlg fun F => Own.mk hd1 hd2 (by simp [hlg]) (List.Perm.refl _)
      by_cases hbl : b.length < min j b.length + 1
      all_goals
        repeat (first | refine go_ ?_ | refine bx_ (fun _ => ?_))
        exact fin0 rfl ⟨_ :: [_], Imp.refl _, .slice (some ⟨gb, 0, none⟩) n cb, tl, _, rfl, fun h => by dsimp only at h; omega, ht2, hBV⟩
end
end Go.Proofs.Ytonnfhjlojmieaa
