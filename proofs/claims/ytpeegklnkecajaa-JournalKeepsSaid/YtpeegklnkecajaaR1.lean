/-
  The reel: contracts of its functions. No condition.
-/
import Derived.Test.YtpeegklnkecajaaTy
import Derived.Test.YtpeegklnkecajaaHs
namespace Go.Proofs.Ytpeegklnkecajaa
open Go.RowKit

/-- What a reel is. -/
structure RS where
  l : List UInt8
  cap : Nat
  safe : Nat
  left : Int
  down : Bool
deriving DecidableEq
def RS.wf (s : RS) : Prop := s.safe ≤ s.l.length ∧ s.l.length ≤ s.cap ∧ s.cap ≤ 16777216 ∧ -1 ≤ s.left ∧ s.left ≤ 9223372036854775807
def RS.step (s : RS) : RS := { s with left := if 0 < s.left then s.left - 1 else s.left, down := s.down || decide (s.left = 0) }
def RS.append (s : RS) (b : List UInt8) : RS := if s.down = true then s else if s.cap < s.l.length + b.length then s else RS.step { s with l := s.l ++ b }
def RS.appendE (s : RS) (b : List UInt8) : Int := if s.down = true then 11 else if s.cap < s.l.length + b.length then 10 else if s.step.down = true then 11 else 0
def RS.sync (s : RS) : RS := if s.down = true then s else if s.step.down = true then s.step else { s.step with safe := s.l.length }
def RS.syncE (s : RS) : Int := if s.down = true then 11 else if s.step.down = true then 11 else 0
def RS.cut (s : RS) (n : Int) : RS := if s.down = true then s else if n < 0 ∨ (s.l.length : Int) < n then s else if s.step.down = true then s.step else { s.step with l := s.l.take n.toNat, safe := min s.safe n.toNat }
def RS.cutE (s : RS) (n : Int) : Int := if s.down = true then 11 else if n < 0 ∨ (s.l.length : Int) < n then 12 else if s.step.down = true then 11 else 0
def RS.arm (s : RS) (n : Int) : RS := { s with left := max n (-1) }
/-- The last bytes garbled: by the last ones of g, k of them. -/
def garbled (l g : List UInt8) (k : Nat) : List UInt8 := (List.range k).foldl (fun l i => l.set (l.length - (i + 1)) (l.getD (l.length - (i + 1)) 0 ^^^ g.getD (g.length - (i + 1)) 0)) l
def RS.kept (s : RS) (keep : Int) : Nat := (min (max keep 0) ((s.l.length : Int) - s.safe)).toNat
def RS.crash (s : RS) (keep : Int) (g : List UInt8) : RS :=
  { s with l := garbled (s.l.take (s.safe + s.kept keep)) g (min (s.kept keep) g.length), safe := s.safe + s.kept keep, left := -1, down := false }
theorem garbled_succ (l g : List UInt8) (k : Nat) : garbled l g (k + 1) = (garbled l g k).set ((garbled l g k).length - (k + 1)) ((garbled l g k).getD ((garbled l g k).length - (k + 1)) 0 ^^^ g.getD (g.length - (k + 1)) 0) := by
  unfold garbled
  rw [List.range_succ, List.foldl_append]
  rfl
theorem length_garbled (l g : List UInt8) (k : Nat) : (garbled l g k).length = l.length := by
  induction k with
  | zero => rfl
  | succ k ih => rw [garbled_succ, List.length_set, ih]

/-- The blocks of a reel. -/
def Rl (g : Nat) (s : RS) (X : List Ent) : Prop := s.wf ∧ ∃ sv Xb, X = ⟨g, 58, [sv, .int .i64 (s.cap : Int), .int .i64 (s.safe : Int), .int .i64 s.left, .bool s.down], 5⟩ :: Xb ∧ ∀ F, Own 5 1 sv s.l.length (s.l.map byteV) F (Xb ++ F)

theorem OwnX.cases {e sz n : Nat} {v : Value} {C : List Value} {X : List Ent} (h : ∀ F, Own e sz v n C F (X ++ F)) :
    (v = .slice none 0 0 ∧ n = 0 ∧ C = [] ∧ X = []) ∨ ∃ g cap, v = .slice (some ⟨g, 0, none⟩) n cap ∧ n ≤ cap ∧ cap ≤ 9223372036854775807 ∧ C.length = n * sz ∧ X = [⟨g, e, C, cap * sz⟩] := by
  rcases h [] with ⟨h1, h2, h3, h4⟩ | ⟨g, cap, h1, h2, h3, h4, h5⟩
  · exact .inl ⟨h1, h2, h3, by simpa using h4.eq_nil⟩
  · exact .inr ⟨g, cap, h1, h2, h3, h4, by simpa using h5.eq_singleton⟩
theorem Rl.mk {g : Nat} {s : RS} (hwf : s.wf) {sv : Value} {Xb : List Ent} (ho : ∀ F, Own 5 1 sv s.l.length (s.l.map byteV) F (Xb ++ F)) :
    Rl g s (⟨g, 58, [sv, .int .i64 (s.cap : Int), .int .i64 (s.safe : Int), .int .i64 s.left, .bool s.down], 5⟩ :: Xb) := ⟨hwf, sv, Xb, rfl, ho⟩
section
variable {w0 : World} {B : Nat} {H R : List Ent} {g : Nat} {s : RS} {X : List Ent}
/-- A fresh row that reads as these bytes (or nil). -/
theorem clone_fn {a : Option Addr} {len cap : Nat} {l : List UInt8} (hl : l.length = len) (hs : len ≤ 1000000000) (hr : Rds w0 B H a (l.map byteV)) :
    Fn Try.prog w0 B 28 [.slice a len cap] H (fun v H' => Own 5 1 v len (l.map byteV) H H') := by
  refine fn_intro Try.func28 rfl (by kernel_rfl) rfl ?_
  cases a with
  | none =>
    have h0 := hr.nil rfl
    have h0 : l = [] := by simpa using h0
    subst h0
    simp only [List.length_nil] at hl
    subst hl
    repeat (first | refine go_ ?_ | refine bx_ (fun _ => ?_))
    exact fin1S rfl rfl Own.nil
  | some ad =>
    repeat (first | refine go_ ?_ | refine bx_ (fun _ => ?_))
    refine hl_append rfl rfl .here rfl hr.under (by simp [hl]) rfl (by decide) (by decide) (by omega) (by omega) rfl (fun g' cap' h1 h2 => ?_)
    repeat (first | refine go_ ?_ | refine bx_ (fun _ => ?_))
    refine fin1S rfl rfl ?_
    rw [Nat.zero_add] at h1 ⊢
    exact Own.mk h1 h2 (by simp [hl]) (List.Perm.refl _)

theorem new_r (cap : Nat) (h : cap ≤ 16777216) : Fn Try.prog w0 B 16 [.int .i64 (cap : Int)] H (fun v H' => ∃ g X, v = .pointer (some ⟨g, 0, none⟩) ∧ H' = X ++ H ∧ Rl g ⟨[], cap, 0, -1, false⟩ X) := by
  refine fn_intro Try.func16 rfl (by kernel_rfl) rfl ?_
  repeat (first | refine go_ ?_ | refine bx_ (fun _ => ?_))
  rename_i g
  exact fin1P rfl rfl ⟨g, [_], rfl, rfl, ⟨by simp, by simp, h, by simp, by simp⟩, _, [], rfl, fun F => Own.nil⟩
theorem new_n (cap : Int) (h : ¬ (0 ≤ cap ∧ cap ≤ 16777216)) : Fn Try.prog w0 B 16 [.int .i64 cap] H (fun v H' => v = .pointer none ∧ H' = H) := by
  refine fn_intro Try.func16 rfl (by kernel_rfl) rfl ?_
  by_cases h1 : cap < 0
  · repeat (first | refine go_ ?_ | refine bx_ (fun _ => ?_))
    exact fin1P rfl rfl ⟨rfl, rfl⟩
  · repeat (first | refine go_ ?_ | refine bx_ (fun _ => ?_))
    exact fin1P rfl rfl ⟨rfl, rfl⟩

theorem step_fn {sv cap safe : Value} {left : Int} {down : Bool} (h : -1 ≤ left ∧ left ≤ 9223372036854775807) :
    Fn Try.prog w0 B 40 [.pointer (some ⟨g, 0, none⟩)] (⟨g, 58, [sv, cap, safe, .int .i64 left, .bool down], 5⟩ :: R)
      (fun v H' => v = .bool (!(down || decide (left = 0))) ∧ H' = ⟨g, 58, [sv, cap, safe, .int .i64 (if 0 < left then left - 1 else left), .bool (down || decide (left = 0))], 5⟩ :: R) := by
  refine fn_intro Try.func40 rfl (by kernel_rfl) rfl ?_
  by_cases h1 : 0 < left
  · rw [if_pos h1, show decide (left = 0) = false from decide_eq_false (by omega), Bool.or_false]
    repeat (first | refine go_ ?_ | refine bx_ (fun _ => ?_))
    exact fin1B rfl rfl ⟨rfl, rfl⟩
  · by_cases h2 : left = 0
    · subst h2
      rw [if_neg h1, show decide ((0 : Int) = 0) = true from rfl, Bool.or_true]
      repeat (first | refine go_ ?_ | refine bx_ (fun _ => ?_))
      exact fin1B rfl rfl ⟨rfl, rfl⟩
    · rw [if_neg h1, show decide (left = 0) = false from decide_eq_false h2, Bool.or_false]
      repeat (first | refine go_ ?_ | refine bx_ (fun _ => ?_))
      exact fin1B rfl rfl ⟨rfl, rfl⟩

theorem append_r (h : Rl g s X) {a : Option Addr} {len cp : Nat} {b : List UInt8} (hl : b.length = len) (hlc : len ≤ 9223372036854775807) (hr : Rds w0 B (X ++ R) a (b.map byteV)) :
    Fn Try.prog w0 B 37 [.pointer (some ⟨g, 0, none⟩), .slice a len cp] (X ++ R) (fun v H' => v = .int .i64 (s.appendE b) ∧ ∃ X', H' = X' ++ R ∧ Rl g (s.append b) X') := by
  obtain ⟨hwf, sv, Xb, rfl, ho⟩ := h
  obtain ⟨l, cap, safe, left, down⟩ := s
  obtain ⟨h1, h2, h3, h4, h5⟩ := id hwf
  dsimp only at h1 h2 h3 h4 h5 ho
  dsimp only [List.cons_append] at hr ⊢
  obtain ⟨a', c', rfl, hc1, hc2⟩ := (ho []).form
  refine fn_intro Try.func37 rfl (by kernel_rfl) rfl ?_
  subst hl
  cases down
  · by_cases hfit : cap < l.length + b.length
    · rw [show RS.append ⟨l, cap, safe, left, false⟩ b = ⟨l, cap, safe, left, false⟩ from by simp [RS.append, hfit], show RS.appendE ⟨l, cap, safe, left, false⟩ b = 10 from by simp [RS.appendE, hfit]]
      repeat (first | refine go_ ?_ | refine bx_ (fun _ => ?_))
      (refine hc_draw (by kernel_rfl) (by kernel_rfl) ?_; repeat (first | refine gd_ ?_))
      repeat (first | refine go_ ?_ | refine bx_ (fun _ => ?_))
      exact fin1I rfl rfl ⟨rfl, _ :: Xb, rfl, Rl.mk hwf ho⟩
    · rw [show RS.append ⟨l, cap, safe, left, false⟩ b = ⟨l ++ b, cap, safe, if 0 < left then left - 1 else left, false || decide (left = 0)⟩ from by simp [RS.append, hfit, RS.step]]
      repeat (first | refine go_ ?_ | refine bx_ (fun _ => ?_))
      (refine hc_draw (by kernel_rfl) (by kernel_rfl) ?_; repeat (first | refine gd_ ?_))
      repeat (first | refine go_ ?_ | refine bx_ (fun _ => ?_))
      refine hl_append_own rfl rfl ((ho R).under _) hr (by simp) rfl (by decide) (by omega) (by omega) rfl (fun v' H' o => ?_)
      obtain ⟨a2, c2, rfl, hd1, hd2⟩ := o.form
      obtain ⟨Z, hZ, ho'⟩ := o.permE
      refine HL.perm ?_ (hZ.trans List.perm_middle)
      repeat (first | refine go_ ?_ | refine bx_ (fun _ => ?_))
      refine hl_call rfl rfl (step_fn ⟨h4, h5⟩) (fun v H' hv => ?_)
      obtain ⟨rfl, rfl⟩ := hv
      have hW : RS.wf ⟨l ++ b, cap, safe, if 0 < left then left - 1 else left, false || decide (left = 0)⟩ := by
        simp only [RS.wf, List.length_append]
        refine ⟨by omega, by omega, by omega, ?_, ?_⟩ <;> split <;> omega
      have hO : ∀ F, Own 5 1 (.slice a2 (l.length + b.length) c2) (l ++ b).length ((l ++ b).map byteV) F (Z ++ F) := fun F => by rw [List.length_append, List.map_append]; exact ho' F
      by_cases h0 : left = 0
      · rw [show RS.appendE ⟨l, cap, safe, left, false⟩ b = 11 from by simp [RS.appendE, hfit, RS.step, h0]]
        subst h0
        repeat (first | refine go_ ?_ | refine bx_ (fun _ => ?_))
        exact fin1I rfl rfl ⟨rfl, _ :: Z, rfl, Rl.mk hW hO⟩
      · rw [show RS.appendE ⟨l, cap, safe, left, false⟩ b = 0 from by simp [RS.appendE, hfit, RS.step, h0]]
        rw [show (false || decide (left = 0)) = false from by simp [h0]] at hW ⊢
        repeat (first | refine go_ ?_ | refine bx_ (fun _ => ?_))
        exact fin1I rfl rfl ⟨rfl, _ :: Z, rfl, Rl.mk hW hO⟩
  · repeat (first | refine go_ ?_ | refine bx_ (fun _ => ?_))
    exact fin1I rfl rfl ⟨rfl, _ :: Xb, rfl, Rl.mk hwf ho⟩

theorem sync_r (h : Rl g s X) : Fn Try.prog w0 B 35 [.pointer (some ⟨g, 0, none⟩)] (X ++ R) (fun v H' => v = .int .i64 s.syncE ∧ ∃ X', H' = X' ++ R ∧ Rl g s.sync X') := by
  obtain ⟨hwf, sv, Xb, rfl, ho⟩ := h
  obtain ⟨l, cap, safe, left, down⟩ := s
  obtain ⟨h1, h2, h3, h4, h5⟩ := id hwf
  dsimp only at h1 h2 h3 h4 h5 ho
  dsimp only [List.cons_append]
  obtain ⟨a', c', rfl, hc1, hc2⟩ := (ho []).form
  refine fn_intro Try.func35 rfl (by kernel_rfl) rfl ?_
  cases down
  · repeat (first | refine go_ ?_ | refine bx_ (fun _ => ?_))
    refine hl_call rfl rfl (step_fn ⟨h4, h5⟩) (fun v H' hv => ?_)
    obtain ⟨rfl, rfl⟩ := hv
    by_cases h0 : left = 0
    · rw [show RS.sync ⟨l, cap, safe, left, false⟩ = ⟨l, cap, safe, left, true⟩ from by simp [RS.sync, RS.step, h0], show RS.syncE ⟨l, cap, safe, left, false⟩ = 11 from by simp [RS.syncE, RS.step, h0]]
      subst h0
      repeat (first | refine go_ ?_ | refine bx_ (fun _ => ?_))
      exact fin1I rfl rfl ⟨rfl, _ :: Xb, rfl, Rl.mk (s := ⟨l, cap, safe, 0, true⟩) hwf ho⟩
    · rw [show RS.sync ⟨l, cap, safe, left, false⟩ = ⟨l, cap, l.length, if 0 < left then left - 1 else left, false⟩ from by simp [RS.sync, RS.step, h0], show RS.syncE ⟨l, cap, safe, left, false⟩ = 0 from by simp [RS.syncE, RS.step, h0]]
      rw [show (false || decide (left = 0)) = false from by simp [h0]]
      have hW : RS.wf ⟨l, cap, l.length, if 0 < left then left - 1 else left, false⟩ := by
        simp only [RS.wf]
        refine ⟨by omega, by omega, by omega, ?_, ?_⟩ <;> split <;> omega
      repeat (first | refine go_ ?_ | refine bx_ (fun _ => ?_))
      exact fin1I rfl rfl ⟨rfl, _ :: Xb, rfl, Rl.mk hW ho⟩
  · repeat (first | refine go_ ?_ | refine bx_ (fun _ => ?_))
    exact fin1I rfl rfl ⟨rfl, _ :: Xb, rfl, Rl.mk hwf ho⟩

theorem cut_r (h : Rl g s X) (n : Int) (hn : -9223372036854775808 ≤ n ∧ n ≤ 9223372036854775807) : Fn Try.prog w0 B 34 [.pointer (some ⟨g, 0, none⟩), .int .i64 n] (X ++ R) (fun v H' => v = .int .i64 (s.cutE n) ∧ ∃ X', H' = X' ++ R ∧ Rl g (s.cut n) X') := by
  obtain ⟨hwf, sv, Xb, rfl, ho⟩ := h
  obtain ⟨l, cap, safe, left, down⟩ := s
  obtain ⟨h1, h2, h3, h4, h5⟩ := id hwf
  dsimp only at h1 h2 h3 h4 h5 ho
  dsimp only [List.cons_append]
  obtain ⟨a', c', rfl, hc1, hc2⟩ := (ho []).form
  refine fn_intro Try.func34 rfl (by kernel_rfl) rfl ?_
  cases down
  · by_cases hr : n < 0 ∨ (l.length : Int) < n
    · rw [show RS.cut ⟨l, cap, safe, left, false⟩ n = ⟨l, cap, safe, left, false⟩ from by simp only [RS.cut, if_pos hr]; rfl, show RS.cutE ⟨l, cap, safe, left, false⟩ n = 12 from by simp only [RS.cutE, if_pos hr]; rfl]
      by_cases h0 : n < 0
      · repeat (first | refine go_ ?_ | refine bx_ (fun _ => ?_))
        exact fin1I rfl rfl ⟨rfl, _ :: Xb, rfl, Rl.mk hwf ho⟩
      · repeat (first | refine go_ ?_ | refine bx_ (fun _ => ?_))
        exact fin1I rfl rfl ⟨rfl, _ :: Xb, rfl, Rl.mk hwf ho⟩
    · obtain ⟨k, rfl⟩ := Int.eq_ofNat_of_zero_le (show 0 ≤ n by omega)
      repeat (first | refine go_ ?_ | refine bx_ (fun _ => ?_))
      refine hl_call rfl rfl (step_fn ⟨h4, h5⟩) (fun v H' hv => ?_)
      obtain ⟨rfl, rfl⟩ := hv
      by_cases h0 : left = 0
      · rw [show RS.cut ⟨l, cap, safe, left, false⟩ (k : Int) = ⟨l, cap, safe, left, true⟩ from by simp only [RS.cut, if_neg hr]; simp [RS.step, h0], show RS.cutE ⟨l, cap, safe, left, false⟩ (k : Int) = 11 from by simp only [RS.cutE, if_neg hr]; simp [RS.step, h0]]
        subst h0
        repeat (first | refine go_ ?_ | refine bx_ (fun _ => ?_))
        exact fin1I rfl rfl ⟨rfl, _ :: Xb, rfl, Rl.mk (s := ⟨l, cap, safe, 0, true⟩) hwf ho⟩
      · rw [show RS.cut ⟨l, cap, safe, left, false⟩ (k : Int) = ⟨l.take k, cap, min safe k, if 0 < left then left - 1 else left, false⟩ from by simp only [RS.cut, if_neg hr]; simp [RS.step, h0], show RS.cutE ⟨l, cap, safe, left, false⟩ (k : Int) = 0 from by simp only [RS.cutE, if_neg hr]; simp [RS.step, h0]]
        rw [show (false || decide (left = 0)) = false from by simp [h0]]
        have hW : RS.wf ⟨l.take k, cap, min safe k, if 0 < left then left - 1 else left, false⟩ := by
          simp only [RS.wf, List.length_take]
          refine ⟨by omega, by omega, by omega, ?_, ?_⟩ <;> split <;> omega
        repeat (first | refine go_ ?_ | refine bx_ (fun _ => ?_))
        refine hc_meet (fun fr M => M = ⟨g, 58, [.slice a' k c', .int .i64 (cap : Int), .int .i64 ((min safe k : Nat) : Int), .int .i64 (if 0 < left then left - 1 else left), .bool false], 5⟩ :: (Xb ++ R)) ?_ ?_
        · refine hc_drawA (Xb ++ R) (by kernel_rfl) ?_
          have hmin : min (safe : Int) (k : Int) = ((min safe k : Nat) : Int) := by omega
          refine ha_quiet [0, 1, 2, 3, 4, 6, 8, 9, 10, 12] (by rfl) (by kernel_rfl) ?_
          repeat (first | refine gd_ ?_ | refine hl_sliceTo rfl rfl rfl (by omega) rfl ?_)
          refine ha_fork2 5 11 (by rfl) (by kernel_rfl) (by rfl) (by rfl) (by first | exact Imp.refl _ | exact Imp.drop (Imp.refl _) | exact Imp.drop (Imp.drop (Imp.refl _)) | exact Imp.drop (Imp.drop (Imp.drop (Imp.refl _))) | exact Imp.drop (Imp.drop (Imp.drop (Imp.drop (Imp.refl _)))) | exact Imp.drop (Imp.drop (Imp.drop (Imp.drop (Imp.drop (Imp.refl _))))) | exact Imp.drop (Imp.drop (Imp.drop (Imp.drop (Imp.drop (Imp.drop (Imp.refl _)))))) | exact Imp.drop (Imp.drop (Imp.drop (Imp.drop (Imp.drop (Imp.drop (Imp.drop (Imp.refl _))))))) | exact Imp.drop (Imp.drop (Imp.drop (Imp.drop (Imp.drop (Imp.drop (Imp.drop (Imp.drop (Imp.refl _)))))))) | assumption | exact Imp.drop2 (Imp.refl _) | exact Imp.drop2 (Imp.drop2 (Imp.refl _)) | exact Imp.drop (Imp.drop2 (Imp.refl _))) ?_ ?_
          · skip
            repeat (first | refine op_ ?_ | refine bx_ (fun _ => ?_))
            refine ha_quiet [7] (by rfl) (by kernel_rfl) ?_
            repeat (first | refine gd_ ?_ | refine hl_sliceTo rfl rfl rfl (by omega) rfl ?_)
            refine ha_fork1 11 (by rfl) (by kernel_rfl) (by rfl) (by first | exact Imp.refl _ | exact Imp.drop (Imp.refl _) | exact Imp.drop (Imp.drop (Imp.refl _)) | exact Imp.drop (Imp.drop (Imp.drop (Imp.refl _))) | exact Imp.drop (Imp.drop (Imp.drop (Imp.drop (Imp.refl _)))) | exact Imp.drop (Imp.drop (Imp.drop (Imp.drop (Imp.drop (Imp.refl _))))) | exact Imp.drop (Imp.drop (Imp.drop (Imp.drop (Imp.drop (Imp.drop (Imp.refl _)))))) | exact Imp.drop (Imp.drop (Imp.drop (Imp.drop (Imp.drop (Imp.drop (Imp.drop (Imp.refl _))))))) | exact Imp.drop (Imp.drop (Imp.drop (Imp.drop (Imp.drop (Imp.drop (Imp.drop (Imp.drop (Imp.refl _)))))))) | assumption | exact Imp.drop2 (Imp.refl _) | exact Imp.drop2 (Imp.drop2 (Imp.refl _)) | exact Imp.drop (Imp.drop2 (Imp.refl _))) ?_
            · skip
              repeat (first | refine op_ ?_ | refine bx_ (fun _ => ?_))
              refine ha_quiet [13, 14, 15] (by rfl) (by kernel_rfl) ?_
              repeat (first | refine gd_ ?_ | refine hl_sliceTo rfl rfl rfl (by omega) rfl ?_)
              refine ha_fork1 16 (by rfl) (by kernel_rfl) (by rfl) (by first | exact Imp.refl _ | exact Imp.drop (Imp.refl _) | exact Imp.drop (Imp.drop (Imp.refl _)) | exact Imp.drop (Imp.drop (Imp.drop (Imp.refl _))) | exact Imp.drop (Imp.drop (Imp.drop (Imp.drop (Imp.refl _)))) | exact Imp.drop (Imp.drop (Imp.drop (Imp.drop (Imp.drop (Imp.refl _))))) | exact Imp.drop (Imp.drop (Imp.drop (Imp.drop (Imp.drop (Imp.drop (Imp.refl _)))))) | exact Imp.drop (Imp.drop (Imp.drop (Imp.drop (Imp.drop (Imp.drop (Imp.drop (Imp.refl _))))))) | exact Imp.drop (Imp.drop (Imp.drop (Imp.drop (Imp.drop (Imp.drop (Imp.drop (Imp.drop (Imp.refl _)))))))) | assumption | exact Imp.drop2 (Imp.refl _) | exact Imp.drop2 (Imp.drop2 (Imp.refl _)) | exact Imp.drop (Imp.drop2 (Imp.refl _))) ?_
              · skip
                repeat (first | refine op_ ?_ | refine bx_ (fun _ => ?_))
                refine ha_quiet [17, 18] (by rfl) (by kernel_rfl) ?_
                repeat (first | refine gd_ ?_ | refine hl_sliceTo rfl rfl rfl (by omega) rfl ?_)
                refine ha_fork1 19 (by rfl) (by kernel_rfl) (by rfl) (by first | exact Imp.refl _ | exact Imp.drop (Imp.refl _) | exact Imp.drop (Imp.drop (Imp.refl _)) | exact Imp.drop (Imp.drop (Imp.drop (Imp.refl _))) | exact Imp.drop (Imp.drop (Imp.drop (Imp.drop (Imp.refl _)))) | exact Imp.drop (Imp.drop (Imp.drop (Imp.drop (Imp.drop (Imp.refl _))))) | exact Imp.drop (Imp.drop (Imp.drop (Imp.drop (Imp.drop (Imp.drop (Imp.refl _)))))) | exact Imp.drop (Imp.drop (Imp.drop (Imp.drop (Imp.drop (Imp.drop (Imp.drop (Imp.refl _))))))) | exact Imp.drop (Imp.drop (Imp.drop (Imp.drop (Imp.drop (Imp.drop (Imp.drop (Imp.drop (Imp.refl _)))))))) | assumption | exact Imp.drop2 (Imp.refl _) | exact Imp.drop2 (Imp.drop2 (Imp.refl _)) | exact Imp.drop (Imp.drop2 (Imp.refl _))) ?_
                · skip
                  repeat (first | refine op_ ?_ | refine bx_ (fun _ => ?_))
                  refine ha_end (by rfl) (by kernel_rfl) (by first | exact Imp.refl _ | exact Imp.drop (Imp.refl _) | exact Imp.drop (Imp.drop (Imp.refl _)) | exact Imp.drop (Imp.drop (Imp.drop (Imp.refl _))) | exact Imp.drop (Imp.drop (Imp.drop (Imp.drop (Imp.refl _)))) | exact Imp.drop (Imp.drop (Imp.drop (Imp.drop (Imp.drop (Imp.refl _))))) | exact Imp.drop (Imp.drop (Imp.drop (Imp.drop (Imp.drop (Imp.drop (Imp.refl _)))))) | exact Imp.drop (Imp.drop (Imp.drop (Imp.drop (Imp.drop (Imp.drop (Imp.drop (Imp.refl _))))))) | exact Imp.drop (Imp.drop (Imp.drop (Imp.drop (Imp.drop (Imp.drop (Imp.drop (Imp.drop (Imp.refl _)))))))) | assumption | exact Imp.drop2 (Imp.refl _) | exact Imp.drop2 (Imp.drop2 (Imp.refl _)) | exact Imp.drop (Imp.drop2 (Imp.refl _))) ?_
                  rw [hmin]; rfl
          · skip
            repeat (first | refine op_ ?_ | refine bx_ (fun _ => ?_))
            refine ha_quiet [13] (by rfl) (by kernel_rfl) ?_
            repeat (first | refine gd_ ?_ | refine hl_sliceTo rfl rfl rfl (by omega) rfl ?_)
            refine ha_fork1 5 (by rfl) (by kernel_rfl) (by rfl) (by first | exact Imp.refl _ | exact Imp.drop (Imp.refl _) | exact Imp.drop (Imp.drop (Imp.refl _)) | exact Imp.drop (Imp.drop (Imp.drop (Imp.refl _))) | exact Imp.drop (Imp.drop (Imp.drop (Imp.drop (Imp.refl _)))) | exact Imp.drop (Imp.drop (Imp.drop (Imp.drop (Imp.drop (Imp.refl _))))) | exact Imp.drop (Imp.drop (Imp.drop (Imp.drop (Imp.drop (Imp.drop (Imp.refl _)))))) | exact Imp.drop (Imp.drop (Imp.drop (Imp.drop (Imp.drop (Imp.drop (Imp.drop (Imp.refl _))))))) | exact Imp.drop (Imp.drop (Imp.drop (Imp.drop (Imp.drop (Imp.drop (Imp.drop (Imp.drop (Imp.refl _)))))))) | assumption | exact Imp.drop2 (Imp.refl _) | exact Imp.drop2 (Imp.drop2 (Imp.refl _)) | exact Imp.drop (Imp.drop2 (Imp.refl _))) ?_
            · skip
              repeat (first | refine op_ ?_ | refine bx_ (fun _ => ?_))
              refine ha_quiet [7, 14, 15] (by rfl) (by kernel_rfl) ?_
              repeat (first | refine gd_ ?_ | refine hl_sliceTo rfl rfl rfl (by omega) rfl ?_)
              refine ha_fork1 16 (by rfl) (by kernel_rfl) (by rfl) (by first | exact Imp.refl _ | exact Imp.drop (Imp.refl _) | exact Imp.drop (Imp.drop (Imp.refl _)) | exact Imp.drop (Imp.drop (Imp.drop (Imp.refl _))) | exact Imp.drop (Imp.drop (Imp.drop (Imp.drop (Imp.refl _)))) | exact Imp.drop (Imp.drop (Imp.drop (Imp.drop (Imp.drop (Imp.refl _))))) | exact Imp.drop (Imp.drop (Imp.drop (Imp.drop (Imp.drop (Imp.drop (Imp.refl _)))))) | exact Imp.drop (Imp.drop (Imp.drop (Imp.drop (Imp.drop (Imp.drop (Imp.drop (Imp.refl _))))))) | exact Imp.drop (Imp.drop (Imp.drop (Imp.drop (Imp.drop (Imp.drop (Imp.drop (Imp.drop (Imp.refl _)))))))) | assumption | exact Imp.drop2 (Imp.refl _) | exact Imp.drop2 (Imp.drop2 (Imp.refl _)) | exact Imp.drop (Imp.drop2 (Imp.refl _))) ?_
              · skip
                repeat (first | refine op_ ?_ | refine bx_ (fun _ => ?_))
                refine ha_quiet [17, 18] (by rfl) (by kernel_rfl) ?_
                repeat (first | refine gd_ ?_ | refine hl_sliceTo rfl rfl rfl (by omega) rfl ?_)
                refine ha_fork1 19 (by rfl) (by kernel_rfl) (by rfl) (by first | exact Imp.refl _ | exact Imp.drop (Imp.refl _) | exact Imp.drop (Imp.drop (Imp.refl _)) | exact Imp.drop (Imp.drop (Imp.drop (Imp.refl _))) | exact Imp.drop (Imp.drop (Imp.drop (Imp.drop (Imp.refl _)))) | exact Imp.drop (Imp.drop (Imp.drop (Imp.drop (Imp.drop (Imp.refl _))))) | exact Imp.drop (Imp.drop (Imp.drop (Imp.drop (Imp.drop (Imp.drop (Imp.refl _)))))) | exact Imp.drop (Imp.drop (Imp.drop (Imp.drop (Imp.drop (Imp.drop (Imp.drop (Imp.refl _))))))) | exact Imp.drop (Imp.drop (Imp.drop (Imp.drop (Imp.drop (Imp.drop (Imp.drop (Imp.drop (Imp.refl _)))))))) | assumption | exact Imp.drop2 (Imp.refl _) | exact Imp.drop2 (Imp.drop2 (Imp.refl _)) | exact Imp.drop (Imp.drop2 (Imp.refl _))) ?_
                · skip
                  repeat (first | refine op_ ?_ | refine bx_ (fun _ => ?_))
                  refine ha_end (by rfl) (by kernel_rfl) (by first | exact Imp.refl _ | exact Imp.drop (Imp.refl _) | exact Imp.drop (Imp.drop (Imp.refl _)) | exact Imp.drop (Imp.drop (Imp.drop (Imp.refl _))) | exact Imp.drop (Imp.drop (Imp.drop (Imp.drop (Imp.refl _)))) | exact Imp.drop (Imp.drop (Imp.drop (Imp.drop (Imp.drop (Imp.refl _))))) | exact Imp.drop (Imp.drop (Imp.drop (Imp.drop (Imp.drop (Imp.drop (Imp.refl _)))))) | exact Imp.drop (Imp.drop (Imp.drop (Imp.drop (Imp.drop (Imp.drop (Imp.drop (Imp.refl _))))))) | exact Imp.drop (Imp.drop (Imp.drop (Imp.drop (Imp.drop (Imp.drop (Imp.drop (Imp.drop (Imp.refl _)))))))) | assumption | exact Imp.drop2 (Imp.refl _) | exact Imp.drop2 (Imp.drop2 (Imp.refl _)) | exact Imp.drop (Imp.drop2 (Imp.refl _))) ?_
                  rw [hmin]; rfl
        · rintro fr M rfl
          repeat (first | refine go_ ?_ | refine bx_ (fun _ => ?_))
          have hT : (l.map byteV).take k = (l.take k).map byteV := List.map_take.symm
          rcases OwnX.cases ho with ⟨e1, e2, e3, rfl⟩ | ⟨gb, cb, e1, _, _, e2, rfl⟩
          · obtain ⟨rfl, hl0, rfl⟩ : a' = none ∧ l.length = 0 ∧ c' = 0 := by simpa using e1
            obtain rfl : k = 0 := by omega
            refine fin1I rfl rfl ⟨rfl, _ :: [], rfl, Rl.mk hW ?_⟩
            exact fun F => Own.nil
          · cases e1
            refine fin1I (H2 := (⟨g, 58, [.slice (some ⟨gb, 0, none⟩) k c', .int .i64 (cap : Int), .int .i64 ((min safe k : Nat) : Int), .int .i64 (if 0 < left then left - 1 else left), .bool false], 5⟩ :: [⟨gb, 5, (l.take k).map byteV, c' * 1⟩]) ++ R) rfl rfl ⟨rfl, _, rfl, Rl.mk hW (fun F => ?_)⟩ ?_
            · have hk : (l.take k).length = k := by rw [List.length_take]; omega
              show Own _ 1 (.slice (some ⟨gb, 0, none⟩) k c') _ _ F _
              rw [hk]
              exact Own.mk (by omega) hc2 (by simp; omega) (List.Perm.refl _)
            · refine Imp.perm (List.Perm.swap _ _ _) (Imp.trans (Imp.pre (C' := (l.take k).map byteV) (by rw [← hT]; exact List.take_prefix _ _) ?_) (Imp.perm (List.Perm.swap _ _ _) (Imp.refl _)))
              by_cases hl0 : l.length = 0
              · have : l = [] := List.eq_nil_of_length_eq_zero hl0
                subst this
                right; right; simp
              · right; left; omega
  · repeat (first | refine go_ ?_ | refine bx_ (fun _ => ?_))
    exact fin1I rfl rfl ⟨rfl, _ :: Xb, rfl, Rl.mk hwf ho⟩

theorem size_r (h : Rl g s X) : Fn Try.prog w0 B 24 [.pointer (some ⟨g, 0, none⟩)] (X ++ R) (fun v H' => v = .int .i64 (s.l.length : Int) ∧ H' = X ++ R) := by
  obtain ⟨hwf, sv, Xb, rfl, ho⟩ := h
  obtain ⟨a', c', rfl, hc1, hc2⟩ := (ho []).form
  dsimp only [List.cons_append]
  refine fn_intro Try.func24 rfl (by kernel_rfl) rfl ?_
  repeat (first | refine go_ ?_ | refine bx_ (fun _ => ?_))
  exact fin1I rfl rfl ⟨rfl, rfl⟩
theorem safe_r (h : Rl g s X) : Fn Try.prog w0 B 25 [.pointer (some ⟨g, 0, none⟩)] (X ++ R) (fun v H' => v = .int .i64 (s.safe : Int) ∧ H' = X ++ R) := by
  obtain ⟨hwf, sv, Xb, rfl, ho⟩ := h
  dsimp only [List.cons_append]
  refine fn_intro Try.func25 rfl (by kernel_rfl) rfl ?_
  repeat (first | refine go_ ?_ | refine bx_ (fun _ => ?_))
  exact fin1I rfl rfl ⟨rfl, rfl⟩
theorem arm_r (h : Rl g s X) (n : Int) (hn : -9223372036854775808 ≤ n ∧ n ≤ 9223372036854775807) : Fn Try.prog w0 B 18 [.pointer (some ⟨g, 0, none⟩), .int .i64 n] (X ++ R) (fun _ H' => ∃ X', H' = X' ++ R ∧ Rl g (s.arm n) X') := by
  obtain ⟨hwf, sv, Xb, rfl, ho⟩ := h
  obtain ⟨l, cap, safe, left, down⟩ := s
  obtain ⟨h1, h2, h3, h4, h5⟩ := id hwf
  dsimp only at h1 h2 h3 h4 h5 ho
  dsimp only [List.cons_append]
  refine fn_intro Try.func18 rfl (by kernel_rfl) rfl ?_
  repeat (first | refine go_ ?_ | refine bx_ (fun _ => ?_))
  exact fin0 rfl ⟨_ :: Xb, rfl, Rl.mk (s := ⟨l, cap, safe, max n (-1), down⟩) ⟨h1, h2, h3, by dsimp only; omega, by dsimp only; omega⟩ ho⟩
theorem read_r (h : Rl g s X) (i n : Nat) (hd : s.down = false) (hn : i + n ≤ s.l.length) :
    Fn Try.prog w0 B 23 [.pointer (some ⟨g, 0, none⟩), .int .i64 (i : Int), .int .i64 (n : Int)] (X ++ R) (fun v H' => ∃ sv, v = .tuple #[sv, .int .i64 0] ∧ Own 5 1 sv n (((s.l.drop i).take n).map byteV) (X ++ R) H') := by
  obtain ⟨hwf, sv, Xb, rfl, ho⟩ := h
  obtain ⟨l, cap, safe, left, down⟩ := s
  obtain ⟨h1, h2, h3, h4, h5⟩ := id hwf
  dsimp only at h1 h2 h3 h4 h5 ho hn hd
  subst hd
  dsimp only [List.cons_append]
  obtain ⟨a', c', rfl, hc1, hc2⟩ := (ho []).form
  refine fn_intro Try.func23 rfl (by kernel_rfl) rfl ?_
  repeat (first | refine go_ ?_ | refine bx_ (fun _ => ?_))
  have hr : Rds w0 B _ _ _ := ((ho R).under ⟨g, 58, [.slice a' l.length c', .int .i64 (cap : Int), .int .i64 (safe : Int), .int .i64 left, .bool false], 5⟩).rds (c := ⟨Try.prog, 0, w0, B⟩) (by simp [Value.oneCell'])
  refine hl_sliceR (i := i) (j := i + n) (l := l.map byteV) rfl hr (by simp) hc1 (fun h0 => ?_) rfl (congrArg (Value.int .i64) (Int.natCast_add i n).symm) (by omega) hn rfl (fun a2 hr2 hn2 => ?_)
  · subst h0
    rcases ho [] with ⟨e1, _⟩ | ⟨_, _, e1, _⟩
    · exact (show _ ∧ c' = 0 by simpa using e1).2
    · cases e1
  · rw [show i + n - i = n by omega, ← List.map_drop, ← List.map_take] at hr2
    rw [show i + n - i = n by omega]
    repeat (first | refine go_ ?_ | refine bx_ (fun _ => ?_))
    refine hl_call rfl rfl (clone_fn (by rw [List.length_take, List.length_drop]; omega) (by omega) hr2) (fun v H' o => ?_)
    obtain ⟨a3, c3, rfl, _, _⟩ := o.form
    repeat (first | refine go_ ?_ | refine bx_ (fun _ => ?_))
    exact fin2SI rfl rfl rfl ⟨_, rfl, o⟩
theorem read_n (h : Rl g s X) (i n : Int) (hi : -9223372036854775808 ≤ i ∧ i ≤ 9223372036854775807) (hn : -9223372036854775808 ≤ n ∧ n ≤ 9223372036854775807) (hb : s.down = true ∨ ¬ (0 ≤ i ∧ 0 ≤ n ∧ i + n ≤ (s.l.length : Int))) :
    Fn Try.prog w0 B 23 [.pointer (some ⟨g, 0, none⟩), .int .i64 i, .int .i64 n] (X ++ R) (fun v H' => v = .tuple #[.slice none 0 0, .int .i64 (if s.down = true then 11 else 12)] ∧ H' = X ++ R) := by
  obtain ⟨hwf, sv, Xb, rfl, ho⟩ := h
  obtain ⟨l, cap, safe, left, down⟩ := s
  obtain ⟨h1, h2, h3, h4, h5⟩ := id hwf
  dsimp only at h1 h2 h3 h4 h5 ho hb
  dsimp only [List.cons_append]
  obtain ⟨a', c', rfl, hc1, hc2⟩ := (ho []).form
  refine fn_intro Try.func23 rfl (by kernel_rfl) rfl ?_
  cases down
  · have hb : ¬ (0 ≤ i ∧ 0 ≤ n ∧ i + n ≤ (l.length : Int)) := by rcases hb with h | h; cases h; exact h
    by_cases hi0 : i < 0
    · repeat (first | refine go_ ?_ | refine bx_ (fun _ => ?_))
      exact fin2SI rfl rfl rfl ⟨rfl, rfl⟩
    · by_cases hn0 : n < 0
      · repeat (first | refine go_ ?_ | refine bx_ (fun _ => ?_))
        exact fin2SI rfl rfl rfl ⟨rfl, rfl⟩
      · by_cases hin : (l.length : Int) < i
        · repeat (first | refine go_ ?_ | refine bx_ (fun _ => ?_))
          exact fin2SI rfl rfl rfl ⟨rfl, rfl⟩
        · repeat (first | refine go_ ?_ | refine bx_ (fun _ => ?_))
          exact fin2SI rfl rfl rfl ⟨rfl, rfl⟩
  · repeat (first | refine go_ ?_ | refine bx_ (fun _ => ?_))
    exact fin2SI rfl rfl rfl ⟨rfl, rfl⟩
/-- Bytes as numbers. -/
abbrev byteF (b : List UInt8) : Nat → Int := fun j => ((b.getD j 0).toNat : Int)
theorem Rds.rowB {w0 : World} {B : Nat} {E : List Ent} {bb off : Nat} {b : List UInt8} (h : Rds w0 B E (some ⟨bb, off, none⟩) (b.map byteV)) : Row w0 B E bb off b.length .u8 (byteF b) :=
  ⟨fun w hw j hj => by
    have := h.cell w hw _ rfl j (byteV b[j]) (by simp [hj])
    rw [Addr.add_lit] at this
    rw [this]
    simp [byteF, byteV, hj]⟩
theorem xor8 (a b : UInt8) : bits .xor .u8 (a.toNat : Int) (b.toNat : Int) = ((a ^^^ b).toNat : Int) := by
  rw [show bits .xor .u8 (a.toNat : Int) (b.toNat : Int) = IntKind.u8.wrap ((BitVec.ofInt 8 (a.toNat : Int) ^^^ BitVec.ofInt 8 (b.toNat : Int)).toNat : Int) from rfl,
    BitVec.ofInt_natCast, BitVec.ofInt_natCast]
  have h : (BitVec.ofNat 8 a.toNat ^^^ BitVec.ofNat 8 b.toNat).toNat = (a ^^^ b).toNat := by
    simp
  rw [h]; exact IntWalk.u8_in _ (by have := (a ^^^ b).toNat_lt; omega)
set_option maxHeartbeats 4000000 in
theorem crash_r (h : Rl g s X) (keep : Int) (hk : -9223372036854775808 ≤ keep ∧ keep ≤ 9223372036854775807) {a : Option Addr} {len cp : Nat} {b : List UInt8} (hl : b.length = len) (hlc : len ≤ 9223372036854775807)
    (hr : b = [] ∨ ∃ bb off, a = some ⟨bb, off, none⟩ ∧ Row w0 B R bb off b.length .u8 (byteF b)) :
    Fn Try.prog w0 B 21 [.pointer (some ⟨g, 0, none⟩), .int .i64 keep, .slice a len cp] (X ++ R) (fun _ H' => ∃ X', Imp H' (X' ++ R) ∧ Rl g (s.crash keep b) X') := by
  obtain ⟨hwf, sv, Xb, rfl, ho⟩ := h
  obtain ⟨l, cap, safe, left, down⟩ := s
  obtain ⟨h1, h2, h3, h4, h5⟩ := id hwf
  dsimp only at h1 h2 h3 h4 h5 ho
  obtain ⟨k, hkd⟩ : ∃ k, k = RS.kept ⟨l, cap, safe, left, down⟩ keep := ⟨_, rfl⟩
  have hkz : (k : Int) = min (max keep 0) ((l.length : Int) - safe) := by
    rw [hkd]; unfold RS.kept; dsimp only; omega
  unfold RS.crash
  rw [← hkd]
  dsimp only [List.cons_append]
  clear hkd
  obtain ⟨a', c', rfl, hc1, hc2⟩ := (ho []).form
  subst hl
  refine fn_intro Try.func21 rfl (by kernel_rfl) rfl ?_
  repeat (first | refine go_ ?_ | refine bx_ (fun _ => ?_))
  (refine hc_draw (by kernel_rfl) (by kernel_rfl) ?_; repeat (first | refine gd_ ?_))
  repeat (first | refine go_ ?_ | refine bx_ (fun _ => ?_))
  rw [← hkz]
  repeat (first | refine go_ ?_ | refine bx_ (fun _ => ?_))
  refine hc_meet (fun fr M => ∃ a2 c2 Z, Agr fr [(0, .pointer (some ⟨g, 0, none⟩)), (1, .int .i64 (k : Int)), (2, .slice a b.length cp)] ∧ M = ⟨g, 58, [.slice a2 (safe + k) c2, .int .i64 (cap : Int), .int .i64 (safe : Int), .int .i64 left, .bool down], 5⟩ :: (Z ++ (Xb ++ R)) ∧ ∀ F, Own 5 1 (.slice a2 (safe + k) c2) (safe + k) ((l.take (safe + k)).map byteV) F (Z ++ F)) ?_ ?_
  · refine hc_drawA (Xb ++ R) (by kernel_rfl) ?_
    have hrr : Rds w0 B (⟨g, 58, [.slice a' l.length c', .int .i64 (cap : Int), .int .i64 (safe : Int), .int .i64 left, .bool down], 5⟩ :: (Xb ++ R)) a' ((l.take (safe + k)).map byteV) := by
      have := (((ho R).under ⟨g, 58, [.slice a' l.length c', .int .i64 (cap : Int), .int .i64 (safe : Int), .int .i64 left, .bool down], 5⟩).rds (c := ⟨Try.prog, 0, w0, B⟩) (by simp [Value.oneCell'])).take (safe + k)
      rwa [← List.map_take] at this
    refine ha_quiet [0, 1, 2, 3, 5, 6, 7, 9] (by rfl) (by kernel_rfl) ?_
    repeat (first | refine gd_ ?_ | refine hl_sliceTo (j := safe + k) rfl rfl (Int.natCast_add safe k).symm (by omega) rfl ?_)
    refine ha_fork2 4 8 (by rfl) (by kernel_rfl) (by rfl) (by rfl) (by first | exact Imp.refl _ | exact Imp.drop (Imp.refl _) | exact Imp.drop (Imp.drop (Imp.refl _)) | exact Imp.drop (Imp.drop (Imp.drop (Imp.refl _))) | exact Imp.drop (Imp.drop (Imp.drop (Imp.drop (Imp.refl _)))) | exact Imp.drop (Imp.drop (Imp.drop (Imp.drop (Imp.drop (Imp.refl _))))) | exact Imp.drop (Imp.drop (Imp.drop (Imp.drop (Imp.drop (Imp.drop (Imp.refl _)))))) | exact Imp.drop (Imp.drop (Imp.drop (Imp.drop (Imp.drop (Imp.drop (Imp.drop (Imp.refl _))))))) | exact Imp.drop (Imp.drop (Imp.drop (Imp.drop (Imp.drop (Imp.drop (Imp.drop (Imp.drop (Imp.refl _)))))))) | assumption | exact Imp.drop2 (Imp.refl _) | exact Imp.drop2 (Imp.drop2 (Imp.refl _)) | exact Imp.drop (Imp.drop2 (Imp.refl _))) ?_ ?_
    · skip
      repeat (first | refine op_ ?_ | refine bx_ (fun _ => ?_))
      refine ha_fork1 8 (by rfl) (by kernel_rfl) (by rfl) (by first | exact Imp.refl _ | exact Imp.drop (Imp.refl _) | exact Imp.drop (Imp.drop (Imp.refl _)) | exact Imp.drop (Imp.drop (Imp.drop (Imp.refl _))) | exact Imp.drop (Imp.drop (Imp.drop (Imp.drop (Imp.refl _)))) | exact Imp.drop (Imp.drop (Imp.drop (Imp.drop (Imp.drop (Imp.refl _))))) | exact Imp.drop (Imp.drop (Imp.drop (Imp.drop (Imp.drop (Imp.drop (Imp.refl _)))))) | exact Imp.drop (Imp.drop (Imp.drop (Imp.drop (Imp.drop (Imp.drop (Imp.drop (Imp.refl _))))))) | exact Imp.drop (Imp.drop (Imp.drop (Imp.drop (Imp.drop (Imp.drop (Imp.drop (Imp.drop (Imp.refl _)))))))) | assumption | exact Imp.drop2 (Imp.refl _) | exact Imp.drop2 (Imp.drop2 (Imp.refl _)) | exact Imp.drop (Imp.drop2 (Imp.refl _))) ?_
      · skip
        repeat (first | refine op_ ?_ | refine bx_ (fun _ => ?_))
        refine ha_quiet [10, 11] (by rfl) (by kernel_rfl) ?_
        repeat (first | refine gd_ ?_ | refine hl_sliceTo (j := safe + k) rfl rfl (Int.natCast_add safe k).symm (by omega) rfl ?_)
        refine ha_fork1 12 (by rfl) (by kernel_rfl) (by rfl) (by first | exact Imp.refl _ | exact Imp.drop (Imp.refl _) | exact Imp.drop (Imp.drop (Imp.refl _)) | exact Imp.drop (Imp.drop (Imp.drop (Imp.refl _))) | exact Imp.drop (Imp.drop (Imp.drop (Imp.drop (Imp.refl _)))) | exact Imp.drop (Imp.drop (Imp.drop (Imp.drop (Imp.drop (Imp.refl _))))) | exact Imp.drop (Imp.drop (Imp.drop (Imp.drop (Imp.drop (Imp.drop (Imp.refl _)))))) | exact Imp.drop (Imp.drop (Imp.drop (Imp.drop (Imp.drop (Imp.drop (Imp.drop (Imp.refl _))))))) | exact Imp.drop (Imp.drop (Imp.drop (Imp.drop (Imp.drop (Imp.drop (Imp.drop (Imp.drop (Imp.refl _)))))))) | assumption | exact Imp.drop2 (Imp.refl _) | exact Imp.drop2 (Imp.drop2 (Imp.refl _)) | exact Imp.drop (Imp.drop2 (Imp.refl _))) ?_
        · skip
          refine hl_call rfl rfl (clone_fn (by rw [List.length_take]; omega) (by omega) hrr) (fun v H' o => ?_)
          obtain ⟨a2, c2, rfl, _, _⟩ := o.form
          obtain ⟨Z, hZ, ho2⟩ := o.permE
          refine HL.perm ?_ (hZ.trans List.perm_middle)
          have hiR : Imp (⟨g, 58, [.slice a' l.length c', .int .i64 (cap : Int), .int .i64 (safe : Int), .int .i64 left, .bool down], 5⟩ :: (Z ++ (Xb ++ R))) (Xb ++ R) := Imp.drop (Imp.tail Z _)
          have hiR2 : ∀ e, Imp (e :: (Z ++ (Xb ++ R))) (Xb ++ R) := fun e => Imp.drop (Imp.tail Z _)
          have hiR3 := hiR2 ⟨g, 58, [.slice a2 (safe + k) c2, .int .i64 (cap : Int), .int .i64 (safe : Int), .int .i64 left, .bool down], 5⟩
          repeat (first | refine op_ ?_ | refine bx_ (fun _ => ?_))
          refine ha_quiet [13, 14] (by rfl) (by kernel_rfl) ?_
          repeat (first | refine gd_ ?_ | refine hl_sliceTo (j := safe + k) rfl rfl (Int.natCast_add safe k).symm (by omega) rfl ?_)
          refine ha_fork1 15 (by rfl) (by kernel_rfl) (by rfl) (by first | exact Imp.refl _ | exact Imp.drop (Imp.refl _) | exact Imp.drop (Imp.drop (Imp.refl _)) | exact Imp.drop (Imp.drop (Imp.drop (Imp.refl _))) | exact Imp.drop (Imp.drop (Imp.drop (Imp.drop (Imp.refl _)))) | exact Imp.drop (Imp.drop (Imp.drop (Imp.drop (Imp.drop (Imp.refl _))))) | exact Imp.drop (Imp.drop (Imp.drop (Imp.drop (Imp.drop (Imp.drop (Imp.refl _)))))) | exact Imp.drop (Imp.drop (Imp.drop (Imp.drop (Imp.drop (Imp.drop (Imp.drop (Imp.refl _))))))) | exact Imp.drop (Imp.drop (Imp.drop (Imp.drop (Imp.drop (Imp.drop (Imp.drop (Imp.drop (Imp.refl _)))))))) | assumption | exact Imp.drop2 (Imp.refl _) | exact Imp.drop2 (Imp.drop2 (Imp.refl _)) | exact Imp.drop (Imp.drop2 (Imp.refl _))) ?_
          · skip
            repeat (first | refine op_ ?_ | refine bx_ (fun _ => ?_))
            refine ha_end (by rfl) (by kernel_rfl) (by first | exact Imp.refl _ | exact Imp.drop (Imp.refl _) | exact Imp.drop (Imp.drop (Imp.refl _)) | exact Imp.drop (Imp.drop (Imp.drop (Imp.refl _))) | exact Imp.drop (Imp.drop (Imp.drop (Imp.drop (Imp.refl _)))) | exact Imp.drop (Imp.drop (Imp.drop (Imp.drop (Imp.drop (Imp.refl _))))) | exact Imp.drop (Imp.drop (Imp.drop (Imp.drop (Imp.drop (Imp.drop (Imp.refl _)))))) | exact Imp.drop (Imp.drop (Imp.drop (Imp.drop (Imp.drop (Imp.drop (Imp.drop (Imp.refl _))))))) | exact Imp.drop (Imp.drop (Imp.drop (Imp.drop (Imp.drop (Imp.drop (Imp.drop (Imp.drop (Imp.refl _)))))))) | assumption | exact Imp.drop2 (Imp.refl _) | exact Imp.drop2 (Imp.drop2 (Imp.refl _)) | exact Imp.drop (Imp.drop2 (Imp.refl _))) ?_
            exact ⟨_, _, _, ⟨rfl, rfl, rfl, trivial⟩, rfl, ho2⟩
    · skip
      repeat (first | refine op_ ?_ | refine bx_ (fun _ => ?_))
      refine ha_quiet [10] (by rfl) (by kernel_rfl) ?_
      repeat (first | refine gd_ ?_ | refine hl_sliceTo (j := safe + k) rfl rfl (Int.natCast_add safe k).symm (by omega) rfl ?_)
      refine ha_fork1 4 (by rfl) (by kernel_rfl) (by rfl) (by first | exact Imp.refl _ | exact Imp.drop (Imp.refl _) | exact Imp.drop (Imp.drop (Imp.refl _)) | exact Imp.drop (Imp.drop (Imp.drop (Imp.refl _))) | exact Imp.drop (Imp.drop (Imp.drop (Imp.drop (Imp.refl _)))) | exact Imp.drop (Imp.drop (Imp.drop (Imp.drop (Imp.drop (Imp.refl _))))) | exact Imp.drop (Imp.drop (Imp.drop (Imp.drop (Imp.drop (Imp.drop (Imp.refl _)))))) | exact Imp.drop (Imp.drop (Imp.drop (Imp.drop (Imp.drop (Imp.drop (Imp.drop (Imp.refl _))))))) | exact Imp.drop (Imp.drop (Imp.drop (Imp.drop (Imp.drop (Imp.drop (Imp.drop (Imp.drop (Imp.refl _)))))))) | assumption | exact Imp.drop2 (Imp.refl _) | exact Imp.drop2 (Imp.drop2 (Imp.refl _)) | exact Imp.drop (Imp.drop2 (Imp.refl _))) ?_
      · skip
        repeat (first | refine op_ ?_ | refine bx_ (fun _ => ?_))
        refine ha_quiet [11] (by rfl) (by kernel_rfl) ?_
        repeat (first | refine gd_ ?_ | refine hl_sliceTo (j := safe + k) rfl rfl (Int.natCast_add safe k).symm (by omega) rfl ?_)
        refine ha_fork1 12 (by rfl) (by kernel_rfl) (by rfl) (by first | exact Imp.refl _ | exact Imp.drop (Imp.refl _) | exact Imp.drop (Imp.drop (Imp.refl _)) | exact Imp.drop (Imp.drop (Imp.drop (Imp.refl _))) | exact Imp.drop (Imp.drop (Imp.drop (Imp.drop (Imp.refl _)))) | exact Imp.drop (Imp.drop (Imp.drop (Imp.drop (Imp.drop (Imp.refl _))))) | exact Imp.drop (Imp.drop (Imp.drop (Imp.drop (Imp.drop (Imp.drop (Imp.refl _)))))) | exact Imp.drop (Imp.drop (Imp.drop (Imp.drop (Imp.drop (Imp.drop (Imp.drop (Imp.refl _))))))) | exact Imp.drop (Imp.drop (Imp.drop (Imp.drop (Imp.drop (Imp.drop (Imp.drop (Imp.drop (Imp.refl _)))))))) | assumption | exact Imp.drop2 (Imp.refl _) | exact Imp.drop2 (Imp.drop2 (Imp.refl _)) | exact Imp.drop (Imp.drop2 (Imp.refl _))) ?_
        · skip
          refine hl_call rfl rfl (clone_fn (by rw [List.length_take]; omega) (by omega) hrr) (fun v H' o => ?_)
          obtain ⟨a2, c2, rfl, _, _⟩ := o.form
          obtain ⟨Z, hZ, ho2⟩ := o.permE
          refine HL.perm ?_ (hZ.trans List.perm_middle)
          have hiR : Imp (⟨g, 58, [.slice a' l.length c', .int .i64 (cap : Int), .int .i64 (safe : Int), .int .i64 left, .bool down], 5⟩ :: (Z ++ (Xb ++ R))) (Xb ++ R) := Imp.drop (Imp.tail Z _)
          have hiR2 : ∀ e, Imp (e :: (Z ++ (Xb ++ R))) (Xb ++ R) := fun e => Imp.drop (Imp.tail Z _)
          have hiR3 := hiR2 ⟨g, 58, [.slice a2 (safe + k) c2, .int .i64 (cap : Int), .int .i64 (safe : Int), .int .i64 left, .bool down], 5⟩
          repeat (first | refine op_ ?_ | refine bx_ (fun _ => ?_))
          refine ha_quiet [13, 14] (by rfl) (by kernel_rfl) ?_
          repeat (first | refine gd_ ?_ | refine hl_sliceTo (j := safe + k) rfl rfl (Int.natCast_add safe k).symm (by omega) rfl ?_)
          refine ha_fork1 15 (by rfl) (by kernel_rfl) (by rfl) (by first | exact Imp.refl _ | exact Imp.drop (Imp.refl _) | exact Imp.drop (Imp.drop (Imp.refl _)) | exact Imp.drop (Imp.drop (Imp.drop (Imp.refl _))) | exact Imp.drop (Imp.drop (Imp.drop (Imp.drop (Imp.refl _)))) | exact Imp.drop (Imp.drop (Imp.drop (Imp.drop (Imp.drop (Imp.refl _))))) | exact Imp.drop (Imp.drop (Imp.drop (Imp.drop (Imp.drop (Imp.drop (Imp.refl _)))))) | exact Imp.drop (Imp.drop (Imp.drop (Imp.drop (Imp.drop (Imp.drop (Imp.drop (Imp.refl _))))))) | exact Imp.drop (Imp.drop (Imp.drop (Imp.drop (Imp.drop (Imp.drop (Imp.drop (Imp.drop (Imp.refl _)))))))) | assumption | exact Imp.drop2 (Imp.refl _) | exact Imp.drop2 (Imp.drop2 (Imp.refl _)) | exact Imp.drop (Imp.drop2 (Imp.refl _))) ?_
          · skip
            repeat (first | refine op_ ?_ | refine bx_ (fun _ => ?_))
            refine ha_end (by rfl) (by kernel_rfl) (by first | exact Imp.refl _ | exact Imp.drop (Imp.refl _) | exact Imp.drop (Imp.drop (Imp.refl _)) | exact Imp.drop (Imp.drop (Imp.drop (Imp.refl _))) | exact Imp.drop (Imp.drop (Imp.drop (Imp.drop (Imp.refl _)))) | exact Imp.drop (Imp.drop (Imp.drop (Imp.drop (Imp.drop (Imp.refl _))))) | exact Imp.drop (Imp.drop (Imp.drop (Imp.drop (Imp.drop (Imp.drop (Imp.refl _)))))) | exact Imp.drop (Imp.drop (Imp.drop (Imp.drop (Imp.drop (Imp.drop (Imp.drop (Imp.refl _))))))) | exact Imp.drop (Imp.drop (Imp.drop (Imp.drop (Imp.drop (Imp.drop (Imp.drop (Imp.drop (Imp.refl _)))))))) | assumption | exact Imp.drop2 (Imp.refl _) | exact Imp.drop2 (Imp.drop2 (Imp.refl _)) | exact Imp.drop (Imp.drop2 (Imp.refl _))) ?_
            exact ⟨_, _, _, ⟨rfl, rfl, rfl, trivial⟩, rfl, ho2⟩
  · rintro fr M ⟨a2, c2, Z, hf, rfl, ho2⟩
    obtain ⟨base, rfl⟩ := hf.out
    have ⟨hd1, hd2⟩ : safe + k ≤ c2 ∧ c2 ≤ 9223372036854775807 := by
      obtain ⟨_, _, e, h⟩ := (ho2 []).form
      cases e; exact h
    refine HC.imp ?_ (H' := ⟨g, 58, [.slice a2 (safe + k) c2, .int .i64 (cap : Int), .int .i64 (safe : Int), .int .i64 left, .bool down], 5⟩ :: (Z ++ R)) ?_
    rotate_left
    · refine Imp.perm (H1 := Xb ++ (⟨g, 58, [.slice a2 (safe + k) c2, .int .i64 (cap : Int), .int .i64 (safe : Int), .int .i64 left, .bool down], 5⟩ :: (Z ++ R))) ?_ (Imp.tail Xb _)
      exact ((app_swap Z Xb R).cons _).trans List.perm_middle.symm
    obtain ⟨n, hn⟩ : ∃ n, n = safe + k := ⟨_, rfl⟩
    rw [← hn] at ho2 hd1 ⊢
    obtain ⟨q, hq⟩ : ∃ q, q = min k b.length := ⟨_, rfl⟩
    rw [← hq]
    have hqz : min (k : Int) (b.length : Int) = (q : Int) := by omega
    have hln : (l.take n).length = n := by rw [List.length_take]; omega
    repeat (first | refine go_ ?_ | refine bx_ (fun _ => ?_))
    refine hc_loop (fun m fr M => ∃ i Z, i + m = q ∧ Agr fr [(0, .pointer (some ⟨g, 0, none⟩)), (1, .int .i64 (k : Int)), (2, .slice a b.length cp), (7, .int .i64 ((i + 1 : Nat) : Int))] ∧ M.Perm (⟨g, 58, [.slice a2 n c2, .int .i64 (cap : Int), .int .i64 (safe : Int), .int .i64 left, .bool down], 5⟩ :: (Z ++ R)) ∧ ∀ F, Own 5 1 (.slice a2 n c2) n ((garbled (l.take n) b i).map byteV) F (Z ++ F)) q ?_ ?_
    · exact ⟨0, Z, by omega, ⟨rfl, rfl, rfl, rfl, trivial⟩, List.Perm.refl _, ho2⟩
    clear hf base ho2 Z
    rintro m fr M ⟨i, Z, hi, hf, hp, ho2⟩
    obtain ⟨base, rfl⟩ := hf.out
    refine HC.perm ?_ hp
    have hlg := length_garbled (l.take n) b i
    rw [hln] at hlg
    by_cases hlt : i < q
    · rcases hr with rfl | ⟨bb, off, rfl, hrow⟩
      · simp only [List.length_nil] at hq; omega
      rcases OwnX.cases ho2 with ⟨_, e2, _, _⟩ | ⟨gb, cb, e1, _, _, e2, rfl⟩
      · omega
      cases e1
      refine HC.perm (H' := _ :: _ :: R) ?_ (List.Perm.refl _)
      have hget : ((garbled (l.take n) b i).map byteV)[n - (i + 1)]? = some (byteV ((garbled (l.take n) b i).getD (n - (i + 1)) 0)) := by
        have : n - (i + 1) < (garbled (l.take n) b i).length := by omega
        simp [this]
      repeat (first | rw [hqz] | refine go1_ ?_ | refine bx_ (fun _ => ?_))
      (refine hc_drawS (by kernel_rfl) (by kernel_rfl) ?_; repeat (first | rw [show ((n : Int) - ((i + 1 : Nat) : Int)) = ((n - (i + 1) : Nat) : Int) from by omega] | rw [show ((b.length : Int) - ((i + 1 : Nat) : Int)) = ((b.length - (i + 1) : Nat) : Int) from by omega] | rw [xor8] | refine gd1_ ?_ | (refine is_cons ?_; refine hl_load1 rfl (.there .here) hget rfl ?_)))
      repeat (first | refine go_ ?_ | refine bx_ (fun _ => ?_))
      refine ⟨m - 1, by omega, i + 1, [_], by omega, ⟨rfl, rfl, rfl, rfl, trivial⟩, List.Perm.swap _ _ _, ?_⟩
      intro F
      refine Own.mk (by omega) hd2 (by simp [length_garbled, hln]) ?_
      rw [garbled_succ, hlg, List.map_set]
      exact List.Perm.refl _
    · obtain rfl : i = q := by omega
      obtain ⟨a3, c3, e3, _, _⟩ := (ho2 []).form
      repeat (first | rw [hqz] | refine go1_ ?_ | refine bx_ (fun _ => ?_))
      refine fin0 rfl ⟨_ :: Z, Imp.refl _, Rl.mk (s := ⟨garbled (l.take n) b i, cap, n, -1, false⟩) ⟨by dsimp only; omega, by dsimp only; omega, h3, by dsimp only; omega, by dsimp only; omega⟩ ?_⟩
      rw [hlg]
      exact ho2
end
end Go.Proofs.Ytpeegklnkecajaa
