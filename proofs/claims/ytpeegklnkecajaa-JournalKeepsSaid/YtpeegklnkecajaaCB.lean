/-
  The reel's states through a journal's calls: plain. No condition.
-/
import Derived.Test.YtpeegklnkecajaaCA
import Derived.Test.YtpeegklnkecajaaC9
namespace Go.Proofs.Ytpeegklnkecajaa
theorem RS.step_off {s : RS} (h : s.left = -1) : s.step = s := by
  obtain ⟨l, cap, safe, left, down⟩ := s
  dsimp only at h
  subst h
  simp [RS.step]
theorem RS.crash_nil (s : RS) (keep : Int) : s.crash keep [] = { s with l := s.l.take (s.safe + s.kept keep), safe := s.safe + s.kept keep, left := -1, down := false } := by
  unfold RS.crash
  rw [show min (s.kept keep) ([] : List UInt8).length = 0 by simp]
  rfl
theorem RS.openS_any {s : RS} (hs : s.safe = s.l.length) : (s.openS.l = s.l ∨ s.openS.l = s.l.take (scan s.l).2) ∧ s.openS.safe = s.openS.l.length ∧ s.openS.cap = s.cap := by
  have hb := (scan_bd s.l).2.2
  have hn : ¬ ((scan s.l).2 : Int) < 0 := by omega
  obtain ⟨l, cap, safe, left, down⟩ := s
  dsimp only at hs hb hn
  subst hs
  cases down
  rotate_left
  · exact ⟨.inl rfl, rfl, rfl⟩
  by_cases h0 : left = 0
  · subst h0
    by_cases hlt : (scan l).2 < l.length <;> simp [RS.openS, RS.open1E, RS.open1, RS.sync, RS.cut, RS.cutE, RS.step, hn, hlt] <;> simp [show ¬ l.length < (scan l).2 by omega]
  · by_cases hlt : (scan l).2 < l.length
    · by_cases h1 : left = 1
      · subst h1
        simp [RS.openS, RS.open1E, RS.open1, RS.sync, RS.cut, RS.cutE, RS.step, hn, hlt, show ¬ l.length < (scan l).2 by omega]
        omega
      · have h2 : ¬ (if 0 < left then left - 1 else left) = 0 := by split <;> omega
        simp [RS.openS, RS.open1E, RS.open1, RS.sync, RS.cut, RS.cutE, RS.step, hn, hlt, h0, h2, show ¬ l.length < (scan l).2 by omega]
    · simp [RS.openS, RS.open1E, RS.open1, RS.sync, RS.cut, RS.cutE, RS.step, hn, hlt, h0]
theorem RS.open_fine {s : RS} (hl : s.left = -1) (hd : s.down = false) : s.openE = 0 ∧ s.openS = { s with l := s.l.take (scan s.l).2, safe := (scan s.l).2 } := by
  have hb := (scan_bd s.l).2.2
  have hn : ¬ ((scan s.l).2 : Int) < 0 := by omega
  obtain ⟨l, cap, safe, left, down⟩ := s
  dsimp only at hl hd hb hn
  subst hl hd
  by_cases hlt : (scan l).2 < l.length
  · simp [RS.openE, RS.openS, RS.open1E, RS.open1, RS.sync, RS.syncE, RS.cut, RS.cutE, RS.step, hn, hlt, show ¬ l.length < (scan l).2 by omega]
    omega
  · obtain he : (scan l).2 = l.length := by omega
    simp [RS.openE, RS.openS, RS.open1E, RS.open1, RS.sync, RS.syncE, RS.cut, RS.cutE, RS.step, hn, he]
theorem RS.append_off {s : RS} {b : List UInt8} (hl : s.left = -1) (hd : s.down = false) (hf : s.l.length + b.length ≤ s.cap) : s.appendE b = 0 ∧ s.append b = { s with l := s.l ++ b } := by
  obtain ⟨l, cap, safe, left, down⟩ := s
  dsimp only at hl hd hf
  subst hl hd
  simp [RS.append, RS.appendE, RS.step, show ¬ cap < l.length + b.length by omega]
theorem RS.sync_off {s : RS} (hl : s.left = -1) (hd : s.down = false) : s.syncE = 0 ∧ s.sync = { s with safe := s.l.length } := by
  obtain ⟨l, cap, safe, left, down⟩ := s
  dsimp only at hl hd
  subst hl hd
  simp [RS.sync, RS.syncE, RS.step]
/-- Where a journal stands whose reel may go down: so many records are on it, the last of them perhaps not safe. -/
structure Dn (L : List (List UInt8)) (k : Nat) (s : RS) (d : Bool) (m : Nat) : Prop where
  cap : s.cap = 20000
  down : s.down = d
  le : m ≤ k
  l : s.l = recs (L.take m)
  up : d = false → m = k ∧ s.safe = s.l.length
  dn : d = true → 1 ≤ m ∧ s.safe = (recs (L.take (m - 1))).length
theorem Dn.go {L : List (List UInt8)} {k m : Nat} {s : RS} (h : Dn L k s false m) (hk : k < L.length) (hfit : s.l.length + (L[k].length + 8) ≤ 20000) :
    (s.appendE (recB L[k]) = 11 ∧ Dn L (k + 1) (s.append (recB L[k])) true (k + 1)) ∨
    (s.appendE (recB L[k]) = 0 ∧ (s.append (recB L[k])).syncE = 11 ∧ Dn L (k + 1) (s.append (recB L[k])).sync true (k + 1)) ∨
    (s.appendE (recB L[k]) = 0 ∧ (s.append (recB L[k])).syncE = 0 ∧ Dn L (k + 1) (s.append (recB L[k])).sync false (k + 1)) := by
  obtain ⟨h1, h2, _, h3, h4, _⟩ := h
  obtain ⟨rfl, h5⟩ := h4 rfl
  have hr : recs (L.take m) ++ recB L[m] = recs (L.take (m + 1)) := (recs_take hk).symm
  have hlr := length_recB L[m]
  obtain ⟨l, cap, safe, left, down⟩ := s
  dsimp only at h1 h2 h3 h5 hfit
  subst h1 h2 h5
  have hl2 : (recs (L.take m)).length = l.length := by rw [h3]
  rw [← h3] at hr
  generalize recB L[m] = r at *
  have hf : ¬ 20000 < l.length + r.length := by omega
  by_cases h0 : left = 0
  · refine .inl ⟨by simp [RS.appendE, RS.step, h0, hf], ⟨?_, ?_, Nat.le_refl _, ?_, (fun h => by cases h), fun _ => ⟨by omega, ?_⟩⟩⟩
    all_goals simp [RS.append, RS.step, h0, hf, hl2, hr]
  · refine .inr ?_
    by_cases h1 : left = 1
    · refine .inl ⟨by simp [RS.appendE, RS.step, h0, hf], by simp [RS.append, RS.syncE, RS.step, h1, hf], ⟨?_, ?_, Nat.le_refl _, ?_, (fun h => by cases h), fun _ => ⟨by omega, ?_⟩⟩⟩
      all_goals simp [RS.append, RS.sync, RS.step, h1, hf, hl2, hr]
    · have h2 : ¬ (if 0 < left then left - 1 else left) = 0 := by split <;> omega
      refine .inr ⟨by simp [RS.appendE, RS.step, h0, hf], by simp [RS.append, RS.syncE, RS.step, h0, h2, hf], ⟨?_, ?_, Nat.le_refl _, ?_, fun _ => ⟨rfl, ?_⟩, (fun h => by cases h)⟩⟩
      all_goals simp [RS.append, RS.sync, RS.step, h0, h2, hf, hl2, hr]
theorem scan_whole {L : List (List UInt8)} (hp : ∀ p ∈ L, p.length ≤ 8388608) : scan (recs L) = (L, (recs L).length) := by
  have := scan_recs (ls := L) (post := []) hp (by rw [List.append_nil]; exact stepN_end _)
  rwa [List.append_nil] at this
theorem Dn.crash {L : List (List UInt8)} {k m : Nat} {s : RS} {d : Bool} (h : Dn L k s d m) (hk : k ≤ L.length) (hp : ∀ p ∈ L.take k, p.length ≤ 8388608) (keep : Int) (hwf : s.wf) :
    ∃ m', m' ≤ m ∧ m ≤ m' + 1 ∧ scan (s.crash keep []).l = (L.take m', (recs (L.take m')).length) ∧ (s.crash keep []).l.take (recs (L.take m')).length = recs (L.take m') ∧ (s.crash keep []).safe = (s.crash keep []).l.length ∧ (s.crash keep []).cap = 20000 := by
  obtain ⟨h1, h2, h3, h4, h5, h6⟩ := h
  have hq : ∀ p ∈ L.take m, p.length ≤ 8388608 := fun p hpm => hp p (by
    rw [show m = min m k by omega, ← List.take_take] at hpm
    exact List.mem_of_mem_take hpm)
  obtain ⟨w1, w2, _⟩ := hwf
  rw [RS.crash_nil]
  obtain ⟨n, hn⟩ : ∃ n, n = s.safe + s.kept keep := ⟨_, rfl⟩
  have hnl : n ≤ s.l.length := by rw [hn]; unfold RS.kept; omega
  have hns : s.safe ≤ n := by omega
  rw [← hn]
  dsimp only
  have hs : n = (s.l.take n).length := by rw [List.length_take]; omega
  by_cases hlt : n < s.l.length
  · obtain ⟨g1, g2⟩ : 1 ≤ m ∧ s.safe = (recs (L.take (m - 1))).length := by
      cases d
      · have := h5 rfl; omega
      · exact h6 rfl
    obtain ⟨m, rfl⟩ : ∃ m', m = m' + 1 := ⟨m - 1, by omega⟩
    rw [Nat.add_sub_cancel] at g2
    have hm : m < L.length := by omega
    have hr := recs_take hm
    have hlr := length_recB L[m]
    have ht : s.l.take n = recs (L.take m) ++ (recB L[m]).take (n - s.safe) := by
      rw [h4, hr, List.take_append, List.take_of_length_le (by omega), g2]
    have hlm : L[m].length ≤ 8388608 := hq _ (by rw [List.take_succ_eq_append_getElem hm]; exact List.mem_append.2 (.inr (List.mem_singleton.2 rfl)))
    have hj : n - s.safe < L[m].length + 8 := by
      rw [h4, hr, List.length_append, hlr, ← g2] at hlt; omega
    refine ⟨m, by omega, by omega, ?_, ?_, hs, h1⟩
    · rw [ht]
      refine scan_recs (fun p hpm => hq p ?_) (stepN_cut rfl hlm hj)
      rw [List.take_succ_eq_append_getElem hm]
      exact List.mem_append.2 (.inl hpm)
    · rw [ht, List.take_left]
  · have hn2 : s.l.take n = recs (L.take m) := by rw [List.take_of_length_le (by omega), h4]
    refine ⟨m, Nat.le_refl _, by omega, ?_, ?_, hs, h1⟩
    · rw [hn2]
      exact scan_whole hq
    · rw [hn2, List.take_length]
/-- Once more opened and crashed. -/
theorem crash_again {s : RS} {P : List (List UInt8)} (hP : ∀ p ∈ P, p.length ≤ 8388608) (hs : s.safe = s.l.length) (hc : scan s.l = (P, (recs P).length)) (ht : s.l.take (recs P).length = recs P) (again : Int) :
    ((s.arm again).openS.crash 0 []).openE = 0 ∧ ((s.arm again).openS.crash 0 []).openS = ⟨recs P, s.cap, (recs P).length, -1, false⟩ ∧ (scan ((s.arm again).openS.crash 0 []).l).1 = P := by
  obtain ⟨g1, g2, g3⟩ := RS.openS_any (s := s.arm again) hs
  rw [show (s.arm again).l = s.l from rfl, hc] at g1
  dsimp only at g1
  rw [ht] at g1
  rw [show (s.arm again).cap = s.cap from rfl] at g3
  generalize (s.arm again).openS = t at *
  have hk : t.kept 0 = 0 := by unfold RS.kept; omega
  have e : t.crash 0 [] = { t with left := -1, down := false } := by
    rw [RS.crash_nil, hk, Nat.add_zero, g2, List.take_length]
  have hsc : scan t.l = (P, (recs P).length) ∧ t.l.take (recs P).length = recs P := by
    rcases g1 with g1 | g1
    · rw [g1]; exact ⟨hc, ht⟩
    · rw [g1]; exact ⟨scan_whole hP, List.take_length⟩
  obtain ⟨f1, f2⟩ := RS.open_fine (s := t.crash 0 []) (by rw [e]) (by rw [e])
  refine ⟨f1, ?_, ?_⟩
  · rw [f2, e]
    dsimp only
    rw [hsc.1]
    dsimp only
    rw [hsc.2, g3]
  · rw [e]
    dsimp only
    rw [hsc.1]
end Go.Proofs.Ytpeegklnkecajaa
