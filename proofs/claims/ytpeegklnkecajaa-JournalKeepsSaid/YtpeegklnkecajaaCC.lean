/-
  What a journal keeps through crashes: plain. No condition.
-/
import Derived.Test.YtpeegklnkecajaaCB
namespace Go.Proofs.Ytpeegklnkecajaa
theorem garbled_take (l g : List UInt8) (m : Nat) : ∀ k, m + k ≤ l.length → (garbled l g k).take m = l.take m
  | 0, _ => rfl
  | k + 1, h => by
    rw [garbled_succ, List.take_set_of_le (by rw [length_garbled]; omega)]
    exact garbled_take l g m k (by omega)
/-- The records at the beginning are found, whatever stands behind them. -/
theorem scanP_pref : ∀ (ls : List (List UInt8)) (b pre post : List UInt8) (f : Nat), b = pre ++ (recs ls ++ post) → (∀ p ∈ ls, p.length ≤ 8388608) → b.length + 1 ≤ f + pre.length →
    ∃ Q, (scanP b f pre.length).1 = ls ++ Q
  | [], b, pre, post, f, hb, _, _ => ⟨_, (List.nil_append _).symm⟩
  | p :: ls, b, pre, post, f, hb, hp, hf => by
    have hlen : b.length = pre.length + ((recs (p :: ls)).length + post.length) := by rw [hb, List.length_append, List.length_append]
    rw [recs_cons, List.length_append, length_recB] at hlen
    obtain ⟨f', rfl⟩ : ∃ f', f = f' + 1 := ⟨f - 1, by omega⟩
    obtain ⟨h1, h2⟩ := step_rec (b := b) (pre := pre) (p := p) (post := recs ls ++ post) (by rw [hb, recs_cons, List.append_assoc]) (hp p (by simp))
    obtain ⟨Q, ih⟩ := scanP_pref ls b (pre ++ recB p) post f' (by rw [hb, recs_cons]; simp) (fun q hq => hp q (by simp [hq])) (by rw [List.length_append, length_recB]; omega)
    rw [List.length_append, length_recB] at ih
    refine ⟨Q, ?_⟩
    rw [scanP, h1]
    dsimp only
    rw [h2, show pre.length + 8 + p.length = pre.length + (p.length + 8) by omega, ih]
    rfl
theorem scan_pref {ls : List (List UInt8)} {post : List UInt8} (hp : ∀ p ∈ ls, p.length ≤ 8388608) : ∃ Q, (scan (recs ls ++ post)).1 = ls ++ Q :=
  scanP_pref ls (recs ls ++ post) [] post ((recs ls ++ post).length + 1) rfl hp (by simp)
/-- What is scanned are the records that stand there. -/
theorem scanP_take (b : List UInt8) : ∀ f e, e ≤ b.length → b.take (scanP b f e).2 = b.take e ++ recs (scanP b f e).1
  | 0, e, _ => by simp [scanP, recs]
  | f + 1, e, h => by
    rw [scanP]
    cases hs : stepN b e with
    | none => simp [recs]
    | some n =>
      obtain ⟨h1, h2, h3, h4⟩ := stepN_some hs
      have ih := scanP_take b f (e + 8 + n) (by omega)
      dsimp only
      rw [ih, recs_cons, (rec_iff h1 h2).2 h4, ← List.append_assoc, show e + 8 + n = e + (8 + n) by omega, List.take_add]
theorem scan_take (b : List UInt8) : b.take (scan b).2 = recs (scan b).1 := by
  have := scanP_take b (b.length + 1) 0 (by omega)
  rw [List.take_zero, List.nil_append] at this
  exact this
theorem cut_recs : ∀ (A : List (List UInt8)) (n : Nat), n ≤ (recs A).length → ∃ j, j ≤ A.length ∧ ∃ t, (recs A).take n = recs (A.take j) ++ t ∧ (t = [] ∨ ∃ p m, p ∈ A ∧ t = (recB p).take m ∧ m < p.length + 8)
  | [], n, _ => ⟨0, Nat.le_refl _, [], by simp [recs], .inl rfl⟩
  | p :: A, n, h => by
    rw [recs_cons, List.length_append, length_recB] at h
    by_cases hlt : n < p.length + 8
    · refine ⟨0, by omega, (recB p).take n, ?_, .inr ⟨p, n, by simp, rfl, hlt⟩⟩
      rw [recs_cons, List.take_append_of_le_length (by rw [length_recB]; omega)]
      simp [recs]
    · obtain ⟨j, h1, t, h2, h3⟩ := cut_recs A (n - (p.length + 8)) (by omega)
      refine ⟨j + 1, by simp; omega, t, ?_, ?_⟩
      · rw [recs_cons, List.take_append, List.take_of_length_le (by rw [length_recB]; omega), length_recB, h2, List.take_succ_cons, recs_cons, List.append_assoc]
      · rcases h3 with h3 | ⟨q, m, hq, h4⟩
        · exact .inl h3
        · exact .inr ⟨q, m, by simp [hq], h4⟩
theorem len_recs : ∀ A : List (List UInt8), A.length ≤ (recs A).length
  | [] => Nat.le_refl _
  | p :: A => by have := len_recs A; rw [recs_cons, List.length_append, length_recB, List.length_cons]; omega
theorem scan_cut {A : List (List UInt8)} (hp : ∀ p ∈ A, p.length ≤ 8388608) (n : Nat) (hn : n ≤ (recs A).length) : ∃ j, j ≤ A.length ∧ (scan ((recs A).take n)).1 = A.take j := by
  obtain ⟨j, h1, t, h2, h3⟩ := cut_recs A n hn
  refine ⟨j, h1, ?_⟩
  have hq : ∀ p ∈ A.take j, p.length ≤ 8388608 := fun p h => hp p (List.mem_of_mem_take h)
  rw [h2]
  rcases h3 with rfl | ⟨p, m, hpA, rfl, hm⟩
  · rw [List.append_nil, scan_whole hq]
  · rw [scan_recs hq (stepN_cut rfl (hp p hpA) hm)]
/-- Where a journal stands: all its records, so many of them safe. -/
structure Kp (cap : Nat) (s : RS) (A : List (List UInt8)) (n : Nat) : Prop where
  cap : s.cap = cap
  left : s.left = -1
  down : s.down = false
  l : s.l = recs A
  le : n ≤ A.length
  safe : s.safe = (recs (A.take n)).length
  small : ∀ p ∈ A, p.length ≤ 8388608
theorem Kp.append {cap n : Nat} {s : RS} {A : List (List UInt8)} {d : List UInt8} (h : Kp cap s A n) (hd : d.length ≤ 8388608) (hf : s.l.length + (d.length + 8) ≤ cap) : s.appendE (recB d) = 0 ∧ Kp cap (s.append (recB d)) (A ++ [d]) n := by
  obtain ⟨h1, h2⟩ := RS.append_off (b := recB d) h.left h.down (by rw [length_recB, h.cap]; exact hf)
  refine ⟨h1, ?_⟩
  rw [h2]
  refine ⟨h.cap, h.left, h.down, ?_, by have := h.le; simp; omega, ?_, fun p hp => ?_⟩
  · show s.l ++ recB d = _
    rw [recs_append, h.l]
    simp [recs]
  · show s.safe = _
    rw [List.take_append_of_le_length h.le]
    exact h.safe
  · rcases List.mem_append.1 hp with hp | hp
    · exact h.small p hp
    · rw [List.mem_singleton.1 hp]; exact hd
theorem Kp.appendN {cap n : Nat} {s : RS} {A : List (List UInt8)} {d : List UInt8} (h : Kp cap s A n) (hf : ¬ s.l.length + (d.length + 8) ≤ cap) : s.appendE (recB d) = 10 ∧ s.append (recB d) = s := by
  have h1 : ¬ s.down = true := by rw [h.down]; decide
  have h2 : s.cap < s.l.length + (recB d).length := by rw [length_recB, h.cap]; omega
  unfold RS.appendE RS.append
  rw [if_neg h1, if_neg h1, if_pos h2, if_pos h2]
  exact ⟨rfl, rfl⟩
theorem Kp.sync {cap n : Nat} {s : RS} {A : List (List UInt8)} (h : Kp cap s A n) : s.syncE = 0 ∧ Kp cap s.sync A A.length := by
  obtain ⟨h1, h2⟩ := RS.sync_off h.left h.down
  refine ⟨h1, ?_⟩
  rw [h2]
  exact ⟨h.cap, h.left, h.down, h.l, Nat.le_refl _, by show s.l.length = _; rw [List.take_length, h.l], h.small⟩
theorem Kp.crash {cap n : Nat} {s : RS} {A : List (List UInt8)} (h : Kp cap s A n) (hwf : s.wf) (keep : Int) (d : List UInt8) :
    (s.crash keep d).openE = 0 ∧ (s.crash keep d).openS.l.length = (scan (s.crash keep d).l).2 ∧ (s.crash keep d).openS.safe = (scan (s.crash keep d).l).2 ∧
    Kp cap (s.crash keep d).openS (scan (s.crash keep d).l).1 (scan (s.crash keep d).l).1.length ∧ n ≤ (scan (s.crash keep d).l).1.length ∧ (scan (s.crash keep d).l).1.take n = A.take n ∧
    (d = [] → (scan (s.crash keep d).l).1.length ≤ A.length ∧ (scan (s.crash keep d).l).1 = A.take (scan (s.crash keep d).l).1.length) := by
  obtain ⟨f1, f2⟩ := RS.open_fine (s := s.crash keep d) rfl rfl
  have hcp : (s.crash keep d).cap = cap := h.cap
  have hcl : (s.crash keep d).left = -1 := rfl
  have hcd : (s.crash keep d).down = false := rfl
  have hn := h.le
  obtain ⟨w1, w2, _⟩ := hwf
  have hkp : s.safe + s.kept keep ≤ s.l.length := by unfold RS.kept; omega
  have hl1 : (s.crash keep d).l = garbled (s.l.take (s.safe + s.kept keep)) d (min (s.kept keep) d.length) := rfl
  have hpre : ∃ post, (s.crash keep d).l = recs (A.take n) ++ post := by
    refine ⟨(s.crash keep d).l.drop s.safe, ?_⟩
    have : (s.crash keep d).l.take s.safe = recs (A.take n) := by
      rw [hl1, garbled_take _ _ _ _ (by rw [List.length_take]; omega), List.take_take, show min s.safe (s.safe + s.kept keep) = s.safe by omega, h.safe, h.l]
      have e : recs A = recs (A.take n) ++ recs (A.drop n) := by rw [← recs_append, List.take_append_drop]
      rw [e, List.take_left]
    rw [← this, List.take_append_drop]
  have hnil : d = [] → ∃ j, j ≤ A.length ∧ (scan (s.crash keep d).l).1 = A.take j := by
    rintro rfl
    have : (s.crash keep []).l = (recs A).take (s.safe + s.kept keep) := by rw [RS.crash_nil, ← h.l]
    rw [this]
    exact scan_cut h.small _ (by rw [← h.l]; exact hkp)
  obtain ⟨post, hpost⟩ := hpre
  have hq : ∀ p ∈ A.take n, p.length ≤ 8388608 := fun p hp => h.small p (List.mem_of_mem_take hp)
  obtain ⟨Q, hQ⟩ := scan_pref (post := post) hq
  rw [← hpost] at hQ
  obtain ⟨b1, b2, b3⟩ := scan_bd (s.crash keep d).l
  have ht := scan_take (s.crash keep d).l
  generalize s.crash keep d = t at *
  rw [f2]
  have htl : (t.l.take (scan t.l).2).length = (scan t.l).2 := by rw [List.length_take]; omega
  have hAn : (A.take n).length = n := by rw [List.length_take]; omega
  refine ⟨f1, htl, rfl, ⟨hcp, hcl, hcd, ht, Nat.le_refl _, ?_, fun p hp => (b2 p hp).2⟩, ?_, ?_, fun hd => ?_⟩
  · show (scan t.l).2 = _
    rw [List.take_length, ← ht, htl]
  · rw [hQ, List.length_append]; omega
  · rw [hQ, List.take_append_of_le_length (by omega), List.take_of_length_le (by omega)]
  · obtain ⟨j, h1, h2⟩ := hnil hd
    rw [h2, List.length_take, show min j A.length = j by omega]
    exact ⟨h1, rfl⟩
end Go.Proofs.Ytpeegklnkecajaa
