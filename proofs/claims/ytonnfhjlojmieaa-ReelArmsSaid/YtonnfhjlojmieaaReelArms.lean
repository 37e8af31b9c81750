/-
  ReelArms. No condition.
-/
import Derived.Test.YtonnfhjlojmieaaR2
import Derived.Test.YtonnfhjlojmieaaOpen
namespace Go.Proofs.Ytonnfhjlojmieaa.reelArms
open Go.RowKit
def ArmI (n : Int) (i : Nat) (s : RS) : Prop := s.cap = 1000 ∧ s.l.length ≤ i ∧ s.left = max (n - i) 0 ∧ s.down = decide (n < i)
theorem step_i {n : Int} {i : Nat} {s : RS} (h : ArmI n i s) : s.step.left = max (n - (i + 1 : Nat)) 0 ∧ s.step.down = decide (n < (i + 1 : Nat)) := by
  obtain ⟨_, _, h3, h4⟩ := h
  unfold RS.step
  dsimp only
  rw [h3, h4]
  refine ⟨by split <;> omega, ?_⟩
  rw [← Bool.decide_or]
  exact decide_eq_decide.2 (by omega)
theorem append_i {n : Int} {i : Nat} {s : RS} (h : ArmI n i s) (hi : i < 100) : ArmI n (i + 1) (s.append [1]) ∧ s.appendE [1] = if (i : Int) < n then 0 else 11 := by
  have hs := step_i h
  obtain ⟨h1, h2, h3, h4⟩ := id h
  unfold RS.append RS.appendE
  by_cases hd : s.down = true
  · rw [if_pos hd, if_pos hd, if_neg (by rw [h4] at hd; simp at hd; omega)]
    refine ⟨⟨h1, by omega, ?_, ?_⟩, rfl⟩
    · rw [h4] at hd; simp at hd; omega
    · rw [hd]; rw [h4] at hd; simp at hd; symm; exact decide_eq_true (by omega)
  · rw [if_neg hd, if_neg hd, if_neg (by simp; omega), if_neg (by simp; omega)]
    refine ⟨⟨h1, by show (s.l ++ [1]).length ≤ i + 1; simp; omega, hs.1, hs.2⟩, ?_⟩
    rw [hs.2]
    by_cases hin : (i : Int) < n
    · rw [if_pos hin, if_neg (by simp; omega)]
    · rw [if_neg hin, if_pos (by simp; omega)]
theorem sync_i {n : Int} {i : Nat} {s : RS} (h : ArmI n i s) : ArmI n (i + 1) s.sync ∧ s.syncE = if (i : Int) < n then 0 else 11 := by
  have hs := step_i h
  obtain ⟨h1, h2, h3, h4⟩ := id h
  unfold RS.sync RS.syncE
  by_cases hd : s.down = true
  · rw [if_pos hd, if_pos hd, if_neg (by rw [h4] at hd; simp at hd; omega)]
    refine ⟨⟨h1, by omega, ?_, ?_⟩, rfl⟩
    · rw [h4] at hd; simp at hd; omega
    · rw [hd]; rw [h4] at hd; simp at hd; symm; exact decide_eq_true (by omega)
  · rw [if_neg hd, if_neg hd]
    by_cases hin : (i : Int) < n
    · rw [if_pos hin, if_neg (by rw [hs.2]; simp; omega), if_neg (by rw [hs.2]; simp; omega)]
      exact ⟨⟨h1, by show s.l.length ≤ _; omega, hs.1, hs.2⟩, rfl⟩
    · rw [if_neg hin, if_pos (by rw [hs.2]; simp; omega), if_pos (by rw [hs.2]; simp; omega)]
      exact ⟨⟨h1, by show s.l.length ≤ _; omega, hs.1, hs.2⟩, rfl⟩
theorem cut_i {n : Int} {i : Nat} {s : RS} (h : ArmI n i s) : ArmI n (i + 1) (s.cut (s.l.length : Int)) ∧ s.cutE (s.l.length : Int) = if (i : Int) < n then 0 else 11 := by
  have hs := step_i h
  obtain ⟨h1, h2, h3, h4⟩ := id h
  unfold RS.cut RS.cutE
  by_cases hd : s.down = true
  · rw [if_pos hd, if_pos hd, if_neg (by rw [h4] at hd; simp at hd; omega)]
    refine ⟨⟨h1, by omega, ?_, ?_⟩, rfl⟩
    · rw [h4] at hd; simp at hd; omega
    · rw [hd]; rw [h4] at hd; simp at hd; symm; exact decide_eq_true (by omega)
  · have hc : ¬ ((s.l.length : Int) < 0 ∨ (s.l.length : Int) < (s.l.length : Int)) := by omega
    rw [if_neg hd, if_neg hd, if_neg hc, if_neg hc]
    by_cases hin : (i : Int) < n
    · rw [if_pos hin, if_neg (by rw [hs.2]; simp; omega), if_neg (by rw [hs.2]; simp; omega)]
      exact ⟨⟨h1, by show (s.l.take _).length ≤ _; simp; omega, hs.1, hs.2⟩, rfl⟩
    · rw [if_neg hin, if_pos (by rw [hs.2]; simp; omega), if_pos (by rw [hs.2]; simp; omega)]
      exact ⟨⟨h1, by show s.l.length ≤ _; omega, hs.1, hs.2⟩, rfl⟩
theorem rds_none {w0 : World} {B : Nat} {E : List Ent} : Rds w0 B E none (([] : List UInt8).map byteV) := ⟨(by rintro _ _ _ h; cases h), (fun _ => rfl), (by intro _ h; cases h)⟩
set_option maxHeartbeats 8000000 in
set_option maxRecDepth 100000 in
theorem law {w0 : World} {B : Nat} {H : List Ent} (hB : w0.heap.size ≤ B) (n : Int) (hn : -9223372036854775808 ≤ n ∧ n ≤ 9223372036854775807) {a : Option Addr} {len cap : Nat} {l : List Int} (hl : Sl intV w0 a len cap l) (hx : ∀ x ∈ l, -9223372036854775808 ≤ x ∧ x ≤ 9223372036854775807) :
    Fn Try.prog w0 B 6 [.int .i64 n, .slice a len cap] H (fun u _ => u = .bool true) := by
  have e1 := hl.size_eq
  refine fn_intro Try.func6 rfl (by kernel_rfl) rfl ?_
  by_cases h1 : n < 0
  · repeat (first | refine go_ ?_ | refine bx_ (fun _ => ?_) | refine hl_callv rfl rfl (anchor_fn) ?_)
    exact fin1B rfl rfl rfl
  by_cases h2 : 100 < len
  · repeat (first | refine go_ ?_ | refine bx_ (fun _ => ?_) | refine hl_callv rfl rfl (anchor_fn) ?_)
    exact fin1B rfl rfl rfl
  repeat (first | refine go_ ?_ | refine bx_ (fun _ => ?_) | refine hl_callv rfl rfl (anchor_fn) ?_)
  refine hl_call rfl rfl (new_r 1000 (by decide)) (fun v H' hv => ?_)
  obtain ⟨g, X, rfl, rfl, h⟩ := hv
  repeat (first | refine go_ ?_ | refine bx_ (fun _ => ?_))
  refine hl_call rfl rfl (arm_r h n hn) (fun v H' hv => ?_)
  obtain ⟨X, rfl, h⟩ := hv
  repeat (first | refine go_ ?_ | refine bx_ (fun _ => ?_))
  have h0 : ArmI n 0 (RS.arm ⟨[], 1000, 0, -1, false⟩ n) := by
    refine ⟨rfl, Nat.le_refl _, ?_, ?_⟩
    · unfold RS.arm; dsimp only; omega
    · unfold RS.arm; dsimp only; symm; exact decide_eq_false (by omega)
  refine hc_loopd (fun m fr M => ∃ i s X, i + m = len ∧ ArmI n i s ∧ Agr fr [(0, .int .i64 n), (1, .slice a len cap), (5, .pointer (some ⟨g, 0, none⟩)), (26, .slice a len cap), (27, .int .i64 (len : Int)), (28, .int .i64 (i : Int))] ∧ M = X ++ H ∧ Rl g s X) len ?_ ?_
  · exact ⟨0, _, X, by omega, h0, ⟨rfl, rfl, rfl, rfl, rfl, rfl, trivial⟩, rfl, h⟩
  clear h0 h X
  rintro m fr M ⟨i, s, X, him, hI, hf, rfl, h⟩
  obtain ⟨base, rfl⟩ := hf.out
  by_cases hlt : i < len
  · obtain ⟨bb, off, rfl, hc⟩ := Sl.prm (fun _ => rfl) hB hl (by omega)
    have hxb := hx (l.getD i 0) (by rw [List.getD_eq_getElem?_getD, List.getElem?_eq_getElem (by omega)]; exact List.getElem_mem _)
    by_cases hc0 : (l.getD i 0).tmod 3 = 0
    · have ha := append_i hI (by omega)
      obtain ⟨hI', he⟩ := ha
      repeat (first | refine go_ ?_ | refine bx_ (fun _ => ?_))
      rename_i gl
      refine HL.perm ?_ List.perm_middle.symm
      refine hl_call rfl rfl (append_r h (b := [1]) rfl (by decide) ((Rds.ent (c := ⟨Try.prog, 0, w0, B⟩) (n := 1) .here rfl (by simp [Value.oneCell', byteV])).perm List.perm_middle)) (fun v H' hv => ?_)
      obtain ⟨rfl, X', rfl, h'⟩ := hv
      refine HL.imp ?_ (Imp.perm List.perm_middle (Imp.drop (Imp.refl _)))
      rw [he]
      by_cases hin : (i : Int) < n
      · rw [if_pos hin]
        have hd : (s.append [1]).down = false := by rw [hI'.2.2.2]; exact decide_eq_false (by omega)
        have hq : ∀ {R}, Fn Try.prog w0 B 20 [.pointer (some ⟨g, 0, none⟩)] (X' ++ R) (fun v H' => v = .bool false ∧ H' = X' ++ R) := fun {R} => hd ▸ down_r (R := R) h'
        repeat (first | refine go_ ?_ | refine bx_ (fun _ => ?_) | refine hl_callv rfl rfl (hq) ?_)
        exact ⟨m - 1, by omega, X' ++ H, Imp.refl _, i + 1, _, X', by omega, hI', ⟨rfl, rfl, rfl, rfl, rfl, rfl, trivial⟩, rfl, h'⟩
      · rw [if_neg hin]
        have hd : (s.append [1]).down = true := by rw [hI'.2.2.2]; exact decide_eq_true (by omega)
        have hq : ∀ {R}, Fn Try.prog w0 B 20 [.pointer (some ⟨g, 0, none⟩)] (X' ++ R) (fun v H' => v = .bool true ∧ H' = X' ++ R) := fun {R} => hd ▸ down_r (R := R) h'
        repeat (first | refine go_ ?_ | refine bx_ (fun _ => ?_) | refine hl_callv rfl rfl (hq) ?_)
        exact ⟨m - 1, by omega, X' ++ H, Imp.refl _, i + 1, _, X', by omega, hI', ⟨rfl, rfl, rfl, rfl, rfl, rfl, trivial⟩, rfl, h'⟩
    by_cases hc1 : (l.getD i 0).tmod 3 = 1
    · have ha := sync_i hI
      obtain ⟨hI', he⟩ := ha
      repeat (first | refine go_ ?_ | refine bx_ (fun _ => ?_))
      refine hl_call rfl rfl (sync_r h) (fun v H' hv => ?_)
      obtain ⟨rfl, X', rfl, h'⟩ := hv
      rw [he]
      by_cases hin : (i : Int) < n
      · rw [if_pos hin]
        have hd : s.sync.down = false := by rw [hI'.2.2.2]; exact decide_eq_false (by omega)
        have hq : ∀ {R}, Fn Try.prog w0 B 20 [.pointer (some ⟨g, 0, none⟩)] (X' ++ R) (fun v H' => v = .bool false ∧ H' = X' ++ R) := fun {R} => hd ▸ down_r (R := R) h'
        repeat (first | refine go_ ?_ | refine bx_ (fun _ => ?_) | refine hl_callv rfl rfl (hq) ?_)
        exact ⟨m - 1, by omega, X' ++ H, Imp.refl _, i + 1, _, X', by omega, hI', ⟨rfl, rfl, rfl, rfl, rfl, rfl, trivial⟩, rfl, h'⟩
      · rw [if_neg hin]
        have hd : s.sync.down = true := by rw [hI'.2.2.2]; exact decide_eq_true (by omega)
        have hq : ∀ {R}, Fn Try.prog w0 B 20 [.pointer (some ⟨g, 0, none⟩)] (X' ++ R) (fun v H' => v = .bool true ∧ H' = X' ++ R) := fun {R} => hd ▸ down_r (R := R) h'
        repeat (first | refine go_ ?_ | refine bx_ (fun _ => ?_) | refine hl_callv rfl rfl (hq) ?_)
        exact ⟨m - 1, by omega, X' ++ H, Imp.refl _, i + 1, _, X', by omega, hI', ⟨rfl, rfl, rfl, rfl, rfl, rfl, trivial⟩, rfl, h'⟩
    · have ha := cut_i hI
      obtain ⟨hI', he⟩ := ha
      have hw := h.1
      obtain ⟨hw1, hw2, hw3, _⟩ := hw
      repeat (first | refine go_ ?_ | refine bx_ (fun _ => ?_) | refine hl_callv rfl rfl (size_r h) ?_)
      refine hl_call rfl rfl (cut_r h _ (by omega)) (fun v H' hv => ?_)
      obtain ⟨rfl, X', rfl, h'⟩ := hv
      rw [he]
      by_cases hin : (i : Int) < n
      · rw [if_pos hin]
        have hd : (s.cut (s.l.length : Int)).down = false := by rw [hI'.2.2.2]; exact decide_eq_false (by omega)
        have hq : ∀ {R}, Fn Try.prog w0 B 20 [.pointer (some ⟨g, 0, none⟩)] (X' ++ R) (fun v H' => v = .bool false ∧ H' = X' ++ R) := fun {R} => hd ▸ down_r (R := R) h'
        repeat (first | refine go_ ?_ | refine bx_ (fun _ => ?_) | refine hl_callv rfl rfl (hq) ?_)
        exact ⟨m - 1, by omega, X' ++ H, Imp.refl _, i + 1, _, X', by omega, hI', ⟨rfl, rfl, rfl, rfl, rfl, rfl, trivial⟩, rfl, h'⟩
      · rw [if_neg hin]
        have hd : (s.cut (s.l.length : Int)).down = true := by rw [hI'.2.2.2]; exact decide_eq_true (by omega)
        have hq : ∀ {R}, Fn Try.prog w0 B 20 [.pointer (some ⟨g, 0, none⟩)] (X' ++ R) (fun v H' => v = .bool true ∧ H' = X' ++ R) := fun {R} => hd ▸ down_r (R := R) h'
        repeat (first | refine go_ ?_ | refine bx_ (fun _ => ?_) | refine hl_callv rfl rfl (hq) ?_)
        exact ⟨m - 1, by omega, X' ++ H, Imp.refl _, i + 1, _, X', by omega, hI', ⟨rfl, rfl, rfl, rfl, rfl, rfl, trivial⟩, rfl, h'⟩
  · obtain rfl : i = len := by omega
    have hw := h.1
    obtain ⟨hw1, hw2, hw3, hw4, hw5⟩ := hw
    obtain ⟨q1, q2, q3, q4⟩ := hI
    by_cases hin : n < (i : Int)
    · have hd : s.down = true := by rw [q4]; exact decide_eq_true hin
      have hrd : Fn Try.prog w0 B 15 [.pointer (some ⟨g, 0, none⟩), .int .i64 0, .int .i64 0] (X ++ H) (fun v H' => v = .tuple #[.slice none 0 0, .int .i64 11] ∧ H' = X ++ H) := by
        have := read_n (w0 := w0) (B := B) (R := H) h 0 0 (by decide) (by decide) (.inl hd)
        rwa [if_pos hd] at this
      repeat (first | refine go_ ?_ | refine bx_ (fun _ => ?_) | refine hl_callv rfl rfl (hrd) ?_)
      refine hl_call rfl rfl (crash_r h 1000 (by decide) (b := []) rfl (by decide) (.inl rfl)) (fun v H' hv => ?_)
      obtain ⟨Y, hi, hy⟩ := hv
      refine HL.imp ?_ hi
      unfold RS.crash at hy
      obtain ⟨L, hL⟩ : ∃ L, L = garbled (s.l.take (s.safe + s.kept 1000)) [] (min (s.kept 1000) ([] : List UInt8).length) := ⟨_, rfl⟩
      rw [← hL] at hy
      have hwy := hy.1
      obtain ⟨y1, y2, y3, _⟩ := hwy
      dsimp only at y1 y2 y3
      have hq : Fn Try.prog w0 B 20 [.pointer (some ⟨g, 0, none⟩)] (Y ++ H) (fun v H' => v = .bool false ∧ H' = Y ++ H) := down_r hy
      repeat (first | refine go_ ?_ | refine bx_ (fun _ => ?_) | refine hl_callv rfl rfl (hq) ?_)
      refine hl_call rfl rfl (append_o hy rfl (by decide) rds_none (by simpa using y2)) (fun v H' hv => ?_)
      obtain ⟨rfl, Y, rfl, hy⟩ := hv
      repeat (first | refine go_ ?_ | refine bx_ (fun _ => ?_))
      refine hl_call rfl rfl (sync_o hy) (fun v H' hv => ?_)
      obtain ⟨rfl, Y, rfl, hy⟩ := hv
      repeat (first | refine go_ ?_ | refine bx_ (fun _ => ?_) | refine hl_callv rfl rfl (safe_q hy (n := (L ++ []).length) rfl) ?_ | refine hl_callv rfl rfl (size_q hy (n := (L ++ []).length) rfl) ?_)
      exact fin1B rfl rfl rfl
    · repeat (first | refine go_ ?_ | refine bx_ (fun _ => ?_))
      refine hl_call rfl rfl (crash_r h 1000 (by decide) (b := []) rfl (by decide) (.inl rfl)) (fun v H' hv => ?_)
      obtain ⟨Y, hi, hy⟩ := hv
      refine HL.imp ?_ hi
      unfold RS.crash at hy
      obtain ⟨L, hL⟩ : ∃ L, L = garbled (s.l.take (s.safe + s.kept 1000)) [] (min (s.kept 1000) ([] : List UInt8).length) := ⟨_, rfl⟩
      rw [← hL] at hy
      have hwy := hy.1
      obtain ⟨y1, y2, y3, _⟩ := hwy
      dsimp only at y1 y2 y3
      have hq : Fn Try.prog w0 B 20 [.pointer (some ⟨g, 0, none⟩)] (Y ++ H) (fun v H' => v = .bool false ∧ H' = Y ++ H) := down_r hy
      repeat (first | refine go_ ?_ | refine bx_ (fun _ => ?_) | refine hl_callv rfl rfl (hq) ?_)
      refine hl_call rfl rfl (append_o hy rfl (by decide) rds_none (by simpa using y2)) (fun v H' hv => ?_)
      obtain ⟨rfl, Y, rfl, hy⟩ := hv
      repeat (first | refine go_ ?_ | refine bx_ (fun _ => ?_))
      refine hl_call rfl rfl (sync_o hy) (fun v H' hv => ?_)
      obtain ⟨rfl, Y, rfl, hy⟩ := hv
      repeat (first | refine go_ ?_ | refine bx_ (fun _ => ?_) | refine hl_callv rfl rfl (safe_q hy (n := (L ++ []).length) rfl) ?_ | refine hl_callv rfl rfl (size_q hy (n := (L ++ []).length) rfl) ?_)
      exact fin1B rfl rfl rfl
theorem walk (n : Int) (a : Option Addr) (len cap : Nat) (l : List Int) (w : World) (hn : -9223372036854775808 ≤ n ∧ n ≤ 9223372036854775807) (hl : Sl intV w a len cap l) (hx : ∀ x ∈ l, -9223372036854775808 ≤ x ∧ x ≤ 9223372036854775807) :
    Calls Try.prog 6 #[.int .i64 n, .slice a len cap] w fun e w' => e = .returned (.bool true) ∧ Below w.heap.size w w' :=
  calls_of_fn (law (Nat.le_refl _) n hn hl hx) fun _ _ h => h

/-! The step to the statement (written by program). -/
open Go.ChangeShapes Go.WideShapes Go.ChangeAt
set_option maxRecDepth 100000 in
theorem lifted (os : Os) (started : os.Started) (H : Type) (enc : TypeId × Value → H) :
    ReturnsInHanded {} Try.checked os 6 .any (Rows.reelArmsSpec.pre6 enc Try.prog Try.f6 Rows.reelArmsRow.domain false) (Rows.reelArmsSpec.post enc Try.prog Try.f6 false true false false) := by
  refine returnsInHanded_of_change (C := Try.checked) own started (by kernel_rfl) Try.func6
    (ChangeSpec.witness6 (enc := enc) (C := Try.checked) false ⟨#[], #[.int .i64 0, .slice none 0 0], []⟩ 8 (by kernel_rfl) (by kernel_rfl) (by kernel_rfl) (by kernel_rfl)) ?_
  intro W base args ds gs before hval0 hW hcnd _
  have hval : ∀ (j : Nat) t v, Try.f6.params[j]? = some t → args[j]? = some v → Value.okWide Try.prog W .any base t v := hval0
  have hW' := hW
  obtain ⟨p, q, hA0, hV, rfl, hfz, hnd⟩ := hW
  have hA : DataW.TrodAll enc Try.prog W 0 (fun _ => true) true Try.f6.params.toList args.toList ds p := hA0
  rw [Try.params6] at hA hval
  obtain ⟨v0, vs0, d0, ds0, p0, q0, hargs, rfl, rfl, h0, r0⟩ := trodAll_cons hA
  obtain ⟨v1, vs1, d1, ds1, p1, q1, rfl, rfl, rfl, h1, r1⟩ := trodAll_cons r0
  obtain ⟨rfl, rfl, rfl⟩ := trodAll_nil r1
  obtain rfl : args = #[v0, v1] := by cases args; simp_all
  obtain ⟨rfl, rfl⟩ := trodVars_none hV
  have k0 := h0
  have lt0 : ∀ x ∈ p0, x.block < W.heap.size := by obtain ⟨m, hm⟩ := k0; exact DataW.trod_lt m _ _ _ hm
  obtain ⟨a0, rfl, _, _, w0⟩ := open_int Try.underlying3 (hval 0 3 v0 rfl rfl) h0
  have w0 := wf_i64 w0
  have k1 := h1
  have lt1 : ∀ x ∈ p1, x.block < W.heap.size := by obtain ⟨m, hm⟩ := k1; exact DataW.trod_lt m _ _ _ hm
  obtain ⟨a1, len1, cap1, e1⟩ := okWide_slice Try.underlying39 (hval 1 39 v1 rfl rfl)
  obtain ⟨l1, w1, b1⟩ := open_nums Try.underlying39 Try.underlying3 (by kernel_rfl) e1 k1
  subst e1
  clear hA0 hval0
  refine (walk a0 a1 len1 cap1 l1 W w0 w1 b1).mono fun e W' ⟨he, bel⟩ => ?_
  subst he
  exact ⟨_, rfl, _, _, _, [], _, [], hW', trodAll_mk1 (shut_bool Try.underlying4 _), (trodAll_cons_mk (Below.trod laidOut (by kernel_rfl) (of_decide_eq_true (by kernel_rfl)) k0 bel lt0) (trodAll_cons_mk (Below.trod laidOut (by kernel_rfl) (of_decide_eq_true (by kernel_rfl)) k1 bel lt1) trodAll_mk0)), rfl, bel.frame _, fun h => by cases h⟩

theorem over : Rows.reelArmsRow.holds Try.pinned (OpenSpec.ofChange Rows.reelArmsSpec) :=
  OpenClaim.holds_of_wide 6 Try.f6 rfl rfl rfl rfl rfl rfl rfl ⟨rfl, rfl, rfl, rfl, rfl⟩ rfl rfl rfl rfl rfl (by kernel_rfl) Try.func6 (by kernel_rfl)
    (of_decide_eq_true (by kernel_rfl)) (by unfold Func.isWrapper; first | (rw [if_pos (by decide +kernel)]; kernel_rfl) | (rw [if_neg (by decide +kernel)]; exact ⟨rfl, rfl⟩))
    (fun os started H enc _ => lifted os started H enc)

/-- The statement. -/
theorem proved : Rows.ReelArmsSaid := over
#print axioms proved
end Go.Proofs.Ytonnfhjlojmieaa.reelArms
