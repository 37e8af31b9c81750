/-
  JournalDown. No condition.
-/
import Derived.Test.YtpeegklnkecajaaCB
import Derived.Test.YtpeegklnkecajaaOpen
namespace Go.Proofs.Ytpeegklnkecajaa.journalDown
open Go.RowKit
section
variable {w0 : World} {B : Nat} {H R : List Ent} {gj gr : Nat} {s : RS} {X : List Ent}
theorem Dn.mono {L : List (List UInt8)} {k m : Nat} (h : Dn L k s true m) : Dn L (k + 1) s true m :=
  ⟨h.cap, h.down, Nat.le_succ_of_le h.le, h.l, fun h => (by cases h), h.dn⟩
/-- A round's two calls, the reel not down. -/
theorem pair_fn {L : List (List UInt8)} {k m : Nat} (hD : Dn L k s false m) (hk : k < L.length) (hfit : s.l.length + (L[k].length + 8) ≤ 20000) (hX : Rl gr s X) {a : Option Addr} {len cap : Nat} (hp : BytR w0 B (X ++ (Jn gj gr false :: R)) a len cap L[k]) :
    ∃ (e f : Int) (d : Bool) (s1 : RS) (b1 : Bool) (s2 : RS), ((e = 11 ∧ f = 60 ∧ d = true) ∨ (e = 0 ∧ f = 11 ∧ d = true) ∨ (e = 0 ∧ f = 0 ∧ d = false)) ∧ Dn L (k + 1) s2 d (k + 1) ∧
      Fn Try.prog w0 B 19 [.pointer (some ⟨gj, 0, none⟩), .slice a len cap] (X ++ (Jn gj gr false :: R)) (fun v H' => v = .int .i64 e ∧ ∃ X', H' = X' ++ (Jn gj gr b1 :: R) ∧ Rl gr s1 X') ∧
      ∀ X', Rl gr s1 X' → Fn Try.prog w0 B 20 [.pointer (some ⟨gj, 0, none⟩)] (X' ++ (Jn gj gr b1 :: R)) (fun v H' => v = .int .i64 f ∧ ∃ X'', H' = X'' ++ (Jn gj gr d :: R) ∧ Rl gr s2 X'') := by
  have hl := hp.eq
  have A : Fn Try.prog w0 B 19 [.pointer (some ⟨gj, 0, none⟩), .slice a len cap] (X ++ (Jn gj gr false :: R)) (fun v H' => v = .int .i64 (s.appendE (recB L[k])) ∧ ∃ X', H' = X' ++ (Jn gj gr (decide (s.appendE (recB L[k]) = 11)) :: R) ∧ Rl gr (s.append (recB L[k])) X') := jappend_fn hX hp (by omega)
  rcases hD.go hk hfit with ⟨he, h2⟩ | ⟨he, hf, h2⟩ | ⟨he, hf, h2⟩
  · rw [he] at A
    exact ⟨11, 60, true, _, true, _, .inl ⟨rfl, rfl, rfl⟩, h2, A, fun X' hX' => jsync_fn hX'⟩
  · rw [he] at A
    refine ⟨0, 11, true, _, false, _, .inr (.inl ⟨rfl, rfl, rfl⟩), h2, A, fun X' hX' => ?_⟩
    have S : Fn Try.prog w0 B 20 [.pointer (some ⟨gj, 0, none⟩)] (X' ++ (Jn gj gr false :: R)) (fun v H' => v = .int .i64 ((s.append (recB L[k])).syncE) ∧ ∃ X'', H' = X'' ++ (Jn gj gr (decide ((s.append (recB L[k])).syncE = 11)) :: R) ∧ Rl gr (s.append (recB L[k])).sync X'') := jsync_fn hX'
    rw [hf] at S
    exact S
  · rw [he] at A
    refine ⟨0, 0, false, _, false, _, .inr (.inr ⟨rfl, rfl, rfl⟩), h2, A, fun X' hX' => ?_⟩
    have S : Fn Try.prog w0 B 20 [.pointer (some ⟨gj, 0, none⟩)] (X' ++ (Jn gj gr false :: R)) (fun v H' => v = .int .i64 ((s.append (recB L[k])).syncE) ∧ ∃ X'', H' = X'' ++ (Jn gj gr (decide ((s.append (recB L[k])).syncE = 11)) :: R) ∧ Rl gr (s.append (recB L[k])).sync X'') := jsync_fn hX'
    rw [hf] at S
    exact S
/-- Opened, whatever comes of it. -/
theorem open_any (h : Rl gr s X) : Fn Try.prog w0 B 17 [.pointer (some ⟨gr, 0, none⟩)] (X ++ R) (fun _ H' => ∃ X', Imp H' (X' ++ R) ∧ Rl gr s.openS X') :=
  Fn.mono (open_fn h) fun v H' hv => by
    rcases hv with ⟨_, _, X', rfl, hX⟩ | ⟨_, gj, sv, ps, Xo, Zc, X', _, rfl, _, _, hX⟩
    · exact ⟨X', Imp.refl _, hX⟩
    · exact ⟨X', Imp.sub (List.Sublist.append (List.Sublist.refl _) (((List.sublist_append_right _ _).trans (List.sublist_append_right _ _)).trans (List.sublist_cons_self _ _))), hX⟩
/-- Opened; nothing goes down. -/
theorem open_ok (h : Rl gr s X) (he : s.openE = 0) : Fn Try.prog w0 B 17 [.pointer (some ⟨gr, 0, none⟩)] (X ++ R) (fun v H' => ∃ gj sv ps Xo Zc X', v = .tuple #[.pointer (some ⟨gj, 0, none⟩), sv, .int .i64 0] ∧ H' = X' ++ (Jn gj gr false :: (Xo ++ (Zc ++ R))) ∧ ps.map Part.bs = (scan s.l).1 ∧ PMade w0 B sv ps Xo Zc ∧ Rl gr s.openS X') :=
  Fn.mono (open_fn h) fun v H' hv => by
    rcases hv with ⟨h0, _⟩ | ⟨_, h⟩
    · exact absurd he h0
    · exact h
end
theorem swap1 (Xa X : List Ent) (e : Ent) (H : List Ent) : (Xa ++ (X ++ (e :: H))).Perm (X ++ (e :: (Xa ++ H))) := by simpa [List.append_assoc] using app_swap Xa (X ++ [e]) H
theorem scan_nil : scan [] = ([], 0) := scan_whole (L := []) (by simp)
set_option maxHeartbeats 16000000 in
set_option maxRecDepth 100000 in
theorem law {w0 : World} {B : Nat} {H : List Ent} {a : Option Addr} {len cap : Nat} {ps : List Part} (hp : ∀ E, PartsR w0 B E a len ps) (hcap : len ≤ cap) (hcs : cap ≤ 9223372036854775807) (arm keep again : Int) (harm : -9223372036854775808 ≤ arm ∧ arm ≤ 9223372036854775807) (hkeep : -9223372036854775808 ≤ keep ∧ keep ≤ 9223372036854775807) (hag : -9223372036854775808 ≤ again ∧ again ≤ 9223372036854775807) :
    Fn Try.prog w0 B 6 [.slice a len cap, .int .i64 arm, .int .i64 keep, .int .i64 again] H (fun u _ => u = .bool true) := by
  have he := (hp H).eq
  obtain ⟨L, hL⟩ : ∃ L, L = ps.map Part.bs := ⟨_, rfl⟩
  have hLl : L.length = len := by rw [hL, List.length_map, he]
  refine fn_intro Try.func6 rfl (by kernel_rfl) rfl ?_
  by_cases h1 : 20 < len
  · repeat (first | refine go_ ?_ | refine bx_ (fun _ => ?_) | refine hl_callv rfl rfl (anchor_fn) ?_)
    exact fin1B rfl rfl rfl
  by_cases h2 : arm < 0
  · repeat (first | refine go_ ?_ | refine bx_ (fun _ => ?_) | refine hl_callv rfl rfl (anchor_fn) ?_)
    exact fin1B rfl rfl rfl
  repeat (first | refine go_ ?_ | refine bx_ (fun _ => ?_) | refine hl_callv rfl rfl (anchor_fn) ?_)
  refine hl_call rfl rfl (new_r 20000 (by decide)) (fun v M o => ?_)
  obtain ⟨gr, X0, rfl, rfl, hr0⟩ := o
  repeat (first | refine go_ ?_ | refine bx_ (fun _ => ?_))
  obtain ⟨g1, g2⟩ := RS.open_fine (s := ⟨[], 20000, 0, -1, false⟩) rfl rfl
  refine hl_call rfl rfl (open_ok hr0 g1) (fun v M o => ?_)
  obtain ⟨gj, sv0, ps0, Xo0, Zc0, X1, rfl, rfl, _, hpm0, hr1⟩ := o
  rw [g2, scan_nil] at hr1
  obtain ⟨a0, c0, rfl, _, _⟩ := hpm0.read
  refine HL.imp ?_ (show Imp _ (X1 ++ (Jn gj gr false :: H)) from Imp.sub (List.Sublist.append (List.Sublist.refl _) (((List.sublist_append_right _ _).trans (List.sublist_append_right _ _)).cons_cons _)))
  repeat (first | refine go_ ?_ | refine bx_ (fun _ => ?_))
  refine hl_call rfl rfl (arm_r hr1 arm harm) (fun v M o => ?_)
  obtain ⟨X2, rfl, hr2⟩ := o
  repeat (first | refine go_ ?_ | refine bx_ (fun _ => ?_))
  refine hc_loopd (fun q fr M => ∃ k m s d v Xa X, k + q = len ∧ Dn L k s d m ∧ (∀ p ∈ L.take k, p.length ≤ 300) ∧ (∀ F, Own 22 1 v m ((ps.take m).map partV) F (Xa ++ F)) ∧ Rl gr s X ∧ Imp M (X ++ (Jn gj gr d :: (Xa ++ H))) ∧
    Agr fr [(0, .slice a len cap), (2, .int .i64 keep), (3, .int .i64 again), (9, .pointer (some ⟨gr, 0, none⟩)), (10, .pointer (some ⟨gj, 0, none⟩)), (13, .bool d), (14, v), (47, .slice a len cap), (48, .int .i64 (len : Int)), (49, .int .i64 (k : Int))]) len ?_ ?_
  · exact ⟨0, 0, _, false, _, [], X2, by omega, ⟨rfl, rfl, Nat.le_refl _, rfl, fun _ => ⟨rfl, rfl⟩, fun h => (by cases h)⟩, fun p hp => by simp at hp, fun F => Own.nil, hr2, Imp.refl _, rfl, rfl, rfl, rfl, rfl, rfl, rfl, rfl, rfl, rfl, trivial⟩
  rintro q fr M ⟨k, m, s, d, v, Xa, X, hk, hD, hsm, ho, hX, hi, hf⟩
  obtain ⟨base, rfl⟩ := hf.out
  clear hf
  refine HC.imp ?_ hi
  obtain ⟨a3, c3, rfl, hc3, hc4⟩ := (ho []).form
  have hmk := hD.le
  by_cases hlt : k < len
  · obtain ⟨bb, off, rfl⟩ := (hp H).pos (by omega)
    obtain ⟨p, hkl, hpe, hcell, hok⟩ := (hp (X ++ (Jn gj gr d :: (Xa ++ H)))).at hlt
    have hkL : k < L.length := by omega
    have hLk : L[k] = p.bs := by subst hL; rw [hpe]; simp
    have hpl := hok.eq
    by_cases hbig : 300 < p.len
    · repeat (first | refine hl_loadRd rfl (hp _).rd (Imp.refl _) hcell rfl ?_ | refine go1_ ?_ | refine bx_ (fun _ => ?_))
      exact fin1B rfl rfl rfl
    have hsm' : ∀ p ∈ L.take (k + 1), p.length ≤ 300 := by
      rw [List.take_succ_eq_append_getElem hkL]
      intro x hx
      rcases List.mem_append.1 hx with hx | hx
      · exact hsm x hx
      · simp only [List.mem_singleton] at hx
        rw [hx, hLk]; omega
    cases d
    · obtain ⟨rfl, _⟩ := hD.up rfl
      have hll : s.l.length ≤ 308 * m := by
        rw [hD.l]
        have := length_recs hsm
        rw [List.length_take] at this
        have h3 : 308 * (min m L.length) ≤ 308 * m := Nat.mul_le_mul_left _ (Nat.min_le_left _ _)
        omega
      rw [← hLk] at hok
      obtain ⟨e, f, d', s1, b1, s2, hv, hD2, A, S⟩ := pair_fn hD hkL (by rw [hLk, hpl]; omega) hX hok
      repeat (first | refine hl_loadRd rfl (hp _).rd (Imp.refl _) hcell rfl ?_ | refine go1_ ?_ | refine bx_ (fun _ => ?_))
      refine hl_call rfl rfl A (fun v M1 o => ?_)
      obtain ⟨rfl, X1, rfl, hX1⟩ := o
      repeat (first | refine go_ ?_ | refine bx_ (fun _ => ?_))
      refine hl_call rfl rfl (S X1 hX1) (fun v M1 o => ?_)
      obtain ⟨rfl, X4, rfl, hX4⟩ := o
      refine HL.perm ?_ (show (X4 ++ (Jn gj gr d' :: (Xa ++ H))).Perm (Xa ++ (X4 ++ (Jn gj gr d' :: H))) by simpa [List.append_assoc] using app_swap (X4 ++ [Jn gj gr d']) Xa H)
      have hst : (ps.take (m + 1)).map partV = (ps.take m).map partV ++ [.slice p.a p.len p.cap] := by
        rw [List.take_succ_eq_append_getElem hkl, List.map_append, ← hpe]
        rfl
      rcases hv with ⟨rfl, rfl, rfl⟩ | ⟨rfl, rfl, rfl⟩ | ⟨rfl, rfl, rfl⟩
      all_goals
        repeat (first | refine go_ ?_ | refine bx_ (fun _ => ?_))
        rename_i gb
        refine hl_append_own rfl rfl ((ho _).under ⟨gb, 22, [.slice p.a p.len p.cap], 1 * 1⟩) (Rds.ent (n := 1) (l := [.slice p.a p.len p.cap]) .here rfl (by simp [Value.oneCell'])) rfl rfl (by decide) (by omega) (by omega) rfl (fun v6 M6 o6 => ?_)
        obtain ⟨a6, c6, rfl, _, _⟩ := o6.form
        rw [← hst] at o6
        obtain ⟨Xa2, hp6, ho6⟩ := o6.permE
        repeat (first | refine go_ ?_ | refine bx_ (fun _ => ?_))
        refine ⟨q - 1, by omega, _, Imp.refl _, m + 1, m + 1, s2, _, _, Xa2, X4, by omega, hD2, hsm', ho6, hX4, ?_, rfl, rfl, rfl, rfl, rfl, rfl, rfl, rfl, rfl, rfl, trivial⟩
        exact Imp.perm (hp6.trans ((List.Perm.append (List.Perm.refl Xa2) (List.Perm.refl _)))) (Imp.trans (Imp.sub (List.Sublist.append (List.Sublist.refl Xa2) (List.sublist_cons_self _ _))) (Imp.perm (swap1 Xa2 X4 _ H) (Imp.refl _)))
    · have A := jappend_fn hX hok (by omega)
      have S := jsync_fn (w0 := w0) (B := B) (gj := gj) (br := true) (R := Xa ++ H) hX
      repeat (first | refine hl_loadRd rfl (hp _).rd (Imp.refl _) hcell rfl ?_ | refine go1_ ?_ | refine bx_ (fun _ => ?_))
      refine hl_call rfl rfl A (fun v M1 o => ?_)
      obtain ⟨hv, X1, rfl, hX1⟩ := o
      obtain rfl : v = .int .i64 60 := hv
      replace hX1 : Rl gr s X1 := hX1
      refine HL.perm (H' := X1 ++ (Jn gj gr true :: (Xa ++ H))) ?_ (List.Perm.refl _)
      repeat (first | refine go_ ?_ | refine bx_ (fun _ => ?_))
      refine hl_call rfl rfl (jsync_fn hX1) (fun v M1 o => ?_)
      obtain ⟨hv, X4, rfl, hX4⟩ := o
      obtain rfl : v = .int .i64 60 := hv
      replace hX4 : Rl gr s X4 := hX4
      refine HL.perm (H' := X4 ++ (Jn gj gr true :: (Xa ++ H))) ?_ (List.Perm.refl _)
      repeat (first | refine go_ ?_ | refine bx_ (fun _ => ?_))
      exact ⟨q - 1, by omega, _, Imp.refl _, k + 1, m, s, true, _, Xa, X4, by omega, Dn.mono hD, hsm', ho, hX4, Imp.refl _, rfl, rfl, rfl, rfl, rfl, rfl, rfl, rfl, rfl, rfl, trivial⟩
  obtain rfl : len = k := by omega
  have hsm2 : ∀ p ∈ L.take len, p.length ≤ 8388608 := fun p hp => by have := hsm p hp; omega
  obtain ⟨m', c1, c2, c3', c4, c5, c6⟩ := hD.crash (by omega) hsm2 keep hX.1
  have hP : ∀ p ∈ L.take m', p.length ≤ 300 := fun p hpm => hsm p (by
    rw [show m' = min m' len by omega, ← List.take_take] at hpm
    exact List.mem_of_mem_take hpm)
  obtain ⟨k1, k2, k3⟩ := crash_again (fun p hp => by have := hP p hp; omega) c5 c3' c4 again
  repeat (first | refine go_ ?_ | refine bx_ (fun _ => ?_))
  refine hl_call rfl rfl (crash_r hX keep hkeep (a := none) (len := 0) (cp := 0) (b := []) rfl (by decide) (.inl rfl)) (fun v M1 o => ?_)
  obtain ⟨X3, hi3, hX3⟩ := o
  refine HL.imp ?_ hi3
  repeat (first | refine go_ ?_ | refine bx_ (fun _ => ?_))
  refine hl_call rfl rfl (arm_r hX3 again hag) (fun v M1 o => ?_)
  obtain ⟨X4, rfl, hX4⟩ := o
  repeat (first | refine go_ ?_ | refine bx_ (fun _ => ?_))
  refine hl_call rfl rfl (open_any hX4) (fun v M1 o => ?_)
  obtain ⟨X5, hi5, hX5⟩ := o
  refine HL.imp ?_ hi5
  repeat (first | refine go_ ?_ | refine bx_ (fun _ => ?_))
  refine hl_call rfl rfl (crash_r hX5 0 (by decide) (a := none) (len := 0) (cp := 0) (b := []) rfl (by decide) (.inl rfl)) (fun v M1 o => ?_)
  obtain ⟨X6, hi6, hX6⟩ := o
  refine HL.imp ?_ hi6
  repeat (first | refine go_ ?_ | refine bx_ (fun _ => ?_))
  refine hl_call rfl rfl (open_ok hX6 k1) (fun v M1 o => ?_)
  obtain ⟨gj2, sv7, qs, Xo7, Zc7, X7, rfl, rfl, hm7, hpm7, hX7⟩ := o
  rw [k2, c6] at hX7
  rw [k3] at hm7
  obtain ⟨a7, c7, rfl, hc7, hr7⟩ := hpm7.read
  have hq : qs.length = m' := by have := congrArg List.length hm7; rw [List.length_map, List.length_take] at this; omega
  obtain ⟨R7, hR7⟩ : ∃ R7, R7 = Jn gj gr d :: (Xa ++ H) := ⟨_, rfl⟩
  rw [← hR7]
  have iR : Imp (X7 ++ (Jn gj2 gr false :: (Xo7 ++ (Zc7 ++ R7)))) (Xo7 ++ (Zc7 ++ R7)) := Imp.sub ((List.sublist_cons_self _ _).trans (List.sublist_append_right _ _))
  have p7 : PartsR w0 B (X7 ++ (Jn gj2 gr false :: (Xo7 ++ (Zc7 ++ R7)))) a7 qs.length qs := by
    have := hr7 R7
    rw [List.append_assoc] at this
    exact this.imp iR
  have hall : PartsR w0 B (X7 ++ (Jn gj2 gr false :: (Xo7 ++ (Zc7 ++ R7)))) a3 m (ps.take m) := by
    have o1 : Own 22 1 (.slice a3 m c3) m ((ps.take m).map partV) (X7 ++ (Jn gj2 gr false :: (Xo7 ++ (Zc7 ++ (Jn gj gr d :: H))))) (Xa ++ (X7 ++ (Jn gj2 gr false :: (Xo7 ++ (Zc7 ++ (Jn gj gr d :: H)))))) := ho _
    have p1 := PartsR.ofOwn (w0 := w0) (B := B) (ps := ps.take m) (n := m) o1 (fun p hpm => (hp _).each p (List.mem_of_mem_take hpm))
    refine p1.imp (Imp.perm ?_ (Imp.refl _))
    rw [hR7]
    have := app_swap (X7 ++ (Jn gj2 gr false :: (Xo7 ++ (Zc7 ++ [Jn gj gr d])))) Xa H
    simpa [List.append_assoc] using this
  have hqz : ∀ p ∈ qs, p.len ≤ 300 := fun p hp => by
    rw [← (p7.each p hp).eq]
    exact hP p.bs (by rw [← hm7]; exact List.mem_map_of_mem hp)
  have S := psame_fn (c := c7) (c2 := c3) p7 (hall.take (show m' ≤ m by omega)) (by omega) (fun p hp => by have := hqz p hp; omega)
  rw [decide_eq_true (by rw [hm7, hL, List.take_take, List.map_take, show min m' m = m' by omega])] at S
  rw [hq] at S ⊢
  repeat (first | refine go_ ?_ | refine bx_ (fun _ => ?_) | refine hl_sliceTo (j := m') rfl rfl rfl (by omega) rfl ?_ | refine hl_callv rfl rfl (S) ?_)
  rename_i gm
  refine hl_convLit rfl .here rfl (by decide) rfl ?_
  obtain ⟨em, hem⟩ : ∃ em : Ent, em = ⟨gm, 5, [.int .u8 109, .int .u8 111, .int .u8 114, .int .u8 101], 0⟩ := ⟨_, rfl⟩
  rw [← hem]
  refine HL.perm ?_ (Take.app X7 (.there (x := Jn gj2 gr false) (.here (e := em) (H := Xo7 ++ (Zc7 ++ R7))))).perm.symm
  have bm : BytR w0 B (X7 ++ (Jn gj2 gr false :: (em :: (Xo7 ++ (Zc7 ++ R7))))) (some ⟨gm, 0, none⟩) 4 4 [109, 111, 114, 101] := by
    subst hem
    exact BytR.ent (Take.app X7 (.there .here)) rfl rfl (by decide) (by decide)
  have hlen : (recs (L.take m')).length ≤ 6160 := by
    have := length_recs hP
    rw [List.length_take] at this
    have h3 : 308 * (min m' L.length) ≤ 308 * 20 := Nat.mul_le_mul_left _ (by omega)
    omega
  obtain ⟨j1, j2⟩ := RS.append_off (s := ⟨recs (L.take m'), 20000, (recs (L.take m')).length, -1, false⟩) (b := recB [109, 111, 114, 101]) rfl rfl (by rw [length_recB]; show _ + (4 + 8) ≤ 20000; dsimp only; omega)
  have A : Fn Try.prog w0 B 19 [.pointer (some ⟨gj2, 0, none⟩), .slice (some ⟨gm, 0, none⟩) 4 4] (X7 ++ (Jn gj2 gr false :: (em :: (Xo7 ++ (Zc7 ++ R7))))) (fun v H' => v = .int .i64 (RS.appendE ⟨recs (L.take m'), 20000, (recs (L.take m')).length, -1, false⟩ (recB [109, 111, 114, 101])) ∧ ∃ X', H' = X' ++ (Jn gj2 gr (decide (RS.appendE ⟨recs (L.take m'), 20000, (recs (L.take m')).length, -1, false⟩ (recB [109, 111, 114, 101]) = 11)) :: (em :: (Xo7 ++ (Zc7 ++ R7)))) ∧ Rl gr (RS.append ⟨recs (L.take m'), 20000, (recs (L.take m')).length, -1, false⟩ (recB [109, 111, 114, 101])) X') := jappend_fn hX7 bm (by decide)
  rw [j1, j2] at A
  refine hl_call rfl rfl A (fun v M1 o => ?_)
  obtain ⟨rfl, X8, rfl, hX8⟩ := o
  refine HL.perm (H' := X8 ++ (Jn gj2 gr false :: (em :: (Xo7 ++ (Zc7 ++ R7))))) ?_ (List.Perm.refl _)
  obtain ⟨j3, j4⟩ := RS.sync_off (s := ⟨recs (L.take m') ++ recB [109, 111, 114, 101], 20000, (recs (L.take m')).length, -1, false⟩) rfl rfl
  have S2 : Fn Try.prog w0 B 20 [.pointer (some ⟨gj2, 0, none⟩)] (X8 ++ (Jn gj2 gr false :: (em :: (Xo7 ++ (Zc7 ++ R7))))) (fun v H' => v = .int .i64 (RS.syncE ⟨recs (L.take m') ++ recB [109, 111, 114, 101], 20000, (recs (L.take m')).length, -1, false⟩) ∧ ∃ X'', H' = X'' ++ (Jn gj2 gr (decide ((RS.syncE ⟨recs (L.take m') ++ recB [109, 111, 114, 101], 20000, (recs (L.take m')).length, -1, false⟩) = 11)) :: (em :: (Xo7 ++ (Zc7 ++ R7)))) ∧ Rl gr (RS.sync ⟨recs (L.take m') ++ recB [109, 111, 114, 101], 20000, (recs (L.take m')).length, -1, false⟩) X'') := jsync_fn hX8
  rw [j3, j4] at S2
  repeat (first | refine go_ ?_ | refine bx_ (fun _ => ?_))
  refine hl_call rfl rfl S2 (fun v M1 o => ?_)
  obtain ⟨rfl, X9, rfl, hX9⟩ := o
  repeat (first | refine go_ ?_ | refine bx_ (fun _ => ?_))
  exact fin1B rfl rfl rfl
theorem walk (a : Option Addr) (len cap : Nat) (ps : List Part) (arm keep again : Int) (w : World) (hp : Parts w a len cap ps) (harm : -9223372036854775808 ≤ arm ∧ arm ≤ 9223372036854775807) (hkeep : -9223372036854775808 ≤ keep ∧ keep ≤ 9223372036854775807) (hag : -9223372036854775808 ≤ again ∧ again ≤ 9223372036854775807) :
    Calls Try.prog 6 #[.slice a len cap, .int .i64 arm, .int .i64 keep, .int .i64 again] w fun e w' => e = .returned (.bool true) ∧ Below w.heap.size w w' :=
  calls_of_fn (law (fun E => PartsR.of (Nat.le_refl _) hp) hp.sl.le hp.sl.small arm keep again harm hkeep hag) fun _ _ h => h

/-! The step to the statement (written by program). -/
open Go.ChangeShapes Go.WideShapes Go.ChangeAt
set_option maxRecDepth 100000 in
theorem lifted (os : Os) (started : os.Started) (H : Type) (enc : TypeId × Value → H) :
    ReturnsInHanded {} Try.checked os 6 .any (Rows.journalDownSpec.pre6 enc Try.prog Try.f6 Rows.journalDownRow.domain false) (Rows.journalDownSpec.post enc Try.prog Try.f6 false true false false) := by
  refine returnsInHanded_of_change (C := Try.checked) own started (by kernel_rfl) Try.func6
    (ChangeSpec.witness6 (enc := enc) (C := Try.checked) false ⟨#[], #[.slice none 0 0, .int .i64 0, .int .i64 0, .int .i64 0], []⟩ 8 (by kernel_rfl) (by kernel_rfl) (by kernel_rfl) (by kernel_rfl)) ?_
  intro W base args ds gs before hval0 hW hcnd _
  have hval : ∀ (j : Nat) t v, Try.f6.params[j]? = some t → args[j]? = some v → Value.okWide Try.prog W .any base t v := hval0
  have hW' := hW
  obtain ⟨p, q, hA0, hV, rfl, hfz, hnd⟩ := hW
  have hA : DataW.TrodAll enc Try.prog W 0 (fun _ => true) true Try.f6.params.toList args.toList ds p := hA0
  rw [Try.params6] at hA hval
  obtain ⟨v0, vs0, d0, ds0, p0, q0, hargs, rfl, rfl, h0, r0⟩ := trodAll_cons hA
  obtain ⟨v1, vs1, d1, ds1, p1, q1, rfl, rfl, rfl, h1, r1⟩ := trodAll_cons r0
  obtain ⟨v2, vs2, d2, ds2, p2, q2, rfl, rfl, rfl, h2, r2⟩ := trodAll_cons r1
  obtain ⟨v3, vs3, d3, ds3, p3, q3, rfl, rfl, rfl, h3, r3⟩ := trodAll_cons r2
  obtain ⟨rfl, rfl, rfl⟩ := trodAll_nil r3
  obtain rfl : args = #[v0, v1, v2, v3] := by cases args; simp_all
  obtain ⟨rfl, rfl⟩ := trodVars_none hV
  have k0 := h0
  have lt0 : ∀ x ∈ p0, x.block < W.heap.size := by obtain ⟨m, hm⟩ := k0; exact DataW.trod_lt m _ _ _ hm
  obtain ⟨a0, len0, cap0, e0⟩ := okWide_slice Try.underlying24 (hval 0 24 v0 rfl rfl)
  obtain ⟨l0, w0⟩ := open_parts Try.underlying24 (by kernel_rfl) Try.underlying22 Try.underlying5 (by kernel_rfl) e0 k0
  subst e0
  have k1 := h1
  have lt1 : ∀ x ∈ p1, x.block < W.heap.size := by obtain ⟨m, hm⟩ := k1; exact DataW.trod_lt m _ _ _ hm
  obtain ⟨a1, rfl, _, _, w1⟩ := open_int Try.underlying3 (hval 1 3 v1 rfl rfl) h1
  have w1 := wf_i64 w1
  have k2 := h2
  have lt2 : ∀ x ∈ p2, x.block < W.heap.size := by obtain ⟨m, hm⟩ := k2; exact DataW.trod_lt m _ _ _ hm
  obtain ⟨a2, rfl, _, _, w2⟩ := open_int Try.underlying3 (hval 2 3 v2 rfl rfl) h2
  have w2 := wf_i64 w2
  have k3 := h3
  have lt3 : ∀ x ∈ p3, x.block < W.heap.size := by obtain ⟨m, hm⟩ := k3; exact DataW.trod_lt m _ _ _ hm
  obtain ⟨a3, rfl, _, _, w3⟩ := open_int Try.underlying3 (hval 3 3 v3 rfl rfl) h3
  have w3 := wf_i64 w3
  clear hA0 hval0
  refine (walk a0 len0 cap0 l0 a1 a2 a3 W w0 w1 w2 w3).mono fun e W' ⟨he, bel⟩ => ?_
  subst he
  exact ⟨_, rfl, _, _, _, [], _, [], hW', trodAll_mk1 (shut_bool Try.underlying4 _), (trodAll_cons_mk (Below.trod laidOut (by kernel_rfl) (of_decide_eq_true (by kernel_rfl)) k0 bel lt0) (trodAll_cons_mk (Below.trod laidOut (by kernel_rfl) (of_decide_eq_true (by kernel_rfl)) k1 bel lt1) (trodAll_cons_mk (Below.trod laidOut (by kernel_rfl) (of_decide_eq_true (by kernel_rfl)) k2 bel lt2) (trodAll_cons_mk (Below.trod laidOut (by kernel_rfl) (of_decide_eq_true (by kernel_rfl)) k3 bel lt3) trodAll_mk0)))), rfl, bel.frame _, fun h => by cases h⟩

theorem over : Rows.journalDownRow.holds Try.pinned (OpenSpec.ofChange Rows.journalDownSpec) :=
  OpenClaim.holds_of_wide 6 Try.f6 rfl rfl rfl rfl rfl rfl rfl ⟨rfl, rfl, rfl, rfl, rfl⟩ rfl rfl rfl rfl rfl (by kernel_rfl) Try.func6 (by kernel_rfl)
    (of_decide_eq_true (by kernel_rfl)) (by unfold Func.isWrapper; first | (rw [if_pos (by decide +kernel)]; kernel_rfl) | (rw [if_neg (by decide +kernel)]; exact ⟨rfl, rfl⟩))
    (fun os started H enc _ => lifted os started H enc)

/-- The statement. -/
theorem proved : Rows.JournalDownSaid := over
#print axioms proved
end Go.Proofs.Ytpeegklnkecajaa.journalDown
