/-
  Lists that are read. No condition.
-/
import Derived.Test.YtoobhebbgbhahaaP6
namespace Go.Proofs.Ytoobhebbgbhahaa
open Go.RowKit
theorem getU_le : ∀ (l : List UInt8) (k u : Nat), (getU k u l).2.1.length ≤ l.length
  | [], k, u => by rw [getU]; simp
  | c :: l, k, u => by
    rw [getU]
    split
    · simp
    · split
      · simp
      · have := getU_le l (k + 1) (u + c.toNat % 128 * 2 ^ (7 * k))
        rw [List.length_cons]; omega
theorem Rd.num_le (s : Rd) : s.num.2.l.length ≤ s.l.length := by
  rw [Rd.num]
  split
  · exact Nat.le_refl _
  · exact getU_le _ _ _
theorem Rd.size_le (s : Rd) : s.size.2.l.length ≤ s.l.length ∧ s.size.1 ≤ s.l.length := by
  have := s.num_le
  rw [Rd.size]
  split
  · exact ⟨this, by simp⟩
  · split
    · exact ⟨this, by simp⟩
    · split
      · exact ⟨this, by simp⟩
      · exact ⟨this, by dsimp only; omega⟩
theorem Rd.num_in (s : Rd) : I64 s.num.1 := by
  have h0 : I64 0 := ⟨by decide, by decide⟩
  by_cases h : s.num.2.e = 0
  · exact (Rd.num_was h).2.2
  · rw [Rd.num] at h ⊢
    split at h
    · rw [if_pos (by assumption)]; exact h0
    · rw [if_neg (by assumption)]
      dsimp only at h ⊢
      rw [if_neg h]; exact h0
section
variable {w0 : World} {B : Nat} {H R R0 : List Ent} {g : Nat}
set_option maxHeartbeats 8000000
set_option maxRecDepth 100000
theorem isize_fn {a : Option Addr} {n c e : Nat} {l : List UInt8} (hb : BytR w0 B R0 a n c l) (hi : Imp R R0) :
    Fn Try.prog w0 B 29 [.pointer (some ⟨g, 0, none⟩)] (InB g a n c e :: R) (fun v H' => ∃ a' n' c', v = .int .i64 ((Rd.size ⟨l, e⟩).1 : Int) ∧ H' = InB g a' n' c' (Rd.size ⟨l, e⟩).2.e :: R ∧ BytR w0 B R0 a' n' c' (Rd.size ⟨l, e⟩).2.l) := by
  refine fn_intro Try.func29 rfl (by kernel_rfl) rfl ?_
  repeat (first | refine go_ ?_ | refine bx_ (fun _ => ?_))
  refine hl_call rfl rfl (inum_fn hb hi) (fun v M hv => ?_)
  obtain ⟨a', n', c', rfl, rfl, hb'⟩ := hv
  rw [Rd.size]
  have hin := Rd.num_in ⟨l, e⟩
  unfold I64 at hin
  have hl := hb'.eq
  generalize Rd.num ⟨l, e⟩ = r at *
  obtain ⟨z, l', e'⟩ := r
  dsimp only at *
  by_cases h0 : e' = 0
  rotate_left
  · rw [if_pos h0]
    repeat (first | refine go_ ?_ | refine bx_ (fun _ => ?_))
    exact fin1I rfl rfl ⟨a', n', c', rfl, rfl, hb'⟩
  subst h0
  rw [if_neg (by simp)]
  by_cases h1 : z < 0
  · rw [if_pos h1]
    repeat (first | refine go_ ?_ | refine bx_ (fun _ => ?_))
    refine hl_call rfl rfl (ifail_fn (k := 25)) (fun v M hv => ?_)
    obtain ⟨rfl, rfl⟩ := hv
    rw [if_pos rfl]
    repeat (first | refine go_ ?_ | refine bx_ (fun _ => ?_))
    exact fin1I rfl rfl ⟨a', n', c', rfl, rfl, hb'⟩
  rw [if_neg h1]
  by_cases h2 : (l'.length : Int) < z
  · rw [if_pos h2]
    repeat (first | refine go_ ?_ | refine bx_ (fun _ => ?_))
    refine hl_call rfl rfl (ifail_fn (k := 20)) (fun v M hv => ?_)
    obtain ⟨rfl, rfl⟩ := hv
    rw [if_pos rfl]
    repeat (first | refine go_ ?_ | refine bx_ (fun _ => ?_))
    exact fin1I rfl rfl ⟨a', n', c', rfl, rfl, hb'⟩
  rw [if_neg h2]
  repeat (first | refine go_ ?_ | refine bx_ (fun _ => ?_))
  exact fin1I rfl rfl ⟨a', n', c', by rw [show ((z.toNat : Nat) : Int) = z by omega], rfl, hb'⟩
theorem inums_fn {a : Option Addr} {n c e : Nat} {l : List UInt8} (hb : BytR w0 B R0 a n c l) (hi : Imp R R0) (hn : n ≤ 1000000000) :
    Fn Try.prog w0 B 28 [.pointer (some ⟨g, 0, none⟩)] (InB g a n c e :: R) (fun v H' => ∃ a' n' c' Xl, Imp H' (InB g a' n' c' (Rd.nums ⟨l, e⟩).2.e :: (Xl ++ R)) ∧ (∀ F, Own 3 1 v (Rd.nums ⟨l, e⟩).1.length ((Rd.nums ⟨l, e⟩).1.map iV) F (Xl ++ F)) ∧ BytR w0 B R0 a' n' c' (Rd.nums ⟨l, e⟩).2.l) := by
  have hle := hb.eq
  refine fn_intro Try.func28 rfl (by kernel_rfl) rfl ?_
  repeat (first | refine go_ ?_ | refine bx_ (fun _ => ?_))
  refine hl_call rfl rfl (isize_fn hb hi) (fun v M hv => ?_)
  obtain ⟨a', n', c', rfl, rfl, hb'⟩ := hv
  obtain ⟨G, hG⟩ : ∃ G, G = Rd.nums ⟨l, e⟩ := ⟨_, rfl⟩
  rw [← hG]
  rw [Rd.nums] at hG
  have hsz := (Rd.size_le ⟨l, e⟩).2
  generalize Rd.size ⟨l, e⟩ = r at *
  obtain ⟨N, l', e'⟩ := r
  dsimp only at *
  repeat (first | refine go_ ?_ | refine bx_ (fun _ => ?_))
  refine hc_loopd (fun q fr M => ∃ j L1 a n c e l sv Xl, j + q = N ∧ L1.length = j ∧ (L1 ++ (Rd.numsP q ⟨l, e⟩).1 = G.1 ∧ (Rd.numsP q ⟨l, e⟩).2 = G.2) ∧ (∀ F, Own 3 1 sv j (L1.map iV) F (Xl ++ F)) ∧ Imp M (InB g a n c e :: (Xl ++ R)) ∧ BytR w0 B R0 a n c l ∧ Agr fr [(0, .pointer (some ⟨g, 0, none⟩)), (3, sv), (5, .int .i64 (N : Int)), (6, .int .i64 (j : Int))]) N ?_ ?_
  · exact ⟨0, [], a', n', c', e', l', _, [], by omega, rfl, ⟨by rw [← hG]; rfl, by rw [← hG]⟩, fun F => Own.nil, Imp.refl _, hb', rfl, rfl, rfl, rfl, trivial⟩
  clear hb' hG a' n' c' e' l'
  rintro q fr M ⟨j, L1, a, n, c, e, l, sv, Xl, hj, hL1, ⟨h1, h2⟩, ho, him, hb, hf⟩
  obtain ⟨base, rfl⟩ := hf.out
  clear hf
  refine HC.imp ?_ him
  obtain ⟨av, cv, rfl, _, _⟩ := (ho []).form
  by_cases hq : q = 0
  · subst hq
    rw [Rd.numsP] at h1 h2
    rw [List.append_nil] at h1
    dsimp only at h2
    obtain rfl : j = N := by omega
    repeat (first | refine go_ ?_ | refine bx_ (fun _ => ?_))
    subst h1
    rw [← h2]
    exact fin1S rfl rfl ⟨a, n, c, Xl, Imp.refl _, by rw [hL1]; exact ho, hb⟩
  obtain ⟨q, rfl⟩ : ∃ q', q = q' + 1 := ⟨q - 1, by omega⟩
  rw [Rd.numsP] at h1 h2
  by_cases h0 : e = 0
  rotate_left
  · rw [if_pos h0] at h1 h2
    rw [List.append_nil] at h1
    dsimp only at h2
    repeat (first | refine go_ ?_ | refine bx_ (fun _ => ?_))
    subst h1
    rw [← h2]
    exact fin1S rfl rfl ⟨a, n, c, Xl, Imp.refl _, by rw [hL1]; exact ho, hb⟩
  subst h0
  rw [if_neg (by simp)] at h1 h2
  dsimp only at h1 h2
  repeat (first | refine go_ ?_ | refine bx_ (fun _ => ?_))
  refine hl_call rfl rfl (inum_fn (R := Xl ++ R) hb ((Imp.tail Xl R).trans hi)) (fun v M hv => ?_)
  obtain ⟨a', n', c', rfl, rfl, hb'⟩ := hv
  generalize Rd.num ⟨l, 0⟩ = r at *
  obtain ⟨z, l', e'⟩ := r
  dsimp only at *
  repeat (first | refine go_ ?_ | refine bx_ (fun _ => ?_))
  rename_i gb
  refine hl_append_own (F := ⟨gb, 3, [.int .i64 z], 1 * 1⟩ :: InB g a' n' c' e' :: R) rfl rfl (((ho R).under (InB g a' n' c' e')).under ⟨gb, 3, [.int .i64 z], 1 * 1⟩) (Rds.ent (n := 1) (l := [.int .i64 z]) .here rfl (by simp [Value.oneCell'])) rfl rfl (by decide) (by omega) (by omega) rfl (fun v4 M4 o4 => ?_)
  obtain ⟨a4, c4, rfl, _, _⟩ := o4.form
  obtain ⟨Z, hZ, ho4⟩ := o4.permE
  repeat (first | refine go_ ?_ | refine bx_ (fun _ => ?_))
  refine ⟨q, by omega, _, Imp.refl _, j + 1, L1 ++ [z], a', n', c', e', l', _, Z, by omega, by simp [hL1], ⟨by rw [← h1]; simp, h2⟩, fun F => by rw [List.map_append]; exact ho4 F, ?_, hb', rfl, rfl, rfl, rfl, trivial⟩
  exact Imp.perm (hZ.trans (Take.app Z (.there .here)).perm) (Imp.sub (List.Sublist.cons_cons _ (List.Sublist.append (List.Sublist.refl _) (List.sublist_cons_self _ _))))
end
end Go.Proofs.Ytoobhebbgbhahaa
