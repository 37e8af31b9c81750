/-
  Six numbers, the end. No condition.
-/
import Derived.Test.YtoobhebbgbhahaaP7
namespace Go.Proofs.Ytoobhebbgbhahaa
open Go.RowKit
theorem imp_nil (H : List Ent) : Imp H [] := Imp.sub (List.nil_sublist H)
theorem six_of {L : List Int} (h : L.length = 6) : ∃ m : Nat → Int, L = f6 m := by
  match L, h with
  | [a, b, c, d, e, f], _ => exact ⟨fun i => [a, b, c, d, e, f].getD i 0, rfl⟩
theorem ten_of {L : List Int} (h : L.length = 10) : ∃ m : Nat → Int, L = f10 m := by
  match L, h with
  | [a, b, c, d, e, f, g, i, j, k], _ => exact ⟨fun n => [a, b, c, d, e, f, g, i, j, k].getD n 0, rfl⟩
theorem Rd.fix_len : ∀ (k : Nat) (s : Rd), (Rd.fix k s).1.length = k
  | 0, s => by rw [Rd.fix]; rfl
  | k + 1, s => by rw [Rd.fix]; simp [Rd.fix_len k]
theorem Rd.fix_le : ∀ (k : Nat) (s : Rd), (Rd.fix k s).2.l.length ≤ s.l.length
  | 0, s => by rw [Rd.fix]; exact Nat.le_refl _
  | k + 1, s => by rw [Rd.fix]; have := Rd.fix_le k s.num.2; have := s.num_le; dsimp only; omega
theorem Rd.numsP_le : ∀ (k : Nat) (s : Rd), (Rd.numsP k s).2.l.length ≤ s.l.length
  | 0, s => by rw [Rd.numsP]; exact Nat.le_refl _
  | k + 1, s => by
    rw [Rd.numsP]
    split
    · exact Nat.le_refl _
    · have := Rd.numsP_le k s.num.2; have := s.num_le; dsimp only; omega
theorem Rd.nums_le (s : Rd) : s.nums.2.l.length ≤ s.l.length := by
  rw [Rd.nums]
  have := Rd.numsP_le s.size.1 s.size.2
  have := s.size_le
  omega
theorem Rd.ptsP_le : ∀ (k : Nat) (s : Rd), (Rd.ptsP k s).2.l.length ≤ s.l.length
  | 0, s => by rw [Rd.ptsP]; exact Nat.le_refl _
  | k + 1, s => by
    rw [Rd.ptsP]
    split
    · exact Nat.le_refl _
    · have := Rd.ptsP_le k s.num.2.num.2; have := s.num.2.num_le; have := s.num_le; dsimp only; omega
section
variable {w0 : World} {B : Nat} {H R R0 : List Ent} {g : Nat}
set_option maxHeartbeats 8000000
set_option maxRecDepth 100000
theorem inumS_fn {s : Rd} {a : Option Addr} {n c : Nat} (hb : BytR w0 B R0 a n c s.l) (hi : Imp R R0) :
    Fn Try.prog w0 B 27 [.pointer (some ⟨g, 0, none⟩)] (InB g a n c s.e :: R) (fun v H' => ∃ a' n' c', v = .int .i64 s.num.1 ∧ H' = InB g a' n' c' s.num.2.e :: R ∧ BytR w0 B R0 a' n' c' s.num.2.l) := inum_fn hb hi
theorem imapped_fn {s : Rd} {a : Option Addr} {n c : Nat} (hb : BytR w0 B R0 a n c s.l) (hi : Imp R R0) :
    Fn Try.prog w0 B 30 [.pointer (some ⟨g, 0, none⟩)] (InB g a n c s.e :: R) (fun v H' => ∃ a' n' c' m, v = .agg #[.int .i64 (m 0), .int .i64 (m 1), .int .i64 (m 2), .int .i64 (m 3), .int .i64 (m 4), .int .i64 (m 5)] ∧ (Rd.fix 6 s).1 = f6 m ∧ H' = InB g a' n' c' (Rd.fix 6 s).2.e :: R ∧ BytR w0 B R0 a' n' c' (Rd.fix 6 s).2.l) := by
  refine fn_intro Try.func30 rfl (by kernel_rfl) rfl ?_
  repeat (first | refine go_ ?_ | refine bx_ (fun _ => ?_))
  rename_i g2 gm
  refine HC.perm (H' := ⟨gm, 25, [.int .i64 0, .int .i64 0, .int .i64 0, .int .i64 0, .int .i64 0, .int .i64 0], 6⟩ :: ⟨g2, 25, [.int .i64 0, .int .i64 0, .int .i64 0, .int .i64 0, .int .i64 0, .int .i64 0], 6⟩ :: InB g a n c s.e :: R) ?_ (List.Perm.refl _)
  obtain ⟨G, hG⟩ : ∃ G, G = Rd.fix 6 s := ⟨_, rfl⟩
  refine hc_loopd (fun q fr M => ∃ j L1 s a n c C, j + q = 6 ∧ L1.length = j ∧ (L1 ++ (Rd.fix q s).1 = G.1 ∧ (Rd.fix q s).2 = G.2) ∧ C = L1.map iV ++ List.replicate q (.int .i64 0) ∧ BytR w0 B R0 a n c s.l ∧
    M = ⟨gm, 25, C, 6⟩ :: ⟨g2, 25, [.int .i64 0, .int .i64 0, .int .i64 0, .int .i64 0, .int .i64 0, .int .i64 0], 6⟩ :: InB g a n c s.e :: R ∧ Agr fr [(0, .pointer (some ⟨g, 0, none⟩)), (2, .pointer (some ⟨g2, 0, none⟩)), (3, .pointer (some ⟨gm, 0, none⟩)), (5, .int .i64 (j : Int))]) 6 ?_ ?_
  · exact ⟨0, [], s, a, n, c, _, by omega, rfl, ⟨by rw [hG]; rfl, by rw [hG]⟩, rfl, hb, rfl, rfl, rfl, rfl, rfl, trivial⟩
  rw [← hG]
  clear hb hG s a n c
  rintro q fr M ⟨j, L1, s, a, n, c, C, hj, hL1, ⟨h1, h2⟩, rfl, hb, rfl, hf⟩
  obtain ⟨base, rfl⟩ := hf.out
  clear hf
  by_cases hq : q = 0
  · subst hq
    rw [Rd.fix] at h1 h2
    rw [List.append_nil] at h1
    dsimp only at h2
    obtain rfl : j = 6 := by omega
    obtain ⟨m, hm⟩ := six_of hL1
    subst hm
    repeat (first | refine go_ ?_ | refine bx_ (fun _ => ?_))
    exact finC (n := 6) rfl rfl .here rfl ⟨a, n, c, m, rfl, h1.symm, by rw [← h2], by rw [← h2]; exact hb⟩ (Imp.drop (Imp.drop (Imp.refl _)))
  obtain ⟨q, rfl⟩ : ∃ q', q = q' + 1 := ⟨q - 1, by omega⟩
  rw [Rd.fix] at h1 h2
  dsimp only at h1 h2
  have hlen : j < (L1.map iV ++ List.replicate (q + 1) (Value.int .i64 0)).length := by simp; omega
  have hset : ∀ z : Int, (L1.map iV ++ List.replicate (q + 1) (Value.int .i64 0)).set j (.int .i64 z) = (L1 ++ [z]).map iV ++ List.replicate q (.int .i64 0) := fun z => by
    rw [List.set_append_right _ _ (by simp; omega), List.length_map, hL1, Nat.sub_self, List.replicate_succ, List.set_cons_zero, List.map_append, List.append_assoc]
    rfl
  repeat (first | refine go_ ?_ | refine bx_ (fun _ => ?_))
  refine HL.perm ?_ (show (⟨gm, 25, L1.map iV ++ List.replicate (q + 1) (Value.int .i64 0), 6⟩ :: ⟨g2, 25, [.int .i64 0, .int .i64 0, .int .i64 0, .int .i64 0, .int .i64 0, .int .i64 0], 6⟩ :: InB g a n c s.e :: R).Perm (InB g a n c s.e :: ⟨gm, 25, L1.map iV ++ List.replicate (q + 1) (Value.int .i64 0), 6⟩ :: ⟨g2, 25, [.int .i64 0, .int .i64 0, .int .i64 0, .int .i64 0, .int .i64 0, .int .i64 0], 6⟩ :: R) from List.perm_middle (l₁ := [_, _]))
  refine hl_call rfl rfl (inumS_fn hb (Imp.drop (Imp.drop hi))) (fun v M hv => ?_)
  obtain ⟨a', n', c', rfl, rfl, hb'⟩ := hv
  repeat (first | refine go_ ?_ | refine bx_ (fun _ => ?_))
  refine ⟨q, by omega, _, ?_, j + 1, L1 ++ [s.num.1], s.num.2, a', n', c', _, by omega, by simp [hL1], ⟨by rw [← h1]; simp, h2⟩, hset s.num.1, hb', rfl, rfl, rfl, rfl, rfl, trivial⟩
  exact Imp.perm (List.Perm.cons _ (List.Perm.swap _ _ _)) (Imp.refl _)
theorem iend_fn {s : Rd} {a : Option Addr} {n c : Nat} (hb : BytR w0 B R0 a n c s.l) :
    Fn Try.prog w0 B 31 [.pointer (some ⟨g, 0, none⟩)] (InB g a n c s.e :: R) (fun v H' => H' = InB g a n c s.endE :: R) := by
  have he := hb.eq
  have hsm := hb.small
  have hle := hb.le
  refine fn_intro Try.func31 rfl (by kernel_rfl) rfl ?_
  by_cases h : 0 < n
  · repeat (first | refine go_ ?_ | refine bx_ (fun _ => ?_))
    refine hl_call rfl rfl (ifail_fn (k := 25)) (fun v M hv => ?_)
    obtain ⟨rfl, rfl⟩ := hv
    repeat (first | refine go_ ?_ | refine bx_ (fun _ => ?_))
    refine fin0 rfl ?_ (Imp.refl _)
    have hne : s.l ≠ [] := fun h0 => by rw [h0] at he; simp at he; omega
    unfold Rd.endE
    by_cases h0 : s.e = 0
    · rw [if_pos h0, if_pos ⟨h0, hne⟩]
    · rw [if_neg h0, if_neg (fun h => h0 h.1)]
  · repeat (first | refine go_ ?_ | refine bx_ (fun _ => ?_))
    refine fin0 rfl ?_ (Imp.refl _)
    have hne : s.l = [] := List.eq_nil_of_length_eq_zero (by omega)
    unfold Rd.endE
    rw [if_neg (fun h => h.2 hne)]
end
end Go.Proofs.Ytoobhebbgbhahaa
