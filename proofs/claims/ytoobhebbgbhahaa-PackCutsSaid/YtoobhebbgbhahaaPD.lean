/-
  The document's reader: lists. No condition.
-/
import Derived.Test.YtoobhebbgbhahaaPC
namespace Go.Proofs.Ytoobhebbgbhahaa
open Go.RowKit
section
variable {w0 : World} {B : Nat} {H R R0 : List Ent} {g : Nat}
set_option maxHeartbeats 8000000
set_option maxRecDepth 100000
theorem rrsize_fn {s : Rd} {a : Option Addr} {n c p : Nat} {b : List UInt8} (hb : BytR w0 B R0 a n c b) (hi : Imp R R0) (hs : s.l = b.drop p) (hp : p ≤ n) :
    Fn Try.prog w0 B 37 [.pointer (some ⟨g, 0, none⟩)] (RfB g a n c p s.e :: R) (fun v H' => ∃ p', v = .int .i64 (s.size.1 : Int) ∧ H' = RfB g a n c p' s.size.2.e :: R ∧ s.size.2.l = b.drop p' ∧ p' ≤ n) := by
  have hn := hb.eq
  have hle := hb.le
  have hsm := hb.small
  refine fn_intro Try.func37 rfl (by kernel_rfl) rfl ?_
  repeat (first | refine go_ ?_ | refine bx_ (fun _ => ?_))
  refine hl_call rfl rfl (rrnum_fn hb hi hs hp) (fun v M hv => ?_)
  obtain ⟨p', rfl, rfl, hs', hp'⟩ := hv
  rw [Rd.size]
  have hin := Rd.num_in s
  unfold I64 at hin
  generalize s.num = r at *
  obtain ⟨z, l', e'⟩ := r
  dsimp only at *
  subst hs'
  rw [List.length_drop, hn]
  by_cases h0 : e' = 0
  rotate_left
  · rw [if_pos h0]
    repeat (first | refine go_ ?_ | refine bx_ (fun _ => ?_))
    (refine hc_draw (by kernel_rfl) (by kernel_rfl) ?_; repeat (first | refine gd_ ?_))
    repeat (first | refine go_ ?_ | refine bx_ (fun _ => ?_))
    exact fin1I rfl rfl ⟨p', rfl, rfl, rfl, hp'⟩
  subst h0
  rw [if_neg (by simp)]
  by_cases h1 : z < 0
  · rw [if_pos h1]
    repeat (first | refine go_ ?_ | refine bx_ (fun _ => ?_))
    refine hl_call rfl rfl (rfail_fn (k := 25)) (fun v M hv => ?_)
    obtain ⟨rfl, rfl⟩ := hv
    rw [if_pos rfl]
    repeat (first | refine go_ ?_ | refine bx_ (fun _ => ?_))
    (refine hc_draw (by kernel_rfl) (by kernel_rfl) ?_; repeat (first | refine gd_ ?_))
    repeat (first | refine go_ ?_ | refine bx_ (fun _ => ?_))
    exact fin1I rfl rfl ⟨p', rfl, rfl, rfl, hp'⟩
  rw [if_neg h1]
  by_cases h2 : ((n - p' : Nat) : Int) < z
  · rw [if_pos h2]
    repeat (first | refine go_ ?_ | refine bx_ (fun _ => ?_))
    (refine hc_draw (by kernel_rfl) (by kernel_rfl) ?_; repeat (first | refine gd_ ?_))
    repeat (first | refine go_ ?_ | refine bx_ (fun _ => ?_))
    refine hl_call rfl rfl (rfail_fn (k := 20)) (fun v M hv => ?_)
    obtain ⟨rfl, rfl⟩ := hv
    rw [if_pos rfl]
    repeat (first | refine go_ ?_ | refine bx_ (fun _ => ?_))
    exact fin1I rfl rfl ⟨p', rfl, rfl, rfl, hp'⟩
  rw [if_neg h2]
  repeat (first | refine go_ ?_ | refine bx_ (fun _ => ?_))
  (refine hc_draw (by kernel_rfl) (by kernel_rfl) ?_; repeat (first | refine gd_ ?_))
  repeat (first | refine go_ ?_ | refine bx_ (fun _ => ?_))
  exact fin1I rfl rfl ⟨p', by rw [show ((z.toNat : Nat) : Int) = z by omega], rfl, rfl, hp'⟩
theorem rrnums_fn {s : Rd} {a : Option Addr} {n c p : Nat} {b : List UInt8} (hb : BytR w0 B R0 a n c b) (hi : Imp R R0) (hs : s.l = b.drop p) (hp : p ≤ n) (hn : n ≤ 1000000000) :
    Fn Try.prog w0 B 36 [.pointer (some ⟨g, 0, none⟩)] (RfB g a n c p s.e :: R) (fun v H' => ∃ p' Xl, Imp H' (RfB g a n c p' s.nums.2.e :: (Xl ++ R)) ∧ (∀ F, Own 3 1 v s.nums.1.length (s.nums.1.map iV) F (Xl ++ F)) ∧ s.nums.2.l = b.drop p' ∧ p' ≤ n) := by
  have hle := hb.eq
  refine fn_intro Try.func36 rfl (by kernel_rfl) rfl ?_
  repeat (first | refine go_ ?_ | refine bx_ (fun _ => ?_))
  refine hl_call rfl rfl (rrsize_fn hb hi hs hp) (fun v M hv => ?_)
  obtain ⟨p', rfl, rfl, hs', hp'⟩ := hv
  obtain ⟨G, hG⟩ : ∃ G, G = s.nums := ⟨_, rfl⟩
  rw [← hG]
  rw [Rd.nums] at hG
  have hsz := s.size_le.2
  have hsl := congrArg List.length hs
  rw [List.length_drop] at hsl
  generalize s.size = r at *
  obtain ⟨N, t⟩ := r
  dsimp only at *
  repeat (first | refine go_ ?_ | refine bx_ (fun _ => ?_))
  refine hc_loopd (fun q fr M => ∃ j L1 s p sv Xl, j + q = N ∧ L1.length = j ∧ (L1 ++ (Rd.numsP q s).1 = G.1 ∧ (Rd.numsP q s).2 = G.2) ∧ (∀ F, Own 3 1 sv j (L1.map iV) F (Xl ++ F)) ∧ Imp M (RfB g a n c p s.e :: (Xl ++ R)) ∧ (s.l = b.drop p ∧ p ≤ n) ∧ Agr fr [(0, .pointer (some ⟨g, 0, none⟩)), (3, .int .i64 (N : Int)), (4, sv), (5, .int .i64 (j : Int))]) N ?_ ?_
  · exact ⟨0, [], t, p', _, [], by omega, rfl, ⟨by rw [← hG]; rfl, by rw [← hG]⟩, fun F => Own.nil, Imp.refl _, ⟨hs', hp'⟩, rfl, rfl, rfl, rfl, trivial⟩
  have hN : N ≤ n := by omega
  clear hG hs' hp' hs hsz hsl hp p' p s
  rintro q fr M ⟨j, L1, s, p, sv, Xl, hj, hL1, ⟨h1, h2⟩, ho, him, ⟨hs, hp⟩, hf⟩
  obtain ⟨base, rfl⟩ := hf.out
  clear hf
  refine HC.imp ?_ him
  obtain ⟨av, cv, rfl, _, _⟩ := (ho []).form
  by_cases hq : q = 0
  · subst hq
    rw [Rd.numsP] at h1 h2
    rw [List.append_nil] at h1
    dsimp only at h2
    obtain rfl : j = N := by omega
    repeat (first | refine go_ ?_ | refine bx_ (fun _ => ?_))
    rw [← h1, ← h2]
    exact fin1S rfl rfl ⟨p, Xl, Imp.refl _, by rw [hL1]; exact ho, hs, hp⟩
  obtain ⟨q, rfl⟩ : ∃ q', q = q' + 1 := ⟨q - 1, by omega⟩
  rw [Rd.numsP] at h1 h2
  by_cases h0 : s.e = 0
  rotate_left
  · rw [if_pos h0] at h1 h2
    rw [List.append_nil] at h1
    dsimp only at h2
    repeat (first | refine go_ ?_ | refine bx_ (fun _ => ?_))
    rw [← h1, ← h2]
    exact fin1S rfl rfl ⟨p, Xl, Imp.refl _, by rw [hL1]; exact ho, hs, hp⟩
  rw [if_neg (by omega)] at h1 h2
  dsimp only at h1 h2
  repeat (first | refine go_ ?_ | refine bx_ (fun _ => ?_))
  refine hl_call rfl rfl (rrnum_fn (R := Xl ++ R) hb ((Imp.tail Xl R).trans hi) hs hp) (fun v M hv => ?_)
  obtain ⟨p', rfl, rfl, hs', hp'⟩ := hv
  generalize s.num = r at *
  obtain ⟨z, t⟩ := r
  dsimp only at *
  repeat (first | refine go_ ?_ | refine bx_ (fun _ => ?_))
  rename_i gb
  refine hl_append_own (F := ⟨gb, 3, [.int .i64 z], 1 * 1⟩ :: RfB g a n c p' t.e :: R) rfl rfl (((ho R).under (RfB g a n c p' t.e)).under ⟨gb, 3, [.int .i64 z], 1 * 1⟩) (Rds.ent (n := 1) (l := [.int .i64 z]) .here rfl (by simp [Value.oneCell'])) rfl rfl (by decide) (by omega) (by omega) rfl (fun v4 M4 o4 => ?_)
  obtain ⟨a4, c4, rfl, _, _⟩ := o4.form
  obtain ⟨Z, hZ, ho4⟩ := o4.permE
  repeat (first | refine go_ ?_ | refine bx_ (fun _ => ?_))
  refine ⟨q, by omega, _, Imp.refl _, j + 1, L1 ++ [z], t, p', _, Z, by omega, by simp [hL1], ⟨by rw [← h1]; simp, h2⟩, fun F => by rw [List.map_append]; exact ho4 F, ?_, ⟨hs', hp'⟩, rfl, rfl, rfl, rfl, trivial⟩
  exact Imp.perm (hZ.trans (Take.app Z (.there .here)).perm) (Imp.sub (List.Sublist.cons_cons _ (List.Sublist.append (List.Sublist.refl _) (List.sublist_cons_self _ _))))
end
end Go.Proofs.Ytoobhebbgbhahaa
