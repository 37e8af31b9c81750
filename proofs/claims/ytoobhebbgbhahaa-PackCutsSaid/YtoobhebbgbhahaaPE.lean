/-
  The document's reader: edits. No condition.
-/
import Derived.Test.YtoobhebbgbhahaaPD
namespace Go.Proofs.Ytoobhebbgbhahaa
open Go.RowKit
/-- The first twelve cells. -/
abbrev edP (f : Nat → Int) (pv sv : Value) : List Value := [.int .i64 (f 0), .int .i64 (f 1), .int .i64 (f 2), .int .i64 (f 3), .int .i64 (f 4), .int .i64 (f 5), .int .i64 (f 6), .int .i64 (f 7), .int .i64 (f 8), .int .i64 (f 9), pv, sv]
section
variable {w0 : World} {B : Nat} {H R R0 : List Ent} {g : Nat}
set_option maxHeartbeats 16000000
set_option maxRecDepth 100000
theorem rgetEdit_fn {a : Option Addr} {n c : Nat} {l : List UInt8} (hb : BytR w0 B H a n c l) (hn : n ≤ 1000000) :
    Fn Try.prog w0 B 16 [.slice a n c] H (fun v H' => ∃ (f m : Nat → Int) (pv sv qv : Value) (P Q : List Int) (S : List Pt) (Xp Xs Xq : List Ent), v = .tuple #[.agg (edC f m pv sv qv).toArray, .int .i64 ((getE l).2 : Int)] ∧ (getE l).1 = ⟨f10 f, P, S, f6 m, Q⟩ ∧ H' = Xp ++ (Xs ++ (Xq ++ H)) ∧
      (∀ F, Own 3 1 pv P.length (P.map iV) F (Xp ++ F)) ∧ (∀ F, Own 86 2 sv S.length (S.flatMap ptV) F (Xs ++ F)) ∧ (∀ F, Own 3 1 qv Q.length (Q.map iV) F (Xq ++ F))) := by
  have he := hb.eq
  have hle := hb.le
  have hsm := hb.small
  refine fn_intro Try.func16 rfl (by kernel_rfl) rfl ?_
  repeat (first | refine go_ ?_ | refine bx_ (fun _ => ?_))
  rename_i g2 gi gf
  obtain ⟨b2, hbe⟩ : ∃ b2 : Ent, b2 = ⟨g2, 39, edC (fun _ => 0) (fun _ => 0) (.slice none 0 0) (.slice none 0 0) (.slice none 0 0), 19⟩ := ⟨_, rfl⟩
  have iH : Imp (b2 :: H) H := Imp.drop (Imp.refl _)
  refine HC.perm (H' := ⟨gf, 91, List.replicate 10 (.int .i64 0), 10⟩ :: RfB gi a n c 0 0 :: b2 :: H) ?_ (by rw [hbe]; exact List.Perm.refl _)
  obtain ⟨G1, hG1⟩ : ∃ G1, G1 = Rd.fix 10 ⟨l, 0⟩ := ⟨_, rfl⟩
  refine hc_loopd (fun q fr M => ∃ j L1 s p C, j + q = 10 ∧ L1.length = j ∧ (L1 ++ (Rd.fix q s).1 = G1.1 ∧ (Rd.fix q s).2 = G1.2) ∧ C = L1.map iV ++ List.replicate q (.int .i64 0) ∧ (s.l = l.drop p ∧ p ≤ n) ∧
    M = ⟨gf, 91, C, 10⟩ :: RfB gi a n c p s.e :: b2 :: H ∧ Agr fr [(0, .slice a n c), (2, .pointer (some ⟨g2, 0, none⟩)), (4, .pointer (some ⟨gi, 0, none⟩)), (5, .pointer (some ⟨gf, 0, none⟩)), (6, .int .i64 (j : Int))]) 10 ?_ ?_
  · exact ⟨0, [], ⟨l, 0⟩, 0, _, by omega, rfl, ⟨by rw [hG1]; rfl, by rw [hG1]⟩, rfl, ⟨rfl, by omega⟩, rfl, rfl, rfl, rfl, rfl, rfl, trivial⟩
  rintro q fr M ⟨j, L1, s, p, C, hj, hL1, ⟨h1, h2⟩, rfl, ⟨hs, hp⟩, rfl, hff⟩
  obtain ⟨base, rfl⟩ := hff.out
  clear hff
  by_cases hq : q = 0
  rotate_left
  · obtain ⟨q, rfl⟩ : ∃ q', q = q' + 1 := ⟨q - 1, by omega⟩
    rw [Rd.fix] at h1 h2
    dsimp only at h1 h2
    have hlen : j < (L1.map iV ++ List.replicate (q + 1) (Value.int .i64 0)).length := by simp; omega
    have hset : ∀ z : Int, (L1.map iV ++ List.replicate (q + 1) (Value.int .i64 0)).set j (.int .i64 z) = (L1 ++ [z]).map iV ++ List.replicate q (.int .i64 0) := fun z => by
      rw [List.set_append_right _ _ (by simp; omega), List.length_map, hL1, Nat.sub_self, List.replicate_succ, List.set_cons_zero, List.map_append, List.append_assoc]
      rfl
    refine HC.perm (H' := RfB gi a n c p s.e :: ⟨gf, 91, L1.map iV ++ List.replicate (q + 1) (.int .i64 0), 10⟩ :: b2 :: H) ?_ (List.Perm.swap _ _ _)
    repeat (first | refine go_ ?_ | refine bx_ (fun _ => ?_))
    refine hl_call rfl rfl (rrnum_fn hb (Imp.drop iH) hs hp) (fun v M hv => ?_)
    obtain ⟨p', rfl, rfl, hs', hp'⟩ := hv
    repeat (first | refine go_ ?_ | refine bx_ (fun _ => ?_))
    refine ⟨q, by omega, _, Imp.refl _, j + 1, L1 ++ [s.num.1], s.num.2, p', _, by omega, by simp [hL1], ⟨by rw [← h1]; simp, h2⟩, hset s.num.1, ⟨hs', hp'⟩, rfl, rfl, rfl, rfl, rfl, rfl, trivial⟩
  subst hq
  rw [Rd.fix] at h1 h2
  rw [List.append_nil] at h1
  dsimp only at h2
  obtain rfl : j = 10 := by omega
  obtain ⟨f, hf⟩ := ten_of hL1
  subst hf
  subst h2
  have hsl := congrArg List.length hs
  rw [List.length_drop, he] at hsl
  repeat (first | refine go_ ?_ | refine bx_ (fun _ => ?_))
  rename_i g7
  refine HL.imp (H' := RfB gi a n c p G1.2.e :: ⟨g7, 39, edC f (fun _ => 0) (.slice none 0 0) (.slice none 0 0) (.slice none 0 0), 19⟩ :: b2 :: H) ?_ (Imp.trans (Imp.sub (H2 := ⟨g7, 39, edC f (fun _ => 0) (.slice none 0 0) (.slice none 0 0) (.slice none 0 0), 19⟩ :: RfB gi a n c p G1.2.e :: b2 :: H) (List.Sublist.cons_cons _ (List.sublist_cons_self _ _))) (Imp.perm (List.Perm.swap _ _ _) (Imp.refl _)))
  have hf10 : Rd.fix 10 ⟨l, 0⟩ = (f10 f, G1.2) := by rw [← hG1, h1]
  obtain ⟨s1, hs1⟩ : ∃ s1, s1 = G1.2 := ⟨_, rfl⟩
  rw [← hs1] at hf10 hs ⊢
  have hl1 : s1.l.length ≤ n := by rw [hs, List.length_drop]; omega
  refine hl_call rfl rfl (rrnums_fn (s := s1) hb (Imp.drop iH) hs hp (by omega)) (fun v M hv => ?_)
  obtain ⟨p2, Xp, hi1, hop, hs2, hp2⟩ := hv
  refine HL.imp ?_ hi1
  obtain ⟨G2, hG2⟩ : ∃ G2, G2 = s1.nums := ⟨_, rfl⟩
  rw [← hG2] at hop hs2 ⊢
  obtain ⟨pa, pc, rfl, _, _⟩ := (hop []).form
  repeat (first | refine go_ ?_ | refine bx_ (fun _ => ?_) | (refine is_store ?_; refine hl_storeS rfl rfl (.there (Take.app Xp .here)) (by simp) rfl ?_))
  refine HL.perm (H' := RfB gi a n c p2 G2.2.e :: ⟨g7, 39, edC f (fun _ => 0) (.slice pa G2.1.length pc) (.slice none 0 0) (.slice none 0 0), 19⟩ :: (Xp ++ (b2 :: H))) ?_ (List.Perm.swap _ _ _)
  have iT : ∀ (X : List Ent) (e : Ent), Imp (e :: (X ++ (Xp ++ (b2 :: H)))) H := fun X e => Imp.drop ((Imp.tail X _).trans ((Imp.tail Xp _).trans iH))
  refine hl_call rfl rfl (rrsize_fn (s := G2.2) hb (iT [] _) hs2 hp2) (fun v M hv => ?_)
  obtain ⟨p3, rfl, rfl, hs3, hp3⟩ := hv
  have hsz3 := (Rd.size_le G2.2).2
  rw [hs2, List.length_drop] at hsz3
  obtain ⟨G3, hG3⟩ : ∃ G3, G3 = G2.2.size := ⟨_, rfl⟩
  rw [← hG3] at hs3 hsz3 ⊢
  obtain ⟨N, s3⟩ := G3
  dsimp only at hs3 hsz3 ⊢
  obtain ⟨G4, hG4⟩ : ∃ G4, G4 = Rd.ptsP N s3 := ⟨_, rfl⟩
  repeat (first | refine op_ ?_ | refine bx_ (fun _ => ?_))
  refine hc_seq ?_
  refine hc_seq ?_
  refine hc_region ?_
  repeat (first | refine op_ ?_ | refine bx_ (fun _ => ?_))
  refine hc_meet (fun fr M => ∃ p sv Xs, (∀ F, Own 86 2 sv G4.1.length (G4.1.flatMap ptV) F (Xs ++ F)) ∧ (G4.2.l = l.drop p ∧ p ≤ n) ∧ Imp M (RfB gi a n c p G4.2.e :: ⟨g7, 39, edC f (fun _ => 0) (.slice pa G2.1.length pc) sv (.slice none 0 0), 19⟩ :: (Xs ++ (Xp ++ (b2 :: H)))) ∧
    Agr fr [(0, .slice a n c), (2, .pointer (some ⟨g2, 0, none⟩)), (4, .pointer (some ⟨gi, 0, none⟩)), (7, .pointer (some ⟨g7, 0, none⟩))]) ?_ ?_
  · repeat (first | refine go_ ?_ | refine bx_ (fun _ => ?_))
    refine hc_loopd (fun q fr M => ∃ j S1 s p sv Xs, j + q = N ∧ S1.length = j ∧ (S1 ++ (Rd.ptsP q s).1 = G4.1 ∧ (Rd.ptsP q s).2 = G4.2) ∧ (∀ F, Own 86 2 sv j (S1.flatMap ptV) F (Xs ++ F)) ∧ (s.l = l.drop p ∧ p ≤ n) ∧ Imp M (RfB gi a n c p s.e :: ⟨g7, 39, edC f (fun _ => 0) (.slice pa G2.1.length pc) sv (.slice none 0 0), 19⟩ :: (Xs ++ (Xp ++ (b2 :: H)))) ∧
      Agr fr [(0, .slice a n c), (2, .pointer (some ⟨g2, 0, none⟩)), (4, .pointer (some ⟨gi, 0, none⟩)), (7, .pointer (some ⟨g7, 0, none⟩)), (8, .int .i64 (N : Int)), (9, .int .i64 (j : Int))]) N ?_ ?_
    · exact ⟨0, [], s3, p3, _, [], by omega, rfl, ⟨by rw [hG4]; rfl, by rw [hG4]⟩, fun F => Own.nil, ⟨hs3, hp3⟩, Imp.refl _, rfl, rfl, rfl, rfl, rfl, rfl, trivial⟩
    have hN : N ≤ n := by omega
    clear hs3 hsz3 hp3 hs2 hp2 hs hp hsl hl1 hi1 p3 p2 p
    rintro q fr M ⟨j, S1, s, p, sv, Xs, hj, hS1, ⟨h1, h2⟩, ho, ⟨hs, hp⟩, him, hff⟩
    obtain ⟨base, rfl⟩ := hff.out
    clear hff
    refine HC.imp ?_ him
    obtain ⟨av, cv, rfl, _, _⟩ := (ho []).form
    by_cases hq : q = 0
    · subst hq
      rw [Rd.ptsP] at h1 h2
      rw [List.append_nil] at h1
      dsimp only at h2
      obtain rfl : j = N := by omega
      repeat (first | refine go_ ?_ | refine bx_ (fun _ => ?_))
      exact ⟨p, _, Xs, by rw [← h1, hS1]; exact ho, by rw [← h2]; exact ⟨hs, hp⟩, by rw [← h2]; exact Imp.refl _, rfl, rfl, rfl, rfl, trivial⟩
    obtain ⟨q, rfl⟩ : ∃ q', q = q' + 1 := ⟨q - 1, by omega⟩
    rw [Rd.ptsP] at h1 h2
    by_cases h0 : s.e = 0
    rotate_left
    · rw [if_pos h0] at h1 h2
      rw [List.append_nil] at h1
      dsimp only at h2
      repeat (first | refine go_ ?_ | refine bx_ (fun _ => ?_))
      exact ⟨p, _, Xs, by rw [← h1, hS1]; exact ho, by rw [← h2]; exact ⟨hs, hp⟩, by rw [← h2]; exact Imp.refl _, rfl, rfl, rfl, rfl, trivial⟩
    rw [if_neg (by omega)] at h1 h2
    dsimp only at h1 h2
    have iX := iT Xs ⟨g7, 39, edC f (fun _ => 0) (.slice pa G2.1.length pc) (.slice av j cv) (.slice none 0 0), 19⟩
    repeat (first | refine go_ ?_ | refine bx_ (fun _ => ?_))
    refine hl_call rfl rfl (rrnum_fn hb iX hs hp) (fun v M hv => ?_)
    obtain ⟨p5, rfl, rfl, hs5, hp5⟩ := hv
    repeat (first | refine go_ ?_ | refine bx_ (fun _ => ?_))
    refine hl_call rfl rfl (rrnum_fn (s := s.num.2) hb iX hs5 hp5) (fun v M hv => ?_)
    obtain ⟨p6, rfl, rfl, hs6, hp6⟩ := hv
    repeat (first | refine go_ ?_ | refine bx_ (fun _ => ?_))
    rename_i gb
    refine hl_append_own (F := ⟨gb, 86, [.int .i64 s.num.1, .int .i64 s.num.2.num.1], 1 * 2⟩ :: RfB gi a n c p6 s.num.2.num.2.e :: ⟨g7, 39, edC f (fun _ => 0) (.slice pa G2.1.length pc) (.slice av j cv) (.slice none 0 0), 19⟩ :: (Xp ++ (b2 :: H))) rfl rfl ((((ho _).under _).under _).under _) (Rds.ent (n := 2) (l := [.int .i64 s.num.1, .int .i64 s.num.2.num.1]) .here rfl (by simp [Value.oneCell'])) rfl rfl (by decide) (by omega) (by omega) rfl (fun v8 M8 o8 => ?_)
    obtain ⟨a8, c8, rfl, _, _⟩ := o8.form
    obtain ⟨Z, hZ, ho8⟩ := o8.permE
    refine HL.perm ?_ (hZ.trans (app_swap Z [_, _, _] _))
    repeat (first | refine go_ ?_ | refine bx_ (fun _ => ?_))
    exact ⟨q, by omega, _, Imp.refl _, j + 1, S1 ++ [(⟨s.num.1, s.num.2.num.1⟩ : Pt)], s.num.2.num.2, p6, .slice a8 (j + 1) c8, Z, by omega, by simp [hS1], ⟨by rw [← h1]; simp, h2⟩, fun F => by rw [List.flatMap_append]; exact ho8 F, ⟨hs6, hp6⟩, Imp.perm (List.perm_middle (l₁ := [_, _])).symm (Imp.perm (List.Perm.refl _) (Imp.drop (Imp.refl _))), rfl, rfl, rfl, rfl, rfl, rfl, trivial⟩
  rintro fr M ⟨p4, sv, Xs, hos, ⟨hs4, hp4⟩, him, hff⟩
  obtain ⟨base, rfl⟩ := hff.out
  clear hff
  refine HC.imp ?_ him
  obtain ⟨sa, sc, rfl, _, _⟩ := (hos []).form
  obtain ⟨G5, hG5⟩ : ∃ G5, G5 = Rd.fix 6 G4.2 := ⟨_, rfl⟩
  repeat (first | refine go_ ?_ | refine bx_ (fun _ => ?_))
  obtain ⟨T, hT⟩ : ∃ T, T = Xs ++ (Xp ++ (b2 :: H)) := ⟨_, rfl⟩
  have iT3 : ∀ e, Imp (e :: T) H := fun e => by rw [hT]; exact iT Xs e
  rw [← hT]
  refine hc_loopd (fun q fr M => ∃ j L1 s p C, j + q = 6 ∧ L1.length = j ∧ (L1 ++ (Rd.fix q s).1 = G5.1 ∧ (Rd.fix q s).2 = G5.2) ∧ C = edP f (.slice pa G2.1.length pc) (.slice sa G4.1.length sc) ++ ((L1.map iV ++ List.replicate q (.int .i64 0)) ++ [Value.slice none 0 0]) ∧ (s.l = l.drop p ∧ p ≤ n) ∧
    M = RfB gi a n c p s.e :: ⟨g7, 39, C, 19⟩ :: T ∧ Agr fr [(0, .slice a n c), (2, .pointer (some ⟨g2, 0, none⟩)), (4, .pointer (some ⟨gi, 0, none⟩)), (7, .pointer (some ⟨g7, 0, none⟩)), (12, .int .i64 (j : Int))]) 6 ?_ ?_
  · exact ⟨0, [], G4.2, p4, _, by omega, rfl, ⟨by rw [hG5]; rfl, by rw [hG5]⟩, rfl, ⟨hs4, hp4⟩, rfl, rfl, rfl, rfl, rfl, rfl, trivial⟩
  clear hs4 hp4 hi1 him
  rintro q fr M ⟨j, L1, s, p, C, hj, hL1, ⟨h1, h2⟩, rfl, ⟨hs, hp⟩, rfl, hff⟩
  obtain ⟨base, rfl⟩ := hff.out
  clear hff
  by_cases hq : q = 0
  rotate_left
  · obtain ⟨q, rfl⟩ : ∃ q', q = q' + 1 := ⟨q - 1, by omega⟩
    rw [Rd.fix] at h1 h2
    dsimp only at h1 h2
    have hlen : 12 + j < (edP f (.slice pa G2.1.length pc) (.slice sa G4.1.length sc) ++ ((L1.map iV ++ List.replicate (q + 1) (Value.int .i64 0)) ++ [Value.slice none 0 0])).length := by simp; omega
    have hset : ∀ z : Int, (edP f (.slice pa G2.1.length pc) (.slice sa G4.1.length sc) ++ ((L1.map iV ++ List.replicate (q + 1) (Value.int .i64 0)) ++ [Value.slice none 0 0])).set (12 + j) (.int .i64 z) = edP f (.slice pa G2.1.length pc) (.slice sa G4.1.length sc) ++ (((L1 ++ [z]).map iV ++ List.replicate q (.int .i64 0)) ++ [Value.slice none 0 0]) := fun z => by
      rw [List.set_append_right _ _ (by simp), show 12 + j - (edP f (.slice pa G2.1.length pc) (.slice sa G4.1.length sc)).length = j by simp, List.set_append_left _ _ (by simp; omega), List.set_append_right _ _ (by simp; omega), List.length_map, hL1, Nat.sub_self, List.replicate_succ, List.set_cons_zero, List.map_append]
      simp
    repeat (first | refine go_ ?_ | refine bx_ (fun _ => ?_))
    refine hl_call rfl rfl (rrnum_fn hb (iT3 _) hs hp) (fun v M hv => ?_)
    obtain ⟨p', rfl, rfl, hs', hp'⟩ := hv
    repeat (first | refine go_ ?_ | refine bx_ (fun _ => ?_))
    refine ⟨q, by omega, _, Imp.perm (List.Perm.swap _ _ _) (Imp.refl _), j + 1, L1 ++ [s.num.1], s.num.2, p', _, by omega, by simp [hL1], ⟨by rw [← h1]; simp, h2⟩, hset s.num.1, ⟨hs', hp'⟩, rfl, rfl, rfl, rfl, rfl, rfl, trivial⟩
  subst hq
  rw [Rd.fix] at h1 h2
  rw [List.append_nil] at h1
  dsimp only at h2
  obtain rfl : j = 6 := by omega
  obtain ⟨m, hm⟩ := six_of hL1
  subst hm
  refine HC.perm (H' := RfB gi a n c p s.e :: ⟨g7, 39, edC f m (.slice pa G2.1.length pc) (.slice sa G4.1.length sc) (.slice none 0 0), 19⟩ :: T) ?_ (List.Perm.refl _)
  have hm : Rd.fix 6 G4.2 = (f6 m, s) := by rw [← hG5, h1, h2]
  repeat (first | refine go_ ?_ | refine bx_ (fun _ => ?_))
  refine hl_call rfl rfl (rrnums_fn (s := s) hb (iT3 _) hs hp (by omega)) (fun v M hv => ?_)
  obtain ⟨p7, Xq, hi7, hoq, hs7, hp7⟩ := hv
  refine HL.imp ?_ hi7
  obtain ⟨G6, hG6⟩ : ∃ G6, G6 = s.nums := ⟨_, rfl⟩
  rw [← hG6] at hoq hs7 ⊢
  obtain ⟨qa, qc, rfl, _, _⟩ := (hoq []).form
  have hR : getR l = (⟨f10 f, G2.1, G4.1, f6 m, G6.1⟩, G6.2) := by
    unfold getR
    dsimp only
    rw [hf10]
    dsimp only
    rw [← hG2, ← hG3]
    dsimp only
    rw [← hG4, hm]
    dsimp only
    rw [← hG6]
  have hE : getE l = if G6.2.endE = 0 then (⟨f10 f, G2.1, G4.1, f6 m, G6.1⟩, 0) else (Ed.zero, G6.2.endE) := by
    unfold getE
    rw [hR]
  have hend : G6.2.endE = if G6.2.e = 0 ∧ p7 < n then 25 else G6.2.e := by
    unfold Rd.endE
    have : G6.2.l ≠ [] ↔ p7 < n := by
      rw [hs7]
      constructor
      · intro h
        have := List.length_pos_iff.2 h
        rw [List.length_drop] at this
        omega
      · intro h h0
        have := congrArg List.length h0
        rw [List.length_drop, List.length_nil] at this
        omega
    simp only [this]
  rw [hE]
  repeat (first | refine go_ ?_ | refine bx_ (fun _ => ?_))
  refine is_store ?_
  refine hl_storeS rfl rfl (.there (Take.app Xq .here)) (by simp) rfl ?_
  rw [hT]
  refine HL.perm (H' := b2 :: RfB gi a n c p7 G6.2.e :: ⟨g7, 39, edC f m (.slice pa G2.1.length pc) (.slice sa G4.1.length sc) (.slice qa G6.1.length qc), 19⟩ :: (Xq ++ (Xs ++ (Xp ++ H)))) ?_ ((List.Perm.swap _ _ _).trans (Take.there (.there (Take.app Xq (Take.app Xs (Take.app Xp .here))))).perm)
  rw [hend]
  generalize G6.2.e = ee
  rw [hbe]
  by_cases h0 : ee = 0
  · by_cases hpl : p7 < n
    · have h1 : ee = 0 ∧ p7 < n := ⟨h0, hpl⟩
      rw [if_pos h1, if_neg (show ¬ (25 : Nat) = 0 by decide)]
      clear h1
      subst h0
      repeat (first | refine go_ ?_ | refine bx_ (fun _ => ?_))
      refine HL.perm ?_ (List.Perm.swap _ _ _)
      refine hl_call rfl rfl (rfail_fn (k := 25)) (fun v M hv => ?_)
      obtain ⟨rfl, rfl⟩ := hv
      rw [if_pos rfl]
      refine HL.perm ?_ (List.Perm.swap _ _ _)
      repeat (first | refine go_ ?_ | refine bx_ (fun _ => ?_))
      obtain ⟨T2, hT2⟩ : ∃ T2, T2 = ⟨g7, 39, edC f m (.slice pa G2.1.length pc) (.slice sa G4.1.length sc) (.slice qa G6.1.length qc), 19⟩ :: (Xq ++ (Xs ++ (Xp ++ H))) := ⟨_, rfl⟩
      have iT2 : Imp T2 H := by rw [hT2]; exact Imp.drop ((Imp.tail Xq _).trans ((Imp.tail Xs _).trans (Imp.tail Xp _)))
      rw [← hT2]
      refine hc_meet (fun fr M => Agr fr [(2, .pointer (some ⟨g2, 0, none⟩)), (3, .int .i64 ((25 : Nat) : Int))] ∧ M = ⟨g2, 39, edC (fun _ => 0) (fun _ => 0) (.slice none 0 0) (.slice none 0 0) (.slice none 0 0), 19⟩ :: RfB gi a n c p7 25 :: T2) ?_ ?_
      · refine hc_drawA (RfB gi a n c p7 25 :: T2) (by kernel_rfl) ?_
        refine ha_quiet [0, 1, 2, 3, 4] (by rfl) (by kernel_rfl) ?_
        repeat (first | refine gd_ ?_)
        refine ha_fork1 5 (by rfl) (by kernel_rfl) (by rfl) (by first | exact Imp.refl _ | exact Imp.drop (Imp.refl _) | exact Imp.drop (Imp.drop (Imp.refl _)) | exact Imp.drop (Imp.drop (Imp.drop (Imp.refl _))) | exact Imp.drop (Imp.drop (Imp.drop (Imp.drop (Imp.refl _)))) | exact Imp.drop (Imp.drop (Imp.drop (Imp.drop (Imp.drop (Imp.refl _))))) | exact Imp.drop (Imp.drop (Imp.drop (Imp.drop (Imp.drop (Imp.drop (Imp.refl _)))))) | exact Imp.drop (Imp.drop (Imp.drop (Imp.drop (Imp.drop (Imp.drop (Imp.drop (Imp.refl _))))))) | exact Imp.drop (Imp.drop (Imp.drop (Imp.drop (Imp.drop (Imp.drop (Imp.drop (Imp.drop (Imp.refl _)))))))) | assumption | exact imp_nil _ | exact Imp.drop2 (Imp.refl _) | exact Imp.drop2 (Imp.drop2 (Imp.refl _)) | exact Imp.drop (Imp.drop2 (Imp.refl _))) ?_
        · skip
          repeat (first | refine op_ ?_ | refine bx_ (fun _ => ?_))
          refine ha_quiet [6] (by rfl) (by kernel_rfl) ?_
          repeat (first | refine gd_ ?_)
          refine ha_end (by rfl) (by kernel_rfl) (by first | exact Imp.refl _ | exact Imp.drop (Imp.refl _) | exact Imp.drop (Imp.drop (Imp.refl _)) | exact Imp.drop (Imp.drop (Imp.drop (Imp.refl _))) | exact Imp.drop (Imp.drop (Imp.drop (Imp.drop (Imp.refl _)))) | exact Imp.drop (Imp.drop (Imp.drop (Imp.drop (Imp.drop (Imp.refl _))))) | exact Imp.drop (Imp.drop (Imp.drop (Imp.drop (Imp.drop (Imp.drop (Imp.refl _)))))) | exact Imp.drop (Imp.drop (Imp.drop (Imp.drop (Imp.drop (Imp.drop (Imp.drop (Imp.refl _))))))) | exact Imp.drop (Imp.drop (Imp.drop (Imp.drop (Imp.drop (Imp.drop (Imp.drop (Imp.drop (Imp.refl _)))))))) | assumption | exact imp_nil _ | exact Imp.drop2 (Imp.refl _) | exact Imp.drop2 (Imp.drop2 (Imp.refl _)) | exact Imp.drop (Imp.drop2 (Imp.refl _))) ?_
          exact ⟨⟨rfl, rfl, trivial⟩, rfl⟩
      rintro fr M ⟨hff, rfl⟩
      obtain ⟨base, rfl⟩ := hff.out
      clear hff
      repeat (first | refine go_ ?_ | refine bx_ (fun _ => ?_))
      refine finCI (n := 19) rfl rfl .here rfl rfl ⟨fun _ => 0, fun _ => 0, .slice none 0 0, .slice none 0 0, .slice none 0 0, [], [], [], [], [], [], rfl, rfl, rfl, fun F => Own.nil, fun F => Own.nil, fun F => Own.nil⟩ (Imp.drop (Imp.drop iT2))
    · have h1 : ¬ (ee = 0 ∧ p7 < n) := fun h => hpl h.2
      rw [if_neg h1, if_pos h0]
      subst h0
      repeat (first | refine go_ ?_ | refine bx_ (fun _ => ?_))
      refine finCI (n := 19) rfl rfl .here rfl rfl ⟨f, m, .slice pa G2.1.length pc, .slice sa G4.1.length sc, .slice qa G6.1.length qc, G2.1, G6.1, G4.1, Xp, Xs, Xq, rfl, rfl, rfl, hop, hos, hoq⟩ (Imp.drop (Imp.drop (Imp.drop (Imp.perm (rev3 Xq Xs Xp H) (Imp.refl _)))))
  · have h1 : ¬ (ee = 0 ∧ p7 < n) := fun h => h0 h.1
    rw [if_neg h1, if_neg h0]
    repeat (first | refine go_ ?_ | refine bx_ (fun _ => ?_))
    obtain ⟨T2, hT2⟩ : ∃ T2, T2 = ⟨g7, 39, edC f m (.slice pa G2.1.length pc) (.slice sa G4.1.length sc) (.slice qa G6.1.length qc), 19⟩ :: (Xq ++ (Xs ++ (Xp ++ H))) := ⟨_, rfl⟩
    have iT2 : Imp T2 H := by rw [hT2]; exact Imp.drop ((Imp.tail Xq _).trans ((Imp.tail Xs _).trans (Imp.tail Xp _)))
    rw [← hT2]
    refine hc_meet (fun fr M => Agr fr [(2, .pointer (some ⟨g2, 0, none⟩)), (3, .int .i64 (ee : Int))] ∧ M = ⟨g2, 39, edC (fun _ => 0) (fun _ => 0) (.slice none 0 0) (.slice none 0 0) (.slice none 0 0), 19⟩ :: RfB gi a n c p7 ee :: T2) ?_ ?_
    · refine hc_drawA (RfB gi a n c p7 ee :: T2) (by kernel_rfl) ?_
      refine ha_quiet [0, 1, 2, 3, 4] (by rfl) (by kernel_rfl) ?_
      repeat (first | refine gd_ ?_)
      refine ha_fork1 5 (by rfl) (by kernel_rfl) (by rfl) (by first | exact Imp.refl _ | exact Imp.drop (Imp.refl _) | exact Imp.drop (Imp.drop (Imp.refl _)) | exact Imp.drop (Imp.drop (Imp.drop (Imp.refl _))) | exact Imp.drop (Imp.drop (Imp.drop (Imp.drop (Imp.refl _)))) | exact Imp.drop (Imp.drop (Imp.drop (Imp.drop (Imp.drop (Imp.refl _))))) | exact Imp.drop (Imp.drop (Imp.drop (Imp.drop (Imp.drop (Imp.drop (Imp.refl _)))))) | exact Imp.drop (Imp.drop (Imp.drop (Imp.drop (Imp.drop (Imp.drop (Imp.drop (Imp.refl _))))))) | exact Imp.drop (Imp.drop (Imp.drop (Imp.drop (Imp.drop (Imp.drop (Imp.drop (Imp.drop (Imp.refl _)))))))) | assumption | exact imp_nil _ | exact Imp.drop2 (Imp.refl _) | exact Imp.drop2 (Imp.drop2 (Imp.refl _)) | exact Imp.drop (Imp.drop2 (Imp.refl _))) ?_
      · skip
        repeat (first | refine op_ ?_ | refine bx_ (fun _ => ?_))
        refine ha_quiet [6] (by rfl) (by kernel_rfl) ?_
        repeat (first | refine gd_ ?_)
        refine ha_end (by rfl) (by kernel_rfl) (by first | exact Imp.refl _ | exact Imp.drop (Imp.refl _) | exact Imp.drop (Imp.drop (Imp.refl _)) | exact Imp.drop (Imp.drop (Imp.drop (Imp.refl _))) | exact Imp.drop (Imp.drop (Imp.drop (Imp.drop (Imp.refl _)))) | exact Imp.drop (Imp.drop (Imp.drop (Imp.drop (Imp.drop (Imp.refl _))))) | exact Imp.drop (Imp.drop (Imp.drop (Imp.drop (Imp.drop (Imp.drop (Imp.refl _)))))) | exact Imp.drop (Imp.drop (Imp.drop (Imp.drop (Imp.drop (Imp.drop (Imp.drop (Imp.refl _))))))) | exact Imp.drop (Imp.drop (Imp.drop (Imp.drop (Imp.drop (Imp.drop (Imp.drop (Imp.drop (Imp.refl _)))))))) | assumption | exact imp_nil _ | exact Imp.drop2 (Imp.refl _) | exact Imp.drop2 (Imp.drop2 (Imp.refl _)) | exact Imp.drop (Imp.drop2 (Imp.refl _))) ?_
        exact ⟨⟨rfl, rfl, trivial⟩, rfl⟩
    rintro fr M ⟨hff, rfl⟩
    obtain ⟨base, rfl⟩ := hff.out
    clear hff
    repeat (first | refine go_ ?_ | refine bx_ (fun _ => ?_))
    refine finCI (n := 19) rfl rfl .here rfl rfl ⟨fun _ => 0, fun _ => 0, .slice none 0 0, .slice none 0 0, .slice none 0 0, [], [], [], [], [], [], rfl, rfl, rfl, fun F => Own.nil, fun F => Own.nil, fun F => Own.nil⟩ (Imp.drop (Imp.drop iT2))
end
end Go.Proofs.Ytoobhebbgbhahaa
