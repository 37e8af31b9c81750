/-
  An edit that is read. No condition.
-/
import Derived.Test.YtoobhebbgbhahaaP8
namespace Go.Proofs.Ytoobhebbgbhahaa
open Go.RowKit
def Rd.it (s : Rd) : Nat → Rd
  | 0 => s
  | i + 1 => (Rd.it s i).num.2
theorem Rd.fix10 (s : Rd) : Rd.fix 10 s = (f10 (fun i => (Rd.it s i).num.1), Rd.it s 10) := by
  simp only [Rd.fix, Rd.it]
  rfl
theorem Rd.it_le (s : Rd) : ∀ i, (Rd.it s i).l.length ≤ s.l.length
  | 0 => Nat.le_refl _
  | i + 1 => by have := (Rd.it s i).num_le; have := Rd.it_le s i; rw [Rd.it]; omega
section
variable {w0 : World} {B : Nat} {H R R0 : List Ent} {g : Nat}
set_option maxHeartbeats 16000000
set_option maxRecDepth 100000
theorem inumI_fn {s : Rd} (i : Nat) {a : Option Addr} {n c : Nat} (hb : BytR w0 B R0 a n c (Rd.it s i).l) (hi : Imp R R0) :
    Fn Try.prog w0 B 27 [.pointer (some ⟨g, 0, none⟩)] (InB g a n c (Rd.it s i).e :: R) (fun v H' => ∃ a' n' c', v = .int .i64 (Rd.it s i).num.1 ∧ H' = InB g a' n' c' (Rd.it s (i + 1)).e :: R ∧ BytR w0 B R0 a' n' c' (Rd.it s (i + 1)).l) := inumS_fn hb hi
theorem inumsS_fn {s : Rd} {a : Option Addr} {n c : Nat} (hb : BytR w0 B R0 a n c s.l) (hi : Imp R R0) (hn : n ≤ 1000000000) :
    Fn Try.prog w0 B 28 [.pointer (some ⟨g, 0, none⟩)] (InB g a n c s.e :: R) (fun v H' => ∃ a' n' c' Xl, Imp H' (InB g a' n' c' s.nums.2.e :: (Xl ++ R)) ∧ (∀ F, Own 3 1 v s.nums.1.length (s.nums.1.map iV) F (Xl ++ F)) ∧ BytR w0 B R0 a' n' c' s.nums.2.l) := inums_fn hb hi hn
theorem isizeS_fn {s : Rd} {a : Option Addr} {n c : Nat} (hb : BytR w0 B R0 a n c s.l) (hi : Imp R R0) :
    Fn Try.prog w0 B 29 [.pointer (some ⟨g, 0, none⟩)] (InB g a n c s.e :: R) (fun v H' => ∃ a' n' c', v = .int .i64 (s.size.1 : Int) ∧ H' = InB g a' n' c' s.size.2.e :: R ∧ BytR w0 B R0 a' n' c' s.size.2.l) := isize_fn hb hi
theorem rev3 (A C D H : List Ent) : (A ++ (C ++ (D ++ H))).Perm (D ++ (C ++ (A ++ H))) :=
  (app_swap A C _).trans (((app_swap A D H).append_left C).trans (app_swap C D _))
theorem length_ptsV (l : List Pt) : (l.flatMap ptV).length = l.length * 2 := length_pts l
theorem getEdit_fn {a : Option Addr} {n c : Nat} {l : List UInt8} (hb : BytR w0 B H a n c l) (hn : n ≤ 1000000) :
    Fn Try.prog w0 B 11 [.slice a n c] H (fun v H' => ∃ (f m : Nat → Int) (pv sv qv : Value) (P Q : List Int) (S : List Pt) (Xp Xs Xq : List Ent), v = .tuple #[.agg (edC f m pv sv qv).toArray, .int .i64 ((getE l).2 : Int)] ∧ (getE l).1 = ⟨f10 f, P, S, f6 m, Q⟩ ∧ H' = Xp ++ (Xs ++ (Xq ++ H)) ∧
      (∀ F, Own 3 1 pv P.length (P.map iV) F (Xp ++ F)) ∧ (∀ F, Own 78 2 sv S.length (S.flatMap ptV) F (Xs ++ F)) ∧ (∀ F, Own 3 1 qv Q.length (Q.map iV) F (Xq ++ F))) := by
  have he := hb.eq
  refine fn_intro Try.func11 rfl (by kernel_rfl) rfl ?_
  repeat (first | refine go_ ?_ | refine bx_ (fun _ => ?_))
  rename_i g2 gi
  obtain ⟨b2, hbe⟩ : ∃ b2 : Ent, b2 = ⟨g2, 27, edC (fun _ => 0) (fun _ => 0) (.slice none 0 0) (.slice none 0 0) (.slice none 0 0), 19⟩ := ⟨_, rfl⟩
  refine HL.perm (H' := InB gi a n c (Rd.it ⟨l, 0⟩ 0).e :: b2 :: H) ?_ (by rw [hbe]; exact List.Perm.refl _)
  have iH : Imp (b2 :: H) H := Imp.drop (Imp.refl _)
  have hb0 : BytR w0 B H a n c (Rd.it ⟨l, 0⟩ 0).l := hb
  refine hl_call rfl rfl (inumI_fn 0 hb0 iH) (fun v M hv => ?_)
  obtain ⟨a1, n1, c1, rfl, rfl, hb1⟩ := hv
  repeat (first | refine go_ ?_ | refine bx_ (fun _ => ?_))
  refine hl_call rfl rfl (inumI_fn 1 hb1 iH) (fun v M hv => ?_)
  obtain ⟨a2, n2, c2, rfl, rfl, hb2⟩ := hv
  repeat (first | refine go_ ?_ | refine bx_ (fun _ => ?_))
  refine hl_call rfl rfl (inumI_fn 2 hb2 iH) (fun v M hv => ?_)
  obtain ⟨a3, n3, c3, rfl, rfl, hb3⟩ := hv
  repeat (first | refine go_ ?_ | refine bx_ (fun _ => ?_))
  refine hl_call rfl rfl (inumI_fn 3 hb3 iH) (fun v M hv => ?_)
  obtain ⟨a4, n4, c4, rfl, rfl, hb4⟩ := hv
  repeat (first | refine go_ ?_ | refine bx_ (fun _ => ?_))
  refine hl_call rfl rfl (inumI_fn 4 hb4 iH) (fun v M hv => ?_)
  obtain ⟨a5, n5, c5, rfl, rfl, hb5⟩ := hv
  repeat (first | refine go_ ?_ | refine bx_ (fun _ => ?_))
  refine hl_call rfl rfl (inumI_fn 5 hb5 iH) (fun v M hv => ?_)
  obtain ⟨a6, n6, c6, rfl, rfl, hb6⟩ := hv
  repeat (first | refine go_ ?_ | refine bx_ (fun _ => ?_))
  refine hl_call rfl rfl (inumI_fn 6 hb6 iH) (fun v M hv => ?_)
  obtain ⟨a7, n7, c7, rfl, rfl, hb7⟩ := hv
  repeat (first | refine go_ ?_ | refine bx_ (fun _ => ?_))
  refine hl_call rfl rfl (inumI_fn 7 hb7 iH) (fun v M hv => ?_)
  obtain ⟨a8, n8, c8, rfl, rfl, hb8⟩ := hv
  repeat (first | refine go_ ?_ | refine bx_ (fun _ => ?_))
  refine hl_call rfl rfl (inumI_fn 8 hb8 iH) (fun v M hv => ?_)
  obtain ⟨a9, n9, c9, rfl, rfl, hb9⟩ := hv
  repeat (first | refine go_ ?_ | refine bx_ (fun _ => ?_))
  refine hl_call rfl rfl (inumI_fn 9 hb9 iH) (fun v M hv => ?_)
  obtain ⟨a10, n10, c10, rfl, rfl, hb10⟩ := hv
  repeat (first | refine go_ ?_ | refine bx_ (fun _ => ?_))
  have hle1 := Rd.it_le ⟨l, 0⟩ 10
  have hf10 := Rd.fix10 ⟨l, 0⟩
  obtain ⟨f, hf⟩ : ∃ f : Nat → Int, f = fun i => (Rd.it ⟨l, 0⟩ i).num.1 := ⟨_, rfl⟩
  obtain ⟨s1, hs1⟩ : ∃ s1, s1 = Rd.it ⟨l, 0⟩ 10 := ⟨_, rfl⟩
  have hfi : ∀ i, (Rd.it ⟨l, 0⟩ i).num.1 = f i := fun i => by rw [hf]
  rw [← hf, ← hs1] at hf10
  rw [← hs1] at hb10 hle1
  simp only [hfi]
  rw [show (Rd.it ⟨l, 0⟩ (9 + 1)).e = s1.e by rw [hs1]]
  have hl10 := hb10.eq
  dsimp only at hle1
  refine hl_call rfl rfl (inumsS_fn (s := s1) hb10 iH (by omega)) (fun v M hv => ?_)
  obtain ⟨a', n', c', Xp, hi1, hop, hb'⟩ := hv
  refine HL.imp ?_ hi1
  have hle2 := Rd.nums_le s1
  obtain ⟨G2, hG2⟩ : ∃ G2, G2 = s1.nums := ⟨_, rfl⟩
  rw [← hG2] at hop hb' hle2 ⊢
  obtain ⟨pa, pc, rfl, _, _⟩ := (hop []).form
  repeat (first | refine go_ ?_ | refine bx_ (fun _ => ?_))
  rename_i g5
  refine HL.perm (H' := InB gi a' n' c' G2.2.e :: ⟨g5, 27, edC f (fun _ => 0) (.slice pa G2.1.length pc) (.slice none 0 0) (.slice none 0 0), 19⟩ :: (Xp ++ (b2 :: H))) ?_ (List.Perm.swap _ _ _)
  have iT : ∀ (X : List Ent) (e : Ent), Imp (e :: (X ++ (Xp ++ (b2 :: H)))) H := fun X e => Imp.drop ((Imp.tail X _).trans ((Imp.tail Xp _).trans iH))
  refine hl_call rfl rfl (isizeS_fn (s := G2.2) hb' (iT [] _)) (fun v M hv => ?_)
  obtain ⟨a3, n3, c3, rfl, rfl, hb3⟩ := hv
  obtain ⟨hle3, hsz3⟩ := Rd.size_le G2.2
  obtain ⟨G3, hG3⟩ : ∃ G3, G3 = G2.2.size := ⟨_, rfl⟩
  rw [← hG3] at hb3 hle3 hsz3 ⊢
  obtain ⟨N, s3⟩ := G3
  dsimp only at hb3 hle3 hsz3 ⊢
  obtain ⟨G4, hG4⟩ : ∃ G4, G4 = Rd.ptsP N s3 := ⟨_, rfl⟩
  have hle4 := Rd.ptsP_le N s3
  rw [← hG4] at hle4
  repeat (first | refine op_ ?_ | refine bx_ (fun _ => ?_))
  refine hc_meet (fun fr M => ∃ a n c sv Xs, (∀ F, Own 78 2 sv G4.1.length (G4.1.flatMap ptV) F (Xs ++ F)) ∧ BytR w0 B H a n c G4.2.l ∧ Imp M (InB gi a n c G4.2.e :: ⟨g5, 27, edC f (fun _ => 0) (.slice pa G2.1.length pc) sv (.slice none 0 0), 19⟩ :: (Xs ++ (Xp ++ (b2 :: H)))) ∧
    Agr fr [(2, .pointer (some ⟨g2, 0, none⟩)), (4, .pointer (some ⟨gi, 0, none⟩)), (5, .pointer (some ⟨g5, 0, none⟩))]) ?_ ?_
  · repeat (first | refine go_ ?_ | refine bx_ (fun _ => ?_))
    refine hc_loopd (fun q fr M => ∃ j S1 s a n c sv Xs, j + q = N ∧ S1.length = j ∧ (S1 ++ (Rd.ptsP q s).1 = G4.1 ∧ (Rd.ptsP q s).2 = G4.2) ∧ (∀ F, Own 78 2 sv j (S1.flatMap ptV) F (Xs ++ F)) ∧ BytR w0 B H a n c s.l ∧ Imp M (InB gi a n c s.e :: ⟨g5, 27, edC f (fun _ => 0) (.slice pa G2.1.length pc) sv (.slice none 0 0), 19⟩ :: (Xs ++ (Xp ++ (b2 :: H)))) ∧
      Agr fr [(2, .pointer (some ⟨g2, 0, none⟩)), (4, .pointer (some ⟨gi, 0, none⟩)), (5, .pointer (some ⟨g5, 0, none⟩)), (33, .int .i64 (N : Int)), (34, .int .i64 (j : Int))]) N ?_ ?_
    · exact ⟨0, [], s3, a3, n3, c3, _, [], by omega, rfl, ⟨by rw [hG4]; rfl, by rw [hG4]⟩, fun F => Own.nil, hb3, Imp.refl _, rfl, rfl, rfl, rfl, rfl, trivial⟩
    clear hb3 hb' hb10 hb9 hb8 hb7 hb6 hb5 hb4 hb2 hb1 hb0 hi1
    rintro q fr M ⟨j, S1, s, a, n, c, sv, Xs, hj, hS1, ⟨h1, h2⟩, ho, hb, him, hff⟩
    obtain ⟨base, rfl⟩ := hff.out
    clear hff
    refine HC.imp ?_ him
    obtain ⟨av, cv, rfl, _, _⟩ := (ho []).form
    by_cases hq : q = 0
    · subst hq
      rw [Rd.ptsP] at h1 h2
      rw [List.append_nil] at h1
      dsimp only at h2
      obtain rfl : j = N := by omega
      repeat (first | refine go_ ?_ | refine bx_ (fun _ => ?_))
      exact ⟨a, n, c, _, Xs, by rw [← h1, hS1]; exact ho, by rw [← h2]; exact hb, by rw [← h2]; exact Imp.refl _, rfl, rfl, rfl, trivial⟩
    obtain ⟨q, rfl⟩ : ∃ q', q = q' + 1 := ⟨q - 1, by omega⟩
    rw [Rd.ptsP] at h1 h2
    by_cases h0 : s.e = 0
    rotate_left
    · rw [if_pos h0] at h1 h2
      rw [List.append_nil] at h1
      dsimp only at h2
      repeat (first | refine go_ ?_ | refine bx_ (fun _ => ?_))
      exact ⟨a, n, c, _, Xs, by rw [← h1, hS1]; exact ho, by rw [← h2]; exact hb, by rw [← h2]; exact Imp.refl _, rfl, rfl, rfl, trivial⟩
    rw [if_neg (by omega)] at h1 h2
    dsimp only at h1 h2
    repeat (first | refine go_ ?_ | refine bx_ (fun _ => ?_))
    have iX := iT Xs ⟨g5, 27, edC f (fun _ => 0) (.slice pa G2.1.length pc) (.slice av j cv) (.slice none 0 0), 19⟩
    refine hc_meet (fun fr M => ∃ a n c sv Xs, (∀ F, Own 78 2 sv (j + 1) ((S1 ++ [(⟨s.num.1, s.num.2.num.1⟩ : Pt)]).flatMap ptV) F (Xs ++ F)) ∧ BytR w0 B H a n c s.num.2.num.2.l ∧ Imp M (InB gi a n c s.num.2.num.2.e :: ⟨g5, 27, edC f (fun _ => 0) (.slice pa G2.1.length pc) sv (.slice none 0 0), 19⟩ :: (Xs ++ (Xp ++ (b2 :: H)))) ∧
      Agr fr [(2, .pointer (some ⟨g2, 0, none⟩)), (4, .pointer (some ⟨gi, 0, none⟩)), (5, .pointer (some ⟨g5, 0, none⟩)), (33, .int .i64 (N : Int)), (34, .int .i64 (j : Int))]) ?_ ?_
    · refine hc_drawA [] (by kernel_rfl) ?_
      refine ha_quiet [0, 2, 4] (by rfl) (by kernel_rfl) ?_
      repeat (first | refine gd_ ?_)
      refine ha_fork2 1 3 (by rfl) (by kernel_rfl) (by rfl) (by rfl) (by first | exact Imp.refl _ | exact Imp.drop (Imp.refl _) | exact Imp.drop (Imp.drop (Imp.refl _)) | exact Imp.drop (Imp.drop (Imp.drop (Imp.refl _))) | exact Imp.drop (Imp.drop (Imp.drop (Imp.drop (Imp.refl _)))) | exact Imp.drop (Imp.drop (Imp.drop (Imp.drop (Imp.drop (Imp.refl _))))) | exact Imp.drop (Imp.drop (Imp.drop (Imp.drop (Imp.drop (Imp.drop (Imp.refl _)))))) | exact Imp.drop (Imp.drop (Imp.drop (Imp.drop (Imp.drop (Imp.drop (Imp.drop (Imp.refl _))))))) | exact Imp.drop (Imp.drop (Imp.drop (Imp.drop (Imp.drop (Imp.drop (Imp.drop (Imp.drop (Imp.refl _)))))))) | assumption | exact imp_nil _ | exact Imp.drop2 (Imp.refl _) | exact Imp.drop2 (Imp.drop2 (Imp.refl _)) | exact Imp.drop (Imp.drop2 (Imp.refl _))) ?_ ?_
      · skip
        repeat (first | refine op_ ?_ | refine bx_ (fun _ => ?_))
        refine ha_fork1 3 (by rfl) (by kernel_rfl) (by rfl) (by first | exact Imp.refl _ | exact Imp.drop (Imp.refl _) | exact Imp.drop (Imp.drop (Imp.refl _)) | exact Imp.drop (Imp.drop (Imp.drop (Imp.refl _))) | exact Imp.drop (Imp.drop (Imp.drop (Imp.drop (Imp.refl _)))) | exact Imp.drop (Imp.drop (Imp.drop (Imp.drop (Imp.drop (Imp.refl _))))) | exact Imp.drop (Imp.drop (Imp.drop (Imp.drop (Imp.drop (Imp.drop (Imp.refl _)))))) | exact Imp.drop (Imp.drop (Imp.drop (Imp.drop (Imp.drop (Imp.drop (Imp.drop (Imp.refl _))))))) | exact Imp.drop (Imp.drop (Imp.drop (Imp.drop (Imp.drop (Imp.drop (Imp.drop (Imp.drop (Imp.refl _)))))))) | assumption | exact imp_nil _ | exact Imp.drop2 (Imp.refl _) | exact Imp.drop2 (Imp.drop2 (Imp.refl _)) | exact Imp.drop (Imp.drop2 (Imp.refl _))) ?_
        · skip
          refine hl_call rfl rfl (inumS_fn (s := s) hb iX) (fun v M hv => ?_)
          obtain ⟨a1, n1, c1, rfl, rfl, hb1⟩ := hv
          repeat (first | refine op_ ?_ | refine bx_ (fun _ => ?_))
          refine ha_fork1 5 (by rfl) (by kernel_rfl) (by rfl) (by first | exact Imp.refl _ | exact Imp.drop (Imp.refl _) | exact Imp.drop (Imp.drop (Imp.refl _)) | exact Imp.drop (Imp.drop (Imp.drop (Imp.refl _))) | exact Imp.drop (Imp.drop (Imp.drop (Imp.drop (Imp.refl _)))) | exact Imp.drop (Imp.drop (Imp.drop (Imp.drop (Imp.drop (Imp.refl _))))) | exact Imp.drop (Imp.drop (Imp.drop (Imp.drop (Imp.drop (Imp.drop (Imp.refl _)))))) | exact Imp.drop (Imp.drop (Imp.drop (Imp.drop (Imp.drop (Imp.drop (Imp.drop (Imp.refl _))))))) | exact Imp.drop (Imp.drop (Imp.drop (Imp.drop (Imp.drop (Imp.drop (Imp.drop (Imp.drop (Imp.refl _)))))))) | assumption | exact imp_nil _ | exact Imp.drop2 (Imp.refl _) | exact Imp.drop2 (Imp.drop2 (Imp.refl _)) | exact Imp.drop (Imp.drop2 (Imp.refl _))) ?_
          · skip
            refine hl_call rfl rfl (inumS_fn (s := s.num.2) hb1 iX) (fun v M hv => ?_)
            obtain ⟨a2, n2, c2, rfl, rfl, hb2⟩ := hv
            repeat (first | refine op_ ?_ | refine bx_ (fun _ => ?_))
            refine ha_quiet [6] (by rfl) (by kernel_rfl) ?_
            repeat (first | refine gd_ ?_)
            refine ha_fork1 7 (by rfl) (by kernel_rfl) (by rfl) (by first | exact Imp.refl _ | exact Imp.drop (Imp.refl _) | exact Imp.drop (Imp.drop (Imp.refl _)) | exact Imp.drop (Imp.drop (Imp.drop (Imp.refl _))) | exact Imp.drop (Imp.drop (Imp.drop (Imp.drop (Imp.refl _)))) | exact Imp.drop (Imp.drop (Imp.drop (Imp.drop (Imp.drop (Imp.refl _))))) | exact Imp.drop (Imp.drop (Imp.drop (Imp.drop (Imp.drop (Imp.drop (Imp.refl _)))))) | exact Imp.drop (Imp.drop (Imp.drop (Imp.drop (Imp.drop (Imp.drop (Imp.drop (Imp.refl _))))))) | exact Imp.drop (Imp.drop (Imp.drop (Imp.drop (Imp.drop (Imp.drop (Imp.drop (Imp.drop (Imp.refl _)))))))) | assumption | exact imp_nil _ | exact Imp.drop2 (Imp.refl _) | exact Imp.drop2 (Imp.drop2 (Imp.refl _)) | exact Imp.drop (Imp.drop2 (Imp.refl _))) ?_
            · skip
              repeat (first | refine op_ ?_ | refine bx_ (fun _ => ?_))
              rename_i gb
              refine ha_fork1 8 (by rfl) (by kernel_rfl) (by rfl) (by first | exact Imp.refl _ | exact Imp.drop (Imp.refl _) | exact Imp.drop (Imp.drop (Imp.refl _)) | exact Imp.drop (Imp.drop (Imp.drop (Imp.refl _))) | exact Imp.drop (Imp.drop (Imp.drop (Imp.drop (Imp.refl _)))) | exact Imp.drop (Imp.drop (Imp.drop (Imp.drop (Imp.drop (Imp.refl _))))) | exact Imp.drop (Imp.drop (Imp.drop (Imp.drop (Imp.drop (Imp.drop (Imp.refl _)))))) | exact Imp.drop (Imp.drop (Imp.drop (Imp.drop (Imp.drop (Imp.drop (Imp.drop (Imp.refl _))))))) | exact Imp.drop (Imp.drop (Imp.drop (Imp.drop (Imp.drop (Imp.drop (Imp.drop (Imp.drop (Imp.refl _)))))))) | assumption | exact imp_nil _ | exact Imp.drop2 (Imp.refl _) | exact Imp.drop2 (Imp.drop2 (Imp.refl _)) | exact Imp.drop (Imp.drop2 (Imp.refl _))) ?_
              · skip
                refine hl_append_own (F := ⟨gb, 78, [.int .i64 s.num.1, .int .i64 s.num.2.num.1], 1 * 2⟩ :: InB gi a2 n2 c2 s.num.2.num.2.e :: ⟨g5, 27, edC f (fun _ => 0) (.slice pa G2.1.length pc) (.slice av j cv) (.slice none 0 0), 19⟩ :: (Xp ++ (b2 :: H))) rfl rfl ((((ho _).under _).under _).under _) (Rds.ent (n := 2) (l := [.int .i64 s.num.1, .int .i64 s.num.2.num.1]) .here rfl (by simp [Value.oneCell'])) rfl rfl (by decide) (by omega) (by omega) rfl (fun v8 M8 o8 => ?_)
                obtain ⟨a8, c8, rfl, _, _⟩ := o8.form
                obtain ⟨Z, hZ, ho8⟩ := o8.permE
                refine HL.perm ?_ (hZ.trans (app_swap Z [_, _, _] _))
                repeat (first | refine op_ ?_ | refine bx_ (fun _ => ?_))
                refine ha_quiet [9] (by rfl) (by kernel_rfl) ?_
                repeat (first | refine gd_ ?_)
                refine ha_fork1 10 (by rfl) (by kernel_rfl) (by rfl) (by first | exact Imp.refl _ | exact Imp.drop (Imp.refl _) | exact Imp.drop (Imp.drop (Imp.refl _)) | exact Imp.drop (Imp.drop (Imp.drop (Imp.refl _))) | exact Imp.drop (Imp.drop (Imp.drop (Imp.drop (Imp.refl _)))) | exact Imp.drop (Imp.drop (Imp.drop (Imp.drop (Imp.drop (Imp.refl _))))) | exact Imp.drop (Imp.drop (Imp.drop (Imp.drop (Imp.drop (Imp.drop (Imp.refl _)))))) | exact Imp.drop (Imp.drop (Imp.drop (Imp.drop (Imp.drop (Imp.drop (Imp.drop (Imp.refl _))))))) | exact Imp.drop (Imp.drop (Imp.drop (Imp.drop (Imp.drop (Imp.drop (Imp.drop (Imp.drop (Imp.refl _)))))))) | assumption | exact imp_nil _ | exact Imp.drop2 (Imp.refl _) | exact Imp.drop2 (Imp.drop2 (Imp.refl _)) | exact Imp.drop (Imp.drop2 (Imp.refl _))) ?_
                · skip
                  repeat (first | refine op_ ?_ | refine bx_ (fun _ => ?_))
                  refine ha_end (by rfl) (by kernel_rfl) (by first | exact Imp.refl _ | exact Imp.drop (Imp.refl _) | exact Imp.drop (Imp.drop (Imp.refl _)) | exact Imp.drop (Imp.drop (Imp.drop (Imp.refl _))) | exact Imp.drop (Imp.drop (Imp.drop (Imp.drop (Imp.refl _)))) | exact Imp.drop (Imp.drop (Imp.drop (Imp.drop (Imp.drop (Imp.refl _))))) | exact Imp.drop (Imp.drop (Imp.drop (Imp.drop (Imp.drop (Imp.drop (Imp.refl _)))))) | exact Imp.drop (Imp.drop (Imp.drop (Imp.drop (Imp.drop (Imp.drop (Imp.drop (Imp.refl _))))))) | exact Imp.drop (Imp.drop (Imp.drop (Imp.drop (Imp.drop (Imp.drop (Imp.drop (Imp.drop (Imp.refl _)))))))) | assumption | exact imp_nil _ | exact Imp.drop2 (Imp.refl _) | exact Imp.drop2 (Imp.drop2 (Imp.refl _)) | exact Imp.drop (Imp.drop2 (Imp.refl _))) ?_
                  exact ⟨a2, n2, c2, .slice a8 (j + 1) c8, Z, fun F => by rw [List.flatMap_append]; exact ho8 F, hb2, Imp.perm (List.perm_middle (l₁ := [_, _])).symm (Imp.perm (List.Perm.refl _) (Imp.drop (Imp.refl _))), rfl, rfl, rfl, rfl, rfl, trivial⟩
      · skip
        refine hl_call rfl rfl (inumS_fn (s := s) hb iX) (fun v M hv => ?_)
        obtain ⟨a1, n1, c1, rfl, rfl, hb1⟩ := hv
        repeat (first | refine op_ ?_ | refine bx_ (fun _ => ?_))
        refine ha_fork2 1 5 (by rfl) (by kernel_rfl) (by rfl) (by rfl) (by first | exact Imp.refl _ | exact Imp.drop (Imp.refl _) | exact Imp.drop (Imp.drop (Imp.refl _)) | exact Imp.drop (Imp.drop (Imp.drop (Imp.refl _))) | exact Imp.drop (Imp.drop (Imp.drop (Imp.drop (Imp.refl _)))) | exact Imp.drop (Imp.drop (Imp.drop (Imp.drop (Imp.drop (Imp.refl _))))) | exact Imp.drop (Imp.drop (Imp.drop (Imp.drop (Imp.drop (Imp.drop (Imp.refl _)))))) | exact Imp.drop (Imp.drop (Imp.drop (Imp.drop (Imp.drop (Imp.drop (Imp.drop (Imp.refl _))))))) | exact Imp.drop (Imp.drop (Imp.drop (Imp.drop (Imp.drop (Imp.drop (Imp.drop (Imp.drop (Imp.refl _)))))))) | assumption | exact imp_nil _ | exact Imp.drop2 (Imp.refl _) | exact Imp.drop2 (Imp.drop2 (Imp.refl _)) | exact Imp.drop (Imp.drop2 (Imp.refl _))) ?_ ?_
        · skip
          repeat (first | refine op_ ?_ | refine bx_ (fun _ => ?_))
          refine ha_fork1 5 (by rfl) (by kernel_rfl) (by rfl) (by first | exact Imp.refl _ | exact Imp.drop (Imp.refl _) | exact Imp.drop (Imp.drop (Imp.refl _)) | exact Imp.drop (Imp.drop (Imp.drop (Imp.refl _))) | exact Imp.drop (Imp.drop (Imp.drop (Imp.drop (Imp.refl _)))) | exact Imp.drop (Imp.drop (Imp.drop (Imp.drop (Imp.drop (Imp.refl _))))) | exact Imp.drop (Imp.drop (Imp.drop (Imp.drop (Imp.drop (Imp.drop (Imp.refl _)))))) | exact Imp.drop (Imp.drop (Imp.drop (Imp.drop (Imp.drop (Imp.drop (Imp.drop (Imp.refl _))))))) | exact Imp.drop (Imp.drop (Imp.drop (Imp.drop (Imp.drop (Imp.drop (Imp.drop (Imp.drop (Imp.refl _)))))))) | assumption | exact imp_nil _ | exact Imp.drop2 (Imp.refl _) | exact Imp.drop2 (Imp.drop2 (Imp.refl _)) | exact Imp.drop (Imp.drop2 (Imp.refl _))) ?_
          · skip
            refine hl_call rfl rfl (inumS_fn (s := s.num.2) hb1 iX) (fun v M hv => ?_)
            obtain ⟨a2, n2, c2, rfl, rfl, hb2⟩ := hv
            repeat (first | refine op_ ?_ | refine bx_ (fun _ => ?_))
            refine ha_quiet [6] (by rfl) (by kernel_rfl) ?_
            repeat (first | refine gd_ ?_)
            refine ha_fork1 7 (by rfl) (by kernel_rfl) (by rfl) (by first | exact Imp.refl _ | exact Imp.drop (Imp.refl _) | exact Imp.drop (Imp.drop (Imp.refl _)) | exact Imp.drop (Imp.drop (Imp.drop (Imp.refl _))) | exact Imp.drop (Imp.drop (Imp.drop (Imp.drop (Imp.refl _)))) | exact Imp.drop (Imp.drop (Imp.drop (Imp.drop (Imp.drop (Imp.refl _))))) | exact Imp.drop (Imp.drop (Imp.drop (Imp.drop (Imp.drop (Imp.drop (Imp.refl _)))))) | exact Imp.drop (Imp.drop (Imp.drop (Imp.drop (Imp.drop (Imp.drop (Imp.drop (Imp.refl _))))))) | exact Imp.drop (Imp.drop (Imp.drop (Imp.drop (Imp.drop (Imp.drop (Imp.drop (Imp.drop (Imp.refl _)))))))) | assumption | exact imp_nil _ | exact Imp.drop2 (Imp.refl _) | exact Imp.drop2 (Imp.drop2 (Imp.refl _)) | exact Imp.drop (Imp.drop2 (Imp.refl _))) ?_
            · skip
              repeat (first | refine op_ ?_ | refine bx_ (fun _ => ?_))
              rename_i gb
              refine ha_fork1 8 (by rfl) (by kernel_rfl) (by rfl) (by first | exact Imp.refl _ | exact Imp.drop (Imp.refl _) | exact Imp.drop (Imp.drop (Imp.refl _)) | exact Imp.drop (Imp.drop (Imp.drop (Imp.refl _))) | exact Imp.drop (Imp.drop (Imp.drop (Imp.drop (Imp.refl _)))) | exact Imp.drop (Imp.drop (Imp.drop (Imp.drop (Imp.drop (Imp.refl _))))) | exact Imp.drop (Imp.drop (Imp.drop (Imp.drop (Imp.drop (Imp.drop (Imp.refl _)))))) | exact Imp.drop (Imp.drop (Imp.drop (Imp.drop (Imp.drop (Imp.drop (Imp.drop (Imp.refl _))))))) | exact Imp.drop (Imp.drop (Imp.drop (Imp.drop (Imp.drop (Imp.drop (Imp.drop (Imp.drop (Imp.refl _)))))))) | assumption | exact imp_nil _ | exact Imp.drop2 (Imp.refl _) | exact Imp.drop2 (Imp.drop2 (Imp.refl _)) | exact Imp.drop (Imp.drop2 (Imp.refl _))) ?_
              · skip
                refine hl_append_own (F := ⟨gb, 78, [.int .i64 s.num.1, .int .i64 s.num.2.num.1], 1 * 2⟩ :: InB gi a2 n2 c2 s.num.2.num.2.e :: ⟨g5, 27, edC f (fun _ => 0) (.slice pa G2.1.length pc) (.slice av j cv) (.slice none 0 0), 19⟩ :: (Xp ++ (b2 :: H))) rfl rfl ((((ho _).under _).under _).under _) (Rds.ent (n := 2) (l := [.int .i64 s.num.1, .int .i64 s.num.2.num.1]) .here rfl (by simp [Value.oneCell'])) rfl rfl (by decide) (by omega) (by omega) rfl (fun v8 M8 o8 => ?_)
                obtain ⟨a8, c8, rfl, _, _⟩ := o8.form
                obtain ⟨Z, hZ, ho8⟩ := o8.permE
                refine HL.perm ?_ (hZ.trans (app_swap Z [_, _, _] _))
                repeat (first | refine op_ ?_ | refine bx_ (fun _ => ?_))
                refine ha_quiet [9] (by rfl) (by kernel_rfl) ?_
                repeat (first | refine gd_ ?_)
                refine ha_fork1 10 (by rfl) (by kernel_rfl) (by rfl) (by first | exact Imp.refl _ | exact Imp.drop (Imp.refl _) | exact Imp.drop (Imp.drop (Imp.refl _)) | exact Imp.drop (Imp.drop (Imp.drop (Imp.refl _))) | exact Imp.drop (Imp.drop (Imp.drop (Imp.drop (Imp.refl _)))) | exact Imp.drop (Imp.drop (Imp.drop (Imp.drop (Imp.drop (Imp.refl _))))) | exact Imp.drop (Imp.drop (Imp.drop (Imp.drop (Imp.drop (Imp.drop (Imp.refl _)))))) | exact Imp.drop (Imp.drop (Imp.drop (Imp.drop (Imp.drop (Imp.drop (Imp.drop (Imp.refl _))))))) | exact Imp.drop (Imp.drop (Imp.drop (Imp.drop (Imp.drop (Imp.drop (Imp.drop (Imp.drop (Imp.refl _)))))))) | assumption | exact imp_nil _ | exact Imp.drop2 (Imp.refl _) | exact Imp.drop2 (Imp.drop2 (Imp.refl _)) | exact Imp.drop (Imp.drop2 (Imp.refl _))) ?_
                · skip
                  repeat (first | refine op_ ?_ | refine bx_ (fun _ => ?_))
                  refine ha_end (by rfl) (by kernel_rfl) (by first | exact Imp.refl _ | exact Imp.drop (Imp.refl _) | exact Imp.drop (Imp.drop (Imp.refl _)) | exact Imp.drop (Imp.drop (Imp.drop (Imp.refl _))) | exact Imp.drop (Imp.drop (Imp.drop (Imp.drop (Imp.refl _)))) | exact Imp.drop (Imp.drop (Imp.drop (Imp.drop (Imp.drop (Imp.refl _))))) | exact Imp.drop (Imp.drop (Imp.drop (Imp.drop (Imp.drop (Imp.drop (Imp.refl _)))))) | exact Imp.drop (Imp.drop (Imp.drop (Imp.drop (Imp.drop (Imp.drop (Imp.drop (Imp.refl _))))))) | exact Imp.drop (Imp.drop (Imp.drop (Imp.drop (Imp.drop (Imp.drop (Imp.drop (Imp.drop (Imp.refl _)))))))) | assumption | exact imp_nil _ | exact Imp.drop2 (Imp.refl _) | exact Imp.drop2 (Imp.drop2 (Imp.refl _)) | exact Imp.drop (Imp.drop2 (Imp.refl _))) ?_
                  exact ⟨a2, n2, c2, .slice a8 (j + 1) c8, Z, fun F => by rw [List.flatMap_append]; exact ho8 F, hb2, Imp.perm (List.perm_middle (l₁ := [_, _])).symm (Imp.perm (List.Perm.refl _) (Imp.drop (Imp.refl _))), rfl, rfl, rfl, rfl, rfl, trivial⟩
        · skip
          refine hl_call rfl rfl (inumS_fn (s := s.num.2) hb1 iX) (fun v M hv => ?_)
          obtain ⟨a2, n2, c2, rfl, rfl, hb2⟩ := hv
          repeat (first | refine op_ ?_ | refine bx_ (fun _ => ?_))
          refine ha_quiet [6] (by rfl) (by kernel_rfl) ?_
          repeat (first | refine gd_ ?_)
          refine ha_fork2 1 7 (by rfl) (by kernel_rfl) (by rfl) (by rfl) (by first | exact Imp.refl _ | exact Imp.drop (Imp.refl _) | exact Imp.drop (Imp.drop (Imp.refl _)) | exact Imp.drop (Imp.drop (Imp.drop (Imp.refl _))) | exact Imp.drop (Imp.drop (Imp.drop (Imp.drop (Imp.refl _)))) | exact Imp.drop (Imp.drop (Imp.drop (Imp.drop (Imp.drop (Imp.refl _))))) | exact Imp.drop (Imp.drop (Imp.drop (Imp.drop (Imp.drop (Imp.drop (Imp.refl _)))))) | exact Imp.drop (Imp.drop (Imp.drop (Imp.drop (Imp.drop (Imp.drop (Imp.drop (Imp.refl _))))))) | exact Imp.drop (Imp.drop (Imp.drop (Imp.drop (Imp.drop (Imp.drop (Imp.drop (Imp.drop (Imp.refl _)))))))) | assumption | exact imp_nil _ | exact Imp.drop2 (Imp.refl _) | exact Imp.drop2 (Imp.drop2 (Imp.refl _)) | exact Imp.drop (Imp.drop2 (Imp.refl _))) ?_ ?_
          · skip
            repeat (first | refine op_ ?_ | refine bx_ (fun _ => ?_))
            refine ha_fork1 7 (by rfl) (by kernel_rfl) (by rfl) (by first | exact Imp.refl _ | exact Imp.drop (Imp.refl _) | exact Imp.drop (Imp.drop (Imp.refl _)) | exact Imp.drop (Imp.drop (Imp.drop (Imp.refl _))) | exact Imp.drop (Imp.drop (Imp.drop (Imp.drop (Imp.refl _)))) | exact Imp.drop (Imp.drop (Imp.drop (Imp.drop (Imp.drop (Imp.refl _))))) | exact Imp.drop (Imp.drop (Imp.drop (Imp.drop (Imp.drop (Imp.drop (Imp.refl _)))))) | exact Imp.drop (Imp.drop (Imp.drop (Imp.drop (Imp.drop (Imp.drop (Imp.drop (Imp.refl _))))))) | exact Imp.drop (Imp.drop (Imp.drop (Imp.drop (Imp.drop (Imp.drop (Imp.drop (Imp.drop (Imp.refl _)))))))) | assumption | exact imp_nil _ | exact Imp.drop2 (Imp.refl _) | exact Imp.drop2 (Imp.drop2 (Imp.refl _)) | exact Imp.drop (Imp.drop2 (Imp.refl _))) ?_
            · skip
              repeat (first | refine op_ ?_ | refine bx_ (fun _ => ?_))
              rename_i gb
              refine ha_fork1 8 (by rfl) (by kernel_rfl) (by rfl) (by first | exact Imp.refl _ | exact Imp.drop (Imp.refl _) | exact Imp.drop (Imp.drop (Imp.refl _)) | exact Imp.drop (Imp.drop (Imp.drop (Imp.refl _))) | exact Imp.drop (Imp.drop (Imp.drop (Imp.drop (Imp.refl _)))) | exact Imp.drop (Imp.drop (Imp.drop (Imp.drop (Imp.drop (Imp.refl _))))) | exact Imp.drop (Imp.drop (Imp.drop (Imp.drop (Imp.drop (Imp.drop (Imp.refl _)))))) | exact Imp.drop (Imp.drop (Imp.drop (Imp.drop (Imp.drop (Imp.drop (Imp.drop (Imp.refl _))))))) | exact Imp.drop (Imp.drop (Imp.drop (Imp.drop (Imp.drop (Imp.drop (Imp.drop (Imp.drop (Imp.refl _)))))))) | assumption | exact imp_nil _ | exact Imp.drop2 (Imp.refl _) | exact Imp.drop2 (Imp.drop2 (Imp.refl _)) | exact Imp.drop (Imp.drop2 (Imp.refl _))) ?_
              · skip
                refine hl_append_own (F := ⟨gb, 78, [.int .i64 s.num.1, .int .i64 s.num.2.num.1], 1 * 2⟩ :: InB gi a2 n2 c2 s.num.2.num.2.e :: ⟨g5, 27, edC f (fun _ => 0) (.slice pa G2.1.length pc) (.slice av j cv) (.slice none 0 0), 19⟩ :: (Xp ++ (b2 :: H))) rfl rfl ((((ho _).under _).under _).under _) (Rds.ent (n := 2) (l := [.int .i64 s.num.1, .int .i64 s.num.2.num.1]) .here rfl (by simp [Value.oneCell'])) rfl rfl (by decide) (by omega) (by omega) rfl (fun v8 M8 o8 => ?_)
                obtain ⟨a8, c8, rfl, _, _⟩ := o8.form
                obtain ⟨Z, hZ, ho8⟩ := o8.permE
                refine HL.perm ?_ (hZ.trans (app_swap Z [_, _, _] _))
                repeat (first | refine op_ ?_ | refine bx_ (fun _ => ?_))
                refine ha_quiet [9] (by rfl) (by kernel_rfl) ?_
                repeat (first | refine gd_ ?_)
                refine ha_fork1 10 (by rfl) (by kernel_rfl) (by rfl) (by first | exact Imp.refl _ | exact Imp.drop (Imp.refl _) | exact Imp.drop (Imp.drop (Imp.refl _)) | exact Imp.drop (Imp.drop (Imp.drop (Imp.refl _))) | exact Imp.drop (Imp.drop (Imp.drop (Imp.drop (Imp.refl _)))) | exact Imp.drop (Imp.drop (Imp.drop (Imp.drop (Imp.drop (Imp.refl _))))) | exact Imp.drop (Imp.drop (Imp.drop (Imp.drop (Imp.drop (Imp.drop (Imp.refl _)))))) | exact Imp.drop (Imp.drop (Imp.drop (Imp.drop (Imp.drop (Imp.drop (Imp.drop (Imp.refl _))))))) | exact Imp.drop (Imp.drop (Imp.drop (Imp.drop (Imp.drop (Imp.drop (Imp.drop (Imp.drop (Imp.refl _)))))))) | assumption | exact imp_nil _ | exact Imp.drop2 (Imp.refl _) | exact Imp.drop2 (Imp.drop2 (Imp.refl _)) | exact Imp.drop (Imp.drop2 (Imp.refl _))) ?_
                · skip
                  repeat (first | refine op_ ?_ | refine bx_ (fun _ => ?_))
                  refine ha_end (by rfl) (by kernel_rfl) (by first | exact Imp.refl _ | exact Imp.drop (Imp.refl _) | exact Imp.drop (Imp.drop (Imp.refl _)) | exact Imp.drop (Imp.drop (Imp.drop (Imp.refl _))) | exact Imp.drop (Imp.drop (Imp.drop (Imp.drop (Imp.refl _)))) | exact Imp.drop (Imp.drop (Imp.drop (Imp.drop (Imp.drop (Imp.refl _))))) | exact Imp.drop (Imp.drop (Imp.drop (Imp.drop (Imp.drop (Imp.drop (Imp.refl _)))))) | exact Imp.drop (Imp.drop (Imp.drop (Imp.drop (Imp.drop (Imp.drop (Imp.drop (Imp.refl _))))))) | exact Imp.drop (Imp.drop (Imp.drop (Imp.drop (Imp.drop (Imp.drop (Imp.drop (Imp.drop (Imp.refl _)))))))) | assumption | exact imp_nil _ | exact Imp.drop2 (Imp.refl _) | exact Imp.drop2 (Imp.drop2 (Imp.refl _)) | exact Imp.drop (Imp.drop2 (Imp.refl _))) ?_
                  exact ⟨a2, n2, c2, .slice a8 (j + 1) c8, Z, fun F => by rw [List.flatMap_append]; exact ho8 F, hb2, Imp.perm (List.perm_middle (l₁ := [_, _])).symm (Imp.perm (List.Perm.refl _) (Imp.drop (Imp.refl _))), rfl, rfl, rfl, rfl, rfl, trivial⟩
          · skip
            repeat (first | refine op_ ?_ | refine bx_ (fun _ => ?_))
            rename_i gb
            refine ha_fork1 1 (by rfl) (by kernel_rfl) (by rfl) (by first | exact Imp.refl _ | exact Imp.drop (Imp.refl _) | exact Imp.drop (Imp.drop (Imp.refl _)) | exact Imp.drop (Imp.drop (Imp.drop (Imp.refl _))) | exact Imp.drop (Imp.drop (Imp.drop (Imp.drop (Imp.refl _)))) | exact Imp.drop (Imp.drop (Imp.drop (Imp.drop (Imp.drop (Imp.refl _))))) | exact Imp.drop (Imp.drop (Imp.drop (Imp.drop (Imp.drop (Imp.drop (Imp.refl _)))))) | exact Imp.drop (Imp.drop (Imp.drop (Imp.drop (Imp.drop (Imp.drop (Imp.drop (Imp.refl _))))))) | exact Imp.drop (Imp.drop (Imp.drop (Imp.drop (Imp.drop (Imp.drop (Imp.drop (Imp.drop (Imp.refl _)))))))) | assumption | exact imp_nil _ | exact Imp.drop2 (Imp.refl _) | exact Imp.drop2 (Imp.drop2 (Imp.refl _)) | exact Imp.drop (Imp.drop2 (Imp.refl _))) ?_
            · skip
              repeat (first | refine op_ ?_ | refine bx_ (fun _ => ?_))
              refine ha_fork1 8 (by rfl) (by kernel_rfl) (by rfl) (by first | exact Imp.refl _ | exact Imp.drop (Imp.refl _) | exact Imp.drop (Imp.drop (Imp.refl _)) | exact Imp.drop (Imp.drop (Imp.drop (Imp.refl _))) | exact Imp.drop (Imp.drop (Imp.drop (Imp.drop (Imp.refl _)))) | exact Imp.drop (Imp.drop (Imp.drop (Imp.drop (Imp.drop (Imp.refl _))))) | exact Imp.drop (Imp.drop (Imp.drop (Imp.drop (Imp.drop (Imp.drop (Imp.refl _)))))) | exact Imp.drop (Imp.drop (Imp.drop (Imp.drop (Imp.drop (Imp.drop (Imp.drop (Imp.refl _))))))) | exact Imp.drop (Imp.drop (Imp.drop (Imp.drop (Imp.drop (Imp.drop (Imp.drop (Imp.drop (Imp.refl _)))))))) | assumption | exact imp_nil _ | exact Imp.drop2 (Imp.refl _) | exact Imp.drop2 (Imp.drop2 (Imp.refl _)) | exact Imp.drop (Imp.drop2 (Imp.refl _))) ?_
              · skip
                refine hl_append_own (F := ⟨gb, 78, [.int .i64 s.num.1, .int .i64 s.num.2.num.1], 1 * 2⟩ :: InB gi a2 n2 c2 s.num.2.num.2.e :: ⟨g5, 27, edC f (fun _ => 0) (.slice pa G2.1.length pc) (.slice av j cv) (.slice none 0 0), 19⟩ :: (Xp ++ (b2 :: H))) rfl rfl ((((ho _).under _).under _).under _) (Rds.ent (n := 2) (l := [.int .i64 s.num.1, .int .i64 s.num.2.num.1]) .here rfl (by simp [Value.oneCell'])) rfl rfl (by decide) (by omega) (by omega) rfl (fun v8 M8 o8 => ?_)
                obtain ⟨a8, c8, rfl, _, _⟩ := o8.form
                obtain ⟨Z, hZ, ho8⟩ := o8.permE
                refine HL.perm ?_ (hZ.trans (app_swap Z [_, _, _] _))
                repeat (first | refine op_ ?_ | refine bx_ (fun _ => ?_))
                refine ha_quiet [9] (by rfl) (by kernel_rfl) ?_
                repeat (first | refine gd_ ?_)
                refine ha_fork1 10 (by rfl) (by kernel_rfl) (by rfl) (by first | exact Imp.refl _ | exact Imp.drop (Imp.refl _) | exact Imp.drop (Imp.drop (Imp.refl _)) | exact Imp.drop (Imp.drop (Imp.drop (Imp.refl _))) | exact Imp.drop (Imp.drop (Imp.drop (Imp.drop (Imp.refl _)))) | exact Imp.drop (Imp.drop (Imp.drop (Imp.drop (Imp.drop (Imp.refl _))))) | exact Imp.drop (Imp.drop (Imp.drop (Imp.drop (Imp.drop (Imp.drop (Imp.refl _)))))) | exact Imp.drop (Imp.drop (Imp.drop (Imp.drop (Imp.drop (Imp.drop (Imp.drop (Imp.refl _))))))) | exact Imp.drop (Imp.drop (Imp.drop (Imp.drop (Imp.drop (Imp.drop (Imp.drop (Imp.drop (Imp.refl _)))))))) | assumption | exact imp_nil _ | exact Imp.drop2 (Imp.refl _) | exact Imp.drop2 (Imp.drop2 (Imp.refl _)) | exact Imp.drop (Imp.drop2 (Imp.refl _))) ?_
                · skip
                  repeat (first | refine op_ ?_ | refine bx_ (fun _ => ?_))
                  refine ha_end (by rfl) (by kernel_rfl) (by first | exact Imp.refl _ | exact Imp.drop (Imp.refl _) | exact Imp.drop (Imp.drop (Imp.refl _)) | exact Imp.drop (Imp.drop (Imp.drop (Imp.refl _))) | exact Imp.drop (Imp.drop (Imp.drop (Imp.drop (Imp.refl _)))) | exact Imp.drop (Imp.drop (Imp.drop (Imp.drop (Imp.drop (Imp.refl _))))) | exact Imp.drop (Imp.drop (Imp.drop (Imp.drop (Imp.drop (Imp.drop (Imp.refl _)))))) | exact Imp.drop (Imp.drop (Imp.drop (Imp.drop (Imp.drop (Imp.drop (Imp.drop (Imp.refl _))))))) | exact Imp.drop (Imp.drop (Imp.drop (Imp.drop (Imp.drop (Imp.drop (Imp.drop (Imp.drop (Imp.refl _)))))))) | assumption | exact imp_nil _ | exact Imp.drop2 (Imp.refl _) | exact Imp.drop2 (Imp.drop2 (Imp.refl _)) | exact Imp.drop (Imp.drop2 (Imp.refl _))) ?_
                  exact ⟨a2, n2, c2, .slice a8 (j + 1) c8, Z, fun F => by rw [List.flatMap_append]; exact ho8 F, hb2, Imp.perm (List.perm_middle (l₁ := [_, _])).symm (Imp.perm (List.Perm.refl _) (Imp.drop (Imp.refl _))), rfl, rfl, rfl, rfl, rfl, trivial⟩
    rintro fr M ⟨a2, n2, c2, sv2, Xs2, ho2, hb2, hi2, hff⟩
    obtain ⟨base, rfl⟩ := hff.out
    clear hff
    refine HC.imp ?_ hi2
    repeat (first | refine go_ ?_ | refine bx_ (fun _ => ?_))
    exact ⟨q, by omega, _, Imp.refl _, j + 1, S1 ++ [(⟨s.num.1, s.num.2.num.1⟩ : Pt)], s.num.2.num.2, a2, n2, c2, sv2, Xs2, by omega, by simp [hS1], ⟨by rw [← h1]; simp, h2⟩, ho2, hb2, Imp.refl _, rfl, rfl, rfl, rfl, rfl, trivial⟩
  rintro fr M ⟨a, n, c, sv, Xs, hos, hb, him, hff⟩
  obtain ⟨base, rfl⟩ := hff.out
  clear hff
  refine HC.imp ?_ him
  obtain ⟨sa, sc, rfl, _, _⟩ := (hos []).form
  have hn4 := hb.eq
  have hle5 := Rd.fix_le 6 G4.2
  obtain ⟨G5, hG5⟩ : ∃ G5, G5 = Rd.fix 6 G4.2 := ⟨_, rfl⟩
  repeat (first | refine go_ ?_ | refine bx_ (fun _ => ?_))
  refine hl_call rfl rfl (imapped_fn (s := G4.2) hb (iT Xs _)) (fun v M hv => ?_)
  obtain ⟨a6, n6, c6, m, rfl, hm, rfl, hb6⟩ := hv
  rw [← hG5] at hm hb6 hle5 ⊢
  repeat (first | refine go_ ?_ | refine bx_ (fun _ => ?_))
  have hl6 := hb6.eq
  refine hl_call rfl rfl (inumsS_fn (s := G5.2) hb6 (iT Xs _) (by omega)) (fun v M hv => ?_)
  obtain ⟨a7, n7, c7, Xq, hi7, hoq, hb7⟩ := hv
  refine HL.imp ?_ hi7
  obtain ⟨G6, hG6⟩ : ∃ G6, G6 = G5.2.nums := ⟨_, rfl⟩
  rw [← hG6] at hoq hb7 ⊢
  obtain ⟨qa, qc, rfl, _, _⟩ := (hoq []).form
  repeat (first | refine go_ ?_ | refine bx_ (fun _ => ?_))
  refine hl_storeN (i := 12) (n := 6) rfl rfl rfl (by simp [Value.oneCell']) (.there (Take.app Xq .here)) (by simp) rfl ?_
  refine HL.perm (H' := ⟨g5, 27, edC f m (.slice pa G2.1.length pc) (.slice sa G4.1.length sc) (.slice none 0 0), 19⟩ :: InB gi a7 n7 c7 G6.2.e :: (Xq ++ (Xs ++ (Xp ++ (b2 :: H))))) ?_ (List.Perm.refl _)
  repeat (first | refine go_ ?_ | refine bx_ (fun _ => ?_))
  refine HL.perm (H' := InB gi a7 n7 c7 G6.2.e :: ⟨g5, 27, edC f m (.slice pa G2.1.length pc) (.slice sa G4.1.length sc) (.slice qa G6.1.length qc), 19⟩ :: (Xq ++ (Xs ++ (Xp ++ (b2 :: H))))) ?_ (List.Perm.swap _ _ _)
  refine hl_call rfl rfl (iend_fn (s := G6.2) hb7) (fun v M hv => ?_)
  obtain rfl := hv
  have hR : getR l = (⟨f10 f, G2.1, G4.1, f6 m, G6.1⟩, G6.2) := by
    unfold getR
    dsimp only
    rw [hf10]
    dsimp only
    rw [← hG2, ← hG3]
    dsimp only
    rw [← hG4, ← hG5, hm, ← hG6]
  have hE : getE l = if G6.2.endE = 0 then (⟨f10 f, G2.1, G4.1, f6 m, G6.1⟩, 0) else (Ed.zero, G6.2.endE) := by
    unfold getE
    rw [hR]
  rw [hE]
  generalize G6.2.endE = ee
  refine HL.perm (H' := b2 :: InB gi a7 n7 c7 ee :: ⟨g5, 27, edC f m (.slice pa G2.1.length pc) (.slice sa G4.1.length sc) (.slice qa G6.1.length qc), 19⟩ :: (Xq ++ (Xs ++ (Xp ++ H)))) ?_ (Take.there (.there (Take.app Xq (Take.app Xs (Take.app Xp .here))))).perm
  rw [hbe]
  by_cases h0 : ee = 0
  · rw [if_pos h0, h0]
    repeat (first | refine go_ ?_ | refine bx_ (fun _ => ?_))
    refine finCI (n := 19) rfl rfl .here rfl rfl ⟨f, m, .slice pa G2.1.length pc, .slice sa G4.1.length sc, .slice qa G6.1.length qc, G2.1, G6.1, G4.1, Xp, Xs, Xq, rfl, rfl, rfl, hop, hos, hoq⟩ (Imp.drop (Imp.drop (Imp.drop (Imp.perm (rev3 Xq Xs Xp H) (Imp.refl _)))))
  · rw [if_neg h0]
    repeat (first | refine go_ ?_ | refine bx_ (fun _ => ?_))
    obtain ⟨T, hT⟩ : ∃ T, T = ⟨g5, 27, edC f m (.slice pa G2.1.length pc) (.slice sa G4.1.length sc) (.slice qa G6.1.length qc), 19⟩ :: (Xq ++ (Xs ++ (Xp ++ H))) := ⟨_, rfl⟩
    have iT2 : Imp T H := by rw [hT]; exact Imp.drop ((Imp.tail Xq _).trans ((Imp.tail Xs _).trans (Imp.tail Xp _)))
    rw [← hT]
    refine hc_meet (fun fr M => Agr fr [(2, .pointer (some ⟨g2, 0, none⟩)), (3, .int .i64 (ee : Int))] ∧ M = ⟨g2, 27, edC (fun _ => 0) (fun _ => 0) (.slice none 0 0) (.slice none 0 0) (.slice none 0 0), 19⟩ :: InB gi a7 n7 c7 ee :: T) ?_ ?_
    · refine hc_drawA (InB gi a7 n7 c7 ee :: T) (by kernel_rfl) ?_
      refine ha_quiet [0, 1, 2, 3, 4] (by rfl) (by kernel_rfl) ?_
      repeat (first | refine gd_ ?_)
      refine ha_fork1 5 (by rfl) (by kernel_rfl) (by rfl) (by first | exact Imp.refl _ | exact Imp.drop (Imp.refl _) | exact Imp.drop (Imp.drop (Imp.refl _)) | exact Imp.drop (Imp.drop (Imp.drop (Imp.refl _))) | exact Imp.drop (Imp.drop (Imp.drop (Imp.drop (Imp.refl _)))) | exact Imp.drop (Imp.drop (Imp.drop (Imp.drop (Imp.drop (Imp.refl _))))) | exact Imp.drop (Imp.drop (Imp.drop (Imp.drop (Imp.drop (Imp.drop (Imp.refl _)))))) | exact Imp.drop (Imp.drop (Imp.drop (Imp.drop (Imp.drop (Imp.drop (Imp.drop (Imp.refl _))))))) | exact Imp.drop (Imp.drop (Imp.drop (Imp.drop (Imp.drop (Imp.drop (Imp.drop (Imp.drop (Imp.refl _)))))))) | assumption | exact imp_nil _ | exact Imp.drop2 (Imp.refl _) | exact Imp.drop2 (Imp.drop2 (Imp.refl _)) | exact Imp.drop (Imp.drop2 (Imp.refl _))) ?_
      · skip
        repeat (first | refine op_ ?_ | refine bx_ (fun _ => ?_))
        refine ha_quiet [6] (by rfl) (by kernel_rfl) ?_
        repeat (first | refine gd_ ?_)
        refine ha_end (by rfl) (by kernel_rfl) (by first | exact Imp.refl _ | exact Imp.drop (Imp.refl _) | exact Imp.drop (Imp.drop (Imp.refl _)) | exact Imp.drop (Imp.drop (Imp.drop (Imp.refl _))) | exact Imp.drop (Imp.drop (Imp.drop (Imp.drop (Imp.refl _)))) | exact Imp.drop (Imp.drop (Imp.drop (Imp.drop (Imp.drop (Imp.refl _))))) | exact Imp.drop (Imp.drop (Imp.drop (Imp.drop (Imp.drop (Imp.drop (Imp.refl _)))))) | exact Imp.drop (Imp.drop (Imp.drop (Imp.drop (Imp.drop (Imp.drop (Imp.drop (Imp.refl _))))))) | exact Imp.drop (Imp.drop (Imp.drop (Imp.drop (Imp.drop (Imp.drop (Imp.drop (Imp.drop (Imp.refl _)))))))) | assumption | exact imp_nil _ | exact Imp.drop2 (Imp.refl _) | exact Imp.drop2 (Imp.drop2 (Imp.refl _)) | exact Imp.drop (Imp.drop2 (Imp.refl _))) ?_
        exact ⟨⟨rfl, rfl, trivial⟩, rfl⟩
    rintro fr M ⟨hff, rfl⟩
    obtain ⟨base, rfl⟩ := hff.out
    clear hff
    repeat (first | refine go_ ?_ | refine bx_ (fun _ => ?_))
    refine finCI (n := 19) rfl rfl .here rfl rfl ⟨fun _ => 0, fun _ => 0, .slice none 0 0, .slice none 0 0, .slice none 0 0, [], [], [], [], [], [], rfl, rfl, rfl, fun F => Own.nil, fun F => Own.nil, fun F => Own.nil⟩ (Imp.drop (Imp.drop iT2))
end
end Go.Proofs.Ytoobhebbgbhahaa
