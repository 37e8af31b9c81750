/-
  The document's reader of states. No condition.
-/
import Derived.Test.YtoobhebbgbhahaaPackG12
namespace Go.Proofs.Ytoobhebbgbhahaa
open Go.RowKit
def Stt.zero : Stt := ⟨⟨0, 0, 0, .nil⟩, [], []⟩
abbrev Stt.all (S : Stt) : List Dc := S.D :: (S.A ++ S.B)
open Classical in
/-- What is read, and its first error. -/
noncomputable def getS (l : List UInt8) : Stt × Nat :=
  if (getSR l).2.endE ≠ 0 then (Stt.zero, (getSR l).2.endE) else if ∀ D ∈ (getSR l).1.all, RtQ D then ((getSR l).1, 0) else (Stt.zero, 22)
/-- What a reader needs to know of what is read. -/
def SmS (l : List UInt8) : Prop := (getSR l).2.endE = 0 → ∀ D ∈ (getSR l).1.all, D.F.dep ≤ 64 ∧ D.F.wf 1000000 ∧ D.F.cnt ≤ 1000000
section
variable {w0 : World} {B : Nat} {H R R0 : List Ent} {g : Nat}
set_option maxHeartbeats 16000000
set_option maxRecDepth 100000
def GsR (w0 : World) (B : Nat) (H : List Ent) (l : List UInt8) (v : Value) (H' : List Ent) : Prop :=
  ∃ lv av bv X, v = .tuple #[.agg (stC (getS l).1 lv av bv).toArray, .int .i64 ((getS l).2 : Int)] ∧ Imp H' (X ++ H) ∧ RstR w0 B (X ++ H) (getS l).1 lv av bv
theorem RstR.zero : RstR w0 B H Stt.zero (.slice none 0 0) (.slice none 0 0) (.slice none 0 0) :=
  ⟨⟨none, 0, [], rfl, CsR.nil, rfl⟩, ⟨none, 0, [], rfl, CsR.nil, rfl⟩, ⟨none, 0, [], rfl, CsR.nil, rfl⟩⟩
theorem ex_b (P : Prop) : ∃ b : Bool, b = true ↔ P := by
  by_cases h : P
  · exact ⟨true, fun _ => h, fun _ => rfl⟩
  · exact ⟨false, fun h => (by cases h), fun h' => absurd h' h⟩
theorem docsP_le : ∀ (k : Nat) (s : Rd), (Rd.docsP k s).1.length ≤ k
  | 0, _ => Nat.le_refl _
  | k + 1, s => by
    rw [Rd.docsP]
    split
    · simp
    · have := docsP_le k s.doc.2
      simp only [List.length_cons]; omega
theorem RdsC.at' : ∀ {L : List Dc} {C : List Value} {j : Nat}, RdsC w0 B H L C → (hj : j < L.length) → ∃ lv, (C.drop (j * 4)).take 4 = dcC L[j] lv ∧ RlR w0 B H lv (L[j].F.flat 0)
  | D :: L, _, 0, ⟨lv, C', e, h1, h4⟩, _ => by
    subst e
    exact ⟨lv, by simp, h1⟩
  | D :: L, _, j + 1, ⟨lv, C', e, h1, h4⟩, hj => by
    subst e
    obtain ⟨lv', h5, h6⟩ := RdsC.at' (j := j) h4 (by simpa using hj)
    refine ⟨lv', ?_, h6⟩
    rw [List.getElem_cons_succ, ← h5, List.drop_append, show (j + 1) * 4 - (dcC D lv).length = j * 4 by simp; omega, List.drop_of_length_le (by simp; omega)]
    rfl
theorem rgetState_fn {a : Option Addr} {n c : Nat} {l : List UInt8} (hb : BytR w0 B H a n c l) (hn : n ≤ 1000000000) (hsm : SmS l) :
    Fn Try.prog w0 B 23 [.slice a n c] H (GsR w0 B H l) := by
  have hbe := hb.eq
  have hSR : getSR l = getSR l := rfl
  conv at hSR => rhs; unfold getSR
  dsimp only at hSR
  refine fn_intro Try.func23 rfl (by kernel_rfl) rfl ?_
  repeat (first | refine go_ ?_ | refine bx_ (fun _ => ?_))
  rename_i g2 gi g5
  refine HL.perm (H' := RfB gi a n c 0 (Rd.mk l 0).e :: ⟨g5, 61, [.int .i64 0, .int .i64 0, .int .i64 0, .slice none 0 0, .slice none 0 0, .slice none 0 0], 6⟩ :: ⟨g2, 61, [.int .i64 0, .int .i64 0, .int .i64 0, .slice none 0 0, .slice none 0 0, .slice none 0 0], 6⟩ :: H) ?_ (List.Perm.swap _ _ _)
  refine hl_call rfl rfl (rrdoc_fn (s := ⟨l, 0⟩) hb (Imp.drop (Imp.drop (Imp.refl _))) (by simp) (by omega) hn) (fun v M o => ?_)
  obtain ⟨p1, XD, da, dn, dc, himD, hsD, hpD, rfl, hRD⟩ := o
  generalize (Rd.mk l 0).doc = sD at *
  refine HL.imp ?_ himD
  refine HL.perm ?_ (List.Perm.cons _ (app_swap XD [_, _] H))
  repeat (first | refine go_ ?_ | refine bx_ (fun _ => ?_))
  refine hl_storeN (i := 0) (n := 4) rfl rfl rfl (by simp [dcC, Value.oneCell']) (.there .here) (by simp) rfl ?_
  refine HL.perm (H' := RfB gi a n c p1 sD.2.e :: ⟨g5, 61, [.int .i64 sD.1.w, .int .i64 sD.1.h, .int .i64 sD.1.n, .slice da dn dc, .slice none 0 0, .slice none 0 0], 6⟩ :: ⟨g2, 61, [.int .i64 0, .int .i64 0, .int .i64 0, .slice none 0 0, .slice none 0 0, .slice none 0 0], 6⟩ :: (XD ++ H)) ?_ (List.Perm.swap _ _ _)
  have iXD : Imp (XD ++ H) H := Imp.tail XD H
  repeat (first | refine go_ ?_ | refine bx_ (fun _ => ?_))
  refine hl_call rfl rfl (rrsize_fn hb (Imp.drop (Imp.drop iXD)) hsD hpD) (fun v M hv => ?_)
  obtain ⟨pA, rfl, rfl, hsA, hpA⟩ := hv
  rw [Rd.docs] at hSR
  have hKA := sD.2.size_le.2
  have hlD := congrArg List.length hsD
  rw [List.length_drop] at hlD
  have hweA : sD.2.size.2.e = 0 → sD.2.e = 0 := fun h => (Rd.size_was h).1
  generalize sD.2.size = sK at *
  obtain ⟨GA, hGA⟩ : ∃ G, G = Rd.docsP sK.1 sK.2 := ⟨_, rfl⟩
  rw [← hGA] at hSR
  repeat (first | refine op_ ?_ | refine bx_ (fun _ => ?_))
  refine hc_seq ?_
  refine hc_seq ?_
  refine hc_region ?_
  repeat (first | refine op_ ?_ | refine bx_ (fun _ => ?_))
  refine hc_meet (fun fr M => ∃ (j p : Nat) (s : Rd) (L1 : List Dc) (sa : Option Addr) (sc : Nat) (C1 : List Value) (Xl Xs : List Ent), GA.2 = s ∧ (s.e = 0 → RdsC w0 B Xs L1 C1 ∧ L1.length = j ∧ L1 = GA.1) ∧ (∀ u ∈ C1, u.oneCell' = true) ∧ (∀ F, Own 58 4 (.slice sa j sc) j C1 F (Xl ++ F)) ∧ (s.l = l.drop p ∧ p ≤ n) ∧ Imp M (RfB gi a n c p s.e :: ⟨g5, 61, [.int .i64 sD.1.w, .int .i64 sD.1.h, .int .i64 sD.1.n, .slice da dn dc, .slice sa j sc, .slice none 0 0], 6⟩ :: ⟨g2, 61, [.int .i64 0, .int .i64 0, .int .i64 0, .slice none 0 0, .slice none 0 0, .slice none 0 0], 6⟩ :: (Xl ++ (Xs ++ (XD ++ H)))) ∧ Agr fr [(0, .slice a n c), (2, .pointer (some ⟨g2, 0, none⟩)), (4, .pointer (some ⟨gi, 0, none⟩)), (5, .pointer (some ⟨g5, 0, none⟩))]) ?_ ?_
  · repeat (first | refine go_ ?_ | refine bx_ (fun _ => ?_))
    refine hc_loopd (fun q fr M => ∃ (j p : Nat) (s : Rd) (L1 : List Dc) (sa : Option Addr) (sc : Nat) (C1 : List Value) (Xl Xs : List Ent), j + q = sK.1 ∧ (Rd.docsP q s).2 = GA.2 ∧ (s.e = 0 → RdsC w0 B Xs L1 C1 ∧ L1.length = j ∧ L1 ++ (Rd.docsP q s).1 = GA.1) ∧ (∀ u ∈ C1, u.oneCell' = true) ∧ (∀ F, Own 58 4 (.slice sa j sc) j C1 F (Xl ++ F)) ∧ (s.l = l.drop p ∧ p ≤ n) ∧ Imp M (RfB gi a n c p s.e :: ⟨g5, 61, [.int .i64 sD.1.w, .int .i64 sD.1.h, .int .i64 sD.1.n, .slice da dn dc, .slice sa j sc, .slice none 0 0], 6⟩ :: ⟨g2, 61, [.int .i64 0, .int .i64 0, .int .i64 0, .slice none 0 0, .slice none 0 0, .slice none 0 0], 6⟩ :: (Xl ++ (Xs ++ (XD ++ H)))) ∧ Agr fr [(0, .slice a n c), (2, .pointer (some ⟨g2, 0, none⟩)), (4, .pointer (some ⟨gi, 0, none⟩)), (5, .pointer (some ⟨g5, 0, none⟩)), (6, .int .i64 (sK.1 : Int)), (7, .int .i64 (j : Int))]) sK.1 ?_ ?_
    · exact ⟨0, pA, sK.2, [], none, 0, [], [], [], by omega, by rw [hGA], fun _ => ⟨rfl, rfl, by rw [hGA]; rfl⟩, by simp, fun F => Own.nil, ⟨hsA, hpA⟩, Imp.refl _, rfl, rfl, rfl, rfl, rfl, rfl, trivial⟩
    rintro q fr M ⟨j, p, s, L1, sa, sc, C1, Xl, Xs, hj, h2, h1, hone, ho, ⟨hs, hp⟩, him, hf⟩
    obtain ⟨base, rfl⟩ := hf.out
    clear hf
    refine HC.imp ?_ him
    clear him M
    have iTT : Imp (Xl ++ (Xs ++ (XD ++ H))) H := (Imp.tail Xl _).trans ((Imp.tail Xs _).trans iXD)
    by_cases hgo : q ≠ 0 ∧ s.e = 0
    · obtain ⟨hq, h0⟩ := hgo
      obtain ⟨q, rfl⟩ : ∃ q', q = q' + 1 := ⟨q - 1, by omega⟩
      rw [Rd.docsP, if_neg (by simp [h0])] at h2 h1
      dsimp only at h2 h1
      obtain ⟨f1, f2, f3⟩ := h1 h0
      clear h1
      have hln := s.doc_len
      have hsl := congrArg List.length hs
      rw [List.length_drop] at hsl
      repeat (first | refine go_ ?_ | refine bx_ (fun _ => ?_))
      refine hc_meet (fun fr M => ∃ (p2 : Nat) (sa' : Option Addr) (sc' : Nat) (C2 : List Value) (Z Xs' : List Ent), (s.doc.2.l = l.drop p2 ∧ p2 ≤ n) ∧ (s.doc.2.e = 0 → RdsC w0 B Xs' (L1 ++ [s.doc.1]) C2) ∧ (∀ u ∈ C2, u.oneCell' = true) ∧ (∀ F, Own 58 4 (.slice sa' (j + 1) sc') (j + 1) C2 F (Z ++ F)) ∧ Imp M (RfB gi a n c p2 s.doc.2.e :: ⟨g5, 61, [.int .i64 sD.1.w, .int .i64 sD.1.h, .int .i64 sD.1.n, .slice da dn dc, (.slice sa' (j + 1) sc'), .slice none 0 0], 6⟩ :: ⟨g2, 61, [.int .i64 0, .int .i64 0, .int .i64 0, .slice none 0 0, .slice none 0 0, .slice none 0 0], 6⟩ :: (Z ++ (Xs' ++ (XD ++ H)))) ∧ Agr fr [(0, .slice a n c), (2, .pointer (some ⟨g2, 0, none⟩)), (4, .pointer (some ⟨gi, 0, none⟩)), (5, .pointer (some ⟨g5, 0, none⟩)), (6, .int .i64 (sK.1 : Int)), (7, .int .i64 (j : Int))]) ?_ ?_
      · have cd := rrdoc_fn (g := gi) (s := s) (R := ⟨g5, 61, [.int .i64 sD.1.w, .int .i64 sD.1.h, .int .i64 sD.1.n, .slice da dn dc, .slice sa j sc, .slice none 0 0], 6⟩ :: ⟨g2, 61, [.int .i64 0, .int .i64 0, .int .i64 0, .slice none 0 0, .slice none 0 0, .slice none 0 0], 6⟩ :: (Xl ++ (Xs ++ (XD ++ H)))) hb (Imp.drop (Imp.drop iTT)) hs hp hn
        generalize s.doc = sN at *
        refine hc_drawA [] (by kernel_rfl) ?_
        refine ha_quiet [0, 2] (by rfl) (by kernel_rfl) ?_
        repeat (first | refine gd_ ?_)
        refine ha_fork2 1 3 (by rfl) (by kernel_rfl) (by rfl) (by rfl) (by first | exact Imp.refl _ | exact Imp.drop (Imp.refl _) | exact Imp.drop (Imp.drop (Imp.refl _)) | exact Imp.drop (Imp.drop (Imp.drop (Imp.refl _))) | exact Imp.drop (Imp.drop (Imp.drop (Imp.drop (Imp.refl _)))) | exact Imp.drop (Imp.drop (Imp.drop (Imp.drop (Imp.drop (Imp.refl _))))) | exact Imp.drop (Imp.drop (Imp.drop (Imp.drop (Imp.drop (Imp.drop (Imp.refl _)))))) | exact Imp.drop (Imp.drop (Imp.drop (Imp.drop (Imp.drop (Imp.drop (Imp.drop (Imp.refl _))))))) | exact Imp.drop (Imp.drop (Imp.drop (Imp.drop (Imp.drop (Imp.drop (Imp.drop (Imp.drop (Imp.refl _)))))))) | assumption | exact Imp.drop (by assumption) | exact Imp.drop (Imp.drop (by assumption)) | exact imp_nil _ | exact Imp.drop2 (Imp.refl _) | exact Imp.drop2 (Imp.drop2 (Imp.refl _)) | exact Imp.drop (Imp.drop2 (Imp.refl _))) ?_ ?_
        · skip
          repeat (first | refine op_ ?_ | refine bx_ (fun _ => ?_))
          refine ha_fork1 3 (by rfl) (by kernel_rfl) (by rfl) (by first | exact Imp.refl _ | exact Imp.drop (Imp.refl _) | exact Imp.drop (Imp.drop (Imp.refl _)) | exact Imp.drop (Imp.drop (Imp.drop (Imp.refl _))) | exact Imp.drop (Imp.drop (Imp.drop (Imp.drop (Imp.refl _)))) | exact Imp.drop (Imp.drop (Imp.drop (Imp.drop (Imp.drop (Imp.refl _))))) | exact Imp.drop (Imp.drop (Imp.drop (Imp.drop (Imp.drop (Imp.drop (Imp.refl _)))))) | exact Imp.drop (Imp.drop (Imp.drop (Imp.drop (Imp.drop (Imp.drop (Imp.drop (Imp.refl _))))))) | exact Imp.drop (Imp.drop (Imp.drop (Imp.drop (Imp.drop (Imp.drop (Imp.drop (Imp.drop (Imp.refl _)))))))) | assumption | exact Imp.drop (by assumption) | exact Imp.drop (Imp.drop (by assumption)) | exact imp_nil _ | exact Imp.drop2 (Imp.refl _) | exact Imp.drop2 (Imp.drop2 (Imp.refl _)) | exact Imp.drop (Imp.drop2 (Imp.refl _))) ?_
          · skip
            refine hl_call rfl rfl cd (fun v M o => ?_)
            obtain ⟨p2, X2, ra, rm, rc, him2, hs2, hp2, rfl, hR2⟩ := o
            refine HL.imp ?_ him2
            refine HL.perm ?_ (List.Perm.cons _ (app_swap X2 [_, _] _))
            repeat (first | refine op_ ?_ | refine bx_ (fun _ => ?_))
            refine ha_fork1 4 (by rfl) (by kernel_rfl) (by rfl) (by first | exact Imp.refl _ | exact Imp.drop (Imp.refl _) | exact Imp.drop (Imp.drop (Imp.refl _)) | exact Imp.drop (Imp.drop (Imp.drop (Imp.refl _))) | exact Imp.drop (Imp.drop (Imp.drop (Imp.drop (Imp.refl _)))) | exact Imp.drop (Imp.drop (Imp.drop (Imp.drop (Imp.drop (Imp.refl _))))) | exact Imp.drop (Imp.drop (Imp.drop (Imp.drop (Imp.drop (Imp.drop (Imp.refl _)))))) | exact Imp.drop (Imp.drop (Imp.drop (Imp.drop (Imp.drop (Imp.drop (Imp.drop (Imp.refl _))))))) | exact Imp.drop (Imp.drop (Imp.drop (Imp.drop (Imp.drop (Imp.drop (Imp.drop (Imp.drop (Imp.refl _)))))))) | assumption | exact Imp.drop (by assumption) | exact Imp.drop (Imp.drop (by assumption)) | exact imp_nil _ | exact Imp.drop2 (Imp.refl _) | exact Imp.drop2 (Imp.drop2 (Imp.refl _)) | exact Imp.drop (Imp.drop2 (Imp.refl _))) ?_
            · skip
              refine bx_ (fun gb => ?_)
              repeat (first | refine op_ ?_ | refine bx_ (fun _ => ?_))
              refine ha_fork1 5 (by rfl) (by kernel_rfl) (by rfl) (by first | exact Imp.refl _ | exact Imp.drop (Imp.refl _) | exact Imp.drop (Imp.drop (Imp.refl _)) | exact Imp.drop (Imp.drop (Imp.drop (Imp.refl _))) | exact Imp.drop (Imp.drop (Imp.drop (Imp.drop (Imp.refl _)))) | exact Imp.drop (Imp.drop (Imp.drop (Imp.drop (Imp.drop (Imp.refl _))))) | exact Imp.drop (Imp.drop (Imp.drop (Imp.drop (Imp.drop (Imp.drop (Imp.refl _)))))) | exact Imp.drop (Imp.drop (Imp.drop (Imp.drop (Imp.drop (Imp.drop (Imp.drop (Imp.refl _))))))) | exact Imp.drop (Imp.drop (Imp.drop (Imp.drop (Imp.drop (Imp.drop (Imp.drop (Imp.drop (Imp.refl _)))))))) | assumption | exact Imp.drop (by assumption) | exact Imp.drop (Imp.drop (by assumption)) | exact imp_nil _ | exact Imp.drop2 (Imp.refl _) | exact Imp.drop2 (Imp.drop2 (Imp.refl _)) | exact Imp.drop (Imp.drop2 (Imp.refl _))) ?_
              · skip
                have hq1 : ∀ x y z t : Ent, (x :: y :: z :: t :: (X2 ++ (Xl ++ (Xs ++ (XD ++ H))))).Perm (Xl ++ (x :: y :: z :: t :: (X2 ++ (Xs ++ (XD ++ H))))) := fun x y z t => by simpa only [List.append_assoc, List.cons_append, List.nil_append] using app_swap ([x, y, z, t] ++ X2) Xl (Xs ++ (XD ++ H))
                have hq2 : ∀ (Z : List Ent) (x y z t : Ent), (Z ++ (x :: y :: z :: t :: (X2 ++ (Xs ++ (XD ++ H))))).Perm (x :: y :: z :: t :: (Z ++ ((X2 ++ Xs) ++ (XD ++ H)))) := fun Z x y z t => by simpa only [List.append_assoc, List.cons_append, List.nil_append] using app_swap Z [x, y, z, t] (X2 ++ (Xs ++ (XD ++ H)))
                refine HL.perm ?_ (hq1 _ _ _ _)
                refine hl_append_own (e := 58) (sz := 4) rfl rfl (ho _) (Rds.ent (i := 0) (n := 4) (l := dcC sN.1 (.slice ra rm rc)) (Take.app Xl .here) rfl (by simp [dcC, Value.oneCell'])) rfl rfl (by decide) (by omega) (by omega) rfl (fun v5 M5 o5 => ?_)
                obtain ⟨a5', c5', rfl, _, _⟩ := o5.form
                obtain ⟨Z, hZ, hoZ⟩ := o5.permE
                refine HL.perm ?_ (hZ.trans (hq2 Z _ _ _ _))
                have hone2 : ∀ u ∈ C1 ++ dcC sN.1 (.slice ra rm rc), u.oneCell' = true := fun u hu => by
                  rcases List.mem_append.1 hu with hu | hu
                  · exact hone u hu
                  · simp only [dcC, List.mem_cons, List.not_mem_nil, or_false] at hu
                    rcases hu with rfl | rfl | rfl | rfl <;> rfl
                repeat (first | refine op_ ?_ | refine bx_ (fun _ => ?_))
                refine ha_quiet [6] (by rfl) (by kernel_rfl) ?_
                repeat (first | refine gd_ ?_)
                refine ha_fork1 7 (by rfl) (by kernel_rfl) (by rfl) (by first | exact Imp.refl _ | exact Imp.drop (Imp.refl _) | exact Imp.drop (Imp.drop (Imp.refl _)) | exact Imp.drop (Imp.drop (Imp.drop (Imp.refl _))) | exact Imp.drop (Imp.drop (Imp.drop (Imp.drop (Imp.refl _)))) | exact Imp.drop (Imp.drop (Imp.drop (Imp.drop (Imp.drop (Imp.refl _))))) | exact Imp.drop (Imp.drop (Imp.drop (Imp.drop (Imp.drop (Imp.drop (Imp.refl _)))))) | exact Imp.drop (Imp.drop (Imp.drop (Imp.drop (Imp.drop (Imp.drop (Imp.drop (Imp.refl _))))))) | exact Imp.drop (Imp.drop (Imp.drop (Imp.drop (Imp.drop (Imp.drop (Imp.drop (Imp.drop (Imp.refl _)))))))) | assumption | exact Imp.drop (by assumption) | exact Imp.drop (Imp.drop (by assumption)) | exact imp_nil _ | exact Imp.drop2 (Imp.refl _) | exact Imp.drop2 (Imp.drop2 (Imp.refl _)) | exact Imp.drop (Imp.drop2 (Imp.refl _))) ?_
                · skip
                  repeat (first | refine op_ ?_ | refine bx_ (fun _ => ?_))
                  refine ha_end (by rfl) (by kernel_rfl) (by first | exact Imp.refl _ | exact Imp.drop (Imp.refl _) | exact Imp.drop (Imp.drop (Imp.refl _)) | exact Imp.drop (Imp.drop (Imp.drop (Imp.refl _))) | exact Imp.drop (Imp.drop (Imp.drop (Imp.drop (Imp.refl _)))) | exact Imp.drop (Imp.drop (Imp.drop (Imp.drop (Imp.drop (Imp.refl _))))) | exact Imp.drop (Imp.drop (Imp.drop (Imp.drop (Imp.drop (Imp.drop (Imp.refl _)))))) | exact Imp.drop (Imp.drop (Imp.drop (Imp.drop (Imp.drop (Imp.drop (Imp.drop (Imp.refl _))))))) | exact Imp.drop (Imp.drop (Imp.drop (Imp.drop (Imp.drop (Imp.drop (Imp.drop (Imp.drop (Imp.refl _)))))))) | assumption | exact Imp.drop (by assumption) | exact Imp.drop (Imp.drop (by assumption)) | exact imp_nil _ | exact Imp.drop2 (Imp.refl _) | exact Imp.drop2 (Imp.drop2 (Imp.refl _)) | exact Imp.drop (Imp.drop2 (Imp.refl _))) ?_
                  exact ⟨p2, a5', c5', _, Z, X2 ++ Xs, ⟨hs2, hp2⟩, fun he => RdsC.append (f1.imp (Imp.tail X2 Xs)) ⟨.slice ra rm rc, [], rfl, (hR2 he).imp (Imp.sub (List.sublist_append_left _ _)), rfl⟩, hone2, hoZ, Imp.drop2 (Imp.perm (List.Perm.swap _ _ _) (Imp.refl _)), rfl, rfl, rfl, rfl, rfl, rfl, trivial⟩
        · skip
          refine hl_call rfl rfl cd (fun v M o => ?_)
          obtain ⟨p2, X2, ra, rm, rc, him2, hs2, hp2, rfl, hR2⟩ := o
          refine HL.imp ?_ him2
          refine HL.perm ?_ (List.Perm.cons _ (app_swap X2 [_, _] _))
          repeat (first | refine op_ ?_ | refine bx_ (fun _ => ?_))
          refine ha_fork2 1 4 (by rfl) (by kernel_rfl) (by rfl) (by rfl) (by first | exact Imp.refl _ | exact Imp.drop (Imp.refl _) | exact Imp.drop (Imp.drop (Imp.refl _)) | exact Imp.drop (Imp.drop (Imp.drop (Imp.refl _))) | exact Imp.drop (Imp.drop (Imp.drop (Imp.drop (Imp.refl _)))) | exact Imp.drop (Imp.drop (Imp.drop (Imp.drop (Imp.drop (Imp.refl _))))) | exact Imp.drop (Imp.drop (Imp.drop (Imp.drop (Imp.drop (Imp.drop (Imp.refl _)))))) | exact Imp.drop (Imp.drop (Imp.drop (Imp.drop (Imp.drop (Imp.drop (Imp.drop (Imp.refl _))))))) | exact Imp.drop (Imp.drop (Imp.drop (Imp.drop (Imp.drop (Imp.drop (Imp.drop (Imp.drop (Imp.refl _)))))))) | assumption | exact Imp.drop (by assumption) | exact Imp.drop (Imp.drop (by assumption)) | exact imp_nil _ | exact Imp.drop2 (Imp.refl _) | exact Imp.drop2 (Imp.drop2 (Imp.refl _)) | exact Imp.drop (Imp.drop2 (Imp.refl _))) ?_ ?_
          · skip
            repeat (first | refine op_ ?_ | refine bx_ (fun _ => ?_))
            refine ha_fork1 4 (by rfl) (by kernel_rfl) (by rfl) (by first | exact Imp.refl _ | exact Imp.drop (Imp.refl _) | exact Imp.drop (Imp.drop (Imp.refl _)) | exact Imp.drop (Imp.drop (Imp.drop (Imp.refl _))) | exact Imp.drop (Imp.drop (Imp.drop (Imp.drop (Imp.refl _)))) | exact Imp.drop (Imp.drop (Imp.drop (Imp.drop (Imp.drop (Imp.refl _))))) | exact Imp.drop (Imp.drop (Imp.drop (Imp.drop (Imp.drop (Imp.drop (Imp.refl _)))))) | exact Imp.drop (Imp.drop (Imp.drop (Imp.drop (Imp.drop (Imp.drop (Imp.drop (Imp.refl _))))))) | exact Imp.drop (Imp.drop (Imp.drop (Imp.drop (Imp.drop (Imp.drop (Imp.drop (Imp.drop (Imp.refl _)))))))) | assumption | exact Imp.drop (by assumption) | exact Imp.drop (Imp.drop (by assumption)) | exact imp_nil _ | exact Imp.drop2 (Imp.refl _) | exact Imp.drop2 (Imp.drop2 (Imp.refl _)) | exact Imp.drop (Imp.drop2 (Imp.refl _))) ?_
            · skip
              refine bx_ (fun gb => ?_)
              repeat (first | refine op_ ?_ | refine bx_ (fun _ => ?_))
              refine ha_fork1 5 (by rfl) (by kernel_rfl) (by rfl) (by first | exact Imp.refl _ | exact Imp.drop (Imp.refl _) | exact Imp.drop (Imp.drop (Imp.refl _)) | exact Imp.drop (Imp.drop (Imp.drop (Imp.refl _))) | exact Imp.drop (Imp.drop (Imp.drop (Imp.drop (Imp.refl _)))) | exact Imp.drop (Imp.drop (Imp.drop (Imp.drop (Imp.drop (Imp.refl _))))) | exact Imp.drop (Imp.drop (Imp.drop (Imp.drop (Imp.drop (Imp.drop (Imp.refl _)))))) | exact Imp.drop (Imp.drop (Imp.drop (Imp.drop (Imp.drop (Imp.drop (Imp.drop (Imp.refl _))))))) | exact Imp.drop (Imp.drop (Imp.drop (Imp.drop (Imp.drop (Imp.drop (Imp.drop (Imp.drop (Imp.refl _)))))))) | assumption | exact Imp.drop (by assumption) | exact Imp.drop (Imp.drop (by assumption)) | exact imp_nil _ | exact Imp.drop2 (Imp.refl _) | exact Imp.drop2 (Imp.drop2 (Imp.refl _)) | exact Imp.drop (Imp.drop2 (Imp.refl _))) ?_
              · skip
                have hq1 : ∀ x y z t : Ent, (x :: y :: z :: t :: (X2 ++ (Xl ++ (Xs ++ (XD ++ H))))).Perm (Xl ++ (x :: y :: z :: t :: (X2 ++ (Xs ++ (XD ++ H))))) := fun x y z t => by simpa only [List.append_assoc, List.cons_append, List.nil_append] using app_swap ([x, y, z, t] ++ X2) Xl (Xs ++ (XD ++ H))
                have hq2 : ∀ (Z : List Ent) (x y z t : Ent), (Z ++ (x :: y :: z :: t :: (X2 ++ (Xs ++ (XD ++ H))))).Perm (x :: y :: z :: t :: (Z ++ ((X2 ++ Xs) ++ (XD ++ H)))) := fun Z x y z t => by simpa only [List.append_assoc, List.cons_append, List.nil_append] using app_swap Z [x, y, z, t] (X2 ++ (Xs ++ (XD ++ H)))
                refine HL.perm ?_ (hq1 _ _ _ _)
                refine hl_append_own (e := 58) (sz := 4) rfl rfl (ho _) (Rds.ent (i := 0) (n := 4) (l := dcC sN.1 (.slice ra rm rc)) (Take.app Xl .here) rfl (by simp [dcC, Value.oneCell'])) rfl rfl (by decide) (by omega) (by omega) rfl (fun v5 M5 o5 => ?_)
                obtain ⟨a5', c5', rfl, _, _⟩ := o5.form
                obtain ⟨Z, hZ, hoZ⟩ := o5.permE
                refine HL.perm ?_ (hZ.trans (hq2 Z _ _ _ _))
                have hone2 : ∀ u ∈ C1 ++ dcC sN.1 (.slice ra rm rc), u.oneCell' = true := fun u hu => by
                  rcases List.mem_append.1 hu with hu | hu
                  · exact hone u hu
                  · simp only [dcC, List.mem_cons, List.not_mem_nil, or_false] at hu
                    rcases hu with rfl | rfl | rfl | rfl <;> rfl
                repeat (first | refine op_ ?_ | refine bx_ (fun _ => ?_))
                refine ha_quiet [6] (by rfl) (by kernel_rfl) ?_
                repeat (first | refine gd_ ?_)
                refine ha_fork1 7 (by rfl) (by kernel_rfl) (by rfl) (by first | exact Imp.refl _ | exact Imp.drop (Imp.refl _) | exact Imp.drop (Imp.drop (Imp.refl _)) | exact Imp.drop (Imp.drop (Imp.drop (Imp.refl _))) | exact Imp.drop (Imp.drop (Imp.drop (Imp.drop (Imp.refl _)))) | exact Imp.drop (Imp.drop (Imp.drop (Imp.drop (Imp.drop (Imp.refl _))))) | exact Imp.drop (Imp.drop (Imp.drop (Imp.drop (Imp.drop (Imp.drop (Imp.refl _)))))) | exact Imp.drop (Imp.drop (Imp.drop (Imp.drop (Imp.drop (Imp.drop (Imp.drop (Imp.refl _))))))) | exact Imp.drop (Imp.drop (Imp.drop (Imp.drop (Imp.drop (Imp.drop (Imp.drop (Imp.drop (Imp.refl _)))))))) | assumption | exact Imp.drop (by assumption) | exact Imp.drop (Imp.drop (by assumption)) | exact imp_nil _ | exact Imp.drop2 (Imp.refl _) | exact Imp.drop2 (Imp.drop2 (Imp.refl _)) | exact Imp.drop (Imp.drop2 (Imp.refl _))) ?_
                · skip
                  repeat (first | refine op_ ?_ | refine bx_ (fun _ => ?_))
                  refine ha_end (by rfl) (by kernel_rfl) (by first | exact Imp.refl _ | exact Imp.drop (Imp.refl _) | exact Imp.drop (Imp.drop (Imp.refl _)) | exact Imp.drop (Imp.drop (Imp.drop (Imp.refl _))) | exact Imp.drop (Imp.drop (Imp.drop (Imp.drop (Imp.refl _)))) | exact Imp.drop (Imp.drop (Imp.drop (Imp.drop (Imp.drop (Imp.refl _))))) | exact Imp.drop (Imp.drop (Imp.drop (Imp.drop (Imp.drop (Imp.drop (Imp.refl _)))))) | exact Imp.drop (Imp.drop (Imp.drop (Imp.drop (Imp.drop (Imp.drop (Imp.drop (Imp.refl _))))))) | exact Imp.drop (Imp.drop (Imp.drop (Imp.drop (Imp.drop (Imp.drop (Imp.drop (Imp.drop (Imp.refl _)))))))) | assumption | exact Imp.drop (by assumption) | exact Imp.drop (Imp.drop (by assumption)) | exact imp_nil _ | exact Imp.drop2 (Imp.refl _) | exact Imp.drop2 (Imp.drop2 (Imp.refl _)) | exact Imp.drop (Imp.drop2 (Imp.refl _))) ?_
                  exact ⟨p2, a5', c5', _, Z, X2 ++ Xs, ⟨hs2, hp2⟩, fun he => RdsC.append (f1.imp (Imp.tail X2 Xs)) ⟨.slice ra rm rc, [], rfl, (hR2 he).imp (Imp.sub (List.sublist_append_left _ _)), rfl⟩, hone2, hoZ, Imp.drop2 (Imp.perm (List.Perm.swap _ _ _) (Imp.refl _)), rfl, rfl, rfl, rfl, rfl, rfl, trivial⟩
          · skip
            refine bx_ (fun gb => ?_)
            repeat (first | refine op_ ?_ | refine bx_ (fun _ => ?_))
            refine ha_fork1 1 (by rfl) (by kernel_rfl) (by rfl) (by first | exact Imp.refl _ | exact Imp.drop (Imp.refl _) | exact Imp.drop (Imp.drop (Imp.refl _)) | exact Imp.drop (Imp.drop (Imp.drop (Imp.refl _))) | exact Imp.drop (Imp.drop (Imp.drop (Imp.drop (Imp.refl _)))) | exact Imp.drop (Imp.drop (Imp.drop (Imp.drop (Imp.drop (Imp.refl _))))) | exact Imp.drop (Imp.drop (Imp.drop (Imp.drop (Imp.drop (Imp.drop (Imp.refl _)))))) | exact Imp.drop (Imp.drop (Imp.drop (Imp.drop (Imp.drop (Imp.drop (Imp.drop (Imp.refl _))))))) | exact Imp.drop (Imp.drop (Imp.drop (Imp.drop (Imp.drop (Imp.drop (Imp.drop (Imp.drop (Imp.refl _)))))))) | assumption | exact Imp.drop (by assumption) | exact Imp.drop (Imp.drop (by assumption)) | exact imp_nil _ | exact Imp.drop2 (Imp.refl _) | exact Imp.drop2 (Imp.drop2 (Imp.refl _)) | exact Imp.drop (Imp.drop2 (Imp.refl _))) ?_
            · skip
              repeat (first | refine op_ ?_ | refine bx_ (fun _ => ?_))
              refine ha_fork1 5 (by rfl) (by kernel_rfl) (by rfl) (by first | exact Imp.refl _ | exact Imp.drop (Imp.refl _) | exact Imp.drop (Imp.drop (Imp.refl _)) | exact Imp.drop (Imp.drop (Imp.drop (Imp.refl _))) | exact Imp.drop (Imp.drop (Imp.drop (Imp.drop (Imp.refl _)))) | exact Imp.drop (Imp.drop (Imp.drop (Imp.drop (Imp.drop (Imp.refl _))))) | exact Imp.drop (Imp.drop (Imp.drop (Imp.drop (Imp.drop (Imp.drop (Imp.refl _)))))) | exact Imp.drop (Imp.drop (Imp.drop (Imp.drop (Imp.drop (Imp.drop (Imp.drop (Imp.refl _))))))) | exact Imp.drop (Imp.drop (Imp.drop (Imp.drop (Imp.drop (Imp.drop (Imp.drop (Imp.drop (Imp.refl _)))))))) | assumption | exact Imp.drop (by assumption) | exact Imp.drop (Imp.drop (by assumption)) | exact imp_nil _ | exact Imp.drop2 (Imp.refl _) | exact Imp.drop2 (Imp.drop2 (Imp.refl _)) | exact Imp.drop (Imp.drop2 (Imp.refl _))) ?_
              · skip
                have hq1 : ∀ x y z t : Ent, (x :: y :: z :: t :: (X2 ++ (Xl ++ (Xs ++ (XD ++ H))))).Perm (Xl ++ (x :: y :: z :: t :: (X2 ++ (Xs ++ (XD ++ H))))) := fun x y z t => by simpa only [List.append_assoc, List.cons_append, List.nil_append] using app_swap ([x, y, z, t] ++ X2) Xl (Xs ++ (XD ++ H))
                have hq2 : ∀ (Z : List Ent) (x y z t : Ent), (Z ++ (x :: y :: z :: t :: (X2 ++ (Xs ++ (XD ++ H))))).Perm (x :: y :: z :: t :: (Z ++ ((X2 ++ Xs) ++ (XD ++ H)))) := fun Z x y z t => by simpa only [List.append_assoc, List.cons_append, List.nil_append] using app_swap Z [x, y, z, t] (X2 ++ (Xs ++ (XD ++ H)))
                refine HL.perm ?_ (hq1 _ _ _ _)
                refine hl_append_own (e := 58) (sz := 4) rfl rfl (ho _) (Rds.ent (i := 0) (n := 4) (l := dcC sN.1 (.slice ra rm rc)) (Take.app Xl .here) rfl (by simp [dcC, Value.oneCell'])) rfl rfl (by decide) (by omega) (by omega) rfl (fun v5 M5 o5 => ?_)
                obtain ⟨a5', c5', rfl, _, _⟩ := o5.form
                obtain ⟨Z, hZ, hoZ⟩ := o5.permE
                refine HL.perm ?_ (hZ.trans (hq2 Z _ _ _ _))
                have hone2 : ∀ u ∈ C1 ++ dcC sN.1 (.slice ra rm rc), u.oneCell' = true := fun u hu => by
                  rcases List.mem_append.1 hu with hu | hu
                  · exact hone u hu
                  · simp only [dcC, List.mem_cons, List.not_mem_nil, or_false] at hu
                    rcases hu with rfl | rfl | rfl | rfl <;> rfl
                repeat (first | refine op_ ?_ | refine bx_ (fun _ => ?_))
                refine ha_quiet [6] (by rfl) (by kernel_rfl) ?_
                repeat (first | refine gd_ ?_)
                refine ha_fork1 7 (by rfl) (by kernel_rfl) (by rfl) (by first | exact Imp.refl _ | exact Imp.drop (Imp.refl _) | exact Imp.drop (Imp.drop (Imp.refl _)) | exact Imp.drop (Imp.drop (Imp.drop (Imp.refl _))) | exact Imp.drop (Imp.drop (Imp.drop (Imp.drop (Imp.refl _)))) | exact Imp.drop (Imp.drop (Imp.drop (Imp.drop (Imp.drop (Imp.refl _))))) | exact Imp.drop (Imp.drop (Imp.drop (Imp.drop (Imp.drop (Imp.drop (Imp.refl _)))))) | exact Imp.drop (Imp.drop (Imp.drop (Imp.drop (Imp.drop (Imp.drop (Imp.drop (Imp.refl _))))))) | exact Imp.drop (Imp.drop (Imp.drop (Imp.drop (Imp.drop (Imp.drop (Imp.drop (Imp.drop (Imp.refl _)))))))) | assumption | exact Imp.drop (by assumption) | exact Imp.drop (Imp.drop (by assumption)) | exact imp_nil _ | exact Imp.drop2 (Imp.refl _) | exact Imp.drop2 (Imp.drop2 (Imp.refl _)) | exact Imp.drop (Imp.drop2 (Imp.refl _))) ?_
                · skip
                  repeat (first | refine op_ ?_ | refine bx_ (fun _ => ?_))
                  refine ha_end (by rfl) (by kernel_rfl) (by first | exact Imp.refl _ | exact Imp.drop (Imp.refl _) | exact Imp.drop (Imp.drop (Imp.refl _)) | exact Imp.drop (Imp.drop (Imp.drop (Imp.refl _))) | exact Imp.drop (Imp.drop (Imp.drop (Imp.drop (Imp.refl _)))) | exact Imp.drop (Imp.drop (Imp.drop (Imp.drop (Imp.drop (Imp.refl _))))) | exact Imp.drop (Imp.drop (Imp.drop (Imp.drop (Imp.drop (Imp.drop (Imp.refl _)))))) | exact Imp.drop (Imp.drop (Imp.drop (Imp.drop (Imp.drop (Imp.drop (Imp.drop (Imp.refl _))))))) | exact Imp.drop (Imp.drop (Imp.drop (Imp.drop (Imp.drop (Imp.drop (Imp.drop (Imp.drop (Imp.refl _)))))))) | assumption | exact Imp.drop (by assumption) | exact Imp.drop (Imp.drop (by assumption)) | exact imp_nil _ | exact Imp.drop2 (Imp.refl _) | exact Imp.drop2 (Imp.drop2 (Imp.refl _)) | exact Imp.drop (Imp.drop2 (Imp.refl _))) ?_
                  exact ⟨p2, a5', c5', _, Z, X2 ++ Xs, ⟨hs2, hp2⟩, fun he => RdsC.append (f1.imp (Imp.tail X2 Xs)) ⟨.slice ra rm rc, [], rfl, (hR2 he).imp (Imp.sub (List.sublist_append_left _ _)), rfl⟩, hone2, hoZ, Imp.drop2 (Imp.perm (List.Perm.swap _ _ _) (Imp.refl _)), rfl, rfl, rfl, rfl, rfl, rfl, trivial⟩
      rintro fr M ⟨p2, sa', sc', C2, Z, Xs', ⟨hs2, hp2⟩, hR2, hone2, hoZ, him2, hf⟩
      obtain ⟨base, rfl⟩ := hf.out
      clear hf
      refine HC.imp ?_ him2
      repeat (first | refine go_ ?_ | refine bx_ (fun _ => ?_))
      exact ⟨q, by omega, _, Imp.refl _, j + 1, p2, s.doc.2, L1 ++ [s.doc.1], sa', sc', C2, Z, Xs', by omega, h2, fun he => ⟨hR2 he, by simp [f2], by rw [List.append_assoc]; exact f3⟩, hone2, hoZ, ⟨hs2, hp2⟩, Imp.refl _, rfl, rfl, rfl, rfl, rfl, rfl, trivial⟩
    have hend : Rd.docsP q s = ([], s) := by
      cases q with
      | zero => rfl
      | succ q => rw [Rd.docsP, if_pos (fun h => hgo ⟨by omega, h⟩)]
    rw [hend] at h2 h1
    dsimp only at h2 h1
    rw [List.append_nil] at h1
    by_cases hq0 : q = 0
    · repeat (first | refine go_ ?_ | refine bx_ (fun _ => ?_))
      exact ⟨j, p, s, L1, sa, sc, C1, Xl, Xs, h2.symm, h1, hone, ho, ⟨hs, hp⟩, Imp.refl _, rfl, rfl, rfl, rfl, trivial⟩
    · have h0 : ¬ s.e = 0 := fun h => hgo ⟨hq0, h⟩
      repeat (first | refine go_ ?_ | refine bx_ (fun _ => ?_))
      exact ⟨j, p, s, L1, sa, sc, C1, Xl, Xs, h2.symm, h1, hone, ho, ⟨hs, hp⟩, Imp.refl _, rfl, rfl, rfl, rfl, trivial⟩
  rintro fr M ⟨jA, pB, sB, LA, sa0, sc0, CA, XA, XAs, hGA2, hA1, honeA, hoA, ⟨hsB, hpB⟩, him, hf⟩
  obtain ⟨base, rfl⟩ := hf.out
  clear hf
  refine HC.imp ?_ him
  clear him M
  obtain ⟨T2, hT2⟩ : ∃ T2, T2 = XA ++ (XAs ++ (XD ++ H)) := ⟨_, rfl⟩
  have iT2 : Imp T2 H := by rw [hT2]; exact (Imp.tail XA _).trans ((Imp.tail XAs _).trans iXD)
  rw [← hT2]
  have hweB : sB.e = 0 → sK.2.e = 0 := fun h => by
    have h' : (Rd.docsP sK.1 sK.2).2.e = 0 := by rw [← hGA, hGA2]; exact h
    by_cases hk : sK.1 = 0
    · rw [hk] at h'; exact h'
    · obtain ⟨k', hk'⟩ : ∃ k', sK.1 = k' + 1 := ⟨sK.1 - 1, by omega⟩
      rw [hk', Rd.docsP] at h'
      by_cases h0 : sK.2.e ≠ 0
      · rw [if_pos h0] at h'; exact absurd h' h0
      · exact Classical.not_not.1 h0
  repeat (first | refine go_ ?_ | refine bx_ (fun _ => ?_))
  refine hl_call rfl rfl (rrsize_fn hb (Imp.drop (Imp.drop iT2)) hsB hpB) (fun v M hv => ?_)
  obtain ⟨pC, rfl, rfl, hsC, hpC⟩ := hv
  rw [hGA2, Rd.docs] at hSR
  have hKC := sB.size_le.2
  have hlB := congrArg List.length hsB
  rw [List.length_drop] at hlB
  have hweC : sB.size.2.e = 0 → sB.e = 0 := fun h => (Rd.size_was h).1
  generalize sB.size = sL at *
  obtain ⟨GB, hGB⟩ : ∃ G, G = Rd.docsP sL.1 sL.2 := ⟨_, rfl⟩
  rw [← hGB] at hSR
  repeat (first | refine op_ ?_ | refine bx_ (fun _ => ?_))
  refine hc_seq ?_
  refine hc_seq ?_
  refine hc_region ?_
  repeat (first | refine op_ ?_ | refine bx_ (fun _ => ?_))
  refine hc_meet (fun fr M => ∃ (j p : Nat) (s : Rd) (L1 : List Dc) (sa : Option Addr) (sc : Nat) (C1 : List Value) (Xl Xs : List Ent), GB.2 = s ∧ (s.e = 0 → RdsC w0 B Xs L1 C1 ∧ L1.length = j ∧ L1 = GB.1) ∧ (∀ u ∈ C1, u.oneCell' = true) ∧ (∀ F, Own 58 4 (.slice sa j sc) j C1 F (Xl ++ F)) ∧ (s.l = l.drop p ∧ p ≤ n) ∧ Imp M (RfB gi a n c p s.e :: ⟨g5, 61, [.int .i64 sD.1.w, .int .i64 sD.1.h, .int .i64 sD.1.n, .slice da dn dc, .slice sa0 jA sc0, .slice sa j sc], 6⟩ :: ⟨g2, 61, [.int .i64 0, .int .i64 0, .int .i64 0, .slice none 0 0, .slice none 0 0, .slice none 0 0], 6⟩ :: (Xl ++ (Xs ++ T2))) ∧ Agr fr [(0, .slice a n c), (2, .pointer (some ⟨g2, 0, none⟩)), (4, .pointer (some ⟨gi, 0, none⟩)), (5, .pointer (some ⟨g5, 0, none⟩))]) ?_ ?_
  · repeat (first | refine go_ ?_ | refine bx_ (fun _ => ?_))
    refine hc_loopd (fun q fr M => ∃ (j p : Nat) (s : Rd) (L1 : List Dc) (sa : Option Addr) (sc : Nat) (C1 : List Value) (Xl Xs : List Ent), j + q = sL.1 ∧ (Rd.docsP q s).2 = GB.2 ∧ (s.e = 0 → RdsC w0 B Xs L1 C1 ∧ L1.length = j ∧ L1 ++ (Rd.docsP q s).1 = GB.1) ∧ (∀ u ∈ C1, u.oneCell' = true) ∧ (∀ F, Own 58 4 (.slice sa j sc) j C1 F (Xl ++ F)) ∧ (s.l = l.drop p ∧ p ≤ n) ∧ Imp M (RfB gi a n c p s.e :: ⟨g5, 61, [.int .i64 sD.1.w, .int .i64 sD.1.h, .int .i64 sD.1.n, .slice da dn dc, .slice sa0 jA sc0, .slice sa j sc], 6⟩ :: ⟨g2, 61, [.int .i64 0, .int .i64 0, .int .i64 0, .slice none 0 0, .slice none 0 0, .slice none 0 0], 6⟩ :: (Xl ++ (Xs ++ T2))) ∧ Agr fr [(0, .slice a n c), (2, .pointer (some ⟨g2, 0, none⟩)), (4, .pointer (some ⟨gi, 0, none⟩)), (5, .pointer (some ⟨g5, 0, none⟩)), (8, .int .i64 (sL.1 : Int)), (9, .int .i64 (j : Int))]) sL.1 ?_ ?_
    · exact ⟨0, pC, sL.2, [], none, 0, [], [], [], by omega, by rw [hGB], fun _ => ⟨rfl, rfl, by rw [hGB]; rfl⟩, by simp, fun F => Own.nil, ⟨hsC, hpC⟩, Imp.refl _, rfl, rfl, rfl, rfl, rfl, rfl, trivial⟩
    rintro q fr M ⟨j, p, s, L1, sa, sc, C1, Xl, Xs, hj, h2, h1, hone, ho, ⟨hs, hp⟩, him, hf⟩
    obtain ⟨base, rfl⟩ := hf.out
    clear hf
    refine HC.imp ?_ him
    clear him M
    have iTT : Imp (Xl ++ (Xs ++ T2)) H := (Imp.tail Xl _).trans ((Imp.tail Xs _).trans iT2)
    by_cases hgo : q ≠ 0 ∧ s.e = 0
    · obtain ⟨hq, h0⟩ := hgo
      obtain ⟨q, rfl⟩ : ∃ q', q = q' + 1 := ⟨q - 1, by omega⟩
      rw [Rd.docsP, if_neg (by simp [h0])] at h2 h1
      dsimp only at h2 h1
      obtain ⟨f1, f2, f3⟩ := h1 h0
      clear h1
      have hln := s.doc_len
      have hsl := congrArg List.length hs
      rw [List.length_drop] at hsl
      repeat (first | refine go_ ?_ | refine bx_ (fun _ => ?_))
      refine hc_meet (fun fr M => ∃ (p2 : Nat) (sa' : Option Addr) (sc' : Nat) (C2 : List Value) (Z Xs' : List Ent), (s.doc.2.l = l.drop p2 ∧ p2 ≤ n) ∧ (s.doc.2.e = 0 → RdsC w0 B Xs' (L1 ++ [s.doc.1]) C2) ∧ (∀ u ∈ C2, u.oneCell' = true) ∧ (∀ F, Own 58 4 (.slice sa' (j + 1) sc') (j + 1) C2 F (Z ++ F)) ∧ Imp M (RfB gi a n c p2 s.doc.2.e :: ⟨g5, 61, [.int .i64 sD.1.w, .int .i64 sD.1.h, .int .i64 sD.1.n, .slice da dn dc, .slice sa0 jA sc0, (.slice sa' (j + 1) sc')], 6⟩ :: ⟨g2, 61, [.int .i64 0, .int .i64 0, .int .i64 0, .slice none 0 0, .slice none 0 0, .slice none 0 0], 6⟩ :: (Z ++ (Xs' ++ T2))) ∧ Agr fr [(0, .slice a n c), (2, .pointer (some ⟨g2, 0, none⟩)), (4, .pointer (some ⟨gi, 0, none⟩)), (5, .pointer (some ⟨g5, 0, none⟩)), (8, .int .i64 (sL.1 : Int)), (9, .int .i64 (j : Int))]) ?_ ?_
      · have cd := rrdoc_fn (g := gi) (s := s) (R := ⟨g5, 61, [.int .i64 sD.1.w, .int .i64 sD.1.h, .int .i64 sD.1.n, .slice da dn dc, .slice sa0 jA sc0, .slice sa j sc], 6⟩ :: ⟨g2, 61, [.int .i64 0, .int .i64 0, .int .i64 0, .slice none 0 0, .slice none 0 0, .slice none 0 0], 6⟩ :: (Xl ++ (Xs ++ T2))) hb (Imp.drop (Imp.drop iTT)) hs hp hn
        generalize s.doc = sN at *
        refine hc_drawA [] (by kernel_rfl) ?_
        refine ha_quiet [0, 2] (by rfl) (by kernel_rfl) ?_
        repeat (first | refine gd_ ?_)
        refine ha_fork2 1 3 (by rfl) (by kernel_rfl) (by rfl) (by rfl) (by first | exact Imp.refl _ | exact Imp.drop (Imp.refl _) | exact Imp.drop (Imp.drop (Imp.refl _)) | exact Imp.drop (Imp.drop (Imp.drop (Imp.refl _))) | exact Imp.drop (Imp.drop (Imp.drop (Imp.drop (Imp.refl _)))) | exact Imp.drop (Imp.drop (Imp.drop (Imp.drop (Imp.drop (Imp.refl _))))) | exact Imp.drop (Imp.drop (Imp.drop (Imp.drop (Imp.drop (Imp.drop (Imp.refl _)))))) | exact Imp.drop (Imp.drop (Imp.drop (Imp.drop (Imp.drop (Imp.drop (Imp.drop (Imp.refl _))))))) | exact Imp.drop (Imp.drop (Imp.drop (Imp.drop (Imp.drop (Imp.drop (Imp.drop (Imp.drop (Imp.refl _)))))))) | assumption | exact Imp.drop (by assumption) | exact Imp.drop (Imp.drop (by assumption)) | exact imp_nil _ | exact Imp.drop2 (Imp.refl _) | exact Imp.drop2 (Imp.drop2 (Imp.refl _)) | exact Imp.drop (Imp.drop2 (Imp.refl _))) ?_ ?_
        · skip
          repeat (first | refine op_ ?_ | refine bx_ (fun _ => ?_))
          refine ha_fork1 3 (by rfl) (by kernel_rfl) (by rfl) (by first | exact Imp.refl _ | exact Imp.drop (Imp.refl _) | exact Imp.drop (Imp.drop (Imp.refl _)) | exact Imp.drop (Imp.drop (Imp.drop (Imp.refl _))) | exact Imp.drop (Imp.drop (Imp.drop (Imp.drop (Imp.refl _)))) | exact Imp.drop (Imp.drop (Imp.drop (Imp.drop (Imp.drop (Imp.refl _))))) | exact Imp.drop (Imp.drop (Imp.drop (Imp.drop (Imp.drop (Imp.drop (Imp.refl _)))))) | exact Imp.drop (Imp.drop (Imp.drop (Imp.drop (Imp.drop (Imp.drop (Imp.drop (Imp.refl _))))))) | exact Imp.drop (Imp.drop (Imp.drop (Imp.drop (Imp.drop (Imp.drop (Imp.drop (Imp.drop (Imp.refl _)))))))) | assumption | exact Imp.drop (by assumption) | exact Imp.drop (Imp.drop (by assumption)) | exact imp_nil _ | exact Imp.drop2 (Imp.refl _) | exact Imp.drop2 (Imp.drop2 (Imp.refl _)) | exact Imp.drop (Imp.drop2 (Imp.refl _))) ?_
          · skip
            refine hl_call rfl rfl cd (fun v M o => ?_)
            obtain ⟨p2, X2, ra, rm, rc, him2, hs2, hp2, rfl, hR2⟩ := o
            refine HL.imp ?_ him2
            refine HL.perm ?_ (List.Perm.cons _ (app_swap X2 [_, _] _))
            repeat (first | refine op_ ?_ | refine bx_ (fun _ => ?_))
            refine ha_fork1 4 (by rfl) (by kernel_rfl) (by rfl) (by first | exact Imp.refl _ | exact Imp.drop (Imp.refl _) | exact Imp.drop (Imp.drop (Imp.refl _)) | exact Imp.drop (Imp.drop (Imp.drop (Imp.refl _))) | exact Imp.drop (Imp.drop (Imp.drop (Imp.drop (Imp.refl _)))) | exact Imp.drop (Imp.drop (Imp.drop (Imp.drop (Imp.drop (Imp.refl _))))) | exact Imp.drop (Imp.drop (Imp.drop (Imp.drop (Imp.drop (Imp.drop (Imp.refl _)))))) | exact Imp.drop (Imp.drop (Imp.drop (Imp.drop (Imp.drop (Imp.drop (Imp.drop (Imp.refl _))))))) | exact Imp.drop (Imp.drop (Imp.drop (Imp.drop (Imp.drop (Imp.drop (Imp.drop (Imp.drop (Imp.refl _)))))))) | assumption | exact Imp.drop (by assumption) | exact Imp.drop (Imp.drop (by assumption)) | exact imp_nil _ | exact Imp.drop2 (Imp.refl _) | exact Imp.drop2 (Imp.drop2 (Imp.refl _)) | exact Imp.drop (Imp.drop2 (Imp.refl _))) ?_
            · skip
              refine bx_ (fun gb => ?_)
              repeat (first | refine op_ ?_ | refine bx_ (fun _ => ?_))
              refine ha_fork1 5 (by rfl) (by kernel_rfl) (by rfl) (by first | exact Imp.refl _ | exact Imp.drop (Imp.refl _) | exact Imp.drop (Imp.drop (Imp.refl _)) | exact Imp.drop (Imp.drop (Imp.drop (Imp.refl _))) | exact Imp.drop (Imp.drop (Imp.drop (Imp.drop (Imp.refl _)))) | exact Imp.drop (Imp.drop (Imp.drop (Imp.drop (Imp.drop (Imp.refl _))))) | exact Imp.drop (Imp.drop (Imp.drop (Imp.drop (Imp.drop (Imp.drop (Imp.refl _)))))) | exact Imp.drop (Imp.drop (Imp.drop (Imp.drop (Imp.drop (Imp.drop (Imp.drop (Imp.refl _))))))) | exact Imp.drop (Imp.drop (Imp.drop (Imp.drop (Imp.drop (Imp.drop (Imp.drop (Imp.drop (Imp.refl _)))))))) | assumption | exact Imp.drop (by assumption) | exact Imp.drop (Imp.drop (by assumption)) | exact imp_nil _ | exact Imp.drop2 (Imp.refl _) | exact Imp.drop2 (Imp.drop2 (Imp.refl _)) | exact Imp.drop (Imp.drop2 (Imp.refl _))) ?_
              · skip
                have hq1 : ∀ x y z t : Ent, (x :: y :: z :: t :: (X2 ++ (Xl ++ (Xs ++ T2)))).Perm (Xl ++ (x :: y :: z :: t :: (X2 ++ (Xs ++ T2)))) := fun x y z t => by simpa only [List.append_assoc, List.cons_append, List.nil_append] using app_swap ([x, y, z, t] ++ X2) Xl (Xs ++ T2)
                have hq2 : ∀ (Z : List Ent) (x y z t : Ent), (Z ++ (x :: y :: z :: t :: (X2 ++ (Xs ++ T2)))).Perm (x :: y :: z :: t :: (Z ++ ((X2 ++ Xs) ++ T2))) := fun Z x y z t => by simpa only [List.append_assoc, List.cons_append, List.nil_append] using app_swap Z [x, y, z, t] (X2 ++ (Xs ++ T2))
                refine HL.perm ?_ (hq1 _ _ _ _)
                refine hl_append_own (e := 58) (sz := 4) rfl rfl (ho _) (Rds.ent (i := 0) (n := 4) (l := dcC sN.1 (.slice ra rm rc)) (Take.app Xl .here) rfl (by simp [dcC, Value.oneCell'])) rfl rfl (by decide) (by omega) (by omega) rfl (fun v5 M5 o5 => ?_)
                obtain ⟨a5', c5', rfl, _, _⟩ := o5.form
                obtain ⟨Z, hZ, hoZ⟩ := o5.permE
                refine HL.perm ?_ (hZ.trans (hq2 Z _ _ _ _))
                have hone2 : ∀ u ∈ C1 ++ dcC sN.1 (.slice ra rm rc), u.oneCell' = true := fun u hu => by
                  rcases List.mem_append.1 hu with hu | hu
                  · exact hone u hu
                  · simp only [dcC, List.mem_cons, List.not_mem_nil, or_false] at hu
                    rcases hu with rfl | rfl | rfl | rfl <;> rfl
                repeat (first | refine op_ ?_ | refine bx_ (fun _ => ?_))
                refine ha_quiet [6] (by rfl) (by kernel_rfl) ?_
                repeat (first | refine gd_ ?_)
                refine ha_fork1 7 (by rfl) (by kernel_rfl) (by rfl) (by first | exact Imp.refl _ | exact Imp.drop (Imp.refl _) | exact Imp.drop (Imp.drop (Imp.refl _)) | exact Imp.drop (Imp.drop (Imp.drop (Imp.refl _))) | exact Imp.drop (Imp.drop (Imp.drop (Imp.drop (Imp.refl _)))) | exact Imp.drop (Imp.drop (Imp.drop (Imp.drop (Imp.drop (Imp.refl _))))) | exact Imp.drop (Imp.drop (Imp.drop (Imp.drop (Imp.drop (Imp.drop (Imp.refl _)))))) | exact Imp.drop (Imp.drop (Imp.drop (Imp.drop (Imp.drop (Imp.drop (Imp.drop (Imp.refl _))))))) | exact Imp.drop (Imp.drop (Imp.drop (Imp.drop (Imp.drop (Imp.drop (Imp.drop (Imp.drop (Imp.refl _)))))))) | assumption | exact Imp.drop (by assumption) | exact Imp.drop (Imp.drop (by assumption)) | exact imp_nil _ | exact Imp.drop2 (Imp.refl _) | exact Imp.drop2 (Imp.drop2 (Imp.refl _)) | exact Imp.drop (Imp.drop2 (Imp.refl _))) ?_
                · skip
                  repeat (first | refine op_ ?_ | refine bx_ (fun _ => ?_))
                  refine ha_end (by rfl) (by kernel_rfl) (by first | exact Imp.refl _ | exact Imp.drop (Imp.refl _) | exact Imp.drop (Imp.drop (Imp.refl _)) | exact Imp.drop (Imp.drop (Imp.drop (Imp.refl _))) | exact Imp.drop (Imp.drop (Imp.drop (Imp.drop (Imp.refl _)))) | exact Imp.drop (Imp.drop (Imp.drop (Imp.drop (Imp.drop (Imp.refl _))))) | exact Imp.drop (Imp.drop (Imp.drop (Imp.drop (Imp.drop (Imp.drop (Imp.refl _)))))) | exact Imp.drop (Imp.drop (Imp.drop (Imp.drop (Imp.drop (Imp.drop (Imp.drop (Imp.refl _))))))) | exact Imp.drop (Imp.drop (Imp.drop (Imp.drop (Imp.drop (Imp.drop (Imp.drop (Imp.drop (Imp.refl _)))))))) | assumption | exact Imp.drop (by assumption) | exact Imp.drop (Imp.drop (by assumption)) | exact imp_nil _ | exact Imp.drop2 (Imp.refl _) | exact Imp.drop2 (Imp.drop2 (Imp.refl _)) | exact Imp.drop (Imp.drop2 (Imp.refl _))) ?_
                  exact ⟨p2, a5', c5', _, Z, X2 ++ Xs, ⟨hs2, hp2⟩, fun he => RdsC.append (f1.imp (Imp.tail X2 Xs)) ⟨.slice ra rm rc, [], rfl, (hR2 he).imp (Imp.sub (List.sublist_append_left _ _)), rfl⟩, hone2, hoZ, Imp.drop2 (Imp.perm (List.Perm.swap _ _ _) (Imp.refl _)), rfl, rfl, rfl, rfl, rfl, rfl, trivial⟩
        · skip
          refine hl_call rfl rfl cd (fun v M o => ?_)
          obtain ⟨p2, X2, ra, rm, rc, him2, hs2, hp2, rfl, hR2⟩ := o
          refine HL.imp ?_ him2
          refine HL.perm ?_ (List.Perm.cons _ (app_swap X2 [_, _] _))
          repeat (first | refine op_ ?_ | refine bx_ (fun _ => ?_))
          refine ha_fork2 1 4 (by rfl) (by kernel_rfl) (by rfl) (by rfl) (by first | exact Imp.refl _ | exact Imp.drop (Imp.refl _) | exact Imp.drop (Imp.drop (Imp.refl _)) | exact Imp.drop (Imp.drop (Imp.drop (Imp.refl _))) | exact Imp.drop (Imp.drop (Imp.drop (Imp.drop (Imp.refl _)))) | exact Imp.drop (Imp.drop (Imp.drop (Imp.drop (Imp.drop (Imp.refl _))))) | exact Imp.drop (Imp.drop (Imp.drop (Imp.drop (Imp.drop (Imp.drop (Imp.refl _)))))) | exact Imp.drop (Imp.drop (Imp.drop (Imp.drop (Imp.drop (Imp.drop (Imp.drop (Imp.refl _))))))) | exact Imp.drop (Imp.drop (Imp.drop (Imp.drop (Imp.drop (Imp.drop (Imp.drop (Imp.drop (Imp.refl _)))))))) | assumption | exact Imp.drop (by assumption) | exact Imp.drop (Imp.drop (by assumption)) | exact imp_nil _ | exact Imp.drop2 (Imp.refl _) | exact Imp.drop2 (Imp.drop2 (Imp.refl _)) | exact Imp.drop (Imp.drop2 (Imp.refl _))) ?_ ?_
          · skip
            repeat (first | refine op_ ?_ | refine bx_ (fun _ => ?_))
            refine ha_fork1 4 (by rfl) (by kernel_rfl) (by rfl) (by first | exact Imp.refl _ | exact Imp.drop (Imp.refl _) | exact Imp.drop (Imp.drop (Imp.refl _)) | exact Imp.drop (Imp.drop (Imp.drop (Imp.refl _))) | exact Imp.drop (Imp.drop (Imp.drop (Imp.drop (Imp.refl _)))) | exact Imp.drop (Imp.drop (Imp.drop (Imp.drop (Imp.drop (Imp.refl _))))) | exact Imp.drop (Imp.drop (Imp.drop (Imp.drop (Imp.drop (Imp.drop (Imp.refl _)))))) | exact Imp.drop (Imp.drop (Imp.drop (Imp.drop (Imp.drop (Imp.drop (Imp.drop (Imp.refl _))))))) | exact Imp.drop (Imp.drop (Imp.drop (Imp.drop (Imp.drop (Imp.drop (Imp.drop (Imp.drop (Imp.refl _)))))))) | assumption | exact Imp.drop (by assumption) | exact Imp.drop (Imp.drop (by assumption)) | exact imp_nil _ | exact Imp.drop2 (Imp.refl _) | exact Imp.drop2 (Imp.drop2 (Imp.refl _)) | exact Imp.drop (Imp.drop2 (Imp.refl _))) ?_
            · skip
              refine bx_ (fun gb => ?_)
              repeat (first | refine op_ ?_ | refine bx_ (fun _ => ?_))
              refine ha_fork1 5 (by rfl) (by kernel_rfl) (by rfl) (by first | exact Imp.refl _ | exact Imp.drop (Imp.refl _) | exact Imp.drop (Imp.drop (Imp.refl _)) | exact Imp.drop (Imp.drop (Imp.drop (Imp.refl _))) | exact Imp.drop (Imp.drop (Imp.drop (Imp.drop (Imp.refl _)))) | exact Imp.drop (Imp.drop (Imp.drop (Imp.drop (Imp.drop (Imp.refl _))))) | exact Imp.drop (Imp.drop (Imp.drop (Imp.drop (Imp.drop (Imp.drop (Imp.refl _)))))) | exact Imp.drop (Imp.drop (Imp.drop (Imp.drop (Imp.drop (Imp.drop (Imp.drop (Imp.refl _))))))) | exact Imp.drop (Imp.drop (Imp.drop (Imp.drop (Imp.drop (Imp.drop (Imp.drop (Imp.drop (Imp.refl _)))))))) | assumption | exact Imp.drop (by assumption) | exact Imp.drop (Imp.drop (by assumption)) | exact imp_nil _ | exact Imp.drop2 (Imp.refl _) | exact Imp.drop2 (Imp.drop2 (Imp.refl _)) | exact Imp.drop (Imp.drop2 (Imp.refl _))) ?_
              · skip
                have hq1 : ∀ x y z t : Ent, (x :: y :: z :: t :: (X2 ++ (Xl ++ (Xs ++ T2)))).Perm (Xl ++ (x :: y :: z :: t :: (X2 ++ (Xs ++ T2)))) := fun x y z t => by simpa only [List.append_assoc, List.cons_append, List.nil_append] using app_swap ([x, y, z, t] ++ X2) Xl (Xs ++ T2)
                have hq2 : ∀ (Z : List Ent) (x y z t : Ent), (Z ++ (x :: y :: z :: t :: (X2 ++ (Xs ++ T2)))).Perm (x :: y :: z :: t :: (Z ++ ((X2 ++ Xs) ++ T2))) := fun Z x y z t => by simpa only [List.append_assoc, List.cons_append, List.nil_append] using app_swap Z [x, y, z, t] (X2 ++ (Xs ++ T2))
                refine HL.perm ?_ (hq1 _ _ _ _)
                refine hl_append_own (e := 58) (sz := 4) rfl rfl (ho _) (Rds.ent (i := 0) (n := 4) (l := dcC sN.1 (.slice ra rm rc)) (Take.app Xl .here) rfl (by simp [dcC, Value.oneCell'])) rfl rfl (by decide) (by omega) (by omega) rfl (fun v5 M5 o5 => ?_)
                obtain ⟨a5', c5', rfl, _, _⟩ := o5.form
                obtain ⟨Z, hZ, hoZ⟩ := o5.permE
                refine HL.perm ?_ (hZ.trans (hq2 Z _ _ _ _))
                have hone2 : ∀ u ∈ C1 ++ dcC sN.1 (.slice ra rm rc), u.oneCell' = true := fun u hu => by
                  rcases List.mem_append.1 hu with hu | hu
                  · exact hone u hu
                  · simp only [dcC, List.mem_cons, List.not_mem_nil, or_false] at hu
                    rcases hu with rfl | rfl | rfl | rfl <;> rfl
                repeat (first | refine op_ ?_ | refine bx_ (fun _ => ?_))
                refine ha_quiet [6] (by rfl) (by kernel_rfl) ?_
                repeat (first | refine gd_ ?_)
                refine ha_fork1 7 (by rfl) (by kernel_rfl) (by rfl) (by first | exact Imp.refl _ | exact Imp.drop (Imp.refl _) | exact Imp.drop (Imp.drop (Imp.refl _)) | exact Imp.drop (Imp.drop (Imp.drop (Imp.refl _))) | exact Imp.drop (Imp.drop (Imp.drop (Imp.drop (Imp.refl _)))) | exact Imp.drop (Imp.drop (Imp.drop (Imp.drop (Imp.drop (Imp.refl _))))) | exact Imp.drop (Imp.drop (Imp.drop (Imp.drop (Imp.drop (Imp.drop (Imp.refl _)))))) | exact Imp.drop (Imp.drop (Imp.drop (Imp.drop (Imp.drop (Imp.drop (Imp.drop (Imp.refl _))))))) | exact Imp.drop (Imp.drop (Imp.drop (Imp.drop (Imp.drop (Imp.drop (Imp.drop (Imp.drop (Imp.refl _)))))))) | assumption | exact Imp.drop (by assumption) | exact Imp.drop (Imp.drop (by assumption)) | exact imp_nil _ | exact Imp.drop2 (Imp.refl _) | exact Imp.drop2 (Imp.drop2 (Imp.refl _)) | exact Imp.drop (Imp.drop2 (Imp.refl _))) ?_
                · skip
                  repeat (first | refine op_ ?_ | refine bx_ (fun _ => ?_))
                  refine ha_end (by rfl) (by kernel_rfl) (by first | exact Imp.refl _ | exact Imp.drop (Imp.refl _) | exact Imp.drop (Imp.drop (Imp.refl _)) | exact Imp.drop (Imp.drop (Imp.drop (Imp.refl _))) | exact Imp.drop (Imp.drop (Imp.drop (Imp.drop (Imp.refl _)))) | exact Imp.drop (Imp.drop (Imp.drop (Imp.drop (Imp.drop (Imp.refl _))))) | exact Imp.drop (Imp.drop (Imp.drop (Imp.drop (Imp.drop (Imp.drop (Imp.refl _)))))) | exact Imp.drop (Imp.drop (Imp.drop (Imp.drop (Imp.drop (Imp.drop (Imp.drop (Imp.refl _))))))) | exact Imp.drop (Imp.drop (Imp.drop (Imp.drop (Imp.drop (Imp.drop (Imp.drop (Imp.drop (Imp.refl _)))))))) | assumption | exact Imp.drop (by assumption) | exact Imp.drop (Imp.drop (by assumption)) | exact imp_nil _ | exact Imp.drop2 (Imp.refl _) | exact Imp.drop2 (Imp.drop2 (Imp.refl _)) | exact Imp.drop (Imp.drop2 (Imp.refl _))) ?_
                  exact ⟨p2, a5', c5', _, Z, X2 ++ Xs, ⟨hs2, hp2⟩, fun he => RdsC.append (f1.imp (Imp.tail X2 Xs)) ⟨.slice ra rm rc, [], rfl, (hR2 he).imp (Imp.sub (List.sublist_append_left _ _)), rfl⟩, hone2, hoZ, Imp.drop2 (Imp.perm (List.Perm.swap _ _ _) (Imp.refl _)), rfl, rfl, rfl, rfl, rfl, rfl, trivial⟩
          · skip
            refine bx_ (fun gb => ?_)
            repeat (first | refine op_ ?_ | refine bx_ (fun _ => ?_))
            refine ha_fork1 1 (by rfl) (by kernel_rfl) (by rfl) (by first | exact Imp.refl _ | exact Imp.drop (Imp.refl _) | exact Imp.drop (Imp.drop (Imp.refl _)) | exact Imp.drop (Imp.drop (Imp.drop (Imp.refl _))) | exact Imp.drop (Imp.drop (Imp.drop (Imp.drop (Imp.refl _)))) | exact Imp.drop (Imp.drop (Imp.drop (Imp.drop (Imp.drop (Imp.refl _))))) | exact Imp.drop (Imp.drop (Imp.drop (Imp.drop (Imp.drop (Imp.drop (Imp.refl _)))))) | exact Imp.drop (Imp.drop (Imp.drop (Imp.drop (Imp.drop (Imp.drop (Imp.drop (Imp.refl _))))))) | exact Imp.drop (Imp.drop (Imp.drop (Imp.drop (Imp.drop (Imp.drop (Imp.drop (Imp.drop (Imp.refl _)))))))) | assumption | exact Imp.drop (by assumption) | exact Imp.drop (Imp.drop (by assumption)) | exact imp_nil _ | exact Imp.drop2 (Imp.refl _) | exact Imp.drop2 (Imp.drop2 (Imp.refl _)) | exact Imp.drop (Imp.drop2 (Imp.refl _))) ?_
            · skip
              repeat (first | refine op_ ?_ | refine bx_ (fun _ => ?_))
              refine ha_fork1 5 (by rfl) (by kernel_rfl) (by rfl) (by first | exact Imp.refl _ | exact Imp.drop (Imp.refl _) | exact Imp.drop (Imp.drop (Imp.refl _)) | exact Imp.drop (Imp.drop (Imp.drop (Imp.refl _))) | exact Imp.drop (Imp.drop (Imp.drop (Imp.drop (Imp.refl _)))) | exact Imp.drop (Imp.drop (Imp.drop (Imp.drop (Imp.drop (Imp.refl _))))) | exact Imp.drop (Imp.drop (Imp.drop (Imp.drop (Imp.drop (Imp.drop (Imp.refl _)))))) | exact Imp.drop (Imp.drop (Imp.drop (Imp.drop (Imp.drop (Imp.drop (Imp.drop (Imp.refl _))))))) | exact Imp.drop (Imp.drop (Imp.drop (Imp.drop (Imp.drop (Imp.drop (Imp.drop (Imp.drop (Imp.refl _)))))))) | assumption | exact Imp.drop (by assumption) | exact Imp.drop (Imp.drop (by assumption)) | exact imp_nil _ | exact Imp.drop2 (Imp.refl _) | exact Imp.drop2 (Imp.drop2 (Imp.refl _)) | exact Imp.drop (Imp.drop2 (Imp.refl _))) ?_
              · skip
                have hq1 : ∀ x y z t : Ent, (x :: y :: z :: t :: (X2 ++ (Xl ++ (Xs ++ T2)))).Perm (Xl ++ (x :: y :: z :: t :: (X2 ++ (Xs ++ T2)))) := fun x y z t => by simpa only [List.append_assoc, List.cons_append, List.nil_append] using app_swap ([x, y, z, t] ++ X2) Xl (Xs ++ T2)
                have hq2 : ∀ (Z : List Ent) (x y z t : Ent), (Z ++ (x :: y :: z :: t :: (X2 ++ (Xs ++ T2)))).Perm (x :: y :: z :: t :: (Z ++ ((X2 ++ Xs) ++ T2))) := fun Z x y z t => by simpa only [List.append_assoc, List.cons_append, List.nil_append] using app_swap Z [x, y, z, t] (X2 ++ (Xs ++ T2))
                refine HL.perm ?_ (hq1 _ _ _ _)
                refine hl_append_own (e := 58) (sz := 4) rfl rfl (ho _) (Rds.ent (i := 0) (n := 4) (l := dcC sN.1 (.slice ra rm rc)) (Take.app Xl .here) rfl (by simp [dcC, Value.oneCell'])) rfl rfl (by decide) (by omega) (by omega) rfl (fun v5 M5 o5 => ?_)
                obtain ⟨a5', c5', rfl, _, _⟩ := o5.form
                obtain ⟨Z, hZ, hoZ⟩ := o5.permE
                refine HL.perm ?_ (hZ.trans (hq2 Z _ _ _ _))
                have hone2 : ∀ u ∈ C1 ++ dcC sN.1 (.slice ra rm rc), u.oneCell' = true := fun u hu => by
                  rcases List.mem_append.1 hu with hu | hu
                  · exact hone u hu
                  · simp only [dcC, List.mem_cons, List.not_mem_nil, or_false] at hu
                    rcases hu with rfl | rfl | rfl | rfl <;> rfl
                repeat (first | refine op_ ?_ | refine bx_ (fun _ => ?_))
                refine ha_quiet [6] (by rfl) (by kernel_rfl) ?_
                repeat (first | refine gd_ ?_)
                refine ha_fork1 7 (by rfl) (by kernel_rfl) (by rfl) (by first | exact Imp.refl _ | exact Imp.drop (Imp.refl _) | exact Imp.drop (Imp.drop (Imp.refl _)) | exact Imp.drop (Imp.drop (Imp.drop (Imp.refl _))) | exact Imp.drop (Imp.drop (Imp.drop (Imp.drop (Imp.refl _)))) | exact Imp.drop (Imp.drop (Imp.drop (Imp.drop (Imp.drop (Imp.refl _))))) | exact Imp.drop (Imp.drop (Imp.drop (Imp.drop (Imp.drop (Imp.drop (Imp.refl _)))))) | exact Imp.drop (Imp.drop (Imp.drop (Imp.drop (Imp.drop (Imp.drop (Imp.drop (Imp.refl _))))))) | exact Imp.drop (Imp.drop (Imp.drop (Imp.drop (Imp.drop (Imp.drop (Imp.drop (Imp.drop (Imp.refl _)))))))) | assumption | exact Imp.drop (by assumption) | exact Imp.drop (Imp.drop (by assumption)) | exact imp_nil _ | exact Imp.drop2 (Imp.refl _) | exact Imp.drop2 (Imp.drop2 (Imp.refl _)) | exact Imp.drop (Imp.drop2 (Imp.refl _))) ?_
                · skip
                  repeat (first | refine op_ ?_ | refine bx_ (fun _ => ?_))
                  refine ha_end (by rfl) (by kernel_rfl) (by first | exact Imp.refl _ | exact Imp.drop (Imp.refl _) | exact Imp.drop (Imp.drop (Imp.refl _)) | exact Imp.drop (Imp.drop (Imp.drop (Imp.refl _))) | exact Imp.drop (Imp.drop (Imp.drop (Imp.drop (Imp.refl _)))) | exact Imp.drop (Imp.drop (Imp.drop (Imp.drop (Imp.drop (Imp.refl _))))) | exact Imp.drop (Imp.drop (Imp.drop (Imp.drop (Imp.drop (Imp.drop (Imp.refl _)))))) | exact Imp.drop (Imp.drop (Imp.drop (Imp.drop (Imp.drop (Imp.drop (Imp.drop (Imp.refl _))))))) | exact Imp.drop (Imp.drop (Imp.drop (Imp.drop (Imp.drop (Imp.drop (Imp.drop (Imp.drop (Imp.refl _)))))))) | assumption | exact Imp.drop (by assumption) | exact Imp.drop (Imp.drop (by assumption)) | exact imp_nil _ | exact Imp.drop2 (Imp.refl _) | exact Imp.drop2 (Imp.drop2 (Imp.refl _)) | exact Imp.drop (Imp.drop2 (Imp.refl _))) ?_
                  exact ⟨p2, a5', c5', _, Z, X2 ++ Xs, ⟨hs2, hp2⟩, fun he => RdsC.append (f1.imp (Imp.tail X2 Xs)) ⟨.slice ra rm rc, [], rfl, (hR2 he).imp (Imp.sub (List.sublist_append_left _ _)), rfl⟩, hone2, hoZ, Imp.drop2 (Imp.perm (List.Perm.swap _ _ _) (Imp.refl _)), rfl, rfl, rfl, rfl, rfl, rfl, trivial⟩
      rintro fr M ⟨p2, sa', sc', C2, Z, Xs', ⟨hs2, hp2⟩, hR2, hone2, hoZ, him2, hf⟩
      obtain ⟨base, rfl⟩ := hf.out
      clear hf
      refine HC.imp ?_ him2
      repeat (first | refine go_ ?_ | refine bx_ (fun _ => ?_))
      exact ⟨q, by omega, _, Imp.refl _, j + 1, p2, s.doc.2, L1 ++ [s.doc.1], sa', sc', C2, Z, Xs', by omega, h2, fun he => ⟨hR2 he, by simp [f2], by rw [List.append_assoc]; exact f3⟩, hone2, hoZ, ⟨hs2, hp2⟩, Imp.refl _, rfl, rfl, rfl, rfl, rfl, rfl, trivial⟩
    have hend : Rd.docsP q s = ([], s) := by
      cases q with
      | zero => rfl
      | succ q => rw [Rd.docsP, if_pos (fun h => hgo ⟨by omega, h⟩)]
    rw [hend] at h2 h1
    dsimp only at h2 h1
    rw [List.append_nil] at h1
    by_cases hq0 : q = 0
    · repeat (first | refine go_ ?_ | refine bx_ (fun _ => ?_))
      exact ⟨j, p, s, L1, sa, sc, C1, Xl, Xs, h2.symm, h1, hone, ho, ⟨hs, hp⟩, Imp.refl _, rfl, rfl, rfl, rfl, trivial⟩
    · have h0 : ¬ s.e = 0 := fun h => hgo ⟨hq0, h⟩
      repeat (first | refine go_ ?_ | refine bx_ (fun _ => ?_))
      exact ⟨j, p, s, L1, sa, sc, C1, Xl, Xs, h2.symm, h1, hone, ho, ⟨hs, hp⟩, Imp.refl _, rfl, rfl, rfl, rfl, trivial⟩
  rintro fr M ⟨jB, pE, sE, LB, sb0, sd0, CB, XB, XBs, hGB2, hB1, honeB, hoB, ⟨hsE, hpE⟩, him, hf⟩
  obtain ⟨base, rfl⟩ := hf.out
  clear hf
  refine HC.imp ?_ him
  clear him M
  rw [hGB2] at hSR
  have hweD : sE.e = 0 → sL.2.e = 0 := fun h => by
    have h' : (Rd.docsP sL.1 sL.2).2.e = 0 := by rw [← hGB, hGB2]; exact h
    by_cases hk : sL.1 = 0
    · rw [hk] at h'; exact h'
    · obtain ⟨k', hk'⟩ : ∃ k', sL.1 = k' + 1 := ⟨sL.1 - 1, by omega⟩
      rw [hk', Rd.docsP] at h'
      by_cases h0 : sL.2.e ≠ 0
      · rw [if_pos h0] at h'; exact absurd h' h0
      · exact Classical.not_not.1 h0
  have iT3 : Imp (XB ++ (XBs ++ T2)) H := (Imp.tail XB _).trans ((Imp.tail XBs _).trans iT2)
  have hEl := congrArg List.length hsE
  rw [List.length_drop] at hEl
  have hnil : sE.l ≠ [] ↔ pE < n := by
    rw [← List.length_pos_iff, hEl]; omega
  by_cases h0 : sE.e = 0
  rotate_left
  · have he : sE.endE = sE.e := by unfold Rd.endE; rw [if_neg (fun h => h0 h.1)]
    have hg : getS l = (Stt.zero, sE.e) := by unfold getS; rw [hSR]; dsimp only; rw [he, if_pos h0]
    repeat (first | refine go_ ?_ | refine bx_ (fun _ => ?_))
    refine HC.perm (H' := ⟨g2, 61, [.int .i64 0, .int .i64 0, .int .i64 0, .slice none 0 0, .slice none 0 0, .slice none 0 0], 6⟩ :: RfB gi a n c pE sE.e :: ⟨g5, 61, [.int .i64 sD.1.w, .int .i64 sD.1.h, .int .i64 sD.1.n, .slice da dn dc, .slice sa0 jA sc0, .slice sb0 jB sd0], 6⟩ :: (XB ++ (XBs ++ T2))) ?_ ((app_swap [_, _] [_] _))
    refine hc_meet (fun fr M => Agr fr [(2, .pointer (some ⟨g2, 0, none⟩)), (3, .int .i64 ((sE.e : Nat) : Int))] ∧ M = ⟨g2, 61, [.int .i64 0, .int .i64 0, .int .i64 0, .slice none 0 0, .slice none 0 0, .slice none 0 0], 6⟩ :: RfB gi a n c pE sE.e :: ⟨g5, 61, [.int .i64 sD.1.w, .int .i64 sD.1.h, .int .i64 sD.1.n, .slice da dn dc, .slice sa0 jA sc0, .slice sb0 jB sd0], 6⟩ :: (XB ++ (XBs ++ T2))) ?_ ?_
    · refine hc_drawA (RfB gi a n c pE sE.e :: ⟨g5, 61, [.int .i64 sD.1.w, .int .i64 sD.1.h, .int .i64 sD.1.n, .slice da dn dc, .slice sa0 jA sc0, .slice sb0 jB sd0], 6⟩ :: (XB ++ (XBs ++ T2))) (by kernel_rfl) ?_
      refine ha_quiet [0, 1, 2, 3, 4] (by rfl) (by kernel_rfl) ?_
      repeat (first | refine gd_ ?_)
      refine ha_fork1 5 (by rfl) (by kernel_rfl) (by rfl) (by first | exact Imp.refl _ | exact Imp.drop (Imp.refl _) | exact Imp.drop (Imp.drop (Imp.refl _)) | exact Imp.drop (Imp.drop (Imp.drop (Imp.refl _))) | exact Imp.drop (Imp.drop (Imp.drop (Imp.drop (Imp.refl _)))) | exact Imp.drop (Imp.drop (Imp.drop (Imp.drop (Imp.drop (Imp.refl _))))) | exact Imp.drop (Imp.drop (Imp.drop (Imp.drop (Imp.drop (Imp.drop (Imp.refl _)))))) | exact Imp.drop (Imp.drop (Imp.drop (Imp.drop (Imp.drop (Imp.drop (Imp.drop (Imp.refl _))))))) | exact Imp.drop (Imp.drop (Imp.drop (Imp.drop (Imp.drop (Imp.drop (Imp.drop (Imp.drop (Imp.refl _)))))))) | assumption | exact Imp.drop (by assumption) | exact Imp.drop (Imp.drop (by assumption)) | exact imp_nil _ | exact Imp.drop2 (Imp.refl _) | exact Imp.drop2 (Imp.drop2 (Imp.refl _)) | exact Imp.drop (Imp.drop2 (Imp.refl _))) ?_
      · skip
        repeat (first | refine op_ ?_ | refine bx_ (fun _ => ?_))
        refine ha_quiet [6] (by rfl) (by kernel_rfl) ?_
        repeat (first | refine gd_ ?_)
        refine ha_end (by rfl) (by kernel_rfl) (by first | exact Imp.refl _ | exact Imp.drop (Imp.refl _) | exact Imp.drop (Imp.drop (Imp.refl _)) | exact Imp.drop (Imp.drop (Imp.drop (Imp.refl _))) | exact Imp.drop (Imp.drop (Imp.drop (Imp.drop (Imp.refl _)))) | exact Imp.drop (Imp.drop (Imp.drop (Imp.drop (Imp.drop (Imp.refl _))))) | exact Imp.drop (Imp.drop (Imp.drop (Imp.drop (Imp.drop (Imp.drop (Imp.refl _)))))) | exact Imp.drop (Imp.drop (Imp.drop (Imp.drop (Imp.drop (Imp.drop (Imp.drop (Imp.refl _))))))) | exact Imp.drop (Imp.drop (Imp.drop (Imp.drop (Imp.drop (Imp.drop (Imp.drop (Imp.drop (Imp.refl _)))))))) | assumption | exact Imp.drop (by assumption) | exact Imp.drop (Imp.drop (by assumption)) | exact imp_nil _ | exact Imp.drop2 (Imp.refl _) | exact Imp.drop2 (Imp.drop2 (Imp.refl _)) | exact Imp.drop (Imp.drop2 (Imp.refl _))) ?_
        exact ⟨⟨rfl, rfl, trivial⟩, rfl⟩
    rintro fr M ⟨hff, rfl⟩
    obtain ⟨base, rfl⟩ := hff.out
    repeat (first | refine go_ ?_ | refine bx_ (fun _ => ?_))
    refine finCI (n := 6) rfl rfl .here rfl rfl ⟨.slice none 0 0, .slice none 0 0, .slice none 0 0, [], ?_, Imp.refl _, ?_⟩ (Imp.drop (Imp.drop (Imp.drop iT3)))
    · rw [hg]; rfl
    · rw [hg]; exact RstR.zero
  by_cases hpl : pE < n
  · have he : sE.endE = 25 := by unfold Rd.endE; rw [if_pos ⟨h0, hnil.2 hpl⟩]
    have hg : getS l = (Stt.zero, 25) := by unfold getS; rw [hSR]; dsimp only; rw [he, if_pos (by decide)]
    repeat (first | refine go_ ?_ | refine bx_ (fun _ => ?_))
    refine hl_call rfl rfl (rfail_fn (k := 25)) (fun v M hv => ?_)
    obtain ⟨rfl, rfl⟩ := hv
    rw [if_pos h0]
    repeat (first | refine go_ ?_ | refine bx_ (fun _ => ?_))
    refine HC.perm (H' := ⟨g2, 61, [.int .i64 0, .int .i64 0, .int .i64 0, .slice none 0 0, .slice none 0 0, .slice none 0 0], 6⟩ :: RfB gi a n c pE 25 :: ⟨g5, 61, [.int .i64 sD.1.w, .int .i64 sD.1.h, .int .i64 sD.1.n, .slice da dn dc, .slice sa0 jA sc0, .slice sb0 jB sd0], 6⟩ :: (XB ++ (XBs ++ T2))) ?_ ((app_swap [_, _] [_] _))
    refine hc_meet (fun fr M => Agr fr [(2, .pointer (some ⟨g2, 0, none⟩)), (3, .int .i64 ((25 : Nat) : Int))] ∧ M = ⟨g2, 61, [.int .i64 0, .int .i64 0, .int .i64 0, .slice none 0 0, .slice none 0 0, .slice none 0 0], 6⟩ :: RfB gi a n c pE 25 :: ⟨g5, 61, [.int .i64 sD.1.w, .int .i64 sD.1.h, .int .i64 sD.1.n, .slice da dn dc, .slice sa0 jA sc0, .slice sb0 jB sd0], 6⟩ :: (XB ++ (XBs ++ T2))) ?_ ?_
    · refine hc_drawA (RfB gi a n c pE 25 :: ⟨g5, 61, [.int .i64 sD.1.w, .int .i64 sD.1.h, .int .i64 sD.1.n, .slice da dn dc, .slice sa0 jA sc0, .slice sb0 jB sd0], 6⟩ :: (XB ++ (XBs ++ T2))) (by kernel_rfl) ?_
      refine ha_quiet [0, 1, 2, 3, 4] (by rfl) (by kernel_rfl) ?_
      repeat (first | refine gd_ ?_)
      refine ha_fork1 5 (by rfl) (by kernel_rfl) (by rfl) (by first | exact Imp.refl _ | exact Imp.drop (Imp.refl _) | exact Imp.drop (Imp.drop (Imp.refl _)) | exact Imp.drop (Imp.drop (Imp.drop (Imp.refl _))) | exact Imp.drop (Imp.drop (Imp.drop (Imp.drop (Imp.refl _)))) | exact Imp.drop (Imp.drop (Imp.drop (Imp.drop (Imp.drop (Imp.refl _))))) | exact Imp.drop (Imp.drop (Imp.drop (Imp.drop (Imp.drop (Imp.drop (Imp.refl _)))))) | exact Imp.drop (Imp.drop (Imp.drop (Imp.drop (Imp.drop (Imp.drop (Imp.drop (Imp.refl _))))))) | exact Imp.drop (Imp.drop (Imp.drop (Imp.drop (Imp.drop (Imp.drop (Imp.drop (Imp.drop (Imp.refl _)))))))) | assumption | exact Imp.drop (by assumption) | exact Imp.drop (Imp.drop (by assumption)) | exact imp_nil _ | exact Imp.drop2 (Imp.refl _) | exact Imp.drop2 (Imp.drop2 (Imp.refl _)) | exact Imp.drop (Imp.drop2 (Imp.refl _))) ?_
      · skip
        repeat (first | refine op_ ?_ | refine bx_ (fun _ => ?_))
        refine ha_quiet [6] (by rfl) (by kernel_rfl) ?_
        repeat (first | refine gd_ ?_)
        refine ha_end (by rfl) (by kernel_rfl) (by first | exact Imp.refl _ | exact Imp.drop (Imp.refl _) | exact Imp.drop (Imp.drop (Imp.refl _)) | exact Imp.drop (Imp.drop (Imp.drop (Imp.refl _))) | exact Imp.drop (Imp.drop (Imp.drop (Imp.drop (Imp.refl _)))) | exact Imp.drop (Imp.drop (Imp.drop (Imp.drop (Imp.drop (Imp.refl _))))) | exact Imp.drop (Imp.drop (Imp.drop (Imp.drop (Imp.drop (Imp.drop (Imp.refl _)))))) | exact Imp.drop (Imp.drop (Imp.drop (Imp.drop (Imp.drop (Imp.drop (Imp.drop (Imp.refl _))))))) | exact Imp.drop (Imp.drop (Imp.drop (Imp.drop (Imp.drop (Imp.drop (Imp.drop (Imp.drop (Imp.refl _)))))))) | assumption | exact Imp.drop (by assumption) | exact Imp.drop (Imp.drop (by assumption)) | exact imp_nil _ | exact Imp.drop2 (Imp.refl _) | exact Imp.drop2 (Imp.drop2 (Imp.refl _)) | exact Imp.drop (Imp.drop2 (Imp.refl _))) ?_
        exact ⟨⟨rfl, rfl, trivial⟩, rfl⟩
    rintro fr M ⟨hff, rfl⟩
    obtain ⟨base, rfl⟩ := hff.out
    repeat (first | refine go_ ?_ | refine bx_ (fun _ => ?_))
    refine finCI (n := 6) rfl rfl .here rfl rfl ⟨.slice none 0 0, .slice none 0 0, .slice none 0 0, [], ?_, Imp.refl _, ?_⟩ (Imp.drop (Imp.drop (Imp.drop iT3)))
    · rw [hg]; rfl
    · rw [hg]; exact RstR.zero
  have he : sE.endE = 0 := by unfold Rd.endE; rw [if_neg (fun h => hpl (hnil.1 h.2))]; exact h0
  obtain ⟨b1, b2, b3⟩ := hB1 h0
  obtain ⟨a1, a2, a3⟩ := hA1 (hweC (hweD h0))
  have rD := hRD (hweA (hweB (hweC (hweD h0))))
  have hjA : jA ≤ 1000000000 := by
    have := docsP_le sK.1 sK.2
    rw [← hGA, ← a3] at this; omega
  have hjB : jB ≤ 1000000000 := by
    have := docsP_le sL.1 sL.2
    rw [← hGB, ← b3] at this; omega
  rw [← a3, ← b3] at hSR
  have hsmD := hsm (by rw [hSR]; exact he)
  rw [hSR] at hsmD
  dsimp only [Stt.all] at hsmD
  obtain ⟨M0, hM0⟩ : ∃ M0, M0 = (RfB gi a n c pE sE.e :: ⟨g5, 61, [.int .i64 sD.1.w, .int .i64 sD.1.h, .int .i64 sD.1.n, .slice da dn dc, .slice sa0 jA sc0, .slice sb0 jB sd0], 6⟩ :: ⟨g2, 61, [.int .i64 0, .int .i64 0, .int .i64 0, .slice none 0 0, .slice none 0 0, .slice none 0 0], 6⟩ :: (XB ++ (XBs ++ T2)) : List Ent) := ⟨_, rfl⟩
  have t5 : Take M0 ⟨g5, 61, [.int .i64 sD.1.w, .int .i64 sD.1.h, .int .i64 sD.1.n, .slice da dn dc, .slice sa0 jA sc0, .slice sb0 jB sd0], 6⟩ (RfB gi a n c pE sE.e :: ⟨g2, 61, [.int .i64 0, .int .i64 0, .int .i64 0, .slice none 0 0, .slice none 0 0, .slice none 0 0], 6⟩ :: (XB ++ (XBs ++ T2))) := by rw [hM0]; exact .there .here
  have t2 : Take M0 ⟨g2, 61, [.int .i64 0, .int .i64 0, .int .i64 0, .slice none 0 0, .slice none 0 0, .slice none 0 0], 6⟩ (RfB gi a n c pE sE.e :: ⟨g5, 61, [.int .i64 sD.1.w, .int .i64 sD.1.h, .int .i64 sD.1.n, .slice da dn dc, .slice sa0 jA sc0, .slice sb0 jB sd0], 6⟩ :: (XB ++ (XBs ++ T2))) := by rw [hM0]; exact .there (.there .here)
  have tf : Take M0 (RfB gi a n c pE sE.e) (⟨g5, 61, [.int .i64 sD.1.w, .int .i64 sD.1.h, .int .i64 sD.1.n, .slice da dn dc, .slice sa0 jA sc0, .slice sb0 jB sd0], 6⟩ :: ⟨g2, 61, [.int .i64 0, .int .i64 0, .int .i64 0, .slice none 0 0, .slice none 0 0, .slice none 0 0], 6⟩ :: (XB ++ (XBs ++ T2))) := by rw [hM0]; exact .here
  have iM0 : Imp M0 (XB ++ (XBs ++ T2)) := by rw [hM0]; exact Imp.drop (Imp.drop (Imp.drop (Imp.refl _)))
  have iM2 : Imp M0 T2 := iM0.trans ((Imp.tail XB _).trans (Imp.tail XBs _))
  have ass : (XB ++ (XBs ++ (XA ++ (XAs ++ XD)))) ++ H = XB ++ (XBs ++ T2) := by rw [hT2]; simp only [List.append_assoc]
  have iD : Imp M0 XD := iM2.trans (by rw [hT2]; exact (Imp.tail XA _).trans ((Imp.tail XAs _).trans (Imp.sub (List.sublist_append_left _ _))))
  have iAs : Imp M0 XAs := iM2.trans (by rw [hT2]; exact (Imp.tail XA _).trans (Imp.sub (List.sublist_append_left _ _)))
  have nA : CsR w0 B M0 sa0 jA 4 CA := (CsR.own (hoA (XAs ++ (XD ++ H))) honeA).imp (by rw [← hT2]; exact iM2)
  have nB : CsR w0 B M0 sb0 jB 4 CB := (CsR.own (hoB (XBs ++ T2)) honeB).imp iM0
  have iBs : Imp M0 XBs := iM0.trans ((Imp.tail XB _).trans (Imp.sub (List.sublist_append_left _ _)))
  have nAR := a1
  have nBR := b1
  have nAi := iAs
  have nBi := iBs
  have nAmem : ∀ D ∈ LA, D ∈ sD.1 :: (LA ++ LB) := fun D h => by simp [h]
  have nBmem : ∀ D ∈ LB, D ∈ sD.1 :: (LA ++ LB) := fun D h => by simp [h]
  refine HC.perm (H' := M0) ?_ (by rw [hM0])
  obtain ⟨d1, d2, d3⟩ := hsmD sD.1 (by simp)
  obtain ⟨bD, hbD⟩ := ex_b (RtQ sD.1)
  have hdn : dn = (sD.1.F.flat 0).length := by obtain ⟨x, y, e⟩ := rD.form; injection e
  have cD := rright_fn15 (rD.imp iD) d1 d2 d3 bD hbD
  repeat (first | refine hl_loadN (i := 0) (n := 4) (vs := dcC sD.1 (.slice da dn dc)) rfl t5 rfl rfl rfl ?_ | refine hl_load1 rfl tf rfl rfl ?_ | refine go1_ ?_ | refine bx_ (fun _ => ?_) | refine hl_callv rfl rfl (cD) ?_)
  have hok := hbD
  refine hc_loopd (fun q fr M => ∃ (j : Nat) (okb : Bool), j + q = jA ∧ (okb = true ↔ RtQ sD.1 ∧ ∀ D ∈ LA.take j, RtQ D) ∧ Imp M M0 ∧ Agr fr [(2, .pointer (some ⟨g2, 0, none⟩)), (5, .pointer (some ⟨g5, 0, none⟩)), (10, .bool okb), (11, .int .i64 (j : Int))]) jA ?_ ?_
  · exact ⟨0, _, by omega, by simpa using hok, Imp.refl _, rfl, rfl, rfl, rfl, trivial⟩
  clear hok
  rintro q fr M ⟨j, okb, hj, hok, him, hf⟩
  obtain ⟨base, rfl⟩ := hf.out
  clear hf
  refine HC.imp ?_ him
  clear him M
  by_cases hlt : j < jA
  · have hjl : j < LA.length := by omega
    have hst := List.take_succ_eq_append_getElem hjl
    obtain ⟨dv, hcell, hdr⟩ := nAR.at' hjl
    obtain ⟨hd1, hd2, hd3⟩ := hsmD _ (nAmem _ (List.getElem_mem hjl))
    generalize LA[j] = d at *
    obtain ⟨va, vc, rfl⟩ := hdr.form
    obtain ⟨bb, off, rfl⟩ := nA.pos (by omega)
    obtain ⟨b1, hb1⟩ := ex_b (RtQ d)
    have hk' : (b1 = true) → (okb = true) → (true = true ↔ RtQ sD.1 ∧ ∀ D ∈ LA.take (j + 1), RtQ D) := fun h1 h2 => ⟨fun _ => ⟨(hok.1 h2).1, fun D hD => by
      rw [hst] at hD
      rcases List.mem_append.1 hD with h | h
      · exact (hok.1 h2).2 D h
      · obtain rfl : D = d := by simpa using h
        exact hb1.1 h1⟩, fun _ => rfl⟩
    have hn' : (RtQ sD.1 ∧ ∀ D ∈ LA.take (j + 1), RtQ D) → okb = true ∧ b1 = true := fun h => ⟨hok.2 ⟨h.1, fun D hD => h.2 D (by rw [hst]; exact List.mem_append_left _ hD)⟩, hb1.2 (h.2 d (by rw [hst]; simp))⟩
    cases okb with
    | false =>
      repeat (first | refine hl_load1 rfl t5 rfl rfl ?_ | refine go1_ ?_ | refine bx_ (fun _ => ?_))
      exact ⟨q - 1, by omega, _, Imp.refl _, j + 1, false, by omega, ⟨fun h => (by cases h), fun h => (by cases (hn' h).1)⟩, Imp.refl _, rfl, rfl, rfl, rfl, trivial⟩
    | true =>
      have cr := rright_fn15 (hdr.imp nAi) hd1 hd2 hd3 b1 hb1
      repeat (first | refine hl_load1 rfl t5 rfl rfl ?_ | refine hl_loadRN (l := CA) rfl nA.rd (Imp.refl _) hcell rfl rfl ?_ | refine go1_ ?_ | refine bx_ (fun _ => ?_) | refine hl_callv rfl rfl (cr) ?_)
      exact ⟨q - 1, by omega, _, Imp.refl _, j + 1, b1, by omega, ⟨fun h => by subst h; exact (hk' rfl rfl).1 rfl, fun h => (hn' h).2⟩, Imp.refl _, rfl, rfl, rfl, rfl, trivial⟩
  obtain rfl : jA = j := by omega
  rw [List.take_of_length_le (by omega)] at hok
  repeat (first | refine hl_load1 rfl t5 rfl rfl ?_ | refine go1_ ?_ | refine bx_ (fun _ => ?_))
  refine hc_loopd (fun q fr M => ∃ (j : Nat) (okb : Bool), j + q = jB ∧ (okb = true ↔ (RtQ sD.1 ∧ ∀ D ∈ LA, RtQ D) ∧ ∀ D ∈ LB.take j, RtQ D) ∧ Imp M M0 ∧ Agr fr [(2, .pointer (some ⟨g2, 0, none⟩)), (5, .pointer (some ⟨g5, 0, none⟩)), (10, .bool okb), (12, .int .i64 (j : Int))]) jB ?_ ?_
  · exact ⟨0, _, by omega, by simpa using hok, Imp.refl _, rfl, rfl, rfl, rfl, trivial⟩
  clear hok
  rintro q fr M ⟨j, okb, hj, hok, him, hf⟩
  obtain ⟨base, rfl⟩ := hf.out
  clear hf
  refine HC.imp ?_ him
  clear him M
  by_cases hlt : j < jB
  · have hjl : j < LB.length := by omega
    have hst := List.take_succ_eq_append_getElem hjl
    obtain ⟨dv, hcell, hdr⟩ := nBR.at' hjl
    obtain ⟨hd1, hd2, hd3⟩ := hsmD _ (nBmem _ (List.getElem_mem hjl))
    generalize LB[j] = d at *
    obtain ⟨va, vc, rfl⟩ := hdr.form
    obtain ⟨bb, off, rfl⟩ := nB.pos (by omega)
    obtain ⟨b1, hb1⟩ := ex_b (RtQ d)
    have hk' : (b1 = true) → (okb = true) → (true = true ↔ (RtQ sD.1 ∧ ∀ D ∈ LA, RtQ D) ∧ ∀ D ∈ LB.take (j + 1), RtQ D) := fun h1 h2 => ⟨fun _ => ⟨(hok.1 h2).1, fun D hD => by
      rw [hst] at hD
      rcases List.mem_append.1 hD with h | h
      · exact (hok.1 h2).2 D h
      · obtain rfl : D = d := by simpa using h
        exact hb1.1 h1⟩, fun _ => rfl⟩
    have hn' : ((RtQ sD.1 ∧ ∀ D ∈ LA, RtQ D) ∧ ∀ D ∈ LB.take (j + 1), RtQ D) → okb = true ∧ b1 = true := fun h => ⟨hok.2 ⟨h.1, fun D hD => h.2 D (by rw [hst]; exact List.mem_append_left _ hD)⟩, hb1.2 (h.2 d (by rw [hst]; simp))⟩
    cases okb with
    | false =>
      repeat (first | refine hl_load1 rfl t5 rfl rfl ?_ | refine go1_ ?_ | refine bx_ (fun _ => ?_))
      exact ⟨q - 1, by omega, _, Imp.refl _, j + 1, false, by omega, ⟨fun h => (by cases h), fun h => (by cases (hn' h).1)⟩, Imp.refl _, rfl, rfl, rfl, rfl, trivial⟩
    | true =>
      have cr := rright_fn15 (hdr.imp nBi) hd1 hd2 hd3 b1 hb1
      repeat (first | refine hl_load1 rfl t5 rfl rfl ?_ | refine hl_loadRN (l := CB) rfl nB.rd (Imp.refl _) hcell rfl rfl ?_ | refine go1_ ?_ | refine bx_ (fun _ => ?_) | refine hl_callv rfl rfl (cr) ?_)
      exact ⟨q - 1, by omega, _, Imp.refl _, j + 1, b1, by omega, ⟨fun h => by subst h; exact (hk' rfl rfl).1 rfl, fun h => (hn' h).2⟩, Imp.refl _, rfl, rfl, rfl, rfl, trivial⟩
  obtain rfl : jB = j := by omega
  rw [List.take_of_length_le (by omega)] at hok
  have hall : (∀ D ∈ sD.1 :: (LA ++ LB), RtQ D) ↔ okb = true := by
    rw [hok]
    constructor
    · intro h
      exact ⟨⟨h _ (by simp), fun D hD => h D (by simp [hD])⟩, fun D hD => h D (by simp [hD])⟩
    · rintro ⟨⟨h1, h2⟩, h3⟩ D hD
      simp only [List.mem_cons, List.mem_append] at hD
      rcases hD with rfl | h | h
      · exact h1
      · exact h2 D h
      · exact h3 D h
  cases okb with
  | false =>
    have hg : getS l = (Stt.zero, 22) := by unfold getS; rw [hSR]; dsimp only [Stt.all]; rw [he, if_neg (by decide), if_neg (fun h => by cases hall.1 h)]
    have t2' : Take M0 ⟨g2, 61, [.int .i64 0, .int .i64 0, .int .i64 0, .slice none 0 0, .slice none 0 0, .slice none 0 0], 6⟩ (RfB gi a n c pE sE.e :: ⟨g5, 61, [.int .i64 sD.1.w, .int .i64 sD.1.h, .int .i64 sD.1.n, .slice da dn dc, .slice sa0 jA sc0, .slice sb0 jB sd0], 6⟩ :: (XB ++ (XBs ++ T2))) := t2
    rw [hM0]
    repeat (first | refine go_ ?_ | refine bx_ (fun _ => ?_))
    refine finCI (n := 6) rfl rfl .here rfl rfl ⟨.slice none 0 0, .slice none 0 0, .slice none 0 0, [], ?_, Imp.refl _, ?_⟩ (Imp.drop (Imp.drop (Imp.drop iT3)))
    · rw [hg]; rfl
    · rw [hg]; exact RstR.zero
  | true =>
    have hg : getS l = (⟨sD.1, LA, LB⟩, 0) := by unfold getS; rw [hSR]; dsimp only [Stt.all]; rw [he, if_neg (by decide), if_pos (hall.2 rfl)]
    rw [hM0]
    repeat (first | refine hl_loadN (i := 0) (n := 6) (vs := stC ⟨sD.1, LA, LB⟩ (.slice da dn dc) (.slice sa0 jA sc0) (.slice sb0 jB sd0)) rfl (.there .here) rfl rfl rfl ?_ | refine go1_ ?_ | refine bx_ (fun _ => ?_))
    refine finCI (n := 6) rfl rfl .here rfl rfl ⟨.slice da dn dc, .slice sa0 jA sc0, .slice sb0 jB sd0, XB ++ (XBs ++ (XA ++ (XAs ++ XD))), ?_, (by rw [ass]; exact Imp.refl _), ?_⟩ (Imp.drop (Imp.drop (Imp.drop (Imp.refl _))))
    · rw [hg]; rfl
    · rw [hg, ass]
      have k1 : Imp (XB ++ (XBs ++ T2)) T2 := (Imp.tail XB _).trans (Imp.tail XBs _)
      refine ⟨rD.imp (k1.trans (by rw [hT2]; exact (Imp.tail XA _).trans ((Imp.tail XAs _).trans (Imp.sub (List.sublist_append_left _ _))))), ⟨sa0, sc0, CA, by rw [a2], by rw [a2]; exact (CsR.own (hoA (XAs ++ (XD ++ H))) honeA).imp (by rw [← hT2]; exact k1), a1.imp (k1.trans (by rw [hT2]; exact (Imp.tail XA _).trans (Imp.sub (List.sublist_append_left _ _))))⟩, ⟨sb0, sd0, CB, by rw [b2], by rw [b2]; exact CsR.own (hoB (XBs ++ T2)) honeB, b1.imp ((Imp.tail XB _).trans (Imp.sub (List.sublist_append_left _ _)))⟩⟩
end
end Go.Proofs.Ytoobhebbgbhahaa
namespace Go.Proofs.Ytoobhebbgbhahaa
open Go.RowKit Go.ChangeShapes Go.WideShapes Go.ChangeAt Go.Deep
abbrev NN : Nat := 9223372036854775807
section
variable {Z : Type} {enc : TypeId × Value → Z} {w : World} {base : Nat} {held : Bool}
theorem one_bool {fuel : Nat} {cs : List Value} {c : Value} {o : Option (DataW Z × List MemPlace)} {k : Nat} (h : DataW.trod enc Try.prog w base (fun _ => true) held fuel 4 ((cs.drop k).take (Try.prog.cellsOf 4)) = o) (ho : o.isSome = true) (hc : (cs.drop k).take 1 = [c]) : ∃ z, c = .bool z := by
  obtain ⟨y, rfl⟩ := Option.isSome_iff_exists.1 ho
  rw [show Try.prog.cellsOf 4 = 1 by kernel_rfl, hc] at h
  obtain ⟨z, hz, _⟩ := DataW.trod_bool Try.underlying4 h
  exact ⟨z, by simpa using hz⟩
/-- What a row of layers is told to be. -/
def OpF (w : World) (v : Value) : Prop := ∃ F : Fo, (∀ B E, w.heap.size ≤ B → FoR w B E v F) ∧ F.wf NN ∧ F.len ≤ NN
set_option maxRecDepth 100000 in
set_option maxHeartbeats 4000000 in
theorem open_layer {fuel : Nat} (ih : ∀ n, n < fuel → ∀ (c : Value) (y : DataW Z × List MemPlace), DataW.trod enc Try.prog w base (fun _ => true) held n 50 [c] = some y → OpF w c)
    {l : List Value} {y : DataW Z × List MemPlace} (hl : l.length = 19) (hf : DataW.trod enc Try.prog w base (fun _ => true) held fuel 116 l = some y) :
    ∃ (x : Ly) (pv mv qv kv : Value) (k : Fo), l = lyC x pv mv qv kv ∧ (∀ B E, w.heap.size ≤ B → LyR w B E x pv mv qv) ∧ (∀ B E, w.heap.size ≤ B → FoR w B E kv k) ∧ x.wf NN ∧ k.wf NN ∧ k.len ≤ NN := by
  obtain ⟨ys, n', hn', hy, hlen, hyl, hj⟩ := DataW.trod_struct Try.underlying116 hf
  have hys : ∀ j, j < 14 → (ys[j]?).isSome = true := fun j hj => by
    rw [List.getElem?_eq_getElem (by rw [hyl]; exact hj)]; rfl
  match l, hl with
  | [c0, c1, c2, c3, c4, c5, c6, cp, cm, m0, m1, m2, m3, m4, m5, cs, ct, cq, ck], _ =>
    obtain ⟨z0, rfl, w0⟩ := one_int (hj 0 _ rfl) (hys 0 (by decide)) rfl
    obtain ⟨z1, rfl, w1⟩ := one_int (hj 1 _ rfl) (hys 1 (by decide)) rfl
    obtain ⟨z2, rfl⟩ := one_bool (hj 2 _ rfl) (hys 2 (by decide)) rfl
    obtain ⟨z3, rfl, w3⟩ := one_int (hj 3 _ rfl) (hys 3 (by decide)) rfl
    obtain ⟨z4, rfl, w4⟩ := one_int (hj 4 _ rfl) (hys 4 (by decide)) rfl
    obtain ⟨z5, rfl, w5⟩ := one_int (hj 5 _ rfl) (hys 5 (by decide)) rfl
    obtain ⟨z6, rfl, w6⟩ := one_int (hj 6 _ rfl) (hys 6 (by decide)) rfl
    obtain ⟨yp, hp⟩ := one_val (by kernel_rfl) (hj 7 _ rfl) (hys 7 (by decide)) rfl
    obtain ⟨ym, hm⟩ := one_val (by kernel_rfl) (hj 8 _ rfl) (hys 8 (by decide)) rfl
    obtain ⟨m, ⟨rfl, rfl, rfl, rfl, rfl, rfl⟩, wm⟩ := six_ints (hj 9 _ rfl) (hys 9 (by decide)) rfl
    obtain ⟨zs, rfl⟩ := one_bool (hj 10 _ rfl) (hys 10 (by decide)) rfl
    obtain ⟨zt, rfl, wt⟩ := one_int (hj 11 _ rfl) (hys 11 (by decide)) rfl
    obtain ⟨yq, hq⟩ := one_val (by kernel_rfl) (hj 12 _ rfl) (hys 12 (by decide)) rfl
    obtain ⟨yk, hk⟩ := one_val (by kernel_rfl) (hj 13 _ rfl) (hys 13 (by decide)) rfl
    obtain ⟨k, hk1, hk2, hk3⟩ := ih n' (by omega) ck yk hk
    obtain ⟨pa, pn, pc, rfl, _, _, hp⟩ := one_slice Try.underlying22 hp
    obtain ⟨ma, mn, mc, rfl, _, _, hm⟩ := one_slice Try.underlying29 hm
    obtain ⟨qa, qn, qc, rfl, _, _, hq⟩ := one_slice Try.underlying22 hq
    obtain ⟨P, hP, bP⟩ := open_nums Try.underlying22 Try.underlying3 (by kernel_rfl) rfl hp
    obtain ⟨Q, hQ, bQ⟩ := open_nums Try.underlying22 Try.underlying3 (by kernel_rfl) rfl hq
    obtain ⟨M, hM⟩ := open_bytes Try.underlying29 Try.underlying5 (by kernel_rfl) rfl hm
    have sP := hP.size_eq
    have sQ := hQ.size_eq
    have sM := hM.size_eq
    have lP := hP.le
    have lQ := hQ.le
    have lM := hM.le
    have xP := hP.small
    have xQ := hQ.small
    have xM := hM.small
    refine ⟨⟨z0, z1, z2, z3, z4, z5, z6, P, M, m 0, m 1, m 2, m 3, m 4, m 5, zs, zt, Q⟩, _, _, _, ck, k, rfl, fun B E hB => ⟨⟨pa, pc, by dsimp only; rw [sP], by dsimp only; rw [sP]; exact numR_of hB hP⟩, ⟨ma, mc, by dsimp only; rw [sM], by dsimp only; rw [sM]; exact BytR.of hB hM⟩, ⟨qa, qc, by dsimp only; rw [sQ], by dsimp only; rw [sQ]; exact numR_of hB hQ⟩⟩, hk1, ⟨?_, bP, wm, wt, bQ, ?_, ?_, ?_⟩, hk2, hk3⟩
    · intro n hn
      simp only [Ly.hd, List.mem_cons, List.not_mem_nil, or_false] at hn
      rcases hn with rfl | rfl | rfl | rfl | rfl | rfl | rfl <;> first | assumption | exact i64fl _
    all_goals dsimp only [NN]; omega
set_option maxRecDepth 100000 in
set_option maxHeartbeats 4000000 in
theorem open_fo : ∀ (fuel : Nat) (c : Value) (y : DataW Z × List MemPlace), DataW.trod enc Try.prog w base (fun _ => true) held fuel 50 [c] = some y → OpF w c := by
  intro fuel
  induction fuel using Nat.strongRecOn with
  | _ fuel ih =>
    intro c y h
    have hc19 : Try.prog.cellsOf 116 = 19 := by kernel_rfl
    rcases DataW.trod_slice Try.underlying50 h with ⟨hcs, _⟩ | ⟨a, len, cap, elems, rest, n, hn, hcs, _, _, hle, hcap, hel, hi, _, _⟩
    · simp only [List.cons.injEq, and_true] at hcs
      subst hcs
      exact ⟨.nil, fun _ _ _ => ⟨none, 0, [], rfl, CsR.nil, rfl⟩, trivial, Nat.zero_le _⟩
    · simp only [List.cons.injEq, and_true] at hcs
      subst hcs
      rw [hc19] at hi
      have hone : ∀ i, i < len → ∃ (x : Ly) (pv mv qv kv : Value) (k : Fo), (∀ j u, (lyC x pv mv qv kv)[j]? = some u → w.cell? (a.add (i * 19 + j)) = some u) ∧ (∀ B E, w.heap.size ≤ B → LyR w B E x pv mv qv) ∧ (∀ B E, w.heap.size ≤ B → FoR w B E kv k) ∧ x.wf NN ∧ k.wf NN ∧ k.len ≤ NN := fun i hil => by
        have h1 := hi i hil
        rw [List.getElem?_eq_getElem (by omega)] at h1
        obtain ⟨cs', hcells, ht⟩ := Option.bind_eq_some_iff.1 h1
        obtain ⟨_, hcl, hat⟩ := World.cells?_some hcells
        obtain ⟨x, pv, mv, qv, kv, k, rfl, h2, h3, h4, h5, h6⟩ := open_layer (fuel := n) (fun m hm => ih m (by omega)) hcl ht
        refine ⟨x, pv, mv, qv, kv, k, fun j u hu => ?_, h2, h3, h4, h5, h6⟩
        have hj : j < 19 := by
          have := (List.getElem?_eq_some_iff.1 hu).1
          simpa using this
        rw [← Go.Deep.add_add, hat j hj, hu]
      have hbuild : ∀ d, d ≤ len → ∃ (F : Fo) (C : List Value), F.len = d ∧ (∀ B E, w.heap.size ≤ B → FoC w B E F C) ∧ F.wf NN ∧ ∀ j u, C[j]? = some u → w.cell? (a.add ((len - d) * 19 + j)) = some u := by
        intro d
        induction d with
        | zero => exact fun _ => ⟨.nil, [], rfl, fun _ _ _ => rfl, trivial, fun j u hu => by simp at hu⟩
        | succ d ihd =>
          intro hd
          obtain ⟨F, C, f1, f2, f3, f4⟩ := ihd (by omega)
          obtain ⟨x, pv, mv, qv, kv, k, g1, g2, g3, g4, g5, g6⟩ := hone (len - (d + 1)) (by omega)
          obtain ⟨ka, kc, rfl⟩ := (g3 _ [] (Nat.le_refl _)).form
          refine ⟨.cons x k F, _, by rw [Fo.len, f1], fun B E hB => (by
            obtain ⟨ka', kc', K, e, q1, q2⟩ := g3 B E hB
            injection e with e1 e2 e3
            subst e1 e3
            exact ⟨pv, mv, qv, ka, kc, K, C, rfl, g2 B E hB, q1, q2, f2 B E hB⟩), ⟨g4, g6, g5, f3⟩, fun j u hu => ?_⟩
          by_cases hj : j < 19
          · rw [List.getElem?_append_left (by simpa using hj)] at hu
            exact g1 j u hu
          · rw [List.getElem?_append_right (by simpa using hj)] at hu
            have := f4 _ _ hu
            rw [← this]
            congr 2
            simp only [List.length_cons, List.length_nil]
            omega
      obtain ⟨F, C, f1, f2, f3, f4⟩ := hbuild len (Nat.le_refl _)
      rw [Nat.sub_self, Nat.zero_mul] at f4
      simp only [Nat.zero_add] at f4
      have f20 := f2 _ [] (Nat.le_refl _)
      have hCl := f20.len
      refine ⟨F, fun B E hB => ⟨some a, cap, C, by rw [f1], ⟨hCl, fun h0 => ?_, ⟨fun w' hw ad ha j u hu => ?_, fun h => (by cases h), f20.one⟩⟩, f2 B E hB⟩, f3, by rw [f1]; unfold maxLen at hcap; dsimp only [NN]; omega⟩
      · obtain ⟨b, off, spot⟩ := a
        have h1 := f4 0 _ (List.getElem?_eq_getElem (by omega))
        have := World.cell?_spot h1
        have hs : spot = none := by simpa [Addr.add] using this
        subst hs
        exact ⟨b, off, rfl⟩
      · cases ha
        have h1 := f4 j u hu
        obtain ⟨b, off, spot⟩ := a
        have hs : spot = none := by
          have h0 : 0 < C.length := Nat.lt_of_le_of_lt (Nat.zero_le _) (List.getElem?_eq_some_iff.1 hu).1
          have h2 := f4 0 _ (List.getElem?_eq_getElem h0)
          have := World.cell?_spot h2
          simpa [Addr.add] using this
        subst hs
        rw [Addr.add_lit] at h1 ⊢
        have hblk : b < B := by
          refine Nat.lt_of_lt_of_le ?_ hB
          have h3 := h1
          simp only [World.cell?] at h3
          rcases Nat.lt_or_ge b w.heap.size with h4 | h4
          · exact h4
          · rw [Array.getElem?_eq_none h4] at h3; cases h3
        rw [← h1]
        exact hw.below.cell (p := ⟨b, off + j, none⟩) hblk
set_option maxRecDepth 100000 in
set_option maxHeartbeats 4000000 in
theorem open_doc {fuel : Nat} {l : List Value} {y : DataW Z × List MemPlace} (hl : l.length = 4) (hf : DataW.trod enc Try.prog w base (fun _ => true) held fuel 52 l = some y) :
    ∃ (D : Dc) (kv : Value), l = dcC D kv ∧ (∀ B E, w.heap.size ≤ B → FoR w B E kv D.F) ∧ D.wf NN := by
  obtain ⟨ys, n', hn', hy, hlen, hyl, hj⟩ := DataW.trod_struct Try.underlying52 hf
  have hys : ∀ j, j < 4 → (ys[j]?).isSome = true := fun j hj => by
    rw [List.getElem?_eq_getElem (by rw [hyl]; exact hj)]; rfl
  match l, hl with
  | [c0, c1, c2, ck], _ =>
    obtain ⟨z0, rfl, w0⟩ := one_int (hj 0 _ rfl) (hys 0 (by decide)) rfl
    obtain ⟨z1, rfl, w1⟩ := one_int (hj 1 _ rfl) (hys 1 (by decide)) rfl
    obtain ⟨z2, rfl, w2⟩ := one_int (hj 2 _ rfl) (hys 2 (by decide)) rfl
    obtain ⟨yk, hk⟩ := one_val (by kernel_rfl) (hj 3 _ rfl) (hys 3 (by decide)) rfl
    obtain ⟨k, hk1, hk2, hk3⟩ := open_fo n' ck yk hk
    refine ⟨⟨z0, z1, z2, k⟩, ck, rfl, hk1, ⟨fun n hn => ?_, hk2, hk3⟩⟩
    simp only [List.mem_cons, List.not_mem_nil, or_false] at hn
    rcases hn with rfl | rfl | rfl <;> assumption
def OpD (w : World) (v : Value) : Prop := ∃ L : List Dc, (∀ B E, w.heap.size ≤ B → DsR w B E v L) ∧ (∀ D ∈ L, D.wf NN) ∧ L.length ≤ NN
set_option maxRecDepth 100000 in
set_option maxHeartbeats 4000000 in
theorem open_ds (fuel : Nat) (c : Value) (y : DataW Z × List MemPlace) (h : DataW.trod enc Try.prog w base (fun _ => true) held fuel 53 [c] = some y) : OpD w c := by
    have hc19 : Try.prog.cellsOf 52 = 4 := by kernel_rfl
    rcases DataW.trod_slice Try.underlying53 h with ⟨hcs, _⟩ | ⟨a, len, cap, elems, rest, n, hn, hcs, _, _, hle, hcap, hel, hi, _, _⟩
    · simp only [List.cons.injEq, and_true] at hcs
      subst hcs
      exact ⟨[], fun _ _ _ => ⟨none, 0, [], rfl, CsR.nil, rfl⟩, by simp, Nat.zero_le _⟩
    · simp only [List.cons.injEq, and_true] at hcs
      subst hcs
      rw [hc19] at hi
      have hone : ∀ i, i < len → ∃ (D : Dc) (kv : Value), (∀ j u, (dcC D kv)[j]? = some u → w.cell? (a.add (i * 4 + j)) = some u) ∧ (∀ B E, w.heap.size ≤ B → FoR w B E kv D.F) ∧ D.wf NN := fun i hil => by
        have h1 := hi i hil
        rw [List.getElem?_eq_getElem (by omega)] at h1
        obtain ⟨cs', hcells, ht⟩ := Option.bind_eq_some_iff.1 h1
        obtain ⟨_, hcl, hat⟩ := World.cells?_some hcells
        obtain ⟨D, kv, rfl, h3, h4⟩ := open_doc (fuel := n) hcl ht
        refine ⟨D, kv, fun j u hu => ?_, h3, h4⟩
        have hj : j < 4 := by
          have := (List.getElem?_eq_some_iff.1 hu).1
          simpa using this
        rw [← Go.Deep.add_add, hat j hj, hu]
      have hbuild : ∀ d, d ≤ len → ∃ (F : List Dc) (C : List Value), F.length = d ∧ (∀ B E, w.heap.size ≤ B → DsC w B E F C) ∧ (∀ D ∈ F, D.wf NN) ∧ ∀ j u, C[j]? = some u → w.cell? (a.add ((len - d) * 4 + j)) = some u := by
        intro d
        induction d with
        | zero => exact fun _ => ⟨[], [], rfl, fun _ _ _ => rfl, by simp, fun j u hu => by simp at hu⟩
        | succ d ihd =>
          intro hd
          obtain ⟨F, C, f1, f2, f3, f4⟩ := ihd (by omega)
          obtain ⟨D, kv, g1, g3, g4⟩ := hone (len - (d + 1)) (by omega)
          refine ⟨D :: F, _, by rw [List.length_cons, f1], fun B E hB => ⟨kv, C, rfl, g3 B E hB, f2 B E hB⟩, fun D' h => by rcases List.mem_cons.1 h with rfl | h; exact g4; exact f3 _ h, fun j u hu => ?_⟩
          by_cases hj : j < 4
          · rw [List.getElem?_append_left (by simpa using hj)] at hu
            exact g1 j u hu
          · rw [List.getElem?_append_right (by simpa using hj)] at hu
            have := f4 _ _ hu
            rw [← this]
            congr 2
            simp only [List.length_cons, List.length_nil]
            omega
      obtain ⟨F, C, f1, f2, f3, f4⟩ := hbuild len (Nat.le_refl _)
      rw [Nat.sub_self, Nat.zero_mul] at f4
      simp only [Nat.zero_add] at f4
      have f20 := f2 _ [] (Nat.le_refl _)
      have hCl := f20.len
      refine ⟨F, fun B E hB => ⟨some a, cap, C, by rw [f1], ⟨hCl, fun h0 => ?_, ⟨fun w' hw ad ha j u hu => ?_, fun h => (by cases h), f20.one⟩⟩, f2 B E hB⟩, f3, by rw [f1]; unfold maxLen at hcap; dsimp only [NN]; omega⟩
      · obtain ⟨b, off, spot⟩ := a
        have h1 := f4 0 _ (List.getElem?_eq_getElem (by omega))
        have := World.cell?_spot h1
        have hs : spot = none := by simpa [Addr.add] using this
        subst hs
        exact ⟨b, off, rfl⟩
      · cases ha
        have h1 := f4 j u hu
        obtain ⟨b, off, spot⟩ := a
        have hs : spot = none := by
          have h0 : 0 < C.length := Nat.lt_of_le_of_lt (Nat.zero_le _) (List.getElem?_eq_some_iff.1 hu).1
          have h2 := f4 0 _ (List.getElem?_eq_getElem h0)
          have := World.cell?_spot h2
          simpa [Addr.add] using this
        subst hs
        rw [Addr.add_lit] at h1 ⊢
        have hblk : b < B := by
          refine Nat.lt_of_lt_of_le ?_ hB
          have h3 := h1
          simp only [World.cell?] at h3
          rcases Nat.lt_or_ge b w.heap.size with h4 | h4
          · exact h4
          · rw [Array.getElem?_eq_none h4] at h3; cases h3
        rw [← h1]
        exact hw.below.cell (p := ⟨b, off + j, none⟩) hblk
/-- A state that is handed in. -/
structure StA where
  S : Stt
  kv : Value
  av : Value
  bv : Value
abbrev StA.v (x : StA) : Value := .agg (stC x.S x.kv x.av x.bv).toArray
structure StA.wf (w : World) (x : StA) : Prop where
  r : ∀ B E, w.heap.size ≤ B → StR w B E x.S x.kv x.av x.bv
  f : x.S.wf NN
set_option maxRecDepth 100000 in
set_option maxHeartbeats 4000000 in
theorem open_state {v : Value} {d : DataW Z} {ps : List MemPlace} {w0 : World} {r : Reach} {b0 : Nat} (hok : Value.okWide Try.prog w0 r b0 55 v) (h : DataW.Trod enc Try.prog w base (fun _ => true) held 55 v d ps) :
    ∃ x : StA, v = x.v ∧ x.wf w := by
  obtain ⟨cs, rfl, hsz⟩ : ∃ cs, v = .agg cs ∧ cs.size = Try.prog.cellsOf 55 := by
    simp only [Value.okWide, Try.underlying55] at hok
    obtain ⟨cs, h1, h2, _⟩ := hok
    exact ⟨cs, h1, h2⟩
  have hc6 : Try.prog.cellsOf 55 = 6 := by kernel_rfl
  have hc4 : Try.prog.cellsOf 52 = 4 := by kernel_rfl
  rw [hc6] at hsz
  obtain ⟨fuel, hf⟩ := h
  obtain ⟨ys, n', hn', hy, hlen, hyl, hj⟩ := DataW.trod_struct Try.underlying55 hf
  obtain ⟨l⟩ := cs
  simp only [Value.cells] at hj
  have hl : l.length = 6 := by simpa using hsz
  have hys : ∀ j, j < 3 → (ys[j]?).isSome = true := fun j hj => by
    rw [List.getElem?_eq_getElem (by rw [hyl]; exact hj)]; rfl
  match l, hl with
  | [c0, c1, c2, ck, ca, cb], _ =>
    have h0 : DataW.trod enc Try.prog w base (fun _ => true) held n' 52 ((([c0, c1, c2, ck, ca, cb] : List Value).drop 0).take (Try.prog.cellsOf 52)) = ys[0]? := hj 0 _ rfl
    obtain ⟨y0, hy0⟩ := Option.isSome_iff_exists.1 (hys 0 (by decide))
    rw [hy0] at h0
    rw [show Try.prog.cellsOf 52 = 4 from hc4] at h0
    obtain ⟨D, kv, e, q1, q2⟩ := open_doc (l := [c0, c1, c2, ck]) rfl h0
    obtain ⟨ya, ha⟩ := one_val (by kernel_rfl) (hj 1 _ rfl) (hys 1 (by decide)) rfl
    obtain ⟨yb, hb⟩ := one_val (by kernel_rfl) (hj 2 _ rfl) (hys 2 (by decide)) rfl
    obtain ⟨LA, a1, a2, a3⟩ := open_ds n' ca ya ha
    obtain ⟨LB, b1, b2, b3⟩ := open_ds n' cb yb hb
    obtain ⟨rfl, rfl, rfl, rfl⟩ : c0 = .int .i64 D.w ∧ c1 = .int .i64 D.h ∧ c2 = .int .i64 D.n ∧ ck = kv := by
      simp only [dcC, List.cons.injEq, and_true] at e
      exact ⟨e.1, e.2.1, e.2.2.1, e.2.2.2⟩
    exact ⟨⟨⟨D, LA, LB⟩, ck, ca, cb⟩, rfl, ⟨fun B E hB => ⟨q1 B E hB, a1 B E hB, b1 B E hB⟩, ⟨q2, a2, b2, a3, b3⟩⟩⟩
end
end Go.Proofs.Ytoobhebbgbhahaa
namespace Go.Proofs.Ytoobhebbgbhahaa
open Go.RowKit
section
variable {w0 : World} {B : Nat} {H R R0 : List Ent} {g : Nat}
set_option maxHeartbeats 16000000
set_option maxRecDepth 100000
def PgsR (w0 : World) (B : Nat) (H : List Ent) (l : List UInt8) (v : Value) (H' : List Ent) : Prop :=
  ∃ lv av bv X, v = .tuple #[.agg (stC (getS l).1 lv av bv).toArray, .int .i64 ((getS l).2 : Int)] ∧ Imp H' (X ++ H) ∧ StR w0 B (X ++ H) (getS l).1 lv av bv
theorem StR.zero : StR w0 B H Stt.zero (.slice none 0 0) (.slice none 0 0) (.slice none 0 0) :=
  ⟨⟨none, 0, [], rfl, CsR.nil, rfl⟩, ⟨none, 0, [], rfl, CsR.nil, rfl⟩, ⟨none, 0, [], rfl, CsR.nil, rfl⟩⟩
/-- What the program's Right is to tell. -/
def RightOk (w0 : World) (B : Nat) : Prop := ∀ (D : Dc) (kv : Value) (H : List Ent) (b : Bool), FoR w0 B H kv D.F → D.F.dep ≤ 64 → D.F.wf 1000000 → D.F.cnt ≤ 1000000 → (b = true ↔ RtQ D) →
  Fn Try.prog w0 B 44 [.agg (dcC D kv).toArray] H (fun v H' => v = .bool b ∧ H' = H)
theorem getState_fn {a : Option Addr} {n c : Nat} {l : List UInt8} (hR : RightOk w0 B) (hb : BytR w0 B H a n c l) (hn : n ≤ 1000000000) (hsm : SmS l) :
    Fn Try.prog w0 B 22 [.slice a n c] H (PgsR w0 B H l) := by
  have hbe := hb.eq
  have hSR : getSR l = getSR l := rfl
  conv at hSR => rhs; unfold getSR
  dsimp only at hSR
  refine fn_intro Try.func22 rfl (by kernel_rfl) rfl ?_
  repeat (first | refine go_ ?_ | refine bx_ (fun _ => ?_))
  rename_i g2 gi
  refine HL.perm (H' := InB gi a n c (Rd.mk l 0).e :: (⟨g2, 55, [.int .i64 0, .int .i64 0, .int .i64 0, .slice none 0 0, .slice none 0 0, .slice none 0 0], 6⟩ :: H)) ?_ (List.Perm.refl _)
  have i0 : Imp (⟨g2, 55, [.int .i64 0, .int .i64 0, .int .i64 0, .slice none 0 0, .slice none 0 0, .slice none 0 0], 6⟩ :: H) H := Imp.drop (Imp.refl _)
  refine hl_call rfl rfl (idoc_fn (s := ⟨l, 0⟩) hb i0 hn) (fun v M o => ?_)
  obtain ⟨a1, n1, c1, XD, da, dn, dc, himD, hbD, rfl, hFD⟩ := o
  have l1 := (Rd.mk l 0).doc_len
  have hdw := fun h => (Rd.doc_was (N := 1000000000) (s := ⟨l, 0⟩) h (by dsimp only; omega)).1
  generalize (Rd.mk l 0).doc = sD at *
  dsimp only at l1
  have e1 := hbD.eq
  refine HL.imp ?_ himD
  have i1 : Imp (XD ++ (⟨g2, 55, [.int .i64 0, .int .i64 0, .int .i64 0, .slice none 0 0, .slice none 0 0, .slice none 0 0], 6⟩ :: H)) H := (Imp.tail XD _).trans i0
  repeat (first | refine go_ ?_ | refine bx_ (fun _ => ?_))
  refine hl_call rfl rfl (idocs_fn hbD i1 (by omega)) (fun v M o => ?_)
  obtain ⟨a2, n2, c2, XA, aa, an, ac, himA, hbA, rfl, hFA⟩ := o
  have l2 := sD.2.docs_len
  have haw := fun h => (Rd.docs_was (N := 1000000000) (s := sD.2) h (by omega)).1
  have haw2 := fun h => (Rd.docs_was (N := 1000000000) (s := sD.2) h (by omega)).2.2.2
  generalize sD.2.docs = sA at *
  have e2 := hbA.eq
  refine HL.imp ?_ himA
  have i2 : Imp (XA ++ (XD ++ (⟨g2, 55, [.int .i64 0, .int .i64 0, .int .i64 0, .slice none 0 0, .slice none 0 0, .slice none 0 0], 6⟩ :: H))) H := (Imp.tail XA _).trans i1
  repeat (first | refine go_ ?_ | refine bx_ (fun _ => ?_))
  refine hl_call rfl rfl (idocs_fn hbA i2 (by omega)) (fun v M o => ?_)
  obtain ⟨a3, n3, c3, XB, ba, bn, bc, himB, hbB, rfl, hFB⟩ := o
  have l3 := sA.2.docs_len
  have hbw := fun h => (Rd.docs_was (N := 1000000000) (s := sA.2) h (by omega)).1
  have hbw2 := fun h => (Rd.docs_was (N := 1000000000) (s := sA.2) h (by omega)).2.2.2
  generalize sA.2.docs = sB at *
  refine HL.imp ?_ himB
  repeat (first | refine go_ ?_ | refine bx_ (fun _ => ?_))
  rename_i g5
  have hpm : (XB ++ (XA ++ (XD ++ (⟨g2, 55, [.int .i64 0, .int .i64 0, .int .i64 0, .slice none 0 0, .slice none 0 0, .slice none 0 0], 6⟩ :: H)))).Perm (⟨g2, 55, [.int .i64 0, .int .i64 0, .int .i64 0, .slice none 0 0, .slice none 0 0, .slice none 0 0], 6⟩ :: (XB ++ (XA ++ (XD ++ H)))) := by
    simpa only [List.append_assoc, List.cons_append, List.nil_append] using app_swap (XB ++ (XA ++ XD)) [⟨g2, 55, [.int .i64 0, .int .i64 0, .int .i64 0, .slice none 0 0, .slice none 0 0, .slice none 0 0], 6⟩] H
  refine HL.perm (H' := InB gi a3 n3 c3 sB.2.e :: ⟨g5, 55, stC ⟨sD.1, sA.1, sB.1⟩ (.slice da dn dc) (.slice aa an ac) (.slice ba bn bc), 6⟩ :: ⟨g2, 55, [.int .i64 0, .int .i64 0, .int .i64 0, .slice none 0 0, .slice none 0 0, .slice none 0 0], 6⟩ :: (XB ++ (XA ++ (XD ++ H)))) ?_ ((List.Perm.swap _ _ _).trans (List.Perm.cons _ (List.Perm.cons _ hpm)))
  obtain ⟨X3, hX3⟩ : ∃ X, X = XB ++ (XA ++ XD) := ⟨_, rfl⟩
  have hass : XB ++ (XA ++ (XD ++ H)) = X3 ++ H := by rw [hX3]; simp only [List.append_assoc]
  rw [hass]
  have iX3 : Imp (X3 ++ H) H := Imp.tail X3 H
  refine hl_call rfl rfl (iend_fn hbB) (fun v M hv => ?_)
  subst hv
  have hSR2 : getSR l = (⟨sD.1, sA.1, sB.1⟩, sB.2) := hSR
  by_cases he : sB.2.endE = 0
  rotate_left
  · have hg : getS l = (Stt.zero, sB.2.endE) := by unfold getS; rw [hSR2]; dsimp only; rw [if_pos he]
    generalize sB.2.endE = ee at *
    repeat (first | refine go_ ?_ | refine bx_ (fun _ => ?_))
    refine HC.perm (H' := ⟨g2, 55, [.int .i64 0, .int .i64 0, .int .i64 0, .slice none 0 0, .slice none 0 0, .slice none 0 0], 6⟩ :: InB gi a3 n3 c3 ee :: ⟨g5, 55, stC ⟨sD.1, sA.1, sB.1⟩ (.slice da dn dc) (.slice aa an ac) (.slice ba bn bc), 6⟩ :: (X3 ++ H)) ?_ (app_swap [_, _] [_] _)
    refine hc_meet (fun fr M => Agr fr [(2, .pointer (some ⟨g2, 0, none⟩)), (3, .int .i64 ((ee : Nat) : Int))] ∧ M = ⟨g2, 55, [.int .i64 0, .int .i64 0, .int .i64 0, .slice none 0 0, .slice none 0 0, .slice none 0 0], 6⟩ :: InB gi a3 n3 c3 ee :: ⟨g5, 55, stC ⟨sD.1, sA.1, sB.1⟩ (.slice da dn dc) (.slice aa an ac) (.slice ba bn bc), 6⟩ :: (X3 ++ H)) ?_ ?_
    · refine hc_drawA (InB gi a3 n3 c3 ee :: ⟨g5, 55, stC ⟨sD.1, sA.1, sB.1⟩ (.slice da dn dc) (.slice aa an ac) (.slice ba bn bc), 6⟩ :: (X3 ++ H)) (by kernel_rfl) ?_
      refine ha_quiet [0, 1, 2, 3, 4] (by rfl) (by kernel_rfl) ?_
      repeat (first | refine gd_ ?_)
      refine ha_fork1 5 (by rfl) (by kernel_rfl) (by rfl) (by first | exact Imp.refl _ | exact Imp.drop (Imp.refl _) | exact Imp.drop (Imp.drop (Imp.refl _)) | exact Imp.drop (Imp.drop (Imp.drop (Imp.refl _))) | exact Imp.drop (Imp.drop (Imp.drop (Imp.drop (Imp.refl _)))) | exact Imp.drop (Imp.drop (Imp.drop (Imp.drop (Imp.drop (Imp.refl _))))) | exact Imp.drop (Imp.drop (Imp.drop (Imp.drop (Imp.drop (Imp.drop (Imp.refl _)))))) | exact Imp.drop (Imp.drop (Imp.drop (Imp.drop (Imp.drop (Imp.drop (Imp.drop (Imp.refl _))))))) | exact Imp.drop (Imp.drop (Imp.drop (Imp.drop (Imp.drop (Imp.drop (Imp.drop (Imp.drop (Imp.refl _)))))))) | assumption | exact Imp.drop (by assumption) | exact Imp.drop (Imp.drop (by assumption)) | exact imp_nil _ | exact Imp.drop2 (Imp.refl _) | exact Imp.drop2 (Imp.drop2 (Imp.refl _)) | exact Imp.drop (Imp.drop2 (Imp.refl _))) ?_
      · skip
        repeat (first | refine op_ ?_ | refine bx_ (fun _ => ?_))
        refine ha_quiet [6] (by rfl) (by kernel_rfl) ?_
        repeat (first | refine gd_ ?_)
        refine ha_end (by rfl) (by kernel_rfl) (by first | exact Imp.refl _ | exact Imp.drop (Imp.refl _) | exact Imp.drop (Imp.drop (Imp.refl _)) | exact Imp.drop (Imp.drop (Imp.drop (Imp.refl _))) | exact Imp.drop (Imp.drop (Imp.drop (Imp.drop (Imp.refl _)))) | exact Imp.drop (Imp.drop (Imp.drop (Imp.drop (Imp.drop (Imp.refl _))))) | exact Imp.drop (Imp.drop (Imp.drop (Imp.drop (Imp.drop (Imp.drop (Imp.refl _)))))) | exact Imp.drop (Imp.drop (Imp.drop (Imp.drop (Imp.drop (Imp.drop (Imp.drop (Imp.refl _))))))) | exact Imp.drop (Imp.drop (Imp.drop (Imp.drop (Imp.drop (Imp.drop (Imp.drop (Imp.drop (Imp.refl _)))))))) | assumption | exact Imp.drop (by assumption) | exact Imp.drop (Imp.drop (by assumption)) | exact imp_nil _ | exact Imp.drop2 (Imp.refl _) | exact Imp.drop2 (Imp.drop2 (Imp.refl _)) | exact Imp.drop (Imp.drop2 (Imp.refl _))) ?_
        exact ⟨⟨rfl, rfl, trivial⟩, rfl⟩
    rintro fr M ⟨hff, rfl⟩
    obtain ⟨base, rfl⟩ := hff.out
    repeat (first | refine go_ ?_ | refine bx_ (fun _ => ?_))
    refine finCI (n := 6) rfl rfl .here rfl rfl ⟨.slice none 0 0, .slice none 0 0, .slice none 0 0, [], ?_, Imp.refl _, ?_⟩ (Imp.drop (Imp.drop (Imp.drop iX3)))
    · rw [hg]; rfl
    · rw [hg]; exact StR.zero
  have h0 : sB.2.e = 0 := by
    unfold Rd.endE at he
    split at he
    · cases he
    · exact he
  have hA0 := hbw h0
  have hD0 := haw hA0
  have fD := hFD hD0
  have fA := hFA hA0
  have fB := hFB h0
  have hsmD := hsm (by rw [hSR2]; exact he)
  rw [hSR2] at hsmD
  dsimp only [Stt.all] at hsmD
  obtain ⟨aa', ac', CA, eA, cA, rA⟩ := fA
  obtain ⟨ba', bc', CB, eB, cB, rB⟩ := fB
  injection eA with eA1 eA2 eA3
  injection eB with eB1 eB2 eB3
  subst eA1 eA2 eA3 eB1 eB2 eB3
  repeat (first | refine hl_loadN (i := 0) (n := 4) (vs := dcC sD.1 (.slice da dn dc)) rfl (.there .here) rfl rfl rfl ?_ | refine go1_ ?_ | refine bx_ (fun _ => ?_))
  rename_i gA g99
  obtain ⟨M0, hM0⟩ : ∃ M0, M0 = (⟨g99, 53, [.slice (some ⟨gA, 0, none⟩) 1 1, .slice aa sA.1.length ac, .slice ba sB.1.length bc], 3 * 1⟩ :: ⟨gA, 52, dcC sD.1 (.slice da dn dc), 1 * 4⟩ :: InB gi a3 n3 c3 sB.2.endE :: ⟨g5, 55, stC ⟨sD.1, sA.1, sB.1⟩ (.slice da dn dc) (.slice aa sA.1.length ac) (.slice ba sB.1.length bc), 6⟩ :: ⟨g2, 55, [.int .i64 0, .int .i64 0, .int .i64 0, .slice none 0 0, .slice none 0 0, .slice none 0 0], 6⟩ :: (X3 ++ H) : List Ent) := ⟨_, rfl⟩
  obtain ⟨F99, t99⟩ : ∃ F, Take M0 ⟨g99, 53, [.slice (some ⟨gA, 0, none⟩) 1 1, .slice aa sA.1.length ac, .slice ba sB.1.length bc], 3 * 1⟩ F := ⟨_, by rw [hM0]; exact .here⟩
  obtain ⟨FA, tA⟩ : ∃ F, Take M0 ⟨gA, 52, dcC sD.1 (.slice da dn dc), 1 * 4⟩ F := ⟨_, by rw [hM0]; exact .there .here⟩
  have iM : Imp M0 (X3 ++ H) := by rw [hM0]; exact Imp.drop (Imp.drop (Imp.drop (Imp.drop (Imp.drop (Imp.refl _)))))
  have k3 : Imp (X3 ++ H) X3 := Imp.sub (List.sublist_append_left _ _)
  have jB : Imp X3 XB := by rw [hX3]; exact Imp.sub (List.sublist_append_left _ _)
  have jA : Imp X3 XA := by rw [hX3]; exact (Imp.tail XB _).trans (Imp.sub (List.sublist_append_left _ _))
  have jD : Imp X3 XD := by rw [hX3]; exact (Imp.tail XB _).trans (Imp.tail XA _)
  have dl : DsR w0 B M0 (.slice (some ⟨gA, 0, none⟩) 1 1) [sD.1] :=
    ⟨_, _, dcC sD.1 (.slice da dn dc), rfl, ⟨rfl, fun _ => ⟨_, _, rfl⟩, Rds.ent (c := ⟨Try.prog, 0, w0, B⟩) (i := 0) (n := 4) tA rfl (by simp [dcC, Value.oneCell'])⟩, ⟨_, [], (List.append_nil _).symm, fD.imp (iM.trans (k3.trans jD)), rfl⟩⟩
  have dA : DsR w0 B M0 (.slice aa sA.1.length ac) sA.1 := ⟨aa, ac, CA, rfl, cA.imp (iM.trans (k3.trans jA)), rA.imp (iM.trans (k3.trans jA))⟩
  have dB : DsR w0 B M0 (.slice ba sB.1.length bc) sB.1 := ⟨ba, bc, CB, rfl, cB.imp (iM.trans (k3.trans jB)), rB.imp (iM.trans (k3.trans jB))⟩
  obtain ⟨LLs, hLLs⟩ : ∃ L : List (List Dc), L = [[sD.1], sA.1, sB.1] := ⟨_, rfl⟩
  have hcase : ∀ i, i < 3 → ∃ v L, ([.slice (some ⟨gA, 0, none⟩) 1 1, .slice aa sA.1.length ac, .slice ba sB.1.length bc] : List Value)[i]? = some v ∧ LLs[i]? = some L ∧ DsR w0 B M0 v L ∧ (∀ D ∈ L, D ∈ sD.1 :: (sA.1 ++ sB.1)) ∧ L.length ≤ 1000000000 := fun i hi => by
    have z1 := haw2 hA0
    have z2 := hbw2 h0
    rw [hLLs]
    obtain rfl | rfl | rfl : i = 0 ∨ i = 1 ∨ i = 2 := by omega
    · exact ⟨_, _, rfl, rfl, dl, fun D h => by rw [List.mem_singleton.1 h]; simp, by simp⟩
    · exact ⟨_, _, rfl, rfl, dA, fun D h => by simp [h], z1⟩
    · exact ⟨_, _, rfl, rfl, dB, fun D h => by simp [h], z2⟩
  have hgood : (∀ k L, k < 3 → LLs[k]? = some L → ∀ D ∈ L, RtQ D) → ∀ D ∈ sD.1 :: (sA.1 ++ sB.1), RtQ D := fun h D hD => by
    rw [hLLs] at h
    simp only [List.mem_cons, List.mem_append] at hD
    rcases hD with rfl | hD | hD
    · exact h 0 _ (by omega) rfl _ (by simp)
    · exact h 1 _ (by omega) rfl _ hD
    · exact h 2 _ (by omega) rfl _ hD
  refine HC.perm (H' := M0) ?_ (by rw [hM0])
  refine hc_loopd (fun q fr M => ∃ i : Nat, i + q = 3 ∧ (∀ k L, k < i → LLs[k]? = some L → ∀ D ∈ L, RtQ D) ∧ Imp M M0 ∧ Agr fr [(2, .pointer (some ⟨g2, 0, none⟩)), (5, .pointer (some ⟨g5, 0, none⟩)), (39, .slice (some ⟨g99, 0, none⟩) 3 3), (40, .int .i64 3), (41, .int .i64 (i : Int))]) 3 ?_ ?_
  · exact ⟨0, by omega, fun k L h => absurd h (by omega), Imp.refl _, rfl, rfl, rfl, rfl, rfl, trivial⟩
  rintro q fr M ⟨i, hi, hall, him, hf⟩
  obtain ⟨base, rfl⟩ := hf.out
  clear hf
  refine HC.imp ?_ him
  clear him M
  by_cases hlt : i < 3
  rotate_left
  · obtain rfl : i = 3 := by omega
    have hg : getS l = (⟨sD.1, sA.1, sB.1⟩, 0) := by unfold getS; rw [hSR2]; dsimp only [Stt.all]; rw [he, if_neg (by decide), if_pos (hgood hall)]
    rw [hM0]
    repeat (first | refine hl_loadN (i := 0) (n := 6) (vs := stC ⟨sD.1, sA.1, sB.1⟩ (.slice da dn dc) (.slice aa sA.1.length ac) (.slice ba sB.1.length bc)) rfl (.there (.there (.there .here))) rfl rfl rfl ?_ | refine go1_ ?_ | refine bx_ (fun _ => ?_))
    refine finCI (n := 6) rfl rfl .here rfl rfl ⟨.slice da dn dc, .slice aa sA.1.length ac, .slice ba sB.1.length bc, X3, ?_, Imp.refl _, ?_⟩ (Imp.drop (Imp.drop (Imp.drop (Imp.drop (Imp.drop (Imp.refl _))))))
    · rw [hg]; rfl
    · rw [hg]; exact ⟨fD.imp (k3.trans jD), ⟨aa, ac, CA, rfl, cA.imp (k3.trans jA), rA.imp (k3.trans jA)⟩, ⟨ba, bc, CB, rfl, cB.imp (k3.trans jB), rB.imp (k3.trans jB)⟩⟩
  obtain ⟨v, L, hv, hL, hDs, hmem, hLl⟩ := hcase i hlt
  obtain ⟨va, vc, C, rfl, cC, rC⟩ := hDs
  repeat (first | refine hl_load1 rfl t99 hv rfl ?_ | refine go1_ ?_ | refine bx_ (fun _ => ?_))
  refine hc_loopd (fun q fr M => ∃ (G : List Dc) (j : Nat) (U : List Value), j + G.length = L.length ∧ q = G.length ∧ C.drop (j * 4) = U ∧ DsC w0 B M0 G U ∧ (∀ D ∈ G, D ∈ L) ∧ ((∀ D ∈ G, RtQ D) → ∀ D ∈ L, RtQ D) ∧ Imp M M0 ∧ Agr fr [(2, .pointer (some ⟨g2, 0, none⟩)), (5, .pointer (some ⟨g5, 0, none⟩)), (39, .slice (some ⟨g99, 0, none⟩) 3 3), (40, .int .i64 3), (41, .int .i64 (i : Int)), (45, .slice va L.length vc), (46, .int .i64 (L.length : Int)), (47, .int .i64 (j : Int))]) L.length ?_ ?_
  · exact ⟨L, 0, C, by omega, rfl, by simp, rC, fun D h => h, fun h => h, Imp.refl _, rfl, rfl, rfl, rfl, rfl, rfl, rfl, rfl, trivial⟩
  rintro q2 fr M ⟨G, j, U, hj, rfl, hU, hG, hGL, hGr, him, hf⟩
  obtain ⟨base, rfl⟩ := hf.out
  clear hf
  refine HC.imp ?_ him
  clear him M
  cases G with
  | nil =>
    rw [List.length_nil] at hj
    repeat (first | refine go_ ?_ | refine bx_ (fun _ => ?_))
    exact ⟨q - 1, by omega, _, Imp.refl _, i + 1, by omega, fun k L' hk hL' => by
      by_cases e : k = i
      · subst e
        rw [hL] at hL'
        obtain rfl := Option.some.inj hL'
        exact hGr (by simp)
      · exact hall k L' (by omega) hL', Imp.refl _, rfl, rfl, rfl, rfl, rfl, trivial⟩
  | cons d r =>
    rw [List.length_cons] at hj
    obtain ⟨kv, C', rfl, hk, hr⟩ := hG
    obtain ⟨ka, kc, rfl⟩ := hk.form
    obtain ⟨hcell, hnx⟩ := dropN hU rfl
    obtain ⟨bb, off, rfl⟩ := cC.pos (by omega)
    obtain ⟨m1, m2, m3⟩ := hsmD d (hmem d (hGL d (by simp)))
    obtain ⟨b, hb1⟩ := ex_b (RtQ d)
    have cr := fun e : Ent => hR d (.slice ka d.F.len kc) (e :: M0) b (hk.imp (Imp.drop (Imp.refl _))) m1 m2 m3 hb1
    cases b with
    | true =>
      repeat (first | refine hl_loadRN (l := C) rfl cC.rd (Imp.refl _) hcell rfl rfl ?_ | refine go1_ ?_ | refine bx_ (fun _ => ?_) | refine hl_callv rfl rfl (cr _) ?_)
      exact ⟨r.length, by rw [List.length_cons]; omega, _, Imp.drop (Imp.refl _), r, j + 1, C', by omega, rfl, hnx, hr, fun D h => hGL D (by simp [h]), fun h => hGr fun D hD => by
        rcases List.mem_cons.1 hD with rfl | hD
        · exact hb1.1 rfl
        · exact h D hD, Imp.refl _, rfl, rfl, rfl, rfl, rfl, rfl, rfl, rfl, trivial⟩
    | false =>
      have hg : getS l = (Stt.zero, 22) := by
        unfold getS; rw [hSR2]; dsimp only [Stt.all]; rw [he, if_neg (by decide), if_neg (fun h => by cases hb1.2 (h d (hmem d (hGL d (by simp)))))]
      repeat (first | refine hl_loadRN (l := C) rfl cC.rd (Imp.refl _) hcell rfl rfl ?_ | refine go1_ ?_ | refine bx_ (fun _ => ?_) | refine hl_callv rfl rfl (cr _) ?_)
      rename_i g9
      rw [hM0]
      repeat (first | refine go_ ?_ | refine bx_ (fun _ => ?_))
      refine finCI (n := 6) rfl rfl .here rfl rfl ⟨.slice none 0 0, .slice none 0 0, .slice none 0 0, [], ?_, Imp.refl _, ?_⟩ (Imp.drop (Imp.drop (Imp.drop (Imp.drop (Imp.drop (Imp.drop iX3))))))
      · rw [hg]; rfl
      · rw [hg]; exact StR.zero
end
end Go.Proofs.Ytoobhebbgbhahaa
namespace Go.Proofs.Ytoobhebbgbhahaa
def SmL (x : Rl) : Prop := x.l.P.length ≤ 2000 ∧ x.l.M.length ≤ 2000 ∧ x.l.Q.length ≤ 100
theorem Ly.put_le {l : Ly} (hw : l.wf NN) (h1 : l.P.length ≤ 2000) (h2 : l.M.length ≤ 2000) (h3 : l.Q.length ≤ 100) : l.put.length ≤ 23200 := by
  obtain ⟨wh, wP, wm, wt, wQ, _, _, _⟩ := hw
  have e1 := length_numsB_le wh
  have e2 := length_numsB_le wP
  have e3 := length_numB_le (n := (l.P.length : Int)) ⟨by omega, by omega⟩
  have e4 := length_numB_le (n := (l.M.length : Int)) ⟨by omega, by omega⟩
  have e5 := length_numsB_le wm
  have e6 := length_numsB_le (l := [fl l.s, l.t]) (fun n hn => by
    simp only [List.mem_cons, List.not_mem_nil, or_false] at hn
    rcases hn with rfl | rfl
    · exact i64fl _
    · exact wt)
  have e7 := length_numsB_le wQ
  have e8 := length_numB_le (n := (l.Q.length : Int)) ⟨by omega, by omega⟩
  simp only [List.length_cons, List.length_nil] at e1 e5 e6
  unfold Ly.put lstB
  simp only [List.length_append]
  omega
theorem Fo.body_le : ∀ (F : Fo) (t : Int), F.wf NN → (∀ x ∈ F.flat t, SmL x) → F.cnt ≤ 1000000 → F.body.length ≤ F.cnt * 23210
  | .nil, _, _, _, _ => Nat.zero_le _
  | .cons l k r, t, ⟨h1, _, h3, h4⟩, hs, hc => by
    rw [Fo.cnt] at hc ⊢
    rw [Fo.flat] at hs
    obtain ⟨s1, s2, s3⟩ := hs ⟨t, l⟩ (by simp)
    have a := Ly.put_le h1 s1 s2 s3
    have b := Fo.body_le k l.i h3 (fun x hx => hs x (by simp [hx])) (by omega)
    have c := Fo.body_le r t h4 (fun x hx => hs x (by simp [hx])) (by omega)
    have hk := k.len_cnt
    have d := length_numB_le (n := (k.len : Int)) ⟨by omega, by omega⟩
    rw [Fo.body]
    simp only [List.length_append]
    omega
theorem Fo.wf_small : ∀ (F : Fo) (t : Int), F.wf NN → (∀ x ∈ F.flat t, SmL x) → F.cnt ≤ 1000000 → F.wf 1000000
  | .nil, _, _, _, _ => trivial
  | .cons l k r, t, ⟨h1, _, h3, h4⟩, hs, hc => by
    rw [Fo.cnt] at hc
    rw [Fo.flat] at hs
    obtain ⟨s1, s2, s3⟩ := hs ⟨t, l⟩ (by simp)
    dsimp only at s1 s2 s3
    have hk := k.len_cnt
    exact ⟨⟨h1.hd, h1.P, h1.mp, h1.t, h1.Q, by omega, by omega, by omega⟩, by omega, Fo.wf_small k l.i h3 (fun x hx => hs x (by simp [hx])) (by omega), Fo.wf_small r t h4 (fun x hx => hs x (by simp [hx])) (by omega)⟩
theorem Fo.cnt_body : ∀ F : Fo, F.cnt ≤ F.body.length
  | .nil => Nat.le_refl _
  | .cons l k r => by
    have a := k.cnt_body
    have b := r.cnt_body
    have c := length_lyr l
    rw [Fo.cnt, Fo.body]
    simp only [List.length_append]; omega
/-- A document that goes through. -/
theorem good_doc {D : Dc} (hw : D.wf NN) (hg : Good (D.F.flat 0)) (hl : (D.F.flat 0).length ≤ 300) : D.ok ∧ D.wf 1000000 ∧ D.put.length ≤ 7000100 := by
  have hc : D.F.cnt ≤ 300 := by rw [← D.F.flat_len 0]; exact hl
  have hs : ∀ x ∈ D.F.flat 0, SmL x := fun x hx => (hg.sm x hx).2
  have hids := D.F.flat_ids 0
  have hln := D.F.len_cnt
  refine ⟨⟨by rw [← hids]; exact hg.nd, fun h => ?_, by omega⟩, ⟨hw.n, Fo.wf_small D.F 0 hw.F hs (by omega), by omega⟩, ?_⟩
  · rw [← hids] at h
    obtain ⟨x, hx, e⟩ := List.mem_map.1 h
    exact (hg.sm x hx).1 e
  · have a := Fo.body_le D.F 0 hw.F hs (by omega)
    have b := length_numsB_le hw.n
    have c := length_numB_le (n := (D.F.len : Int)) ⟨by omega, by omega⟩
    simp only [List.length_cons, List.length_nil] at b
    unfold Dc.put Fo.put
    simp only [List.length_append]
    omega
theorem docs_le {L : List Dc} {m : Nat} (h : ∀ D ∈ L, D.put.length ≤ m) : (docsB L).length ≤ L.length * m := by
  induction L with
  | nil => simp [docsB]
  | cons D L ih =>
    have a := ih (fun D' h' => h D' (by simp [h']))
    have b := h D (by simp)
    rw [docsB_cons, List.length_append, List.length_cons, Nat.add_mul, Nat.one_mul]
    omega
/-- A state that goes through. -/
theorem good_state {S : Stt} (hw : S.wf NN) (hg : ∀ D ∈ S.all, Good (D.F.flat 0) ∧ (D.F.flat 0).length ≤ 300) (hA : S.A.length ≤ 8) (hB : S.B.length ≤ 8) : (∀ D ∈ S.all, D.ok) ∧ S.wf 1000000 ∧ S.put.length ≤ 200000000 := by
  have hd : ∀ D ∈ S.all, D.wf NN := fun D h => by
    simp only [Stt.all, List.mem_cons, List.mem_append] at h
    rcases h with rfl | h | h
    · exact hw.D
    · exact hw.A D h
    · exact hw.B D h
  have ha := fun D h => good_doc (hd D h) (hg D h).1 (hg D h).2
  have mA : ∀ D ∈ S.A, D ∈ S.all := fun D h => by simp [Stt.all, h]
  have mB : ∀ D ∈ S.B, D ∈ S.all := fun D h => by simp [Stt.all, h]
  have mD : S.D ∈ S.all := by simp [Stt.all]
  refine ⟨fun D h => (ha D h).1, ⟨(ha _ mD).2.1, fun D h => (ha D (mA D h)).2.1, fun D h => (ha D (mB D h)).2.1, by omega, by omega⟩, ?_⟩
  have a := docs_le fun D h => (ha D (mA D h)).2.2
  have b := docs_le fun D h => (ha D (mB D h)).2.2
  have c := (ha _ mD).2.2
  have d := length_numB_le (n := (S.A.length : Int)) ⟨by omega, by omega⟩
  have e := length_numB_le (n := (S.B.length : Int)) ⟨by omega, by omega⟩
  have a2 : S.A.length * 7000100 ≤ 8 * 7000100 := Nat.mul_le_mul_right _ hA
  have b2 : S.B.length * 7000100 ≤ 8 * 7000100 := Nat.mul_le_mul_right _ hB
  unfold Stt.put
  simp only [List.length_append]
  omega
theorem endE_nil {s : Rd} (h : s.endE = 0) : s.e = 0 ∧ s.l = [] := by
  unfold Rd.endE at h
  by_cases h1 : s.e = 0 ∧ s.l ≠ []
  · rw [if_pos h1] at h; cases h
  · rw [if_neg h1] at h
    exact ⟨h, Classical.byContradiction fun h2 => h1 ⟨h, h2⟩⟩
/-- What is read of a state's bytes without an error is the state. -/
theorem getSR_put {S : Stt} (hw : S.wf 1000000) (hb : S.put.length ≤ 1000000000) (h : (getSR S.put).2.endE = 0) : (getSR S.put).1 = S ∧ ∀ D ∈ S.all, D.F.dep ≤ 64 := by
  obtain ⟨h0, hl⟩ := endE_nil h
  obtain ⟨g1, g2, g3⟩ := getSR_was (N := 1000000000) h0 hb
  rw [hl, List.append_nil] at g1
  have up : ∀ {D : Dc}, D.wf 1000000 → D.wf 1000000000 := fun {D} hd => ⟨hd.n, by
    have : ∀ F : Fo, F.wf 1000000 → F.wf 1000000000 := fun F => by
      induction F with
      | nil => exact fun _ => trivial
      | cons l k r ihk ihr => exact fun ⟨a, b, c, d⟩ => ⟨⟨a.hd, a.P, a.mp, a.t, a.Q, by have := a.Pl; omega, by have := a.Ml; omega, by have := a.Ql; omega⟩, by omega, ihk c, ihr d⟩
    exact this _ hd.F, by have := hd.l; omega⟩
  have hw9 : S.wf 1000000000 := ⟨up hw.D, fun D h => up (hw.A D h), fun D h => up (hw.B D h), by have := hw.Al; omega, by have := hw.Bl; omega⟩
  have e := Stt.put_inj (Nat.le_refl _) hw9 g2 g1
  exact ⟨e.symm, by rw [e]; exact g3⟩
theorem smS_put {S : Stt} (hw : S.wf 1000000) (hb : S.put.length ≤ 1000000000) (hc : ∀ D ∈ S.all, D.ok) : SmS S.put := fun h D hD => by
  obtain ⟨e, hd⟩ := getSR_put hw hb h
  rw [e] at hD
  refine ⟨hd D hD, ?_, (hc D hD).c⟩
  simp only [Stt.all, List.mem_cons, List.mem_append] at hD
  rcases hD with rfl | h | h
  · exact hw.D.F
  · exact (hw.A D h).F
  · exact (hw.B D h).F
theorem getS_put {S : Stt} (hw : S.wf 1000000) (hb : S.put.length ≤ 1000000000) (h : (getS S.put).2 = 0) : (getS S.put).1 = S := by
  unfold getS at h ⊢
  by_cases h1 : (getSR S.put).2.endE ≠ 0
  · rw [if_pos h1] at h; exact absurd h h1
  rw [if_neg h1] at h ⊢
  have e := (getSR_put hw hb (Classical.not_not.1 h1)).1
  split
  · exact e
  · rename_i h2; rw [if_neg h2] at h; cases h
end Go.Proofs.Ytoobhebbgbhahaa
