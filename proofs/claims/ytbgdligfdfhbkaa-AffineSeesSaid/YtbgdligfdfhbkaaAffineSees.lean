/-
  The statement AffineSees holds, whatever the picture, the map and the size.
-/
import Derived.Test.YtbgdligfdfhbkaaA10
namespace Go.Proofs.Ytbgdligfdfhbkaa.affineSees
open Go.RowKit
set_option maxHeartbeats 16000000 in
set_option maxRecDepth 100000 in
theorem law {w0 : World} {B : Nat} {M : List Ent} (W H : Int) {a : Option Addr} {n cap : Nat} {f : Nat → Int} (hN : n ≤ 2000 → ∀ E, Nums w0 B E a n f) (hRd : n ≤ 2000 → ∀ E, Rds w0 B E a (tab n f)) (hn9 : n ≤ 9223372036854775807) (m : Nat → Int) (hm : Sm m) (w h : Int) (sm : Bool) :
    Fn Try.prog w0 B 4 [picV W H a n cap, mapV m, .int .i64 w, .int .i64 h, .bool sm] M (fun u _ => u = .bool true) := by
  refine fn_intro Try.func4 rfl (by kernel_rfl) rfl ?_
  unfold picV mapV
  iterate 4 (first | refine go_ ?_ | refine bx_ (fun _ => ?_) | refine hl_callv rfl rfl anchor_fn ?_)
  refine hl_callv rfl rfl anchor_fn ?_
  iterate 5 (refine go1_ ?_)
  rename_i g5 g6
  refine hc_meet (fun fr X => Agr fr [(2, .int .i64 w), (3, .int .i64 h), (4, .bool sm), (5, .pointer (some ⟨g5, 0, none⟩)), (6, .pointer (some ⟨g6, 0, none⟩))] ∧ X = ⟨g6, 23, tab 6 m, 6⟩ :: ⟨g5, 34, [.int .i64 W, .int .i64 H, .slice a n cap], 3⟩ :: M ∧ n ≤ 2000 ∧ (0 < w → 0 < h → Sz w h → w * h ≤ 2000)) ?_ ?_
  · by_cases h1 : 2000 < n
    · repeat (first | refine go_ ?_ | refine bx_ (fun _ => ?_))
      exact fin1B rfl rfl rfl
    by_cases hw : 0 < w
    rotate_left
    · repeat (first | refine go_ ?_ | refine bx_ (fun _ => ?_))
      exact ⟨⟨rfl, rfl, rfl, rfl, rfl, trivial⟩, rfl, by omega, fun h _ _ => absurd h hw⟩
    by_cases hh : 0 < h
    rotate_left
    · repeat (first | refine go_ ?_ | refine bx_ (fun _ => ?_))
      exact ⟨⟨rfl, rfl, rfl, rfl, rfl, trivial⟩, rfl, by omega, fun _ h _ => absurd h hh⟩
    by_cases hw3 : w ≤ 32768
    rotate_left
    · repeat (first | refine go_ ?_ | refine bx_ (fun _ => ?_))
      exact ⟨⟨rfl, rfl, rfl, rfl, rfl, trivial⟩, rfl, by omega, fun _ _ h => absurd h.2.1 hw3⟩
    by_cases hh3 : h ≤ 32768
    rotate_left
    · repeat (first | refine go_ ?_ | refine bx_ (fun _ => ?_))
      exact ⟨⟨rfl, rfl, rfl, rfl, rfl, trivial⟩, rfl, by omega, fun _ _ h => absurd h.2.2.2.1 hh3⟩
    have hb := mul_bd (a := w) (b := h) (M := 32768) (N := 32768) (by omega) (by omega)
    by_cases hp : 2000 < w * h
    rotate_left
    · repeat (first | refine go_ ?_ | refine bx_ (fun _ => ?_))
      exact ⟨⟨rfl, rfl, rfl, rfl, rfl, trivial⟩, rfl, by omega, fun _ _ _ => by omega⟩
    by_cases hq : w * h ≤ 4194304
    · repeat (first | refine go_ ?_ | refine bx_ (fun _ => ?_))
      exact fin1B rfl rfl rfl
    · repeat (first | refine go_ ?_ | refine bx_ (fun _ => ?_))
      exact ⟨⟨rfl, rfl, rfl, rfl, rfl, trivial⟩, rfl, by omega, fun _ _ h => absurd h.2.2.2.2 hq⟩
  rintro fr X ⟨hf, rfl, hn2, hwh2⟩
  obtain ⟨base, rfl⟩ := hf.out
  clear hf
  replace hN := hN hn2
  replace hRd := hRd hn2
  have hbd := (hN M).bd
  repeat (first | refine go_ ?_ | refine bx_ (fun _ => ?_))
  refine hl_append rfl rfl .here rfl (hRd _) (by simp [length_tab]) rfl (by decide) (by decide) (by omega) (by omega) rfl (fun gg cg h1 h2 => ?_)
  rw [Nat.zero_add, List.nil_append]
  have hs : ∀ (E : List Ent) (a : Option Addr) (cap : Nat), Nums w0 B E a n f → Fn Try.prog w0 B 15 [.agg [.int .i64 W, .int .i64 H, .slice a n cap].toArray, .agg (tab 6 m).toArray, .int .i64 w, .int .i64 h, .bool sm] E (fun r M' => SeeR m W H n f w h sm E r M') := fun E a cap hN => see_fn W H hN m hm w h sm
  have hsr : ∀ (E : List Ent), Fn Try.prog w0 B 16 [.agg [.int .i64 W, .int .i64 H, .slice a n cap].toArray, .agg (tab 6 m).toArray, .int .i64 w, .int .i64 h, .bool sm] E (fun r M' => SeeR m W H n f w h sm E r M') := fun E => rsee_fn W H (hN E) m hm w h sm
  have hpl : ∀ E, Fn Try.prog w0 B 17 [.agg [.int .i64 W, .int .i64 H, .slice a n cap].toArray] E (fun r M' => r = .agg [.int .i64 W, .int .i64 H, .slice a n cap].toArray ∧ M' = E) := fun E => plain_fn W H a n cap
  have hbk : ∀ E, Fn Try.prog w0 B 13 [.agg (tab 6 m).toArray] E (fun v H' => v = .tuple #[.agg (tab 6 (backR m).1).toArray, .int .i64 (backR m).2] ∧ H' = E) := fun E => back_fn m hm
  by_cases hE : seeE m W H n f w h ≠ 0
  · repeat (first | refine go_ ?_ | refine bx_ (fun _ => ?_))
    refine hl_callv rfl rfl (see_err (hs _ _ _ (nums_own (by first | exact .here | exact (.there .here) | exact (.there (.there .here)) | exact (.there (.there (.there .here))) | exact (.there (.there (.there (.there .here)))) | exact (.there (.there (.there (.there (.there .here))))) | exact (.there (.there (.there (.there (.there (.there .here)))))) | exact (.there (.there (.there (.there (.there (.there (.there .here))))))) | exact (.there (.there (.there (.there (.there (.there (.there (.there .here))))))))) hbd (by omega))) hE) ?_
    repeat (first | refine go_ ?_ | refine bx_ (fun _ => ?_))
    have hr : ∀ E, Fn Try.prog w0 B 16 [.agg [.int .i64 W, .int .i64 H, .slice a n cap].toArray, .agg (tab 6 m).toArray, .int .i64 w, .int .i64 h, .bool sm] E (fun u H' => u = .tuple #[.agg [.int .i64 0, .int .i64 0, .slice none 0 0].toArray, .int .i64 (seeE m W H n f w h)] ∧ H' = E) := fun E => see_err (hsr E) hE
    generalize seeE m W H n f w h = er at *
    rename_i g12
    refine hc_meet (fun fr X => ∃ g14, Agr fr [(2, .int .i64 w), (3, .int .i64 h), (4, .bool sm), (5, .pointer (some ⟨g5, 0, none⟩)), (6, .pointer (some ⟨g6, 0, none⟩)), (11, .slice (some ⟨gg, 0, none⟩) n cg), (12, .pointer (some ⟨g12, 0, none⟩)), (13, .int .i64 er), (14, .pointer (some ⟨g14, 0, none⟩)), (15, .int .i64 er)] ∧ X = ⟨g14, 37, [.int .i64 0, .int .i64 0, .slice none 0 0], 3⟩ :: ⟨g12, 34, [.int .i64 0, .int .i64 0, .slice none 0 0], 3⟩ :: ⟨gg, 3, tab n f, cg * 1⟩ :: ⟨g6, 23, tab 6 m, 6⟩ :: ⟨g5, 34, [.int .i64 W, .int .i64 H, .slice a n cap], 3⟩ :: M) ?_ ?_
    · refine hc_drawA (⟨g12, 34, [.int .i64 0, .int .i64 0, .slice none 0 0], 3⟩ :: ⟨gg, 3, tab n f, cg * 1⟩ :: ⟨g6, 23, tab 6 m, 6⟩ :: ⟨g5, 34, [.int .i64 W, .int .i64 H, .slice a n cap], 3⟩ :: M) (by kernel_rfl) ?_
      refine ha_quiet [0, 1, 2, 3, 4, 5, 6, 7, 8, 9] (by rfl) (by kernel_rfl) ?_
      repeat (first | refine gd_ ?_ | refine hq_call rfl rfl (fun E _ => hpl E) ?_ | refine hq_call rfl rfl (fun E _ => hr E) ?_)
      refine ha_fork1 10 (by rfl) (by kernel_rfl) (by rfl) (by first | exact Imp.refl _ | exact Imp.drop (Imp.refl _) | exact Imp.drop (Imp.drop (Imp.refl _)) | exact Imp.drop (Imp.drop (Imp.drop (Imp.refl _))) | exact Imp.drop (Imp.drop (Imp.drop (Imp.drop (Imp.refl _)))) | exact Imp.drop (Imp.drop (Imp.drop (Imp.drop (Imp.drop (Imp.refl _))))) | exact Imp.drop (Imp.drop (Imp.drop (Imp.drop (Imp.drop (Imp.drop (Imp.refl _)))))) | exact Imp.drop (Imp.drop (Imp.drop (Imp.drop (Imp.drop (Imp.drop (Imp.drop (Imp.refl _))))))) | exact Imp.drop (Imp.drop (Imp.drop (Imp.drop (Imp.drop (Imp.drop (Imp.drop (Imp.drop (Imp.refl _))))))))) ?_
      · skip
        repeat (first | refine op_ ?_ | refine bx_ (fun _ => ?_))
        refine ha_fork1 11 (by rfl) (by kernel_rfl) (by rfl) (by first | exact Imp.refl _ | exact Imp.drop (Imp.refl _) | exact Imp.drop (Imp.drop (Imp.refl _)) | exact Imp.drop (Imp.drop (Imp.drop (Imp.refl _))) | exact Imp.drop (Imp.drop (Imp.drop (Imp.drop (Imp.refl _)))) | exact Imp.drop (Imp.drop (Imp.drop (Imp.drop (Imp.drop (Imp.refl _))))) | exact Imp.drop (Imp.drop (Imp.drop (Imp.drop (Imp.drop (Imp.drop (Imp.refl _)))))) | exact Imp.drop (Imp.drop (Imp.drop (Imp.drop (Imp.drop (Imp.drop (Imp.drop (Imp.refl _))))))) | exact Imp.drop (Imp.drop (Imp.drop (Imp.drop (Imp.drop (Imp.drop (Imp.drop (Imp.drop (Imp.refl _))))))))) ?_
        · skip
          repeat (first | refine op_ ?_ | refine bx_ (fun _ => ?_))
          refine ha_quiet [12] (by rfl) (by kernel_rfl) ?_
          repeat (first | refine gd_ ?_ | refine hq_call rfl rfl (fun E _ => hpl E) ?_ | refine hq_call rfl rfl (fun E _ => hr E) ?_)
          refine ha_end (by rfl) (by kernel_rfl) (by first | exact Imp.refl _ | exact Imp.drop (Imp.refl _) | exact Imp.drop (Imp.drop (Imp.refl _)) | exact Imp.drop (Imp.drop (Imp.drop (Imp.refl _))) | exact Imp.drop (Imp.drop (Imp.drop (Imp.drop (Imp.refl _)))) | exact Imp.drop (Imp.drop (Imp.drop (Imp.drop (Imp.drop (Imp.refl _))))) | exact Imp.drop (Imp.drop (Imp.drop (Imp.drop (Imp.drop (Imp.drop (Imp.refl _)))))) | exact Imp.drop (Imp.drop (Imp.drop (Imp.drop (Imp.drop (Imp.drop (Imp.drop (Imp.refl _))))))) | exact Imp.drop (Imp.drop (Imp.drop (Imp.drop (Imp.drop (Imp.drop (Imp.drop (Imp.drop (Imp.refl _))))))))) ?_
          exact ⟨_, ⟨rfl, rfl, rfl, rfl, rfl, rfl, rfl, rfl, rfl, rfl, trivial⟩, rfl⟩
    rintro fr X ⟨g14, hf, rfl⟩
    obtain ⟨base, rfl⟩ := hf.out
    clear hf
    repeat (first | refine go_ ?_ | refine bx_ (fun _ => ?_) | refine hl_callv rfl rfl (same_fn (f := fun _ => 0) (g := fun _ => 0) nums_zero nums_zero (fun i hi => absurd hi (by omega))) ?_ | refine hl_callv rfl rfl (same_fn (nums_own (by first | exact .here | exact (.there .here) | exact (.there (.there .here)) | exact (.there (.there (.there .here))) | exact (.there (.there (.there (.there .here)))) | exact (.there (.there (.there (.there (.there .here))))) | exact (.there (.there (.there (.there (.there (.there .here)))))) | exact (.there (.there (.there (.there (.there (.there (.there .here))))))) | exact (.there (.there (.there (.there (.there (.there (.there (.there .here))))))))) hbd (by omega)) (hN _) (fun _ _ => rfl)) ?_ | refine hl_callv rfl rfl (hbk _) ?_)
    refine hc_rounds 1 ?_
    repeat (first | refine go_ ?_ | refine bx_ (fun _ => ?_))
    exact fin1B rfl rfl rfl
  replace hE := Classical.not_not.1 hE
  obtain ⟨hR, hS⟩ := seeE_pic hE
  obtain ⟨s1, s2, s3, s4, s5⟩ := id hS
  have hwh : 0 ≤ w * h := Int.mul_nonneg s1 s3
  obtain ⟨N, hNN⟩ : ∃ N : Nat, w * h = (N : Int) := ⟨(w * h).toNat, by omega⟩
  have hNt : (w * h).toNat = N := by omega
  by_cases hN0 : N = 0
  · subst hN0
    repeat (first | refine go_ ?_ | refine bx_ (fun _ => ?_))
    refine hl_call rfl rfl (see_zero (hs _ _ _ (nums_own (by first | exact .here | exact (.there .here) | exact (.there (.there .here)) | exact (.there (.there (.there .here))) | exact (.there (.there (.there (.there .here)))) | exact (.there (.there (.there (.there (.there .here))))) | exact (.there (.there (.there (.there (.there (.there .here)))))) | exact (.there (.there (.there (.there (.there (.there (.there .here))))))) | exact (.there (.there (.there (.there (.there (.there (.there (.there .here))))))))) hbd (by omega))) hE hNt) (fun r M' hr => ?_)
    obtain ⟨⟨a1, c1, rfl⟩, rfl⟩ := hr
    repeat (first | refine go_ ?_ | refine bx_ (fun _ => ?_))
    rename_i g12
    refine hc_meet (fun fr X => ∃ g14 a2 c2, Agr fr [(2, .int .i64 w), (3, .int .i64 h), (4, .bool sm), (5, .pointer (some ⟨g5, 0, none⟩)), (6, .pointer (some ⟨g6, 0, none⟩)), (11, .slice (some ⟨gg, 0, none⟩) n cg), (12, .pointer (some ⟨g12, 0, none⟩)), (13, .int .i64 0), (14, .pointer (some ⟨g14, 0, none⟩)), (15, .int .i64 0)] ∧ X = ⟨g14, 37, [.int .i64 w, .int .i64 h, .slice a2 0 c2], 3⟩ :: ⟨g12, 34, [.int .i64 w, .int .i64 h, .slice a1 0 c1], 3⟩ :: ⟨gg, 3, tab n f, cg * 1⟩ :: ⟨g6, 23, tab 6 m, 6⟩ :: ⟨g5, 34, [.int .i64 W, .int .i64 H, .slice a n cap], 3⟩ :: M) ?_ ?_
    · refine hc_drawA (⟨g12, 34, [.int .i64 w, .int .i64 h, .slice a1 0 c1], 3⟩ :: ⟨gg, 3, tab n f, cg * 1⟩ :: ⟨g6, 23, tab 6 m, 6⟩ :: ⟨g5, 34, [.int .i64 W, .int .i64 H, .slice a n cap], 3⟩ :: M) (by kernel_rfl) ?_
      refine ha_quiet [0, 1, 2, 3, 4, 5] (by rfl) (by kernel_rfl) ?_
      repeat (first | refine gd_ ?_ | refine hq_call rfl rfl (fun E _ => hpl E) ?_)
      refine ha_fork2 6 10 (by rfl) (by kernel_rfl) (by rfl) (by rfl) (by first | exact Imp.refl _ | exact Imp.drop (Imp.refl _) | exact Imp.drop (Imp.drop (Imp.refl _)) | exact Imp.drop (Imp.drop (Imp.drop (Imp.refl _))) | exact Imp.drop (Imp.drop (Imp.drop (Imp.drop (Imp.refl _)))) | exact Imp.drop (Imp.drop (Imp.drop (Imp.drop (Imp.drop (Imp.refl _))))) | exact Imp.drop (Imp.drop (Imp.drop (Imp.drop (Imp.drop (Imp.drop (Imp.refl _)))))) | exact Imp.drop (Imp.drop (Imp.drop (Imp.drop (Imp.drop (Imp.drop (Imp.drop (Imp.refl _))))))) | exact Imp.drop (Imp.drop (Imp.drop (Imp.drop (Imp.drop (Imp.drop (Imp.drop (Imp.drop (Imp.refl _))))))))) ?_ ?_
      · skip
        refine hl_call rfl rfl (see_zero (hsr _) hE hNt) (fun r M' hr => ?_)
        obtain ⟨⟨a2, c2, rfl⟩, rfl⟩ := hr
        repeat (first | refine op_ ?_ | refine bx_ (fun _ => ?_))
        refine ha_quiet [7, 8, 9] (by rfl) (by kernel_rfl) ?_
        repeat (first | refine gd_ ?_ | refine hq_call rfl rfl (fun E _ => hpl E) ?_)
        refine ha_fork1 10 (by rfl) (by kernel_rfl) (by rfl) (by first | exact Imp.refl _ | exact Imp.drop (Imp.refl _) | exact Imp.drop (Imp.drop (Imp.refl _)) | exact Imp.drop (Imp.drop (Imp.drop (Imp.refl _))) | exact Imp.drop (Imp.drop (Imp.drop (Imp.drop (Imp.refl _)))) | exact Imp.drop (Imp.drop (Imp.drop (Imp.drop (Imp.drop (Imp.refl _))))) | exact Imp.drop (Imp.drop (Imp.drop (Imp.drop (Imp.drop (Imp.drop (Imp.refl _)))))) | exact Imp.drop (Imp.drop (Imp.drop (Imp.drop (Imp.drop (Imp.drop (Imp.drop (Imp.refl _))))))) | exact Imp.drop (Imp.drop (Imp.drop (Imp.drop (Imp.drop (Imp.drop (Imp.drop (Imp.drop (Imp.refl _))))))))) ?_
        · skip
          repeat (first | refine op_ ?_ | refine bx_ (fun _ => ?_))
          refine ha_fork1 11 (by rfl) (by kernel_rfl) (by rfl) (by first | exact Imp.refl _ | exact Imp.drop (Imp.refl _) | exact Imp.drop (Imp.drop (Imp.refl _)) | exact Imp.drop (Imp.drop (Imp.drop (Imp.refl _))) | exact Imp.drop (Imp.drop (Imp.drop (Imp.drop (Imp.refl _)))) | exact Imp.drop (Imp.drop (Imp.drop (Imp.drop (Imp.drop (Imp.refl _))))) | exact Imp.drop (Imp.drop (Imp.drop (Imp.drop (Imp.drop (Imp.drop (Imp.refl _)))))) | exact Imp.drop (Imp.drop (Imp.drop (Imp.drop (Imp.drop (Imp.drop (Imp.drop (Imp.refl _))))))) | exact Imp.drop (Imp.drop (Imp.drop (Imp.drop (Imp.drop (Imp.drop (Imp.drop (Imp.drop (Imp.refl _))))))))) ?_
          · skip
            repeat (first | refine op_ ?_ | refine bx_ (fun _ => ?_))
            refine ha_quiet [12] (by rfl) (by kernel_rfl) ?_
            repeat (first | refine gd_ ?_ | refine hq_call rfl rfl (fun E _ => hpl E) ?_)
            refine ha_end (by rfl) (by kernel_rfl) (by first | exact Imp.refl _ | exact Imp.drop (Imp.refl _) | exact Imp.drop (Imp.drop (Imp.refl _)) | exact Imp.drop (Imp.drop (Imp.drop (Imp.refl _))) | exact Imp.drop (Imp.drop (Imp.drop (Imp.drop (Imp.refl _)))) | exact Imp.drop (Imp.drop (Imp.drop (Imp.drop (Imp.drop (Imp.refl _))))) | exact Imp.drop (Imp.drop (Imp.drop (Imp.drop (Imp.drop (Imp.drop (Imp.refl _)))))) | exact Imp.drop (Imp.drop (Imp.drop (Imp.drop (Imp.drop (Imp.drop (Imp.drop (Imp.refl _))))))) | exact Imp.drop (Imp.drop (Imp.drop (Imp.drop (Imp.drop (Imp.drop (Imp.drop (Imp.drop (Imp.refl _))))))))) ?_
            exact ⟨_, _, _, ⟨rfl, rfl, rfl, rfl, rfl, rfl, rfl, rfl, rfl, rfl, trivial⟩, rfl⟩
      · skip
        repeat (first | refine op_ ?_ | refine bx_ (fun _ => ?_))
        refine ha_fork1 6 (by rfl) (by kernel_rfl) (by rfl) (by first | exact Imp.refl _ | exact Imp.drop (Imp.refl _) | exact Imp.drop (Imp.drop (Imp.refl _)) | exact Imp.drop (Imp.drop (Imp.drop (Imp.refl _))) | exact Imp.drop (Imp.drop (Imp.drop (Imp.drop (Imp.refl _)))) | exact Imp.drop (Imp.drop (Imp.drop (Imp.drop (Imp.drop (Imp.refl _))))) | exact Imp.drop (Imp.drop (Imp.drop (Imp.drop (Imp.drop (Imp.drop (Imp.refl _)))))) | exact Imp.drop (Imp.drop (Imp.drop (Imp.drop (Imp.drop (Imp.drop (Imp.drop (Imp.refl _))))))) | exact Imp.drop (Imp.drop (Imp.drop (Imp.drop (Imp.drop (Imp.drop (Imp.drop (Imp.drop (Imp.refl _))))))))) ?_
        · skip
          refine hl_call rfl rfl (see_zero (hsr _) hE hNt) (fun r M' hr => ?_)
          obtain ⟨⟨a2, c2, rfl⟩, rfl⟩ := hr
          repeat (first | refine op_ ?_ | refine bx_ (fun _ => ?_))
          refine ha_quiet [7, 8, 9] (by rfl) (by kernel_rfl) ?_
          repeat (first | refine gd_ ?_ | refine hq_call rfl rfl (fun E _ => hpl E) ?_)
          refine ha_fork1 11 (by rfl) (by kernel_rfl) (by rfl) (by first | exact Imp.refl _ | exact Imp.drop (Imp.refl _) | exact Imp.drop (Imp.drop (Imp.refl _)) | exact Imp.drop (Imp.drop (Imp.drop (Imp.refl _))) | exact Imp.drop (Imp.drop (Imp.drop (Imp.drop (Imp.refl _)))) | exact Imp.drop (Imp.drop (Imp.drop (Imp.drop (Imp.drop (Imp.refl _))))) | exact Imp.drop (Imp.drop (Imp.drop (Imp.drop (Imp.drop (Imp.drop (Imp.refl _)))))) | exact Imp.drop (Imp.drop (Imp.drop (Imp.drop (Imp.drop (Imp.drop (Imp.drop (Imp.refl _))))))) | exact Imp.drop (Imp.drop (Imp.drop (Imp.drop (Imp.drop (Imp.drop (Imp.drop (Imp.drop (Imp.refl _))))))))) ?_
          · skip
            repeat (first | refine op_ ?_ | refine bx_ (fun _ => ?_))
            refine ha_quiet [12] (by rfl) (by kernel_rfl) ?_
            repeat (first | refine gd_ ?_ | refine hq_call rfl rfl (fun E _ => hpl E) ?_)
            refine ha_end (by rfl) (by kernel_rfl) (by first | exact Imp.refl _ | exact Imp.drop (Imp.refl _) | exact Imp.drop (Imp.drop (Imp.refl _)) | exact Imp.drop (Imp.drop (Imp.drop (Imp.refl _))) | exact Imp.drop (Imp.drop (Imp.drop (Imp.drop (Imp.refl _)))) | exact Imp.drop (Imp.drop (Imp.drop (Imp.drop (Imp.drop (Imp.refl _))))) | exact Imp.drop (Imp.drop (Imp.drop (Imp.drop (Imp.drop (Imp.drop (Imp.refl _)))))) | exact Imp.drop (Imp.drop (Imp.drop (Imp.drop (Imp.drop (Imp.drop (Imp.drop (Imp.refl _))))))) | exact Imp.drop (Imp.drop (Imp.drop (Imp.drop (Imp.drop (Imp.drop (Imp.drop (Imp.drop (Imp.refl _))))))))) ?_
            exact ⟨_, _, _, ⟨rfl, rfl, rfl, rfl, rfl, rfl, rfl, rfl, rfl, rfl, trivial⟩, rfl⟩
    rintro fr X ⟨g14, a2, c2, hf, rfl⟩
    obtain ⟨base, rfl⟩ := hf.out
    clear hf
    repeat (first | refine go_ ?_ | refine bx_ (fun _ => ?_) | refine hl_callv rfl rfl (same_fn (f := fun _ => 0) (g := fun _ => 0) nums_zero nums_zero (fun i hi => absurd hi (by omega))) ?_ | refine hl_callv rfl rfl (same_fn (nums_own (by first | exact .here | exact (.there .here) | exact (.there (.there .here)) | exact (.there (.there (.there .here))) | exact (.there (.there (.there (.there .here)))) | exact (.there (.there (.there (.there (.there .here))))) | exact (.there (.there (.there (.there (.there (.there .here)))))) | exact (.there (.there (.there (.there (.there (.there (.there .here))))))) | exact (.there (.there (.there (.there (.there (.there (.there (.there .here))))))))) hbd (by omega)) (hN _) (fun _ _ => rfl)) ?_ | refine hl_callv rfl rfl (hbk _) ?_)
    refine hc_rounds 1 ?_
    repeat (first | refine go_ ?_ | refine bx_ (fun _ => ?_))
    exact fin1B rfl rfl rfl
  have hw0 : 0 < w := by
    rcases Int.lt_or_eq_of_le s1 with h | h
    · exact h
    · rw [← h, Int.zero_mul] at hNN; omega
  have hh0 : 0 < h := by
    rcases Int.lt_or_eq_of_le s3 with h' | h'
    · exact h'
    · rw [← h', Int.mul_zero] at hNN; omega
  have hN2 := hwh2 hw0 hh0 hS
  have hb0 : (backR m).2 = 0 := by
    by_cases hb : (backR m).2 = 0
    · exact hb
    · unfold seeE at hE
      rw [if_pos hb] at hE
      exact absurd hE hb
  have hat : ∀ (E : List Ent) (i : Nat), i < N → Fn Try.prog w0 B 19 [.agg [.int .i64 W, .int .i64 H, .slice a n cap].toArray, .agg (tab 6 (backR m).1).toArray, .int .i64 ((i : Int) % w), .int .i64 ((i : Int) / w), .bool sm] E (fun r M' => r = .int .i64 (seenZ m W H f w sm i) ∧ M' = E) := fun E i hi => by
    have e1 := Int.emod_nonneg (i : Int) (show w ≠ 0 by omega)
    have e2 := Int.emod_lt_of_pos (i : Int) hw0
    have e3 : 0 ≤ (i : Int) / w := Int.ediv_nonneg (by omega) s1
    have e4 : (i : Int) / w < h := Int.ediv_lt_of_lt_mul hw0 (by rw [Int.mul_comm]; omega)
    have := At_fn (cap := cap) ((hN E).pic hR) (backR m).1 (back_ok hb0) _ _ ⟨e1, by omega⟩ ⟨e3, by omega⟩ sm
    rw [Int.toNat_of_nonneg hR.1, Int.toNat_of_nonneg hR.2.2.1] at this
    exact this
  have hsn : ∀ i, 0 ≤ seenZ m W H f w sm i ∧ seenZ m W H f w sm i < 4294967296 := fun i => seen_bd (hN M) hE i
  have hp1 : ∀ (E : List Ent) (a : Option Addr) (cap : Nat), Nums w0 B E a n f → Fn Try.prog w0 B 15 [.agg [.int .i64 W, .int .i64 H, .slice a n cap].toArray, .agg (tab 6 m).toArray, .int .i64 w, .int .i64 h, .bool sm] E (fun u H' => ∃ g c, u = .tuple #[.agg [.int .i64 w, .int .i64 h, .slice (some ⟨g, 0, none⟩) N c].toArray, .int .i64 0] ∧ H' = ⟨g, 3, tab N (seenZ m W H f w sm), c * 1⟩ :: E) := fun E a cap hn => see_pos (hs E a cap hn) hE hNt (by omega)
  have hp2 : ∀ (E : List Ent), Fn Try.prog w0 B 16 [.agg [.int .i64 W, .int .i64 H, .slice a n cap].toArray, .agg (tab 6 m).toArray, .int .i64 w, .int .i64 h, .bool sm] E (fun u H' => ∃ g c, u = .tuple #[.agg [.int .i64 w, .int .i64 h, .slice (some ⟨g, 0, none⟩) N c].toArray, .int .i64 0] ∧ H' = ⟨g, 3, tab N (seenZ m W H f w sm), c * 1⟩ :: E) := fun E => see_pos (hsr E) hE hNt (by omega)
  generalize seenZ m W H f w sm = q at *
  have hqb : ∀ i, i < N → -9223372036854775808 ≤ q i ∧ q i ≤ 9223372036854775807 := fun i _ => by have := hsn i; omega
  clear hs hsr
  repeat (first | refine go_ ?_ | refine bx_ (fun _ => ?_))
  refine hl_call rfl rfl (hp1 _ _ _ (nums_own (by first | exact .here | exact (.there .here) | exact (.there (.there .here)) | exact (.there (.there (.there .here))) | exact (.there (.there (.there (.there .here)))) | exact (.there (.there (.there (.there (.there .here))))) | exact (.there (.there (.there (.there (.there (.there .here)))))) | exact (.there (.there (.there (.there (.there (.there (.there .here))))))) | exact (.there (.there (.there (.there (.there (.there (.there (.there .here))))))))) hbd (by omega))) (fun r M' hr => ?_)
  obtain ⟨g1, c1, rfl, rfl⟩ := hr
  repeat (first | refine go_ ?_ | refine bx_ (fun _ => ?_))
  rename_i g12
  refine hc_meet (fun fr X => ∃ g14 g2 c2, Agr fr [(2, .int .i64 w), (3, .int .i64 h), (4, .bool sm), (5, .pointer (some ⟨g5, 0, none⟩)), (6, .pointer (some ⟨g6, 0, none⟩)), (11, .slice (some ⟨gg, 0, none⟩) n cg), (12, .pointer (some ⟨g12, 0, none⟩)), (13, .int .i64 0), (14, .pointer (some ⟨g14, 0, none⟩)), (15, .int .i64 0)] ∧ X = ⟨g14, 37, [.int .i64 w, .int .i64 h, .slice (some ⟨g2, 0, none⟩) N c2], 3⟩ :: ⟨g2, 3, tab N q, c2 * 1⟩ :: ⟨g12, 34, [.int .i64 w, .int .i64 h, .slice (some ⟨g1, 0, none⟩) N c1], 3⟩ :: ⟨g1, 3, tab N q, c1 * 1⟩ :: ⟨gg, 3, tab n f, cg * 1⟩ :: ⟨g6, 23, tab 6 m, 6⟩ :: ⟨g5, 34, [.int .i64 W, .int .i64 H, .slice a n cap], 3⟩ :: M) ?_ ?_
  · refine hc_drawA (⟨g12, 34, [.int .i64 w, .int .i64 h, .slice (some ⟨g1, 0, none⟩) N c1], 3⟩ :: ⟨g1, 3, tab N q, c1 * 1⟩ :: ⟨gg, 3, tab n f, cg * 1⟩ :: ⟨g6, 23, tab 6 m, 6⟩ :: ⟨g5, 34, [.int .i64 W, .int .i64 H, .slice a n cap], 3⟩ :: M) (by kernel_rfl) ?_
    refine ha_quiet [0, 1, 2, 3, 4, 5] (by rfl) (by kernel_rfl) ?_
    repeat (first | refine gd_ ?_ | refine hq_call rfl rfl (fun E _ => hpl E) ?_)
    refine ha_fork2 6 10 (by rfl) (by kernel_rfl) (by rfl) (by rfl) (by first | exact Imp.refl _ | exact Imp.drop (Imp.refl _) | exact Imp.drop (Imp.drop (Imp.refl _)) | exact Imp.drop (Imp.drop (Imp.drop (Imp.refl _))) | exact Imp.drop (Imp.drop (Imp.drop (Imp.drop (Imp.refl _)))) | exact Imp.drop (Imp.drop (Imp.drop (Imp.drop (Imp.drop (Imp.refl _))))) | exact Imp.drop (Imp.drop (Imp.drop (Imp.drop (Imp.drop (Imp.drop (Imp.refl _)))))) | exact Imp.drop (Imp.drop (Imp.drop (Imp.drop (Imp.drop (Imp.drop (Imp.drop (Imp.refl _))))))) | exact Imp.drop (Imp.drop (Imp.drop (Imp.drop (Imp.drop (Imp.drop (Imp.drop (Imp.drop (Imp.refl _))))))))) ?_ ?_
    · skip
      refine hl_call rfl rfl (hp2 _) (fun r M' hr => ?_)
      obtain ⟨g2, c2, rfl, rfl⟩ := hr
      repeat (first | refine op_ ?_ | refine bx_ (fun _ => ?_))
      refine ha_quiet [7, 8, 9] (by rfl) (by kernel_rfl) ?_
      repeat (first | refine gd_ ?_ | refine hq_call rfl rfl (fun E _ => hpl E) ?_)
      refine ha_fork1 10 (by rfl) (by kernel_rfl) (by rfl) (by first | exact Imp.refl _ | exact Imp.drop (Imp.refl _) | exact Imp.drop (Imp.drop (Imp.refl _)) | exact Imp.drop (Imp.drop (Imp.drop (Imp.refl _))) | exact Imp.drop (Imp.drop (Imp.drop (Imp.drop (Imp.refl _)))) | exact Imp.drop (Imp.drop (Imp.drop (Imp.drop (Imp.drop (Imp.refl _))))) | exact Imp.drop (Imp.drop (Imp.drop (Imp.drop (Imp.drop (Imp.drop (Imp.refl _)))))) | exact Imp.drop (Imp.drop (Imp.drop (Imp.drop (Imp.drop (Imp.drop (Imp.drop (Imp.refl _))))))) | exact Imp.drop (Imp.drop (Imp.drop (Imp.drop (Imp.drop (Imp.drop (Imp.drop (Imp.drop (Imp.refl _))))))))) ?_
      · skip
        repeat (first | refine op_ ?_ | refine bx_ (fun _ => ?_))
        refine ha_fork1 11 (by rfl) (by kernel_rfl) (by rfl) (by first | exact Imp.refl _ | exact Imp.drop (Imp.refl _) | exact Imp.drop (Imp.drop (Imp.refl _)) | exact Imp.drop (Imp.drop (Imp.drop (Imp.refl _))) | exact Imp.drop (Imp.drop (Imp.drop (Imp.drop (Imp.refl _)))) | exact Imp.drop (Imp.drop (Imp.drop (Imp.drop (Imp.drop (Imp.refl _))))) | exact Imp.drop (Imp.drop (Imp.drop (Imp.drop (Imp.drop (Imp.drop (Imp.refl _)))))) | exact Imp.drop (Imp.drop (Imp.drop (Imp.drop (Imp.drop (Imp.drop (Imp.drop (Imp.refl _))))))) | exact Imp.drop (Imp.drop (Imp.drop (Imp.drop (Imp.drop (Imp.drop (Imp.drop (Imp.drop (Imp.refl _))))))))) ?_
        · skip
          repeat (first | refine op_ ?_ | refine bx_ (fun _ => ?_))
          refine ha_quiet [12] (by rfl) (by kernel_rfl) ?_
          repeat (first | refine gd_ ?_ | refine hq_call rfl rfl (fun E _ => hpl E) ?_)
          refine ha_end (by rfl) (by kernel_rfl) (by first | exact Imp.refl _ | exact Imp.drop (Imp.refl _) | exact Imp.drop (Imp.drop (Imp.refl _)) | exact Imp.drop (Imp.drop (Imp.drop (Imp.refl _))) | exact Imp.drop (Imp.drop (Imp.drop (Imp.drop (Imp.refl _)))) | exact Imp.drop (Imp.drop (Imp.drop (Imp.drop (Imp.drop (Imp.refl _))))) | exact Imp.drop (Imp.drop (Imp.drop (Imp.drop (Imp.drop (Imp.drop (Imp.refl _)))))) | exact Imp.drop (Imp.drop (Imp.drop (Imp.drop (Imp.drop (Imp.drop (Imp.drop (Imp.refl _))))))) | exact Imp.drop (Imp.drop (Imp.drop (Imp.drop (Imp.drop (Imp.drop (Imp.drop (Imp.drop (Imp.refl _))))))))) ?_
          exact ⟨_, _, _, ⟨rfl, rfl, rfl, rfl, rfl, rfl, rfl, rfl, rfl, rfl, trivial⟩, rfl⟩
    · skip
      repeat (first | refine op_ ?_ | refine bx_ (fun _ => ?_))
      refine ha_fork1 6 (by rfl) (by kernel_rfl) (by rfl) (by first | exact Imp.refl _ | exact Imp.drop (Imp.refl _) | exact Imp.drop (Imp.drop (Imp.refl _)) | exact Imp.drop (Imp.drop (Imp.drop (Imp.refl _))) | exact Imp.drop (Imp.drop (Imp.drop (Imp.drop (Imp.refl _)))) | exact Imp.drop (Imp.drop (Imp.drop (Imp.drop (Imp.drop (Imp.refl _))))) | exact Imp.drop (Imp.drop (Imp.drop (Imp.drop (Imp.drop (Imp.drop (Imp.refl _)))))) | exact Imp.drop (Imp.drop (Imp.drop (Imp.drop (Imp.drop (Imp.drop (Imp.drop (Imp.refl _))))))) | exact Imp.drop (Imp.drop (Imp.drop (Imp.drop (Imp.drop (Imp.drop (Imp.drop (Imp.drop (Imp.refl _))))))))) ?_
      · skip
        refine hl_call rfl rfl (hp2 _) (fun r M' hr => ?_)
        obtain ⟨g2, c2, rfl, rfl⟩ := hr
        repeat (first | refine op_ ?_ | refine bx_ (fun _ => ?_))
        refine ha_quiet [7, 8, 9] (by rfl) (by kernel_rfl) ?_
        repeat (first | refine gd_ ?_ | refine hq_call rfl rfl (fun E _ => hpl E) ?_)
        refine ha_fork1 11 (by rfl) (by kernel_rfl) (by rfl) (by first | exact Imp.refl _ | exact Imp.drop (Imp.refl _) | exact Imp.drop (Imp.drop (Imp.refl _)) | exact Imp.drop (Imp.drop (Imp.drop (Imp.refl _))) | exact Imp.drop (Imp.drop (Imp.drop (Imp.drop (Imp.refl _)))) | exact Imp.drop (Imp.drop (Imp.drop (Imp.drop (Imp.drop (Imp.refl _))))) | exact Imp.drop (Imp.drop (Imp.drop (Imp.drop (Imp.drop (Imp.drop (Imp.refl _)))))) | exact Imp.drop (Imp.drop (Imp.drop (Imp.drop (Imp.drop (Imp.drop (Imp.drop (Imp.refl _))))))) | exact Imp.drop (Imp.drop (Imp.drop (Imp.drop (Imp.drop (Imp.drop (Imp.drop (Imp.drop (Imp.refl _))))))))) ?_
        · skip
          repeat (first | refine op_ ?_ | refine bx_ (fun _ => ?_))
          refine ha_quiet [12] (by rfl) (by kernel_rfl) ?_
          repeat (first | refine gd_ ?_ | refine hq_call rfl rfl (fun E _ => hpl E) ?_)
          refine ha_end (by rfl) (by kernel_rfl) (by first | exact Imp.refl _ | exact Imp.drop (Imp.refl _) | exact Imp.drop (Imp.drop (Imp.refl _)) | exact Imp.drop (Imp.drop (Imp.drop (Imp.refl _))) | exact Imp.drop (Imp.drop (Imp.drop (Imp.drop (Imp.refl _)))) | exact Imp.drop (Imp.drop (Imp.drop (Imp.drop (Imp.drop (Imp.refl _))))) | exact Imp.drop (Imp.drop (Imp.drop (Imp.drop (Imp.drop (Imp.drop (Imp.refl _)))))) | exact Imp.drop (Imp.drop (Imp.drop (Imp.drop (Imp.drop (Imp.drop (Imp.drop (Imp.refl _))))))) | exact Imp.drop (Imp.drop (Imp.drop (Imp.drop (Imp.drop (Imp.drop (Imp.drop (Imp.drop (Imp.refl _))))))))) ?_
          exact ⟨_, _, _, ⟨rfl, rfl, rfl, rfl, rfl, rfl, rfl, rfl, rfl, rfl, trivial⟩, rfl⟩
  rintro fr X ⟨g14, g2, c2, hf, rfl⟩
  obtain ⟨base, rfl⟩ := hf.out
  clear hf
  repeat (first | refine go_ ?_ | refine bx_ (fun _ => ?_) | refine hl_callv rfl rfl (same_fn (g := q) (nums_own (by first | exact .here | exact (.there .here) | exact (.there (.there .here)) | exact (.there (.there (.there .here))) | exact (.there (.there (.there (.there .here)))) | exact (.there (.there (.there (.there (.there .here))))) | exact (.there (.there (.there (.there (.there (.there .here)))))) | exact (.there (.there (.there (.there (.there (.there (.there .here))))))) | exact (.there (.there (.there (.there (.there (.there (.there (.there .here))))))))) hqb (by omega)) (nums_own (by first | exact .here | exact (.there .here) | exact (.there (.there .here)) | exact (.there (.there (.there .here))) | exact (.there (.there (.there (.there .here)))) | exact (.there (.there (.there (.there (.there .here))))) | exact (.there (.there (.there (.there (.there (.there .here)))))) | exact (.there (.there (.there (.there (.there (.there (.there .here))))))) | exact (.there (.there (.there (.there (.there (.there (.there (.there .here))))))))) hqb (by omega)) (fun _ _ => rfl)) ?_ | refine hl_callv rfl rfl (same_fn (nums_own (by first | exact .here | exact (.there .here) | exact (.there (.there .here)) | exact (.there (.there (.there .here))) | exact (.there (.there (.there (.there .here)))) | exact (.there (.there (.there (.there (.there .here))))) | exact (.there (.there (.there (.there (.there (.there .here)))))) | exact (.there (.there (.there (.there (.there (.there (.there .here))))))) | exact (.there (.there (.there (.there (.there (.there (.there (.there .here))))))))) hbd (by omega)) (hN _) (fun _ _ => rfl)) ?_ | refine hl_callv rfl rfl (hbk _) ?_)
  rename_i g16
  refine hc_loop (fun z fr X => ∃ j, j + z = N ∧ Agr fr [(2, .int .i64 w), (4, .bool sm), (5, .pointer (some ⟨g5, 0, none⟩)), (16, .pointer (some ⟨g16, 0, none⟩)), (120, .slice (some ⟨g2, 0, none⟩) N c2), (121, .int .i64 (N : Int)), (122, .int .i64 (j : Int))] ∧
    X = ⟨g16, 23, tab 6 (backR m).1, 6⟩ :: ⟨g14, 37, [.int .i64 w, .int .i64 h, .slice (some ⟨g2, 0, none⟩) N c2], 3⟩ :: ⟨g2, 3, tab N q, c2 * 1⟩ :: ⟨g12, 34, [.int .i64 w, .int .i64 h, .slice (some ⟨g1, 0, none⟩) N c1], 3⟩ :: ⟨g1, 3, tab N q, c1 * 1⟩ :: ⟨gg, 3, tab n f, cg * 1⟩ :: ⟨g6, 23, tab 6 m, 6⟩ :: ⟨g5, 34, [.int .i64 W, .int .i64 H, .slice a n cap], 3⟩ :: M) N ?_ ?_
  · exact ⟨0, by omega, ⟨rfl, rfl, rfl, rfl, rfl, rfl, rfl, trivial⟩, rfl⟩
  clear base
  rintro z fr X ⟨j, hj, hf, rfl⟩
  obtain ⟨base, rfl⟩ := hf.out
  clear hf
  by_cases hjt : j < N
  · have e1 := Int.emod_nonneg (j : Int) (show w ≠ 0 by omega)
    have e2 := Int.emod_lt_of_pos (j : Int) hw0
    have e3 : 0 ≤ (j : Int) / w := Int.ediv_nonneg (by omega) s1
    have e4 : (j : Int) / w < h := Int.ediv_lt_of_lt_mul hw0 (by rw [Int.mul_comm]; omega)
    repeat (first | refine go_ ?_ | refine bx_ (fun _ => ?_))
    refine hc_draw (by kernel_rfl) (by kernel_rfl) ?_
    repeat (first | refine gd_ ?_ | refine hd_call rfl rfl (hat _ _ hjt) ?_)
    repeat (first | refine go_ ?_ | refine bx_ (fun _ => ?_))
    exact ⟨z - 1, by omega, j + 1, by omega, ⟨rfl, rfl, rfl, rfl, rfl, rfl, rfl, trivial⟩, rfl⟩
  · repeat (first | refine go_ ?_ | refine bx_ (fun _ => ?_))
    exact fin1B rfl rfl rfl
theorem walk (W H : Int) (a : Option Addr) (len cap : Nat) (l : List Int) (lm : List Int) (w h : Int) (sm : Bool) (wd : World) (_ : -9223372036854775808 ≤ W ∧ W ≤ 9223372036854775807) (_ : -9223372036854775808 ≤ H ∧ H ≤ 9223372036854775807) (hl : Sl intV wd a len cap l) (hx : ∀ x ∈ l, -9223372036854775808 ≤ x ∧ x ≤ 9223372036854775807)
    (hlm : lm.length = 6) (hbm : ∀ x ∈ lm, -9223372036854775808 ≤ x ∧ x ≤ 9223372036854775807) (_ : -9223372036854775808 ≤ w ∧ w ≤ 9223372036854775807) (_ : -9223372036854775808 ≤ h ∧ h ≤ 9223372036854775807) :
    Calls Try.prog 4 #[picV W H a len cap, arrV lm, .int .i64 w, .int .i64 h, .bool sm] wd fun e w' => e = .returned (.bool true) ∧ Below wd.heap.size wd w' := by
  rw [map_of hlm]
  have h1 := hl.small
  have h2 := hl.le
  have hrd : ∀ E, Rds wd wd.heap.size E a (tab len (fun j => l.getD j 0)) := fun E => by
    have := Rds.sl (c := { P := Try.prog, n := 0, w0 := wd, B := wd.heap.size }) (H := E) hl (Nat.le_refl _) (by simp [Value.oneCell'])
    rw [map_tab, hl.size_eq] at this
    exact this
  exact calls_of_fn (law W H (fun hn E => nums_par (Nat.le_refl _) hl hx (by omega)) (fun _ => hrd) (by omega) _ (sm_of hlm hbm) w h sm) fun _ _ h => h

/-! The step to the statement (written by program). -/
open Go.ChangeShapes Go.WideShapes Go.ChangeAt
set_option maxRecDepth 100000 in
theorem lifted (os : Os) (started : os.Started) (H : Type) (enc : TypeId × Value → H) :
    ReturnsInHanded {} Try.checked os 4 .any (Rows.affineSeesSpec.pre6 enc Try.prog Try.f4 Rows.affineSeesRow.domain false) (Rows.affineSeesSpec.post enc Try.prog Try.f4 false true false false) := by
  refine returnsInHanded_of_change (C := Try.checked) own started (by kernel_rfl) Try.func4
    (ChangeSpec.witness6 (enc := enc) (C := Try.checked) false ⟨#[], #[.agg #[.int .i64 0, .int .i64 0, .slice none 0 0], .agg #[.int .i64 0, .int .i64 0, .int .i64 0, .int .i64 0, .int .i64 0, .int .i64 0], .int .i64 0, .int .i64 0, .bool false], []⟩ 8 (by kernel_rfl) (by kernel_rfl) (by kernel_rfl) (by kernel_rfl)) ?_
  intro W base args ds gs before hval0 hW hcnd _
  have hval : ∀ (j : Nat) t v, Try.f4.params[j]? = some t → args[j]? = some v → Value.okWide Try.prog W .any base t v := hval0
  have hW' := hW
  obtain ⟨p, q, hA0, hV, rfl, hfz, hnd⟩ := hW
  have hA : DataW.TrodAll enc Try.prog W 0 (fun _ => true) true Try.f4.params.toList args.toList ds p := hA0
  rw [Try.params4] at hA hval
  obtain ⟨v0, vs0, d0, ds0, p0, q0, hargs, rfl, rfl, h0, r0⟩ := trodAll_cons hA
  obtain ⟨v1, vs1, d1, ds1, p1, q1, rfl, rfl, rfl, h1, r1⟩ := trodAll_cons r0
  obtain ⟨v2, vs2, d2, ds2, p2, q2, rfl, rfl, rfl, h2, r2⟩ := trodAll_cons r1
  obtain ⟨v3, vs3, d3, ds3, p3, q3, rfl, rfl, rfl, h3, r3⟩ := trodAll_cons r2
  obtain ⟨v4, vs4, d4, ds4, p4, q4, rfl, rfl, rfl, h4, r4⟩ := trodAll_cons r3
  obtain ⟨rfl, rfl, rfl⟩ := trodAll_nil r4
  obtain rfl : args = #[v0, v1, v2, v3, v4] := by cases args; simp_all
  obtain ⟨rfl, rfl⟩ := trodVars_none hV
  have k0 := h0
  have lt0 : ∀ x ∈ p0, x.block < W.heap.size := by obtain ⟨m, hm⟩ := k0; exact DataW.trod_lt m _ _ _ hm
  obtain ⟨W0, H0, a0, len0, cap0, l0, rfl, x0, y0, w0, b0⟩ := open_pic (hval 0 34 v0 rfl rfl) k0
  have k1 := h1
  have lt1 : ∀ x ∈ p1, x.block < W.heap.size := by obtain ⟨m, hm⟩ := k1; exact DataW.trod_lt m _ _ _ hm
  obtain ⟨l1, rfl, n1, b1⟩ := open_array Try.underlying23 Try.underlying3 (by kernel_rfl) (by kernel_rfl) (hval 1 23 v1 rfl rfl) k1
  have k2 := h2
  have lt2 : ∀ x ∈ p2, x.block < W.heap.size := by obtain ⟨m, hm⟩ := k2; exact DataW.trod_lt m _ _ _ hm
  obtain ⟨a2, rfl, _, _, w2⟩ := open_int Try.underlying3 (hval 2 3 v2 rfl rfl) h2
  have w2 := wf_i64 w2
  have k3 := h3
  have lt3 : ∀ x ∈ p3, x.block < W.heap.size := by obtain ⟨m, hm⟩ := k3; exact DataW.trod_lt m _ _ _ hm
  obtain ⟨a3, rfl, _, _, w3⟩ := open_int Try.underlying3 (hval 3 3 v3 rfl rfl) h3
  have w3 := wf_i64 w3
  have k4 := h4
  have lt4 : ∀ x ∈ p4, x.block < W.heap.size := by obtain ⟨m, hm⟩ := k4; exact DataW.trod_lt m _ _ _ hm
  obtain ⟨a4, rfl, _, _⟩ := open_bool Try.underlying4 (hval 4 4 v4 rfl rfl) h4
  clear hA0 hval0
  refine (walk W0 H0 a0 len0 cap0 l0 l1 a2 a3 a4 W x0 y0 w0 b0 n1 b1 w2 w3).mono fun e W' ⟨he, bel⟩ => ?_
  subst he
  exact ⟨_, rfl, _, _, _, [], _, [], hW', trodAll_mk1 (shut_bool Try.underlying4 _), (trodAll_cons_mk (Below.trod laidOut (by kernel_rfl) (of_decide_eq_true (by kernel_rfl)) k0 bel lt0) (trodAll_cons_mk (Below.trod laidOut (by kernel_rfl) (of_decide_eq_true (by kernel_rfl)) k1 bel lt1) (trodAll_cons_mk (Below.trod laidOut (by kernel_rfl) (of_decide_eq_true (by kernel_rfl)) k2 bel lt2) (trodAll_cons_mk (Below.trod laidOut (by kernel_rfl) (of_decide_eq_true (by kernel_rfl)) k3 bel lt3) (trodAll_cons_mk (Below.trod laidOut (by kernel_rfl) (of_decide_eq_true (by kernel_rfl)) k4 bel lt4) trodAll_mk0))))), rfl, bel.frame _, fun h => by cases h⟩

theorem over : Rows.affineSeesRow.holds Try.pinned (OpenSpec.ofChange Rows.affineSeesSpec) :=
  OpenClaim.holds_of_wide 4 Try.f4 rfl rfl rfl rfl rfl rfl rfl ⟨rfl, rfl, rfl, rfl, rfl⟩ rfl rfl rfl rfl rfl (by kernel_rfl) Try.func4 (by kernel_rfl)
    (of_decide_eq_true (by kernel_rfl)) (by unfold Func.isWrapper; first | (rw [if_pos (by decide +kernel)]; kernel_rfl) | (rw [if_neg (by decide +kernel)]; exact ⟨rfl, rfl⟩))
    (fun os started H enc _ => lifted os started H enc)

/-- The statement. -/
theorem proved : Rows.AffineSeesSaid := over
#print axioms proved
end Go.Proofs.Ytbgdligfdfhbkaa.affineSees
