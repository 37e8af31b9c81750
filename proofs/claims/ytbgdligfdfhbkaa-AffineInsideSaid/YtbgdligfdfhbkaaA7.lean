/-
  Pictures seen through maps: the document's own way. No condition.
-/
import Derived.Test.YtbgdligfdfhbkaaA6
namespace Go.Proofs.Ytbgdligfdfhbkaa
open Go.RowKit
theorem seen_xy (m : Nat → Int) (W H : Int) (f : Nat → Int) (w x y : Nat) (sm : Bool) (hx : x < w) : seenZ m W H f w sm (y * w + x) = seeZ (backR m).1 W.toNat H.toNat f sm x y := by
  have h1 : ((y * w + x : Nat) : Int) % (w : Int) = (x : Int) := by
    have h : (y * w + x) % w = x := by rw [Nat.mul_comm, Nat.mul_add_mod, Nat.mod_eq_of_lt hx]
    rw [← Int.natCast_emod, h]
  have h2 : ((y * w + x : Nat) : Int) / (w : Int) = (y : Int) := by
    have : (y * w + x) / w = y := by rw [Nat.mul_comm, Nat.mul_add_div (by omega), Nat.div_eq_of_lt hx]; rfl
    rw [← Int.natCast_ediv, this]
  unfold seenZ
  rw [h1, h2]
theorem Own.lit {e : TypeId} {sz n : Nat} {v : Value} {C : List Value} {F H : List Ent} (h : Own e sz v n C F H) : ∃ L, (L = F ∨ ∃ g k, L = ⟨g, e, C, k⟩ :: F) ∧ H.Perm L ∧ Own e sz v n C F L := by
  rcases h with ⟨h1, h2, h3, h4⟩ | ⟨g, cap, h1, h2, h3, h4, h5⟩
  · exact ⟨F, .inl rfl, h4, .inl ⟨h1, h2, h3, List.Perm.refl _⟩⟩
  · exact ⟨_, .inr ⟨g, _, rfl⟩, h5, .inr ⟨g, cap, h1, h2, h3, h4, List.Perm.refl _⟩⟩
theorem Imp.drop3 {a b x : Ent} {F : List Ent} : Imp (a :: b :: x :: F) (a :: b :: F) := Imp.perm (List.perm_middle (l₁ := [a, b])) (Imp.drop (Imp.refl _))
theorem tab_snoc (n : Nat) (f : Nat → Int) : tab n f ++ [.int .i64 (f n)] = tab (n + 1) f := by unfold tab; rw [List.range_succ, List.map_append]; rfl
section
variable {w0 : World} {B : Nat} {M : List Ent}
set_option maxHeartbeats 16000000 in
set_option maxRecDepth 100000 in
theorem rsee_fn (W H : Int) {a : Option Addr} {n cap : Nat} {f : Nat → Int} (p : Nums w0 B M a n f) (m : Nat → Int) (hm : Sm m) (w h : Int) (sm : Bool) :
    Fn Try.prog w0 B 16 [picV W H a n cap, mapV m, .int .i64 w, .int .i64 h, .bool sm] M (fun r M' => SeeR m W H n f w h sm M r M') := by
  have hbk : ∀ E, Fn Try.prog w0 B 14 [.agg (tab 6 m).toArray] E (fun v H' => v = .tuple #[.agg (tab 6 (backR m).1).toArray, .int .i64 (backR m).2] ∧ H' = E) := fun E => rback_fn m hm
  have hbe := back_e m
  refine fn_intro Try.func16 rfl (by kernel_rfl) rfl ?_
  unfold picV mapV
  by_cases h1 : (backR m).2 ≠ 0
  · have he : seeE m W H n f w h = (backR m).2 := if_pos h1
    repeat (first | refine go_ ?_ | refine bx_ (fun _ => ?_) | refine hl_callv rfl rfl (hbk _) ?_)
    exact finCI rfl rfl .here rfl rfl (.inl ⟨by rw [he]; exact h1, by rw [he]; rfl, rfl⟩) (by exact Imp.drop (Imp.drop (Imp.drop (Imp.drop (Imp.refl _)))))
  replace h1 := Classical.not_not.1 h1
  have hrb := back_ok h1
  by_cases h2 : ¬ Sz w h
  · have he : seeE m W H n f w h = 31 := by unfold seeE; rw [if_neg (by simp [h1]), if_pos h2]
    have hout : SeeR m W H n f w h sm M (.tuple #[picV 0 0 none 0 0, .int .i64 31]) M := .inl ⟨by rw [he]; decide, by rw [he], rfl⟩
    unfold Sz at h2
    by_cases c1 : w < 0
    · repeat (first | refine go_ ?_ | refine bx_ (fun _ => ?_) | refine hl_callv rfl rfl (hbk _) ?_)
      exact finCI rfl rfl .here rfl rfl hout (by exact Imp.drop (Imp.drop (Imp.drop (Imp.drop (Imp.refl _)))))
    by_cases c3 : h < 0
    · repeat (first | refine go_ ?_ | refine bx_ (fun _ => ?_) | refine hl_callv rfl rfl (hbk _) ?_)
      exact finCI rfl rfl .here rfl rfl hout (by exact Imp.drop (Imp.drop (Imp.drop (Imp.drop (Imp.refl _)))))
    by_cases c2 : 32768 < w
    · repeat (first | refine go_ ?_ | refine bx_ (fun _ => ?_) | refine hl_callv rfl rfl (hbk _) ?_)
      exact finCI rfl rfl .here rfl rfl hout (by exact Imp.drop (Imp.drop (Imp.drop (Imp.drop (Imp.refl _)))))
    by_cases c4 : 32768 < h
    · repeat (first | refine go_ ?_ | refine bx_ (fun _ => ?_) | refine hl_callv rfl rfl (hbk _) ?_)
      exact finCI rfl rfl .here rfl rfl hout (by exact Imp.drop (Imp.drop (Imp.drop (Imp.drop (Imp.refl _)))))
    have hwh := mul_bd (a := w) (b := h) (M := 32768) (N := 32768) (by omega) (by omega)
    have c5 : 4194304 < w * h := by omega
    repeat (first | refine go_ ?_ | refine bx_ (fun _ => ?_) | refine hl_callv rfl rfl (hbk _) ?_)
    exact finCI rfl rfl .here rfl rfl hout (by exact Imp.drop (Imp.drop (Imp.drop (Imp.drop (Imp.refl _)))))
  replace h2 := Classical.not_not.1 h2
  obtain ⟨c1, c2, c3, c4, c5⟩ := id h2
  have hwh0 : 0 ≤ w * h := Int.mul_nonneg c1 c3
  repeat (first | refine go_ ?_ | refine bx_ (fun _ => ?_) | refine hl_callv rfl rfl (hbk _) ?_)
  refine hl_call rfl rfl (rpright_fn W H (p.imp (by first | exact Imp.refl _ | exact Imp.drop (Imp.refl _) | exact Imp.drop (Imp.drop (Imp.refl _)) | exact Imp.drop (Imp.drop (Imp.drop (Imp.refl _))) | exact Imp.drop (Imp.drop (Imp.drop (Imp.drop (Imp.refl _)))) | exact Imp.drop (Imp.drop (Imp.drop (Imp.drop (Imp.drop (Imp.refl _))))) | exact Imp.drop (Imp.drop (Imp.drop (Imp.drop (Imp.drop (Imp.drop (Imp.refl _)))))) | exact Imp.drop (Imp.drop (Imp.drop (Imp.drop (Imp.drop (Imp.drop (Imp.drop (Imp.refl _))))))) | exact Imp.drop (Imp.drop (Imp.drop (Imp.drop (Imp.drop (Imp.drop (Imp.drop (Imp.drop (Imp.refl _))))))))))) (fun r M' hr => ?_)
  obtain ⟨⟨rfl, h3⟩ | ⟨rfl, h3⟩, rfl⟩ := hr
  rotate_left
  · have he : seeE m W H n f w h = 25 := by unfold seeE; rw [if_neg (by simp [h1]), if_neg (by simp [h2]), if_pos h3]
    repeat (first | refine go_ ?_ | refine bx_ (fun _ => ?_))
    exact finCI rfl rfl .here rfl rfl (.inl ⟨by rw [he]; decide, by rw [he]; rfl, rfl⟩) (by exact Imp.drop (Imp.drop (Imp.drop (Imp.drop (Imp.refl _)))))
  have he : seeE m W H n f w h = 0 := by unfold seeE; rw [if_neg (by simp [h1]), if_neg (by simp [h2]), if_neg (by simp [h3])]
  obtain ⟨w, rfl⟩ := Int.eq_ofNat_of_zero_le c1
  obtain ⟨h, rfl⟩ := Int.eq_ofNat_of_zero_le c3
  have hpic := p.pic h3
  have hW0 := h3.1
  have hH0 := h3.2.2.1
  have hNt : ((w : Int) * (h : Int)).toNat = h * w := by rw [← Int.natCast_mul, Int.toNat_natCast, Nat.mul_comm]
  have hNs : h * w ≤ 4194304 := by
    have : ((h * w : Nat) : Int) = (w : Int) * (h : Int) := by rw [Nat.mul_comm]; simp
    omega
  unfold SeeR
  rw [hNt, he]
  repeat (first | refine go_ ?_ | refine bx_ (fun _ => ?_))
  rename_i g5 g6 g10 g12 g14
  clear hbk hbe h1 he hNt h3 h2
  have hb0 := hrb.1 0 (by omega)
  have hb1 := hrb.1 1 (by omega)
  have hb2 := hrb.1 2 (by omega)
  have hb3 := hrb.1 3 (by omega)
  have hb4 := hrb.2 4 (by omega) (by omega)
  have hb5 := hrb.2 5 (by omega) (by omega)
  refine hc_loopd (fun z fr X => ∃ y sl X1, y + z = h ∧ Agr fr [(2, .int .i64 (w : Int)), (3, .int .i64 (h : Int)), (4, .bool sm), (5, .pointer (some ⟨g5, 0, none⟩)), (10, .pointer (some ⟨g10, 0, none⟩)), (12, .pointer (some ⟨g12, 0, none⟩)), (14, .pointer (some ⟨g14, 0, none⟩)), (15, .int .i64 (y : Int))] ∧
    X.Perm (⟨g14, 37, [.int .i64 w, .int .i64 h, sl], 3⟩ :: X1) ∧ Own 3 1 sl (y * w) (tab (y * w) (seenZ m W H f w sm)) (⟨g12, 28, tab 6 (backR m).1, 6⟩ :: ⟨g10, 37, [.int .i64 0, .int .i64 0, .slice none 0 0], 3⟩ :: ⟨g6, 28, tab 6 m, 6⟩ :: ⟨g5, 37, [.int .i64 W, .int .i64 H, .slice a n cap], 3⟩ :: M) X1) h ?_ ?_
  · refine ⟨0, _, _, by omega, ⟨rfl, rfl, rfl, rfl, rfl, rfl, rfl, rfl, trivial⟩, List.Perm.refl _, ?_⟩
    rw [Nat.zero_mul]
    exact Own.nil
  rintro z fr X ⟨y, sl, X1, hy, hf, hp, ho⟩
  obtain ⟨base, rfl⟩ := hf.out
  clear hf
  refine HC.perm ?_ hp
  clear hp
  obtain ⟨sa, sc, rfl, _, _⟩ := ho.form
  by_cases hlt : y < h
  · repeat (first | refine go_ ?_ | refine bx_ (fun _ => ?_))
    refine hc_loopd (fun z fr X => ∃ x sl X1, x + z = w ∧ Agr fr [(2, .int .i64 (w : Int)), (3, .int .i64 (h : Int)), (4, .bool sm), (5, .pointer (some ⟨g5, 0, none⟩)), (10, .pointer (some ⟨g10, 0, none⟩)), (12, .pointer (some ⟨g12, 0, none⟩)), (14, .pointer (some ⟨g14, 0, none⟩)), (15, .int .i64 (y : Int)), (16, .int .i64 (x : Int))] ∧
      X.Perm (⟨g14, 37, [.int .i64 w, .int .i64 h, sl], 3⟩ :: X1) ∧ Own 3 1 sl (y * w + x) (tab (y * w + x) (seenZ m W H f w sm)) (⟨g12, 28, tab 6 (backR m).1, 6⟩ :: ⟨g10, 37, [.int .i64 0, .int .i64 0, .slice none 0 0], 3⟩ :: ⟨g6, 28, tab 6 m, 6⟩ :: ⟨g5, 37, [.int .i64 W, .int .i64 H, .slice a n cap], 3⟩ :: M) X1) w ?_ ?_
    · exact ⟨0, _, _, by omega, ⟨rfl, rfl, rfl, rfl, rfl, rfl, rfl, rfl, rfl, trivial⟩, List.Perm.refl _, ho⟩
    clear base ho
    rintro z2 fr X ⟨x, sl, X1, hx, hf, hp, ho⟩
    obtain ⟨base, rfl⟩ := hf.out
    clear hf
    refine HC.perm ?_ hp
    clear hp
    obtain ⟨sa, sc, rfl, hs1, hs2⟩ := ho.form
    by_cases hxt : x < w
    · have hlit := ho.lit
      have hxy := seen_xy m W H f w x y sm hxt
      have q0 := mul_bd hb0 (show -65537 ≤ 2 * (x : Int) + 1 ∧ 2 * (x : Int) + 1 ≤ 65537 by omega)
      have q1 := mul_bd hb1 (show -65537 ≤ 2 * (y : Int) + 1 ∧ 2 * (y : Int) + 1 ≤ 65537 by omega)
      have q2 := mul_bd hb2 (show -65537 ≤ 2 * (x : Int) + 1 ∧ 2 * (x : Int) + 1 ≤ 65537 by omega)
      have q3 := mul_bd hb3 (show -65537 ≤ 2 * (y : Int) + 1 ∧ 2 * (y : Int) + 1 ≤ 65537 by omega)
      obtain ⟨hU, hV⟩ := pl_bd hrb (x := (x : Int)) (y := (y : Int)) (by omega) (by omega)
      have hU' := hU
      have hV' := hV
      unfold Pl at hU' hV'
      have hpu : ((backR m).1 0 * (2 * (x : Int) + 1) + (backR m).1 1 * (2 * (y : Int) + 1)) / 2 + (backR m).1 4 = plU (backR m).1 x y := rfl
      have hpv : ((backR m).1 2 * (2 * (x : Int) + 1) + (backR m).1 3 * (2 * (y : Int) + 1)) / 2 + (backR m).1 5 = plV (backR m).1 x y := rfl
      have hxyN : y * w + x < h * w := by rw [Nat.mul_comm h w]; exact at_lt hxt hlt
      clear ho
      obtain ⟨L, hL, hpL, ho⟩ := hlit
      refine HC.perm ?_ (hpL.cons _)
      have hat : ∀ E, Imp E M → ∀ x y, Fn Try.prog w0 B 22 [.agg [.int .i64 W, .int .i64 H, .slice a n cap].toArray, .int .i64 x, .int .i64 y] E (fun v M' => v = .int .i64 (pixAt W.toNat H.toNat f x y) ∧ M' = E) := fun E hE x y => by
        have := rat_fn (cap := cap) (hpic.imp hE) x y
        rw [Int.toNat_of_nonneg hW0, Int.toNat_of_nonneg hH0] at this
        exact this
      have hsm : ∀ E, Imp E M → ∀ u v, Pl u → Pl v → Fn Try.prog w0 B 35 [.agg [.int .i64 W, .int .i64 H, .slice a n cap].toArray, .int .i64 u, .int .i64 v] E (fun r M' => r = .int .i64 (smZ W.toNat H.toNat f u v) ∧ M' = E) := fun E hE u v hu hv => by
        have := rsmooth_fn (cap := cap) (hpic.imp hE) u v hu hv
        rw [Int.toNat_of_nonneg hW0, Int.toNat_of_nonneg hH0] at this
        exact this
      have hatE : ∀ E, ImpC ⟨Try.prog, Try.f16.ntmps, w0, B⟩ E (⟨g12, 28, tab 6 (backR m).1, 6⟩ :: ⟨g10, 37, [.int .i64 0, .int .i64 0, .slice none 0 0], 3⟩ :: ⟨g6, 28, tab 6 m, 6⟩ :: ⟨g5, 37, [.int .i64 W, .int .i64 H, .slice a n cap], 3⟩ :: M) → ∀ x y, Fn Try.prog w0 B 22 [.agg [.int .i64 W, .int .i64 H, .slice a n cap].toArray, .int .i64 x, .int .i64 y] E (fun v M' => v = .int .i64 (pixAt W.toNat H.toNat f x y) ∧ M' = E) := fun E hE x y => by
        have hp : Pic w0 B E W.toNat H.toNat a n f := ⟨fun h => by
          obtain ⟨b, off, e, r⟩ := hpic.row h
          exact ⟨b, off, e, ⟨fun w hw j hj => r.cell w (hE w hw).drop.drop.drop.drop j hj⟩⟩, hpic.size, hpic.w, hpic.h, hpic.px⟩
        have := rat_fn (cap := cap) hp x y
        rw [Int.toNat_of_nonneg hW0, Int.toNat_of_nonneg hH0] at this
        exact this
      have hsmE : ∀ E, ImpC ⟨Try.prog, Try.f16.ntmps, w0, B⟩ E (⟨g12, 28, tab 6 (backR m).1, 6⟩ :: ⟨g10, 37, [.int .i64 0, .int .i64 0, .slice none 0 0], 3⟩ :: ⟨g6, 28, tab 6 m, 6⟩ :: ⟨g5, 37, [.int .i64 W, .int .i64 H, .slice a n cap], 3⟩ :: M) → Fn Try.prog w0 B 35 [.agg [.int .i64 W, .int .i64 H, .slice a n cap].toArray, .int .i64 (plU (backR m).1 x y), .int .i64 (plV (backR m).1 x y)] E (fun r M' => r = .int .i64 (smZ W.toNat H.toNat f (plU (backR m).1 x y) (plV (backR m).1 x y)) ∧ M' = E) := fun E hE => by
        have hp : Pic w0 B E W.toNat H.toNat a n f := ⟨fun h => by
          obtain ⟨b, off, e, r⟩ := hpic.row h
          exact ⟨b, off, e, ⟨fun w hw j hj => r.cell w (hE w hw).drop.drop.drop.drop j hj⟩⟩, hpic.size, hpic.w, hpic.h, hpic.px⟩
        have := rsmooth_fn (cap := cap) hp _ _ hU hV
        rw [Int.toNat_of_nonneg hW0, Int.toNat_of_nonneg hH0] at this
        exact this
      unfold seeZ at hxy
      cases sm
      · rcases hL with rfl | ⟨g0, k0, rfl⟩
        all_goals
          simp only [Bool.false_eq_true, if_false] at hxy
          repeat (first | rw [hpu] | rw [hpv] | refine go1_ ?_ | refine bx_ (fun _ => ?_) | refine hl_callv rfl rfl (down_fn _ _ (by unfold Big; omega) (by omega)) ?_)
          (refine hc_draw (by kernel_rfl) (by kernel_rfl) ?_; repeat (first | rw [hpu] | refine gd1_ ?_ | refine hd_call rfl rfl (down_fn _ _ (by unfold Big; omega) (by omega)) ?_))
          repeat (first | refine go_ ?_ | refine bx_ (fun _ => ?_))
          (refine hc_draw (by kernel_rfl) (by kernel_rfl) ?_; repeat (first | rw [hpv] | refine gd1_ ?_ | refine hd_call rfl rfl (down_fn _ _ (by unfold Big; omega) (by omega)) ?_))
          repeat (first | refine go_ ?_ | refine bx_ (fun _ => ?_))
          refine hc_meet (fun fr X => ∃ gb cap', Agr fr [(2, .int .i64 (w : Int)), (3, .int .i64 (h : Int)), (4, .bool false), (5, .pointer (some ⟨g5, 0, none⟩)), (10, .pointer (some ⟨g10, 0, none⟩)), (12, .pointer (some ⟨g12, 0, none⟩)), (14, .pointer (some ⟨g14, 0, none⟩)), (15, .int .i64 (y : Int)), (16, .int .i64 (x : Int))] ∧ y * w + x + 1 ≤ cap' ∧ cap' ≤ 9223372036854775807 ∧
            Imp X (⟨g14, 37, [.int .i64 w, .int .i64 h, (.slice (some ⟨gb, 0, none⟩) (y * w + x + 1) cap')], 3⟩ :: ⟨gb, 3, tab (y * w + x) (seenZ m W H f w false) ++ [.int .i64 (seenZ m W H f w false (y * w + x))], cap' * 1⟩ :: ⟨g12, 28, tab 6 (backR m).1, 6⟩ :: ⟨g10, 37, [.int .i64 0, .int .i64 0, .slice none 0 0], 3⟩ :: ⟨g6, 28, tab 6 m, 6⟩ :: ⟨g5, 37, [.int .i64 W, .int .i64 H, .slice a n cap], 3⟩ :: M)) ?_ ?_
          · refine hc_drawA (⟨g12, 28, tab 6 (backR m).1, 6⟩ :: ⟨g10, 37, [.int .i64 0, .int .i64 0, .slice none 0 0], 3⟩ :: ⟨g6, 28, tab 6 m, 6⟩ :: ⟨g5, 37, [.int .i64 W, .int .i64 H, .slice a n cap], 3⟩ :: M) (by kernel_rfl) ?_
            refine ha_quiet [0, 2, 3, 4, 5, 6, 7] (by rfl) (by kernel_rfl) ?_
            repeat (first | rw [← hxy] | refine gd1_ ?_ | refine hq_call rfl rfl (fun E _ => down_fn _ _ (by unfold Big; omega) (by omega)) ?_ | refine hq_call rfl rfl (fun E hE => hatE E hE _ _) ?_)
            refine ha_fork2 1 8 (by rfl) (by kernel_rfl) (by rfl) (by rfl) (by first | exact Imp.refl _ | exact Imp.drop (Imp.refl _) | exact Imp.drop (Imp.drop (Imp.refl _)) | exact Imp.drop (Imp.drop (Imp.drop (Imp.refl _))) | exact Imp.drop (Imp.drop (Imp.drop (Imp.drop (Imp.refl _)))) | exact Imp.drop (Imp.drop (Imp.drop (Imp.drop (Imp.drop (Imp.refl _))))) | exact Imp.drop (Imp.drop (Imp.drop (Imp.drop (Imp.drop (Imp.drop (Imp.refl _)))))) | exact Imp.drop (Imp.drop (Imp.drop (Imp.drop (Imp.drop (Imp.drop (Imp.drop (Imp.refl _))))))) | exact Imp.drop (Imp.drop (Imp.drop (Imp.drop (Imp.drop (Imp.drop (Imp.drop (Imp.drop (Imp.refl _)))))))) | assumption | exact Imp.drop2 (Imp.refl _) | exact Imp.drop2 (Imp.drop2 (Imp.refl _)) | exact Imp.drop (Imp.drop2 (Imp.refl _))) ?_ ?_
            · skip
              repeat (first | refine op_ ?_ | refine bx_ (fun _ => ?_))
              refine ha_fork1 8 (by rfl) (by kernel_rfl) (by rfl) (by first | exact Imp.refl _ | exact Imp.drop (Imp.refl _) | exact Imp.drop (Imp.drop (Imp.refl _)) | exact Imp.drop (Imp.drop (Imp.drop (Imp.refl _))) | exact Imp.drop (Imp.drop (Imp.drop (Imp.drop (Imp.refl _)))) | exact Imp.drop (Imp.drop (Imp.drop (Imp.drop (Imp.drop (Imp.refl _))))) | exact Imp.drop (Imp.drop (Imp.drop (Imp.drop (Imp.drop (Imp.drop (Imp.refl _)))))) | exact Imp.drop (Imp.drop (Imp.drop (Imp.drop (Imp.drop (Imp.drop (Imp.drop (Imp.refl _))))))) | exact Imp.drop (Imp.drop (Imp.drop (Imp.drop (Imp.drop (Imp.drop (Imp.drop (Imp.drop (Imp.refl _)))))))) | assumption | exact Imp.drop2 (Imp.refl _) | exact Imp.drop2 (Imp.drop2 (Imp.refl _)) | exact Imp.drop (Imp.drop2 (Imp.refl _))) ?_
              · skip
                repeat (first | refine op_ ?_ | refine bx_ (fun _ => ?_))
                refine ha_fork1 9 (by rfl) (by kernel_rfl) (by rfl) (by first | exact Imp.refl _ | exact Imp.drop (Imp.refl _) | exact Imp.drop (Imp.drop (Imp.refl _)) | exact Imp.drop (Imp.drop (Imp.drop (Imp.refl _))) | exact Imp.drop (Imp.drop (Imp.drop (Imp.drop (Imp.refl _)))) | exact Imp.drop (Imp.drop (Imp.drop (Imp.drop (Imp.drop (Imp.refl _))))) | exact Imp.drop (Imp.drop (Imp.drop (Imp.drop (Imp.drop (Imp.drop (Imp.refl _)))))) | exact Imp.drop (Imp.drop (Imp.drop (Imp.drop (Imp.drop (Imp.drop (Imp.drop (Imp.refl _))))))) | exact Imp.drop (Imp.drop (Imp.drop (Imp.drop (Imp.drop (Imp.drop (Imp.drop (Imp.drop (Imp.refl _)))))))) | assumption | exact Imp.drop2 (Imp.refl _) | exact Imp.drop2 (Imp.drop2 (Imp.refl _)) | exact Imp.drop (Imp.drop2 (Imp.refl _))) ?_
                · skip
                  refine hl_append_own1 (news := [.int .i64 (seenZ m W H f w false (y * w + x))]) rfl rfl ((ho.under _).under _) (Rds.ent (n := 1) .here rfl (by simp [Value.oneCell'])) rfl rfl (by decide) (by decide) (by omega) (by omega) rfl (fun gb cap' h3 h4 => ?_)
                  repeat (first | refine op_ ?_ | refine bx_ (fun _ => ?_))
                  refine ha_quiet [10] (by rfl) (by kernel_rfl) ?_
                  repeat (first | rw [← hxy] | refine gd1_ ?_ | refine hq_call rfl rfl (fun E _ => down_fn _ _ (by unfold Big; omega) (by omega)) ?_ | refine hq_call rfl rfl (fun E hE => hatE E hE _ _) ?_)
                  refine ha_fork1 11 (by rfl) (by kernel_rfl) (by rfl) (by first | exact Imp.refl _ | exact Imp.drop (Imp.refl _) | exact Imp.drop (Imp.drop (Imp.refl _)) | exact Imp.drop (Imp.drop (Imp.drop (Imp.refl _))) | exact Imp.drop (Imp.drop (Imp.drop (Imp.drop (Imp.refl _)))) | exact Imp.drop (Imp.drop (Imp.drop (Imp.drop (Imp.drop (Imp.refl _))))) | exact Imp.drop (Imp.drop (Imp.drop (Imp.drop (Imp.drop (Imp.drop (Imp.refl _)))))) | exact Imp.drop (Imp.drop (Imp.drop (Imp.drop (Imp.drop (Imp.drop (Imp.drop (Imp.refl _))))))) | exact Imp.drop (Imp.drop (Imp.drop (Imp.drop (Imp.drop (Imp.drop (Imp.drop (Imp.drop (Imp.refl _)))))))) | assumption | exact Imp.drop2 (Imp.refl _) | exact Imp.drop2 (Imp.drop2 (Imp.refl _)) | exact Imp.drop (Imp.drop2 (Imp.refl _))) ?_
                  · skip
                    repeat (first | refine op_ ?_ | refine bx_ (fun _ => ?_))
                    refine ha_end (by rfl) (by kernel_rfl) (by first | exact Imp.refl _ | exact Imp.drop (Imp.refl _) | exact Imp.drop (Imp.drop (Imp.refl _)) | exact Imp.drop (Imp.drop (Imp.drop (Imp.refl _))) | exact Imp.drop (Imp.drop (Imp.drop (Imp.drop (Imp.refl _)))) | exact Imp.drop (Imp.drop (Imp.drop (Imp.drop (Imp.drop (Imp.refl _))))) | exact Imp.drop (Imp.drop (Imp.drop (Imp.drop (Imp.drop (Imp.drop (Imp.refl _)))))) | exact Imp.drop (Imp.drop (Imp.drop (Imp.drop (Imp.drop (Imp.drop (Imp.drop (Imp.refl _))))))) | exact Imp.drop (Imp.drop (Imp.drop (Imp.drop (Imp.drop (Imp.drop (Imp.drop (Imp.drop (Imp.refl _)))))))) | assumption | exact Imp.drop2 (Imp.refl _) | exact Imp.drop2 (Imp.drop2 (Imp.refl _)) | exact Imp.drop (Imp.drop2 (Imp.refl _))) ?_
                    exact ⟨_, _, ⟨rfl, rfl, rfl, rfl, rfl, rfl, rfl, rfl, rfl, trivial⟩, h3, h4, Imp.drop3⟩
            · skip
              repeat (first | refine op_ ?_ | refine bx_ (fun _ => ?_))
              refine ha_fork1 1 (by rfl) (by kernel_rfl) (by rfl) (by first | exact Imp.refl _ | exact Imp.drop (Imp.refl _) | exact Imp.drop (Imp.drop (Imp.refl _)) | exact Imp.drop (Imp.drop (Imp.drop (Imp.refl _))) | exact Imp.drop (Imp.drop (Imp.drop (Imp.drop (Imp.refl _)))) | exact Imp.drop (Imp.drop (Imp.drop (Imp.drop (Imp.drop (Imp.refl _))))) | exact Imp.drop (Imp.drop (Imp.drop (Imp.drop (Imp.drop (Imp.drop (Imp.refl _)))))) | exact Imp.drop (Imp.drop (Imp.drop (Imp.drop (Imp.drop (Imp.drop (Imp.drop (Imp.refl _))))))) | exact Imp.drop (Imp.drop (Imp.drop (Imp.drop (Imp.drop (Imp.drop (Imp.drop (Imp.drop (Imp.refl _)))))))) | assumption | exact Imp.drop2 (Imp.refl _) | exact Imp.drop2 (Imp.drop2 (Imp.refl _)) | exact Imp.drop (Imp.drop2 (Imp.refl _))) ?_
              · skip
                repeat (first | refine op_ ?_ | refine bx_ (fun _ => ?_))
                refine ha_fork1 9 (by rfl) (by kernel_rfl) (by rfl) (by first | exact Imp.refl _ | exact Imp.drop (Imp.refl _) | exact Imp.drop (Imp.drop (Imp.refl _)) | exact Imp.drop (Imp.drop (Imp.drop (Imp.refl _))) | exact Imp.drop (Imp.drop (Imp.drop (Imp.drop (Imp.refl _)))) | exact Imp.drop (Imp.drop (Imp.drop (Imp.drop (Imp.drop (Imp.refl _))))) | exact Imp.drop (Imp.drop (Imp.drop (Imp.drop (Imp.drop (Imp.drop (Imp.refl _)))))) | exact Imp.drop (Imp.drop (Imp.drop (Imp.drop (Imp.drop (Imp.drop (Imp.drop (Imp.refl _))))))) | exact Imp.drop (Imp.drop (Imp.drop (Imp.drop (Imp.drop (Imp.drop (Imp.drop (Imp.drop (Imp.refl _)))))))) | assumption | exact Imp.drop2 (Imp.refl _) | exact Imp.drop2 (Imp.drop2 (Imp.refl _)) | exact Imp.drop (Imp.drop2 (Imp.refl _))) ?_
                · skip
                  refine hl_append_own1 (news := [.int .i64 (seenZ m W H f w false (y * w + x))]) rfl rfl ((ho.under _).under _) (Rds.ent (n := 1) .here rfl (by simp [Value.oneCell'])) rfl rfl (by decide) (by decide) (by omega) (by omega) rfl (fun gb cap' h3 h4 => ?_)
                  repeat (first | refine op_ ?_ | refine bx_ (fun _ => ?_))
                  refine ha_quiet [10] (by rfl) (by kernel_rfl) ?_
                  repeat (first | rw [← hxy] | refine gd1_ ?_ | refine hq_call rfl rfl (fun E _ => down_fn _ _ (by unfold Big; omega) (by omega)) ?_ | refine hq_call rfl rfl (fun E hE => hatE E hE _ _) ?_)
                  refine ha_fork1 11 (by rfl) (by kernel_rfl) (by rfl) (by first | exact Imp.refl _ | exact Imp.drop (Imp.refl _) | exact Imp.drop (Imp.drop (Imp.refl _)) | exact Imp.drop (Imp.drop (Imp.drop (Imp.refl _))) | exact Imp.drop (Imp.drop (Imp.drop (Imp.drop (Imp.refl _)))) | exact Imp.drop (Imp.drop (Imp.drop (Imp.drop (Imp.drop (Imp.refl _))))) | exact Imp.drop (Imp.drop (Imp.drop (Imp.drop (Imp.drop (Imp.drop (Imp.refl _)))))) | exact Imp.drop (Imp.drop (Imp.drop (Imp.drop (Imp.drop (Imp.drop (Imp.drop (Imp.refl _))))))) | exact Imp.drop (Imp.drop (Imp.drop (Imp.drop (Imp.drop (Imp.drop (Imp.drop (Imp.drop (Imp.refl _)))))))) | assumption | exact Imp.drop2 (Imp.refl _) | exact Imp.drop2 (Imp.drop2 (Imp.refl _)) | exact Imp.drop (Imp.drop2 (Imp.refl _))) ?_
                  · skip
                    repeat (first | refine op_ ?_ | refine bx_ (fun _ => ?_))
                    refine ha_end (by rfl) (by kernel_rfl) (by first | exact Imp.refl _ | exact Imp.drop (Imp.refl _) | exact Imp.drop (Imp.drop (Imp.refl _)) | exact Imp.drop (Imp.drop (Imp.drop (Imp.refl _))) | exact Imp.drop (Imp.drop (Imp.drop (Imp.drop (Imp.refl _)))) | exact Imp.drop (Imp.drop (Imp.drop (Imp.drop (Imp.drop (Imp.refl _))))) | exact Imp.drop (Imp.drop (Imp.drop (Imp.drop (Imp.drop (Imp.drop (Imp.refl _)))))) | exact Imp.drop (Imp.drop (Imp.drop (Imp.drop (Imp.drop (Imp.drop (Imp.drop (Imp.refl _))))))) | exact Imp.drop (Imp.drop (Imp.drop (Imp.drop (Imp.drop (Imp.drop (Imp.drop (Imp.drop (Imp.refl _)))))))) | assumption | exact Imp.drop2 (Imp.refl _) | exact Imp.drop2 (Imp.drop2 (Imp.refl _)) | exact Imp.drop (Imp.drop2 (Imp.refl _))) ?_
                    exact ⟨_, _, ⟨rfl, rfl, rfl, rfl, rfl, rfl, rfl, rfl, rfl, trivial⟩, h3, h4, Imp.drop3⟩
          rintro fr X ⟨gb, cap', hf, h3, h4, hi⟩
          obtain ⟨base, rfl⟩ := hf.out
          clear hf
          repeat (first | refine go_ ?_ | refine bx_ (fun _ => ?_))
          refine ⟨z2 - 1, by omega, _, hi, x + 1, _, _, by omega, ⟨rfl, rfl, rfl, rfl, rfl, rfl, rfl, rfl, rfl, trivial⟩, List.Perm.refl _, ?_⟩
          rw [tab_snoc, ← Nat.add_assoc]
          exact Own.mk h3 h4 (by rw [length_tab]; omega) (List.Perm.refl _)

      · rcases hL with rfl | ⟨g0, k0, rfl⟩
        all_goals
          simp only [if_true] at hxy
          repeat (first | rw [hpu] | rw [hpv] | refine go1_ ?_ | refine bx_ (fun _ => ?_) | refine hl_callv rfl rfl (down_fn _ _ (by unfold Big; omega) (by omega)) ?_)
          (refine hc_draw (by kernel_rfl) (by kernel_rfl) ?_; repeat (first | rw [hpu] | refine gd1_ ?_ | refine hd_call rfl rfl (down_fn _ _ (by unfold Big; omega) (by omega)) ?_))
          repeat (first | refine go_ ?_ | refine bx_ (fun _ => ?_))
          (refine hc_draw (by kernel_rfl) (by kernel_rfl) ?_; repeat (first | rw [hpv] | refine gd1_ ?_ | refine hd_call rfl rfl (down_fn _ _ (by unfold Big; omega) (by omega)) ?_))
          repeat (first | refine go_ ?_ | refine bx_ (fun _ => ?_))
          refine hc_meet (fun fr X => ∃ gb cap', Agr fr [(2, .int .i64 (w : Int)), (3, .int .i64 (h : Int)), (4, .bool true), (5, .pointer (some ⟨g5, 0, none⟩)), (10, .pointer (some ⟨g10, 0, none⟩)), (12, .pointer (some ⟨g12, 0, none⟩)), (14, .pointer (some ⟨g14, 0, none⟩)), (15, .int .i64 (y : Int)), (16, .int .i64 (x : Int))] ∧ y * w + x + 1 ≤ cap' ∧ cap' ≤ 9223372036854775807 ∧
            Imp X (⟨g14, 37, [.int .i64 w, .int .i64 h, (.slice (some ⟨gb, 0, none⟩) (y * w + x + 1) cap')], 3⟩ :: ⟨gb, 3, tab (y * w + x) (seenZ m W H f w true) ++ [.int .i64 (seenZ m W H f w true (y * w + x))], cap' * 1⟩ :: ⟨g12, 28, tab 6 (backR m).1, 6⟩ :: ⟨g10, 37, [.int .i64 0, .int .i64 0, .slice none 0 0], 3⟩ :: ⟨g6, 28, tab 6 m, 6⟩ :: ⟨g5, 37, [.int .i64 W, .int .i64 H, .slice a n cap], 3⟩ :: M)) ?_ ?_
          · refine hc_drawA (⟨g12, 28, tab 6 (backR m).1, 6⟩ :: ⟨g10, 37, [.int .i64 0, .int .i64 0, .slice none 0 0], 3⟩ :: ⟨g6, 28, tab 6 m, 6⟩ :: ⟨g5, 37, [.int .i64 W, .int .i64 H, .slice a n cap], 3⟩ :: M) (by kernel_rfl) ?_
            refine ha_quiet [0, 2, 3, 4, 5] (by rfl) (by kernel_rfl) ?_
            repeat (first | rw [← hxy] | refine gd1_ ?_ | refine hq_call rfl rfl (fun E hE => hsmE E hE) ?_)
            refine ha_fork2 1 6 (by rfl) (by kernel_rfl) (by rfl) (by rfl) (by first | exact Imp.refl _ | exact Imp.drop (Imp.refl _) | exact Imp.drop (Imp.drop (Imp.refl _)) | exact Imp.drop (Imp.drop (Imp.drop (Imp.refl _))) | exact Imp.drop (Imp.drop (Imp.drop (Imp.drop (Imp.refl _)))) | exact Imp.drop (Imp.drop (Imp.drop (Imp.drop (Imp.drop (Imp.refl _))))) | exact Imp.drop (Imp.drop (Imp.drop (Imp.drop (Imp.drop (Imp.drop (Imp.refl _)))))) | exact Imp.drop (Imp.drop (Imp.drop (Imp.drop (Imp.drop (Imp.drop (Imp.drop (Imp.refl _))))))) | exact Imp.drop (Imp.drop (Imp.drop (Imp.drop (Imp.drop (Imp.drop (Imp.drop (Imp.drop (Imp.refl _)))))))) | assumption | exact Imp.drop2 (Imp.refl _) | exact Imp.drop2 (Imp.drop2 (Imp.refl _)) | exact Imp.drop (Imp.drop2 (Imp.refl _))) ?_ ?_
            · skip
              repeat (first | refine op_ ?_ | refine bx_ (fun _ => ?_))
              refine ha_fork1 6 (by rfl) (by kernel_rfl) (by rfl) (by first | exact Imp.refl _ | exact Imp.drop (Imp.refl _) | exact Imp.drop (Imp.drop (Imp.refl _)) | exact Imp.drop (Imp.drop (Imp.drop (Imp.refl _))) | exact Imp.drop (Imp.drop (Imp.drop (Imp.drop (Imp.refl _)))) | exact Imp.drop (Imp.drop (Imp.drop (Imp.drop (Imp.drop (Imp.refl _))))) | exact Imp.drop (Imp.drop (Imp.drop (Imp.drop (Imp.drop (Imp.drop (Imp.refl _)))))) | exact Imp.drop (Imp.drop (Imp.drop (Imp.drop (Imp.drop (Imp.drop (Imp.drop (Imp.refl _))))))) | exact Imp.drop (Imp.drop (Imp.drop (Imp.drop (Imp.drop (Imp.drop (Imp.drop (Imp.drop (Imp.refl _)))))))) | assumption | exact Imp.drop2 (Imp.refl _) | exact Imp.drop2 (Imp.drop2 (Imp.refl _)) | exact Imp.drop (Imp.drop2 (Imp.refl _))) ?_
              · skip
                repeat (first | refine op_ ?_ | refine bx_ (fun _ => ?_))
                refine ha_fork1 7 (by rfl) (by kernel_rfl) (by rfl) (by first | exact Imp.refl _ | exact Imp.drop (Imp.refl _) | exact Imp.drop (Imp.drop (Imp.refl _)) | exact Imp.drop (Imp.drop (Imp.drop (Imp.refl _))) | exact Imp.drop (Imp.drop (Imp.drop (Imp.drop (Imp.refl _)))) | exact Imp.drop (Imp.drop (Imp.drop (Imp.drop (Imp.drop (Imp.refl _))))) | exact Imp.drop (Imp.drop (Imp.drop (Imp.drop (Imp.drop (Imp.drop (Imp.refl _)))))) | exact Imp.drop (Imp.drop (Imp.drop (Imp.drop (Imp.drop (Imp.drop (Imp.drop (Imp.refl _))))))) | exact Imp.drop (Imp.drop (Imp.drop (Imp.drop (Imp.drop (Imp.drop (Imp.drop (Imp.drop (Imp.refl _)))))))) | assumption | exact Imp.drop2 (Imp.refl _) | exact Imp.drop2 (Imp.drop2 (Imp.refl _)) | exact Imp.drop (Imp.drop2 (Imp.refl _))) ?_
                · skip
                  refine hl_append_own1 (news := [.int .i64 (seenZ m W H f w true (y * w + x))]) rfl rfl ((ho.under _).under _) (Rds.ent (n := 1) .here rfl (by simp [Value.oneCell'])) rfl rfl (by decide) (by decide) (by omega) (by omega) rfl (fun gb cap' h3 h4 => ?_)
                  repeat (first | refine op_ ?_ | refine bx_ (fun _ => ?_))
                  refine ha_quiet [8] (by rfl) (by kernel_rfl) ?_
                  repeat (first | rw [← hxy] | refine gd1_ ?_ | refine hq_call rfl rfl (fun E hE => hsmE E hE) ?_)
                  refine ha_fork1 9 (by rfl) (by kernel_rfl) (by rfl) (by first | exact Imp.refl _ | exact Imp.drop (Imp.refl _) | exact Imp.drop (Imp.drop (Imp.refl _)) | exact Imp.drop (Imp.drop (Imp.drop (Imp.refl _))) | exact Imp.drop (Imp.drop (Imp.drop (Imp.drop (Imp.refl _)))) | exact Imp.drop (Imp.drop (Imp.drop (Imp.drop (Imp.drop (Imp.refl _))))) | exact Imp.drop (Imp.drop (Imp.drop (Imp.drop (Imp.drop (Imp.drop (Imp.refl _)))))) | exact Imp.drop (Imp.drop (Imp.drop (Imp.drop (Imp.drop (Imp.drop (Imp.drop (Imp.refl _))))))) | exact Imp.drop (Imp.drop (Imp.drop (Imp.drop (Imp.drop (Imp.drop (Imp.drop (Imp.drop (Imp.refl _)))))))) | assumption | exact Imp.drop2 (Imp.refl _) | exact Imp.drop2 (Imp.drop2 (Imp.refl _)) | exact Imp.drop (Imp.drop2 (Imp.refl _))) ?_
                  · skip
                    repeat (first | refine op_ ?_ | refine bx_ (fun _ => ?_))
                    refine ha_end (by rfl) (by kernel_rfl) (by first | exact Imp.refl _ | exact Imp.drop (Imp.refl _) | exact Imp.drop (Imp.drop (Imp.refl _)) | exact Imp.drop (Imp.drop (Imp.drop (Imp.refl _))) | exact Imp.drop (Imp.drop (Imp.drop (Imp.drop (Imp.refl _)))) | exact Imp.drop (Imp.drop (Imp.drop (Imp.drop (Imp.drop (Imp.refl _))))) | exact Imp.drop (Imp.drop (Imp.drop (Imp.drop (Imp.drop (Imp.drop (Imp.refl _)))))) | exact Imp.drop (Imp.drop (Imp.drop (Imp.drop (Imp.drop (Imp.drop (Imp.drop (Imp.refl _))))))) | exact Imp.drop (Imp.drop (Imp.drop (Imp.drop (Imp.drop (Imp.drop (Imp.drop (Imp.drop (Imp.refl _)))))))) | assumption | exact Imp.drop2 (Imp.refl _) | exact Imp.drop2 (Imp.drop2 (Imp.refl _)) | exact Imp.drop (Imp.drop2 (Imp.refl _))) ?_
                    exact ⟨_, _, ⟨rfl, rfl, rfl, rfl, rfl, rfl, rfl, rfl, rfl, trivial⟩, h3, h4, Imp.drop3⟩
            · skip
              repeat (first | refine op_ ?_ | refine bx_ (fun _ => ?_))
              refine ha_fork1 1 (by rfl) (by kernel_rfl) (by rfl) (by first | exact Imp.refl _ | exact Imp.drop (Imp.refl _) | exact Imp.drop (Imp.drop (Imp.refl _)) | exact Imp.drop (Imp.drop (Imp.drop (Imp.refl _))) | exact Imp.drop (Imp.drop (Imp.drop (Imp.drop (Imp.refl _)))) | exact Imp.drop (Imp.drop (Imp.drop (Imp.drop (Imp.drop (Imp.refl _))))) | exact Imp.drop (Imp.drop (Imp.drop (Imp.drop (Imp.drop (Imp.drop (Imp.refl _)))))) | exact Imp.drop (Imp.drop (Imp.drop (Imp.drop (Imp.drop (Imp.drop (Imp.drop (Imp.refl _))))))) | exact Imp.drop (Imp.drop (Imp.drop (Imp.drop (Imp.drop (Imp.drop (Imp.drop (Imp.drop (Imp.refl _)))))))) | assumption | exact Imp.drop2 (Imp.refl _) | exact Imp.drop2 (Imp.drop2 (Imp.refl _)) | exact Imp.drop (Imp.drop2 (Imp.refl _))) ?_
              · skip
                repeat (first | refine op_ ?_ | refine bx_ (fun _ => ?_))
                refine ha_fork1 7 (by rfl) (by kernel_rfl) (by rfl) (by first | exact Imp.refl _ | exact Imp.drop (Imp.refl _) | exact Imp.drop (Imp.drop (Imp.refl _)) | exact Imp.drop (Imp.drop (Imp.drop (Imp.refl _))) | exact Imp.drop (Imp.drop (Imp.drop (Imp.drop (Imp.refl _)))) | exact Imp.drop (Imp.drop (Imp.drop (Imp.drop (Imp.drop (Imp.refl _))))) | exact Imp.drop (Imp.drop (Imp.drop (Imp.drop (Imp.drop (Imp.drop (Imp.refl _)))))) | exact Imp.drop (Imp.drop (Imp.drop (Imp.drop (Imp.drop (Imp.drop (Imp.drop (Imp.refl _))))))) | exact Imp.drop (Imp.drop (Imp.drop (Imp.drop (Imp.drop (Imp.drop (Imp.drop (Imp.drop (Imp.refl _)))))))) | assumption | exact Imp.drop2 (Imp.refl _) | exact Imp.drop2 (Imp.drop2 (Imp.refl _)) | exact Imp.drop (Imp.drop2 (Imp.refl _))) ?_
                · skip
                  refine hl_append_own1 (news := [.int .i64 (seenZ m W H f w true (y * w + x))]) rfl rfl ((ho.under _).under _) (Rds.ent (n := 1) .here rfl (by simp [Value.oneCell'])) rfl rfl (by decide) (by decide) (by omega) (by omega) rfl (fun gb cap' h3 h4 => ?_)
                  repeat (first | refine op_ ?_ | refine bx_ (fun _ => ?_))
                  refine ha_quiet [8] (by rfl) (by kernel_rfl) ?_
                  repeat (first | rw [← hxy] | refine gd1_ ?_ | refine hq_call rfl rfl (fun E hE => hsmE E hE) ?_)
                  refine ha_fork1 9 (by rfl) (by kernel_rfl) (by rfl) (by first | exact Imp.refl _ | exact Imp.drop (Imp.refl _) | exact Imp.drop (Imp.drop (Imp.refl _)) | exact Imp.drop (Imp.drop (Imp.drop (Imp.refl _))) | exact Imp.drop (Imp.drop (Imp.drop (Imp.drop (Imp.refl _)))) | exact Imp.drop (Imp.drop (Imp.drop (Imp.drop (Imp.drop (Imp.refl _))))) | exact Imp.drop (Imp.drop (Imp.drop (Imp.drop (Imp.drop (Imp.drop (Imp.refl _)))))) | exact Imp.drop (Imp.drop (Imp.drop (Imp.drop (Imp.drop (Imp.drop (Imp.drop (Imp.refl _))))))) | exact Imp.drop (Imp.drop (Imp.drop (Imp.drop (Imp.drop (Imp.drop (Imp.drop (Imp.drop (Imp.refl _)))))))) | assumption | exact Imp.drop2 (Imp.refl _) | exact Imp.drop2 (Imp.drop2 (Imp.refl _)) | exact Imp.drop (Imp.drop2 (Imp.refl _))) ?_
                  · skip
                    repeat (first | refine op_ ?_ | refine bx_ (fun _ => ?_))
                    refine ha_end (by rfl) (by kernel_rfl) (by first | exact Imp.refl _ | exact Imp.drop (Imp.refl _) | exact Imp.drop (Imp.drop (Imp.refl _)) | exact Imp.drop (Imp.drop (Imp.drop (Imp.refl _))) | exact Imp.drop (Imp.drop (Imp.drop (Imp.drop (Imp.refl _)))) | exact Imp.drop (Imp.drop (Imp.drop (Imp.drop (Imp.drop (Imp.refl _))))) | exact Imp.drop (Imp.drop (Imp.drop (Imp.drop (Imp.drop (Imp.drop (Imp.refl _)))))) | exact Imp.drop (Imp.drop (Imp.drop (Imp.drop (Imp.drop (Imp.drop (Imp.drop (Imp.refl _))))))) | exact Imp.drop (Imp.drop (Imp.drop (Imp.drop (Imp.drop (Imp.drop (Imp.drop (Imp.drop (Imp.refl _)))))))) | assumption | exact Imp.drop2 (Imp.refl _) | exact Imp.drop2 (Imp.drop2 (Imp.refl _)) | exact Imp.drop (Imp.drop2 (Imp.refl _))) ?_
                    exact ⟨_, _, ⟨rfl, rfl, rfl, rfl, rfl, rfl, rfl, rfl, rfl, trivial⟩, h3, h4, Imp.drop3⟩
          rintro fr X ⟨gb, cap', hf, h3, h4, hi⟩
          obtain ⟨base, rfl⟩ := hf.out
          clear hf
          repeat (first | refine go_ ?_ | refine bx_ (fun _ => ?_))
          refine ⟨z2 - 1, by omega, _, hi, x + 1, _, _, by omega, ⟨rfl, rfl, rfl, rfl, rfl, rfl, rfl, rfl, rfl, trivial⟩, List.Perm.refl _, ?_⟩
          rw [tab_snoc, ← Nat.add_assoc]
          exact Own.mk h3 h4 (by rw [length_tab]; omega) (List.Perm.refl _)

    · obtain rfl : x = w := by omega
      repeat (first | refine go_ ?_ | refine bx_ (fun _ => ?_))
      refine ⟨z - 1, by omega, _, Imp.refl _, y + 1, _, _, by omega, ⟨rfl, rfl, rfl, rfl, rfl, rfl, rfl, rfl, trivial⟩, List.Perm.refl _, ?_⟩
      rw [Nat.succ_mul]
      exact ho
  · obtain rfl : y = h := by omega
    rcases ho with ⟨e1, e2, e3, hpl⟩ | ⟨g', c', e1, i1, i2, i3, hpl⟩
    · refine HC.perm ?_ (hpl.cons _)
      simp only [Value.slice.injEq] at e1
      obtain ⟨rfl, _, rfl⟩ := e1
      repeat (first | refine go_ ?_ | refine bx_ (fun _ => ?_))
      refine finCI rfl rfl .here rfl rfl (.inr ⟨rfl, _, ?_, rfl⟩) (by exact Imp.drop (Imp.drop (Imp.drop (Imp.drop (Imp.drop (Imp.refl _))))))
      rw [e2]
      exact Own.nil
    · refine HC.perm ?_ (hpl.cons _)
      simp only [Value.slice.injEq] at e1
      obtain ⟨rfl, _, rfl⟩ := e1
      repeat (first | refine go_ ?_ | refine bx_ (fun _ => ?_))
      refine finCI rfl rfl .here rfl rfl (.inr ⟨rfl, _, Own.mk i1 i2 i3 (List.Perm.refl _), rfl⟩) ?_
      exact Imp.drop (Imp.drop (Imp.drop2 (Imp.drop2 (Imp.drop2 (Imp.refl _)))))
end
end Go.Proofs.Ytbgdligfdfhbkaa
