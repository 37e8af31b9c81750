/-
  Pictures: the pixel between its neighbours, and what is seen at a place. No condition.
-/
import Derived.Test.YtbgdligfdfhbkaaA3
namespace Go.Proofs.Ytbgdligfdfhbkaa
open Go.RowKit

def mixZ (a b c d s t : Int) : Int := (32768 + a * ((256 - s) * (256 - t)) + b * (s * (256 - t)) + c * ((256 - s) * t) + d * (s * t)) / 65536
theorem part_bd (v : Int) : By (s0 v) ∧ By (s1 v) ∧ By (s2 v) ∧ By (s3 v) := by
  unfold By s0 s1 s2 s3; omega
theorem w_bd {s t : Int} (hs : By s) (ht : By t) : (0 ≤ (256 - s) * (256 - t) ∧ 0 ≤ s * (256 - t) ∧ 0 ≤ (256 - s) * t ∧ 0 ≤ s * t) ∧ (256 - s) * (256 - t) + s * (256 - t) + (256 - s) * t + s * t = 65536 := by
  unfold By at *
  refine ⟨⟨Int.mul_nonneg (by omega) (by omega), Int.mul_nonneg (by omega) (by omega), Int.mul_nonneg (by omega) (by omega), Int.mul_nonneg (by omega) (by omega)⟩, ?_⟩
  simp only [Int.sub_mul, Int.mul_sub]
  omega
theorem p_bd {a w : Int} (ha : By a) (hw : 0 ≤ w) : 0 ≤ a * w ∧ a * w ≤ 255 * w := ⟨Int.mul_nonneg ha.1 hw, Int.mul_le_mul_of_nonneg_right ha.2 hw⟩
theorem mix_by {a b c d s t : Int} (ha : By a) (hb : By b) (hc : By c) (hd : By d) (hs : By s) (ht : By t) : By (mixZ a b c d s t) := by
  obtain ⟨⟨w0, w1, w2, w3⟩, hw⟩ := w_bd hs ht
  have p0 := p_bd ha w0
  have p1 := p_bd hb w1
  have p2 := p_bd hc w2
  have p3 := p_bd hd w3
  unfold By mixZ
  omega
def smq (A B C D s t : Int) (f : Int → Int) : Int := mixZ (f A) (f B) (f C) (f D) s t
/-- Between four pixels. -/
def sm4 (A B C D s t : Int) : Int := joinZ (smq A B C D s t s0) (smq A B C D s t s1) (smq A B C D s t s2) (smq A B C D s t s3)
def smI (u : Int) : Int := (u - 32768) / 65536
def smS (u : Int) : Int := (u - 32768) / 256 % 256
def smZ (W H : Nat) (f : Nat → Int) (u v : Int) : Int :=
  sm4 (pixAt W H f (smI u) (smI v)) (pixAt W H f (smI u + 1) (smI v)) (pixAt W H f (smI u) (smI v + 1)) (pixAt W H f (smI u + 1) (smI v + 1)) (smS u) (smS v)
theorem smS_by (u : Int) : By (smS u) := by unfold By smS; omega
def Pl (u : Int) : Prop := -4503599627370496 ≤ u ∧ u ≤ 4503599627370496
section
variable {w0 : World} {B : Nat} {M : List Ent}
theorem part0_fn (v : Int) (h : 0 ≤ v) : Fn Try.prog w0 B 38 [.int .i64 v, .int .i64 0] M (fun r M' => r = .int .i64 (s0 v) ∧ M' = M) := by
  refine fn_intro Try.func38 rfl (by kernel_rfl) rfl ?_
  repeat (first | refine go_ ?_ | refine bx_ (fun _ => ?_))
  exact fin1I rfl rfl ⟨rfl, rfl⟩
theorem part1_fn (v : Int) (h : 0 ≤ v) : Fn Try.prog w0 B 38 [.int .i64 v, .int .i64 1] M (fun r M' => r = .int .i64 (s1 v) ∧ M' = M) := by
  refine fn_intro Try.func38 rfl (by kernel_rfl) rfl ?_
  repeat (first | refine go_ ?_ | refine bx_ (fun _ => ?_))
  exact fin1I rfl rfl ⟨rfl, rfl⟩
theorem part2_fn (v : Int) (h : 0 ≤ v) : Fn Try.prog w0 B 38 [.int .i64 v, .int .i64 2] M (fun r M' => r = .int .i64 (s2 v) ∧ M' = M) := by
  refine fn_intro Try.func38 rfl (by kernel_rfl) rfl ?_
  repeat (first | refine go_ ?_ | refine bx_ (fun _ => ?_))
  exact fin1I rfl rfl ⟨rfl, rfl⟩
theorem part3_fn (v : Int) (h : 0 ≤ v) : Fn Try.prog w0 B 38 [.int .i64 v, .int .i64 3] M (fun r M' => r = .int .i64 (s3 v) ∧ M' = M) := by
  refine fn_intro Try.func38 rfl (by kernel_rfl) rfl ?_
  repeat (first | rw [show v / 2 ^ 0 = v by omega] | refine go1_ ?_ | refine bx_ (fun _ => ?_))
  exact fin1I rfl rfl ⟨rfl, rfl⟩
set_option maxHeartbeats 16000000 in
set_option maxRecDepth 100000 in
theorem smooth_fn {W H : Nat} {a : Option Addr} {n cap : Nat} {f : Nat → Int} (p : Pic w0 B M W H a n f) (u v : Int) (hu : Pl u) (hv : Pl v) : Fn Try.prog w0 B 36 [picV W H a n cap, .int .i64 u, .int .i64 v] M (fun r M' => r = .int .i64 (smZ W H f u v) ∧ M' = M) := by
  unfold Pl at hu hv
  have hui : (u - 32768) / 2 ^ 16 = smI u := rfl
  have hvi : (v - 32768) / 2 ^ 16 = smI v := rfl
  have hus : (u - 32768) / 2 ^ 8 % 256 = smS u := rfl
  have hvs : (v - 32768) / 2 ^ 8 % 256 = smS v := rfl
  have bi : -4503599627370497 ≤ smI u ∧ smI u ≤ 4503599627370497 := by unfold smI; omega
  have bj : -4503599627370497 ≤ smI v ∧ smI v ≤ 4503599627370497 := by unfold smI; omega
  have hs := smS_by u
  have ht := smS_by v
  unfold smZ
  refine fn_intro Try.func36 rfl (by kernel_rfl) rfl ?_
  unfold picV
  repeat (first | rw [and255] | rw [hui] | rw [hvi] | rw [hus] | rw [hvs] | refine go1_ ?_ | refine bx_ (fun _ => ?_))
  rename_i g3
  generalize hI : smI u = i at *
  generalize hJ : smI v = j at *
  generalize smS u = s at *
  generalize smS v = t at *
  have hP : ∀ E, Imp E M → Pic w0 B E W H a n f := fun E hi => p.imp hi
  generalize hA : pixAt W H f i j = A
  generalize hB : pixAt W H f (i + 1) j = Bp
  generalize hC : pixAt W H f i (j + 1) = C
  generalize hD : pixAt W H f (i + 1) (j + 1) = D
  have fA : ∀ E, ImpC ⟨Try.prog, Try.f36.ntmps, w0, B⟩ E (⟨g3, 34, [.int .i64 W, .int .i64 H, .slice a n cap], 3⟩ :: M) → ∀ x y z, pixAt W H f x y = z → Fn Try.prog w0 B 37 [picV W H a n cap, .int .i64 x, .int .i64 y] E (fun v M' => v = .int .i64 z ∧ M' = E) := fun E hE x y z hz => by
    have hp : Pic w0 B E W H a n f := ⟨fun h => by
      obtain ⟨b, off, e, r⟩ := p.row h
      exact ⟨b, off, e, ⟨fun w hw j hj => r.cell w (hE w hw).drop j hj⟩⟩, p.size, p.w, p.h, p.px⟩
    have := at_fn (cap := cap) hp x y
    rw [hz] at this
    exact this
  have hsp : ∀ (E : List Ent) (v : Int), Fn Try.prog w0 B 41 [.int .i64 v] E (fun r M' => r = .agg [.int .i64 (s0 v), .int .i64 (s1 v), .int .i64 (s2 v), .int .i64 (s3 v)].toArray ∧ M' = E) := fun E v => split_fn v
  refine hc_meet (fun fr M' => ∃ g11, Agr fr [(9, .int .i64 s), (10, .int .i64 t), (11, .pointer (some ⟨g11, 0, none⟩))] ∧ M' = ⟨g11, 63, [.int .i64 (s0 A), .int .i64 (s1 A), .int .i64 (s2 A), .int .i64 (s3 A), .int .i64 (s0 Bp), .int .i64 (s1 Bp), .int .i64 (s2 Bp), .int .i64 (s3 Bp), .int .i64 (s0 C), .int .i64 (s1 C), .int .i64 (s2 C), .int .i64 (s3 C), .int .i64 (s0 D), .int .i64 (s1 D), .int .i64 (s2 D), .int .i64 (s3 D)], 16⟩ :: ⟨g3, 34, [.int .i64 W, .int .i64 H, .slice a n cap], 3⟩ :: M) ?_ ?_
  · refine hc_drawA (⟨g3, 34, [.int .i64 W, .int .i64 H, .slice a n cap], 3⟩ :: M) (by kernel_rfl) ?_
    refine ha_quiet [0, 1, 2, 3, 4, 5, 6, 7, 8, 9, 10, 11, 12, 13, 14, 15, 16, 17, 18, 19, 20, 21, 22, 23, 24] (by rfl) (by kernel_rfl) ?_
    repeat (first | refine gd_ ?_ | refine hq_call rfl rfl (fun E hE => fA E hE _ _ _ hA) ?_ | refine hq_call rfl rfl (fun E hE => fA E hE _ _ _ hB) ?_ | refine hq_call rfl rfl (fun E hE => fA E hE _ _ _ hC) ?_ | refine hq_call rfl rfl (fun E hE => fA E hE _ _ _ hD) ?_ | refine hq_call rfl rfl (fun E _ => hsp E _) ?_)
    refine ha_fork1 25 (by rfl) (by kernel_rfl) (by rfl) (by first | exact Imp.refl _ | exact Imp.drop (Imp.refl _) | exact Imp.drop (Imp.drop (Imp.refl _)) | exact Imp.drop (Imp.drop (Imp.drop (Imp.refl _))) | exact Imp.drop (Imp.drop (Imp.drop (Imp.drop (Imp.refl _)))) | exact Imp.drop (Imp.drop (Imp.drop (Imp.drop (Imp.drop (Imp.refl _))))) | exact Imp.drop (Imp.drop (Imp.drop (Imp.drop (Imp.drop (Imp.drop (Imp.refl _)))))) | exact Imp.drop (Imp.drop (Imp.drop (Imp.drop (Imp.drop (Imp.drop (Imp.drop (Imp.refl _))))))) | exact Imp.drop (Imp.drop (Imp.drop (Imp.drop (Imp.drop (Imp.drop (Imp.drop (Imp.drop (Imp.refl _)))))))) | assumption | exact Imp.drop2 (Imp.refl _) | exact Imp.drop2 (Imp.drop2 (Imp.refl _)) | exact Imp.drop (Imp.drop2 (Imp.refl _))) ?_
    · skip
      repeat (first | refine op_ ?_ | refine bx_ (fun _ => ?_))
      refine ha_fork1 26 (by rfl) (by kernel_rfl) (by rfl) (by first | exact Imp.refl _ | exact Imp.drop (Imp.refl _) | exact Imp.drop (Imp.drop (Imp.refl _)) | exact Imp.drop (Imp.drop (Imp.drop (Imp.refl _))) | exact Imp.drop (Imp.drop (Imp.drop (Imp.drop (Imp.refl _)))) | exact Imp.drop (Imp.drop (Imp.drop (Imp.drop (Imp.drop (Imp.refl _))))) | exact Imp.drop (Imp.drop (Imp.drop (Imp.drop (Imp.drop (Imp.drop (Imp.refl _)))))) | exact Imp.drop (Imp.drop (Imp.drop (Imp.drop (Imp.drop (Imp.drop (Imp.drop (Imp.refl _))))))) | exact Imp.drop (Imp.drop (Imp.drop (Imp.drop (Imp.drop (Imp.drop (Imp.drop (Imp.drop (Imp.refl _)))))))) | assumption | exact Imp.drop2 (Imp.refl _) | exact Imp.drop2 (Imp.drop2 (Imp.refl _)) | exact Imp.drop (Imp.drop2 (Imp.refl _))) ?_
      · skip
        repeat (first | refine op_ ?_ | refine bx_ (fun _ => ?_))
        refine ha_end (by rfl) (by kernel_rfl) (by first | exact Imp.refl _ | exact Imp.drop (Imp.refl _) | exact Imp.drop (Imp.drop (Imp.refl _)) | exact Imp.drop (Imp.drop (Imp.drop (Imp.refl _))) | exact Imp.drop (Imp.drop (Imp.drop (Imp.drop (Imp.refl _)))) | exact Imp.drop (Imp.drop (Imp.drop (Imp.drop (Imp.drop (Imp.refl _))))) | exact Imp.drop (Imp.drop (Imp.drop (Imp.drop (Imp.drop (Imp.drop (Imp.refl _)))))) | exact Imp.drop (Imp.drop (Imp.drop (Imp.drop (Imp.drop (Imp.drop (Imp.drop (Imp.refl _))))))) | exact Imp.drop (Imp.drop (Imp.drop (Imp.drop (Imp.drop (Imp.drop (Imp.drop (Imp.drop (Imp.refl _)))))))) | assumption | exact Imp.drop2 (Imp.refl _) | exact Imp.drop2 (Imp.drop2 (Imp.refl _)) | exact Imp.drop (Imp.drop2 (Imp.refl _))) ?_
        exact ⟨_, ⟨rfl, rfl, rfl, trivial⟩, rfl⟩
  rintro fr M' ⟨g11, hf, rfl⟩
  obtain ⟨base, rfl⟩ := hf.out
  clear hf fA hA hB hC hD
  obtain ⟨⟨w0', w1', w2', w3'⟩, hw⟩ := w_bd hs ht
  obtain ⟨A0, A1, A2, A3⟩ := part_bd A
  obtain ⟨B0, B1, B2, B3⟩ := part_bd Bp
  obtain ⟨C0, C1, C2, C3⟩ := part_bd C
  obtain ⟨D0, D1, D2, D3⟩ := part_bd D
  have pA0 := p_bd A0 w0'
  have pA1 := p_bd A1 w0'
  have pA2 := p_bd A2 w0'
  have pA3 := p_bd A3 w0'
  have pB0 := p_bd B0 w1'
  have pB1 := p_bd B1 w1'
  have pB2 := p_bd B2 w1'
  have pB3 := p_bd B3 w1'
  have pC0 := p_bd C0 w2'
  have pC1 := p_bd C1 w2'
  have pC2 := p_bd C2 w2'
  have pC3 := p_bd C3 w2'
  have pD0 := p_bd D0 w3'
  have pD1 := p_bd D1 w3'
  have pD2 := p_bd D2 w3'
  have pD3 := p_bd D3 w3'
  have hm0 := mix_by A0 B0 C0 D0 hs ht
  have hm1 := mix_by A1 B1 C1 D1 hs ht
  have hm2 := mix_by A2 B2 C2 D2 hs ht
  have hm3 := mix_by A3 B3 C3 D3 hs ht
  have e0 : (32768 + s0 A * ((256 - s) * (256 - t)) + s0 Bp * (s * (256 - t)) + s0 C * ((256 - s) * t) + s0 D * (s * t)) / 2 ^ 16 = mixZ (s0 A) (s0 Bp) (s0 C) (s0 D) s t := rfl
  have e1 : (32768 + s1 A * ((256 - s) * (256 - t)) + s1 Bp * (s * (256 - t)) + s1 C * ((256 - s) * t) + s1 D * (s * t)) / 2 ^ 16 = mixZ (s1 A) (s1 Bp) (s1 C) (s1 D) s t := rfl
  have e2 : (32768 + s2 A * ((256 - s) * (256 - t)) + s2 Bp * (s * (256 - t)) + s2 C * ((256 - s) * t) + s2 D * (s * t)) / 2 ^ 16 = mixZ (s2 A) (s2 Bp) (s2 C) (s2 D) s t := rfl
  have e3 : (32768 + s3 A * ((256 - s) * (256 - t)) + s3 Bp * (s * (256 - t)) + s3 C * ((256 - s) * t) + s3 D * (s * t)) / 2 ^ 16 = mixZ (s3 A) (s3 Bp) (s3 C) (s3 D) s t := rfl
  unfold By at hs ht
  repeat (first | refine go_ ?_ | refine bx_ (fun _ => ?_))
  refine hc_rounds 5 ?_
  repeat (first | refine go_ ?_ | refine bx_ (fun _ => ?_))
  refine hc_rounds 5 ?_
  repeat (first | rw [e0] | refine go1_ ?_ | refine bx_ (fun _ => ?_))
  repeat (first | refine go_ ?_ | refine bx_ (fun _ => ?_))
  refine hc_rounds 5 ?_
  repeat (first | rw [e1] | refine go1_ ?_ | refine bx_ (fun _ => ?_))
  repeat (first | refine go_ ?_ | refine bx_ (fun _ => ?_))
  refine hc_rounds 5 ?_
  repeat (first | rw [e2] | refine go1_ ?_ | refine bx_ (fun _ => ?_))
  repeat (first | refine go_ ?_ | refine bx_ (fun _ => ?_))
  refine hc_rounds 5 ?_
  repeat (first | rw [e3] | refine go1_ ?_ | refine bx_ (fun _ => ?_))
  repeat (first | refine go_ ?_ | refine bx_ (fun _ => ?_) | refine hl_callv rfl rfl (join_fn _ _ _ _ hm0 hm1 hm2 hm3) ?_)
  exact fin1I rfl rfl ⟨rfl, rfl⟩
set_option maxHeartbeats 16000000 in
set_option maxRecDepth 100000 in
theorem rsmooth_fn {W H : Nat} {a : Option Addr} {n cap : Nat} {f : Nat → Int} (p : Pic w0 B M W H a n f) (u v : Int) (hu : Pl u) (hv : Pl v) : Fn Try.prog w0 B 35 [picV W H a n cap, .int .i64 u, .int .i64 v] M (fun r M' => r = .int .i64 (smZ W H f u v) ∧ M' = M) := by
  unfold Pl at hu hv
  have hui : (u - 32768) / 65536 = smI u := rfl
  have hvi : (v - 32768) / 65536 = smI v := rfl
  have hus : (u - 32768 - 65536 * smI u) / 256 = smS u := by unfold smI smS; omega
  have hvs : (v - 32768 - 65536 * smI v) / 256 = smS v := by unfold smI smS; omega
  have bi : -4503599627370497 ≤ smI u ∧ smI u ≤ 4503599627370497 := by unfold smI; omega
  have bj : -4503599627370497 ≤ smI v ∧ smI v ≤ 4503599627370497 := by unfold smI; omega
  have b1 : 0 ≤ u - 32768 - 65536 * smI u ∧ u - 32768 - 65536 * smI u ≤ 65535 := by unfold smI; omega
  have b2 : 0 ≤ v - 32768 - 65536 * smI v ∧ v - 32768 - 65536 * smI v ≤ 65535 := by unfold smI; omega
  have hs := smS_by u
  have ht := smS_by v
  unfold smZ
  refine fn_intro Try.func35 rfl (by kernel_rfl) rfl ?_
  unfold picV
  repeat (first | rw [hui] | rw [hvi] | rw [hus] | rw [hvs] | refine go1_ ?_ | refine bx_ (fun _ => ?_) | refine hl_callv rfl rfl (down_fn _ _ (by unfold Big; omega) (by omega)) ?_)
  generalize hI : smI u = i at *
  generalize hJ : smI v = j at *
  generalize smS u = s at *
  generalize smS v = t at *
  have nA := pixAt_bd p i j
  have nB := pixAt_bd p (i + 1) j
  have nC := pixAt_bd p i (j + 1)
  have nD := pixAt_bd p (i + 1) (j + 1)
  generalize hA : pixAt W H f i j = A at *
  generalize hB : pixAt W H f (i + 1) j = Bp at *
  generalize hC : pixAt W H f i (j + 1) = C at *
  generalize hD : pixAt W H f (i + 1) (j + 1) = D at *
  have fA : ∀ E, Imp E M → ∀ x y z, pixAt W H f x y = z → Fn Try.prog w0 B 22 [picV W H a n cap, .int .i64 x, .int .i64 y] E (fun v M' => v = .int .i64 z ∧ M' = E) := fun E hE x y z hz => by
    have := rat_fn (cap := cap) (p.imp hE) x y
    rw [hz] at this
    exact this
  obtain ⟨⟨w0', w1', w2', w3'⟩, hw⟩ := w_bd hs ht
  obtain ⟨A0, A1, A2, A3⟩ := part_bd A
  obtain ⟨B0, B1, B2, B3⟩ := part_bd Bp
  obtain ⟨C0, C1, C2, C3⟩ := part_bd C
  obtain ⟨D0, D1, D2, D3⟩ := part_bd D
  have pA0 := p_bd A0 w0'
  have rA0 := p_bd A0 (show 0 ≤ (256 - s) by unfold By at hs; omega)
  have qA0 : s0 A * (256 - s) * (256 - t) = s0 A * ((256 - s) * (256 - t)) := Int.mul_assoc _ _ _
  have pA1 := p_bd A1 w0'
  have rA1 := p_bd A1 (show 0 ≤ (256 - s) by unfold By at hs; omega)
  have qA1 : s1 A * (256 - s) * (256 - t) = s1 A * ((256 - s) * (256 - t)) := Int.mul_assoc _ _ _
  have pA2 := p_bd A2 w0'
  have rA2 := p_bd A2 (show 0 ≤ (256 - s) by unfold By at hs; omega)
  have qA2 : s2 A * (256 - s) * (256 - t) = s2 A * ((256 - s) * (256 - t)) := Int.mul_assoc _ _ _
  have pA3 := p_bd A3 w0'
  have rA3 := p_bd A3 (show 0 ≤ (256 - s) by unfold By at hs; omega)
  have qA3 : s3 A * (256 - s) * (256 - t) = s3 A * ((256 - s) * (256 - t)) := Int.mul_assoc _ _ _
  have pB0 := p_bd B0 w1'
  have rB0 := p_bd B0 (show 0 ≤ s by unfold By at hs; omega)
  have qB0 : s0 Bp * s * (256 - t) = s0 Bp * (s * (256 - t)) := Int.mul_assoc _ _ _
  have pB1 := p_bd B1 w1'
  have rB1 := p_bd B1 (show 0 ≤ s by unfold By at hs; omega)
  have qB1 : s1 Bp * s * (256 - t) = s1 Bp * (s * (256 - t)) := Int.mul_assoc _ _ _
  have pB2 := p_bd B2 w1'
  have rB2 := p_bd B2 (show 0 ≤ s by unfold By at hs; omega)
  have qB2 : s2 Bp * s * (256 - t) = s2 Bp * (s * (256 - t)) := Int.mul_assoc _ _ _
  have pB3 := p_bd B3 w1'
  have rB3 := p_bd B3 (show 0 ≤ s by unfold By at hs; omega)
  have qB3 : s3 Bp * s * (256 - t) = s3 Bp * (s * (256 - t)) := Int.mul_assoc _ _ _
  have pC0 := p_bd C0 w2'
  have rC0 := p_bd C0 (show 0 ≤ (256 - s) by unfold By at hs; omega)
  have qC0 : s0 C * (256 - s) * t = s0 C * ((256 - s) * t) := Int.mul_assoc _ _ _
  have pC1 := p_bd C1 w2'
  have rC1 := p_bd C1 (show 0 ≤ (256 - s) by unfold By at hs; omega)
  have qC1 : s1 C * (256 - s) * t = s1 C * ((256 - s) * t) := Int.mul_assoc _ _ _
  have pC2 := p_bd C2 w2'
  have rC2 := p_bd C2 (show 0 ≤ (256 - s) by unfold By at hs; omega)
  have qC2 : s2 C * (256 - s) * t = s2 C * ((256 - s) * t) := Int.mul_assoc _ _ _
  have pC3 := p_bd C3 w2'
  have rC3 := p_bd C3 (show 0 ≤ (256 - s) by unfold By at hs; omega)
  have qC3 : s3 C * (256 - s) * t = s3 C * ((256 - s) * t) := Int.mul_assoc _ _ _
  have pD0 := p_bd D0 w3'
  have rD0 := p_bd D0 (show 0 ≤ s by unfold By at hs; omega)
  have qD0 : s0 D * s * t = s0 D * (s * t) := Int.mul_assoc _ _ _
  have pD1 := p_bd D1 w3'
  have rD1 := p_bd D1 (show 0 ≤ s by unfold By at hs; omega)
  have qD1 : s1 D * s * t = s1 D * (s * t) := Int.mul_assoc _ _ _
  have pD2 := p_bd D2 w3'
  have rD2 := p_bd D2 (show 0 ≤ s by unfold By at hs; omega)
  have qD2 : s2 D * s * t = s2 D * (s * t) := Int.mul_assoc _ _ _
  have pD3 := p_bd D3 w3'
  have rD3 := p_bd D3 (show 0 ≤ s by unfold By at hs; omega)
  have qD3 : s3 D * s * t = s3 D * (s * t) := Int.mul_assoc _ _ _
  have hm0 := mix_by A0 B0 C0 D0 hs ht
  have hm1 := mix_by A1 B1 C1 D1 hs ht
  have hm2 := mix_by A2 B2 C2 D2 hs ht
  have hm3 := mix_by A3 B3 C3 D3 hs ht
  have e0 : (s0 A * ((256 - s) * (256 - t)) + s0 Bp * (s * (256 - t)) + s0 C * ((256 - s) * t) + s0 D * (s * t) + 32768) / 65536 = mixZ (s0 A) (s0 Bp) (s0 C) (s0 D) s t := by unfold mixZ; congr 1; omega
  have e1 : (s1 A * ((256 - s) * (256 - t)) + s1 Bp * (s * (256 - t)) + s1 C * ((256 - s) * t) + s1 D * (s * t) + 32768) / 65536 = mixZ (s1 A) (s1 Bp) (s1 C) (s1 D) s t := by unfold mixZ; congr 1; omega
  have e2 : (s2 A * ((256 - s) * (256 - t)) + s2 Bp * (s * (256 - t)) + s2 C * ((256 - s) * t) + s2 D * (s * t) + 32768) / 65536 = mixZ (s2 A) (s2 Bp) (s2 C) (s2 D) s t := by unfold mixZ; congr 1; omega
  have e3 : (s3 A * ((256 - s) * (256 - t)) + s3 Bp * (s * (256 - t)) + s3 C * ((256 - s) * t) + s3 D * (s * t) + 32768) / 65536 = mixZ (s3 A) (s3 Bp) (s3 C) (s3 D) s t := by unfold mixZ; congr 1; omega
  unfold By at hs ht hm0 hm1 hm2 hm3
  refine hc_rounds 5 ?_
  repeat (first | rw [qA0] | rw [qB0] | rw [qC0] | rw [qD0] | rw [e0] | refine go1_ ?_ | refine bx_ (fun _ => ?_) | refine hl_callv rfl rfl (fA _ (Imp.drop (Imp.refl _)) _ _ _ hA) ?_ | refine hl_callv rfl rfl (fA _ (Imp.drop (Imp.refl _)) _ _ _ hB) ?_ | refine hl_callv rfl rfl (fA _ (Imp.drop (Imp.refl _)) _ _ _ hC) ?_ | refine hl_callv rfl rfl (fA _ (Imp.drop (Imp.refl _)) _ _ _ hD) ?_ | refine hl_callv rfl rfl (part0_fn _ nA.1) ?_ | refine hl_callv rfl rfl (part0_fn _ nB.1) ?_ | refine hl_callv rfl rfl (part0_fn _ nC.1) ?_ | refine hl_callv rfl rfl (part0_fn _ nD.1) ?_)
  repeat (first | rw [qA1] | rw [qB1] | rw [qC1] | rw [qD1] | rw [e1] | refine go1_ ?_ | refine bx_ (fun _ => ?_) | refine hl_callv rfl rfl (fA _ (Imp.drop (Imp.refl _)) _ _ _ hA) ?_ | refine hl_callv rfl rfl (fA _ (Imp.drop (Imp.refl _)) _ _ _ hB) ?_ | refine hl_callv rfl rfl (fA _ (Imp.drop (Imp.refl _)) _ _ _ hC) ?_ | refine hl_callv rfl rfl (fA _ (Imp.drop (Imp.refl _)) _ _ _ hD) ?_ | refine hl_callv rfl rfl (part1_fn _ nA.1) ?_ | refine hl_callv rfl rfl (part1_fn _ nB.1) ?_ | refine hl_callv rfl rfl (part1_fn _ nC.1) ?_ | refine hl_callv rfl rfl (part1_fn _ nD.1) ?_)
  repeat (first | rw [qA2] | rw [qB2] | rw [qC2] | rw [qD2] | rw [e2] | refine go1_ ?_ | refine bx_ (fun _ => ?_) | refine hl_callv rfl rfl (fA _ (Imp.drop (Imp.refl _)) _ _ _ hA) ?_ | refine hl_callv rfl rfl (fA _ (Imp.drop (Imp.refl _)) _ _ _ hB) ?_ | refine hl_callv rfl rfl (fA _ (Imp.drop (Imp.refl _)) _ _ _ hC) ?_ | refine hl_callv rfl rfl (fA _ (Imp.drop (Imp.refl _)) _ _ _ hD) ?_ | refine hl_callv rfl rfl (part2_fn _ nA.1) ?_ | refine hl_callv rfl rfl (part2_fn _ nB.1) ?_ | refine hl_callv rfl rfl (part2_fn _ nC.1) ?_ | refine hl_callv rfl rfl (part2_fn _ nD.1) ?_)
  repeat (first | rw [qA3] | rw [qB3] | rw [qC3] | rw [qD3] | rw [e3] | refine go1_ ?_ | refine bx_ (fun _ => ?_) | refine hl_callv rfl rfl (fA _ (Imp.drop (Imp.refl _)) _ _ _ hA) ?_ | refine hl_callv rfl rfl (fA _ (Imp.drop (Imp.refl _)) _ _ _ hB) ?_ | refine hl_callv rfl rfl (fA _ (Imp.drop (Imp.refl _)) _ _ _ hC) ?_ | refine hl_callv rfl rfl (fA _ (Imp.drop (Imp.refl _)) _ _ _ hD) ?_ | refine hl_callv rfl rfl (part3_fn _ nA.1) ?_ | refine hl_callv rfl rfl (part3_fn _ nB.1) ?_ | refine hl_callv rfl rfl (part3_fn _ nC.1) ?_ | refine hl_callv rfl rfl (part3_fn _ nD.1) ?_)
  refine fin1I rfl rfl ⟨?_, rfl⟩
  unfold sm4 smq joinZ
  congr 1
  omega
end
end Go.Proofs.Ytbgdligfdfhbkaa
