/-
  Pictures seen through moves and quarter turns; what is a pixel. No condition.
-/
import Derived.Test.YtbgdligfdfhbkaaA9
namespace Go.Proofs.Ytbgdligfdfhbkaa
open Go.RowKit

theorem join_parts {v : Int} (h : 0 ≤ v ∧ v < 4294967296) : joinZ (s0 v) (s1 v) (s2 v) (s3 v) = v := by unfold joinZ s0 s1 s2 s3; omega
theorem sm4_still {A B C D : Int} (h : 0 ≤ A ∧ A < 4294967296) : sm4 A B C D 0 0 = A := by
  have e : ∀ g : Int → Int, smq A B C D 0 0 g = g A := fun g => by unfold smq mixZ; omega
  unfold sm4
  rw [e, e, e, e]
  exact join_parts h
/-- At whole places nothing is mixed. -/
theorem see_whole {w0 : World} {B : Nat} {M : List Ent} {b : Nat → Int} {W H : Nat} {a : Option Addr} {n : Nat} {f : Nat → Int} (p : Pic w0 B M W H a n f) (sm : Bool) {x y X Y : Int} (hu : plU b x y = 65536 * X + 32768) (hv : plV b x y = 65536 * Y + 32768) :
    seeZ b W H f sm x y = pixAt W H f X Y := by
  unfold seeZ
  rw [hu, hv]
  cases sm
  · simp only [Bool.false_eq_true, if_false]
    rw [show (65536 * X + 32768) / 65536 = X by omega, show (65536 * Y + 32768) / 65536 = Y by omega]
  · simp only [if_true]
    unfold smZ
    rw [show smI (65536 * X + 32768) = X by unfold smI; omega, show smI (65536 * Y + 32768) = Y by unfold smI; omega, show smS (65536 * X + 32768) = 0 by unfold smS; omega, show smS (65536 * Y + 32768) = 0 by unfold smS; omega]
    exact sm4_still (pixAt_bd p X Y)
theorem rt_mk {a b c d e f : Int} (ha : -16777216 ≤ a ∧ a ≤ 16777216) (hb : -16777216 ≤ b ∧ b ≤ 16777216) (hc : -16777216 ≤ c ∧ c ≤ 16777216) (hd : -16777216 ≤ d ∧ d ≤ 16777216) (he : -68719476736 ≤ e ∧ e ≤ 68719476736) (hf : -68719476736 ≤ f ∧ f ≤ 68719476736) : Rt (L6 a b c d e f) :=
  ⟨fun i hi => match i, hi with | 0, _ => ha | 1, _ => hb | 2, _ => hc | 3, _ => hd, fun i hi h4 => match i, hi, h4 with | 4, _, _ => he | 5, _, _ => hf⟩
/-- The back map out of its numbers. -/
theorem back_of {a b c d e f a' b' c' d' e' f' : Int} (ha : -16777216 ≤ a ∧ a ≤ 16777216) (hb : -16777216 ≤ b ∧ b ≤ 16777216) (hc : -16777216 ≤ c ∧ c ≤ 16777216) (hd : -16777216 ≤ d ∧ d ≤ 16777216) (he : -68719476736 ≤ e ∧ e ≤ 68719476736) (hf : -68719476736 ≤ f ∧ f ≤ 68719476736)
    (ha' : -16777216 ≤ a' ∧ a' ≤ 16777216) (hb' : -16777216 ≤ b' ∧ b' ≤ 16777216) (hc' : -16777216 ≤ c' ∧ c' ≤ 16777216) (hd' : -16777216 ≤ d' ∧ d' ≤ 16777216) (he' : -68719476736 ≤ e' ∧ e' ≤ 68719476736) (hf' : -68719476736 ≤ f' ∧ f' ≤ 68719476736)
    (hdet : a * d - b * c ≠ 0) (h0 : rndZ (d * 4294967296) (a * d - b * c) = a') (h1 : rndZ (-b * 4294967296) (a * d - b * c) = b') (h2 : rndZ (-c * 4294967296) (a * d - b * c) = c') (h3 : rndZ (a * 4294967296) (a * d - b * c) = d')
    (h4 : near16 (-(a' * e + b' * f)) = e') (h5 : near16 (-(c' * e + d' * f)) = f') : backR (L6 a b c d e f) = (L6 a' b' c' d' e' f', 0) := by
  have hfo : four (L6 a b c d e f) = L6 a' b' c' d' 0 0 := by
    show L6 (rndZ (d * 4294967296) (a * d - b * c)) (rndZ (-b * 4294967296) (a * d - b * c)) (rndZ (-c * 4294967296) (a * d - b * c)) (rndZ (a * 4294967296) (a * d - b * c)) 0 0 = _
    rw [h0, h1, h2, h3]
  have hbz : backZ (L6 a b c d e f) = L6 a' b' c' d' e' f' := by
    unfold backZ
    rw [hfo]
    show L6 a' b' c' d' (near16 (-(a' * e + b' * f))) (near16 (-(c' * e + d' * f))) = _
    rw [h4, h5]
  unfold backR
  rw [if_pos (rt_mk ha hb hc hd he hf), if_neg (show ¬ det (L6 a b c d e f) = 0 from hdet), hfo, if_pos (rt_mk ha' hb' hc' hd' (by omega) (by omega)), hbz, if_pos (rt_mk ha' hb' hc' hd' he' hf')]
theorem back_move (x y : Int) (hx : -32768 ≤ x ∧ x ≤ 32768) (hy : -32768 ≤ y ∧ y ≤ 32768) : backR (L6 65536 0 0 65536 (65536 * x) (65536 * y)) = (L6 65536 0 0 65536 (-65536 * x) (-65536 * y), 0) :=
  back_of (by omega) (by omega) (by omega) (by omega) (by omega) (by omega) (by omega) (by omega) (by omega) (by omega) (by omega) (by omega) (by decide) (by decide) (by decide) (by decide) (by decide) (by unfold near16; omega) (by unfold near16; omega)
theorem back_quarter (h : Int) (hh : 0 ≤ h ∧ h ≤ 32768) : backR (L6 0 (-65536) 65536 0 (65536 * h) 0) = (L6 0 65536 (-65536) 0 0 (65536 * h), 0) :=
  back_of (by omega) (by omega) (by omega) (by omega) (by omega) (by omega) (by omega) (by omega) (by omega) (by omega) (by omega) (by omega) (by decide) (by decide) (by decide) (by decide) (by decide) (by unfold near16; omega) (by unfold near16; omega)
section
variable {w0 : World} {B : Nat} {M : List Ent}
theorem seen_move {W H : Int} {n : Nat} {f : Nat → Int} {a : Option Addr} (p : Nums w0 B M a n f) (hR : PicR W H n f) (x y w : Int) (hx : -32768 ≤ x ∧ x ≤ 32768) (hy : -32768 ≤ y ∧ y ≤ 32768) (sm : Bool) (i : Nat) :
    seenZ (L6 65536 0 0 65536 (65536 * x) (65536 * y)) W H f w sm i = pixAt W.toNat H.toNat f ((i : Int) % w - x) ((i : Int) / w - y) := by
  unfold seenZ
  rw [back_move x y hx hy]
  refine see_whole (p.pic hR) sm ?_ ?_
  · show (65536 * (2 * ((i : Int) % w) + 1) + 0 * (2 * ((i : Int) / w) + 1)) / 2 + -65536 * x = _
    omega
  · show (0 * (2 * ((i : Int) % w) + 1) + 65536 * (2 * ((i : Int) / w) + 1)) / 2 + -65536 * y = _
    omega
theorem seen_quarter {W H : Int} {n : Nat} {f : Nat → Int} {a : Option Addr} (p : Nums w0 B M a n f) (hR : PicR W H n f) (w : Int) (sm : Bool) (i : Nat) :
    seenZ (L6 0 (-65536) 65536 0 (65536 * H) 0) W H f w sm i = pixAt W.toNat H.toNat f ((i : Int) / w) (H - 1 - (i : Int) % w) := by
  unfold seenZ
  rw [back_quarter H ⟨hR.2.2.1, hR.2.2.2.1⟩]
  refine see_whole (p.pic hR) sm ?_ ?_
  · show (0 * (2 * ((i : Int) % w) + 1) + 65536 * (2 * ((i : Int) / w) + 1)) / 2 + 0 = _
    omega
  · show (-65536 * (2 * ((i : Int) % w) + 1) + 0 * (2 * ((i : Int) / w) + 1)) / 2 + 65536 * H = _
    omega

/-! What is a pixel -/
def pv (k : Nat) (v : Int) : Int := (v / 2 ^ k).tmod 256
theorem partA_fn (v : Int) : Fn Try.prog w0 B 38 [.int .i64 v, .int .i64 0] M (fun r M' => r = .int .i64 (pv 24 v) ∧ M' = M) := by
  refine fn_intro Try.func38 rfl (by kernel_rfl) rfl ?_
  repeat (first | refine go_ ?_ | refine bx_ (fun _ => ?_))
  exact fin1I rfl rfl ⟨rfl, rfl⟩
theorem partB_fn (v : Int) : Fn Try.prog w0 B 38 [.int .i64 v, .int .i64 1] M (fun r M' => r = .int .i64 (pv 16 v) ∧ M' = M) := by
  refine fn_intro Try.func38 rfl (by kernel_rfl) rfl ?_
  repeat (first | refine go_ ?_ | refine bx_ (fun _ => ?_))
  exact fin1I rfl rfl ⟨rfl, rfl⟩
theorem partC_fn (v : Int) : Fn Try.prog w0 B 38 [.int .i64 v, .int .i64 2] M (fun r M' => r = .int .i64 (pv 8 v) ∧ M' = M) := by
  refine fn_intro Try.func38 rfl (by kernel_rfl) rfl ?_
  repeat (first | refine go_ ?_ | refine bx_ (fun _ => ?_))
  exact fin1I rfl rfl ⟨rfl, rfl⟩
theorem partD_fn (v : Int) : Fn Try.prog w0 B 38 [.int .i64 v, .int .i64 3] M (fun r M' => r = .int .i64 (pv 0 v) ∧ M' = M) := by
  refine fn_intro Try.func38 rfl (by kernel_rfl) rfl ?_
  repeat (first | refine go_ ?_ | refine bx_ (fun _ => ?_))
  exact fin1I rfl rfl ⟨rfl, rfl⟩
def Px (v : Int) : Prop := pv 24 v ≤ pv 0 v ∧ pv 16 v ≤ pv 0 v ∧ pv 8 v ≤ pv 0 v ∧ 0 ≤ v ∧ v < 4294967296
theorem pv_pos {v : Int} (h : 0 ≤ v) : pv 24 v = s0 v ∧ pv 16 v = s1 v ∧ pv 8 v = s2 v ∧ pv 0 v = s3 v := by
  unfold pv s0 s1 s2 s3
  rw [Int.tmod_eq_emod_of_nonneg (by omega), Int.tmod_eq_emod_of_nonneg (by omega), Int.tmod_eq_emod_of_nonneg (by omega), Int.tmod_eq_emod_of_nonneg (by omega)]
  omega
set_option maxHeartbeats 8000000 in
theorem px_fn (v : Int) : Fn Try.prog w0 B 20 [.int .i64 v] M (fun r M' => ((r = .bool true ∧ Px v) ∨ (r = .bool false ∧ ¬ Px v)) ∧ M' = M) := by
  unfold Px
  refine fn_intro Try.func20 rfl (by kernel_rfl) rfl ?_
  have hA := fun E => partA_fn (w0 := w0) (B := B) (M := E) v
  have hB := fun E => partB_fn (w0 := w0) (B := B) (M := E) v
  have hC := fun E => partC_fn (w0 := w0) (B := B) (M := E) v
  have hD := fun E => partD_fn (w0 := w0) (B := B) (M := E) v
  generalize pv 24 v = a at *
  generalize pv 16 v = b at *
  generalize pv 8 v = c at *
  generalize pv 0 v = d at *
  by_cases h0 : d < a
  · repeat (first | refine go_ ?_ | refine bx_ (fun _ => ?_))
    refine hc_rounds 4 ?_
    repeat (first | refine go_ ?_ | refine bx_ (fun _ => ?_) | refine hl_callv rfl rfl (hA _) ?_ | refine hl_callv rfl rfl (hB _) ?_ | refine hl_callv rfl rfl (hC _) ?_ | refine hl_callv rfl rfl (hD _) ?_)
    exact fin1B rfl rfl ⟨.inr ⟨rfl, by omega⟩, rfl⟩
  by_cases h1 : d < b
  · repeat (first | refine go_ ?_ | refine bx_ (fun _ => ?_))
    refine hc_rounds 4 ?_
    repeat (first | refine go_ ?_ | refine bx_ (fun _ => ?_) | refine hl_callv rfl rfl (hA _) ?_ | refine hl_callv rfl rfl (hB _) ?_ | refine hl_callv rfl rfl (hC _) ?_ | refine hl_callv rfl rfl (hD _) ?_)
    exact fin1B rfl rfl ⟨.inr ⟨rfl, by omega⟩, rfl⟩
  by_cases h2 : d < c
  · repeat (first | refine go_ ?_ | refine bx_ (fun _ => ?_))
    refine hc_rounds 4 ?_
    repeat (first | refine go_ ?_ | refine bx_ (fun _ => ?_) | refine hl_callv rfl rfl (hA _) ?_ | refine hl_callv rfl rfl (hB _) ?_ | refine hl_callv rfl rfl (hC _) ?_ | refine hl_callv rfl rfl (hD _) ?_)
    exact fin1B rfl rfl ⟨.inr ⟨rfl, by omega⟩, rfl⟩
  by_cases h3 : 0 ≤ v
  · by_cases h4 : v < 4294967296
    · repeat (first | refine go_ ?_ | refine bx_ (fun _ => ?_))
      refine hc_rounds 4 ?_
      repeat (first | refine go_ ?_ | refine bx_ (fun _ => ?_) | refine hl_callv rfl rfl (hA _) ?_ | refine hl_callv rfl rfl (hB _) ?_ | refine hl_callv rfl rfl (hC _) ?_ | refine hl_callv rfl rfl (hD _) ?_)
      exact fin1B rfl rfl ⟨.inl ⟨rfl, by omega⟩, rfl⟩
    · repeat (first | refine go_ ?_ | refine bx_ (fun _ => ?_))
      refine hc_rounds 4 ?_
      repeat (first | refine go_ ?_ | refine bx_ (fun _ => ?_) | refine hl_callv rfl rfl (hA _) ?_ | refine hl_callv rfl rfl (hB _) ?_ | refine hl_callv rfl rfl (hC _) ?_ | refine hl_callv rfl rfl (hD _) ?_)
      exact fin1B rfl rfl ⟨.inr ⟨rfl, by omega⟩, rfl⟩
  · repeat (first | refine go_ ?_ | refine bx_ (fun _ => ?_))
    refine hc_rounds 4 ?_
    repeat (first | refine go_ ?_ | refine bx_ (fun _ => ?_) | refine hl_callv rfl rfl (hA _) ?_ | refine hl_callv rfl rfl (hB _) ?_ | refine hl_callv rfl rfl (hC _) ?_ | refine hl_callv rfl rfl (hD _) ?_)
    exact fin1B rfl rfl ⟨.inr ⟨rfl, by omega⟩, rfl⟩
theorem px_zero : Px 0 := by unfold Px pv; decide
def Px2 (v : Int) : Prop := s0 v ≤ s3 v ∧ s1 v ≤ s3 v ∧ s2 v ≤ s3 v ∧ 0 ≤ v ∧ v < 4294967296
theorem px_iff {v : Int} (h : 0 ≤ v) : Px v ↔ Px2 v := by
  obtain ⟨e0, e1, e2, e3⟩ := pv_pos h
  unfold Px Px2
  rw [e0, e1, e2, e3]
theorem mix_mono {a b c d a' b' c' d' s t : Int} (ha : a ≤ a') (hb : b ≤ b') (hc : c ≤ c') (hd : d ≤ d') (hs : By s) (ht : By t) : mixZ a b c d s t ≤ mixZ a' b' c' d' s t := by
  obtain ⟨⟨w0, w1, w2, w3⟩, _⟩ := w_bd hs ht
  have p0 := Int.mul_le_mul_of_nonneg_right ha w0
  have p1 := Int.mul_le_mul_of_nonneg_right hb w1
  have p2 := Int.mul_le_mul_of_nonneg_right hc w2
  have p3 := Int.mul_le_mul_of_nonneg_right hd w3
  unfold mixZ
  omega
theorem parts_join {a b c d : Int} (ha : By a) (hb : By b) (hc : By c) (hd : By d) : s0 (joinZ a b c d) = a ∧ s1 (joinZ a b c d) = b ∧ s2 (joinZ a b c d) = c ∧ s3 (joinZ a b c d) = d ∧ 0 ≤ joinZ a b c d ∧ joinZ a b c d < 4294967296 := by
  unfold By at *
  have e0 : joinZ a b c d / 16777216 = a := by unfold joinZ; omega
  have e1 : joinZ a b c d / 65536 = a * 256 + b := by unfold joinZ; omega
  have e2 : joinZ a b c d / 256 = (a * 256 + b) * 256 + c := by unfold joinZ; omega
  unfold s0 s1 s2 s3
  rw [e0, e1, e2]
  refine ⟨by omega, by omega, by omega, by unfold joinZ; omega, by unfold joinZ; omega, by unfold joinZ; omega⟩
theorem sm4_px {A B' C D s t : Int} (hA : Px2 A) (hB : Px2 B') (hC : Px2 C) (hD : Px2 D) (hs : By s) (ht : By t) : Px2 (sm4 A B' C D s t) := by
  obtain ⟨A0, A1, A2, A3⟩ := part_bd A
  obtain ⟨B0, B1, B2, B3⟩ := part_bd B'
  obtain ⟨C0, C1, C2, C3⟩ := part_bd C
  obtain ⟨D0, D1, D2, D3⟩ := part_bd D
  have m0 := mix_by A0 B0 C0 D0 hs ht
  have m1 := mix_by A1 B1 C1 D1 hs ht
  have m2 := mix_by A2 B2 C2 D2 hs ht
  have m3 := mix_by A3 B3 C3 D3 hs ht
  have l0 := mix_mono hA.1 hB.1 hC.1 hD.1 hs ht
  have l1 := mix_mono hA.2.1 hB.2.1 hC.2.1 hD.2.1 hs ht
  have l2 := mix_mono hA.2.2.1 hB.2.2.1 hC.2.2.1 hD.2.2.1 hs ht
  unfold sm4 smq
  generalize mixZ (s0 A) (s0 B') (s0 C) (s0 D) s t = x0 at *
  generalize mixZ (s1 A) (s1 B') (s1 C) (s1 D) s t = x1 at *
  generalize mixZ (s2 A) (s2 B') (s2 C) (s2 D) s t = x2 at *
  generalize mixZ (s3 A) (s3 B') (s3 C) (s3 D) s t = x3 at *
  obtain ⟨e0, e1, e2, e3, e4, e5⟩ := parts_join m0 m1 m2 m3
  unfold Px2
  rw [e0, e1, e2, e3]
  exact ⟨l0, l1, l2, e4, e5⟩
theorem seen_px {m : Nat → Int} {W H w : Int} {n : Nat} {f : Nat → Int} {sm : Bool} {a : Option Addr} (p : Nums w0 B M a n f) (hR : PicR W H n f) (hf : ∀ i, i < n → Px (f i)) (i : Nat) : Px (seenZ m W H f w sm i) := by
  have hp := p.pic hR
  have h1 : ∀ x y, Px2 (pixAt W.toNat H.toNat f x y) := fun x y => by
    have hb := pixAt_bd hp x y
    refine (px_iff hb.1).1 ?_
    unfold pixAt
    split
    · rename_i h
      exact hf _ (by rw [hp.size]; exact at_lt (by omega) (by omega))
    · exact px_zero
  unfold seenZ seeZ
  cases sm
  · simp only [Bool.false_eq_true, if_false]
    exact (px_iff (pixAt_bd hp _ _).1).2 (h1 _ _)
  · simp only [if_true]
    unfold smZ
    have := sm4_px (h1 (smI (plU (backR m).1 ((i : Int) % w) ((i : Int) / w))) (smI (plV (backR m).1 ((i : Int) % w) ((i : Int) / w)))) (h1 (smI (plU (backR m).1 ((i : Int) % w) ((i : Int) / w)) + 1) (smI (plV (backR m).1 ((i : Int) % w) ((i : Int) / w)))) (h1 (smI (plU (backR m).1 ((i : Int) % w) ((i : Int) / w))) (smI (plV (backR m).1 ((i : Int) % w) ((i : Int) / w)) + 1)) (h1 (smI (plU (backR m).1 ((i : Int) % w) ((i : Int) / w)) + 1) (smI (plV (backR m).1 ((i : Int) % w) ((i : Int) / w)) + 1)) (smS_by (plU (backR m).1 ((i : Int) % w) ((i : Int) / w))) (smS_by (plV (backR m).1 ((i : Int) % w) ((i : Int) / w)))
    exact (px_iff this.2.2.2.1).2 this
theorem seeE_pic {m : Nat → Int} {W H w h : Int} {n : Nat} {f : Nat → Int} (hE : seeE m W H n f w h = 0) : PicR W H n f ∧ Sz w h := by
  unfold seeE at hE
  split at hE
  · omega
  · split at hE
    · omega
    · split at hE
      · omega
      · rename_i h1 h2; exact ⟨Classical.not_not.1 h2, Classical.not_not.1 h1⟩
end
end Go.Proofs.Ytbgdligfdfhbkaa
