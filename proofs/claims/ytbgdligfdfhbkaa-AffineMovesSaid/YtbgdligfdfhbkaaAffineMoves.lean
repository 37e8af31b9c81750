/-
  The statement AffineMoves holds, whatever the picture and the move.
-/
import Derived.Test.YtbgdligfdfhbkaaA10
namespace Go.Proofs.Ytbgdligfdfhbkaa.affineMoves
open Go.RowKit
theorem at_index {W H : Int} {n : Nat} {f : Nat → Int} (hR : PicR W H n f) (i : Nat) (hi : i < n) : pixAt W.toNat H.toNat f ((i : Int) % W) ((i : Int) / W) = f i := by
  obtain ⟨h1, h2, h3, h4, h5, _⟩ := hR
  have hW : 0 < W := by
    rcases Int.lt_or_eq_of_le h1 with h | h
    · exact h
    · rw [← h, Int.zero_mul] at h5; omega
  have e1 := Int.emod_nonneg (i : Int) (show W ≠ 0 by omega)
  have e2 := Int.emod_lt_of_pos (i : Int) hW
  have e3 : 0 ≤ (i : Int) / W := Int.ediv_nonneg (by omega) h1
  have e4 : (i : Int) / W < H := Int.ediv_lt_of_lt_mul hW (by rw [Int.mul_comm]; omega)
  have e5 := Int.mul_ediv_add_emod (i : Int) W
  unfold pixAt
  rw [if_pos (by omega)]
  congr 1
  have : ((((i : Int) / W).toNat * W.toNat + ((i : Int) % W).toNat : Nat) : Int) = (i : Int) := by
    rw [Int.natCast_add, Int.natCast_mul, Int.toNat_of_nonneg e3, Int.toNat_of_nonneg h1, Int.toNat_of_nonneg e1, Int.mul_comm]; omega
  omega
set_option maxHeartbeats 16000000 in
set_option maxRecDepth 100000 in
theorem law {w0 : World} {B : Nat} {M : List Ent} (W H : Int) {a : Option Addr} {n cap : Nat} {f : Nat → Int} (hN : n ≤ 2000 → ∀ E, Nums w0 B E a n f) (hn9 : n ≤ 9223372036854775807) (x y : Int) (sm : Bool) :
    Fn Try.prog w0 B 7 [picV W H a n cap, .int .i64 x, .int .i64 y, .bool sm] M (fun u _ => u = .bool true) := by
  refine fn_intro Try.func7 rfl (by kernel_rfl) rfl ?_
  unfold picV
  by_cases h1 : 1500 < n
  · repeat (first | refine go_ ?_ | refine bx_ (fun _ => ?_) | refine hl_callv rfl rfl (anchor_fn) ?_)
    exact fin1B rfl rfl rfl
  replace hN := hN (by omega)
  by_cases h2 : x < -40
  · repeat (first | refine go_ ?_ | refine bx_ (fun _ => ?_) | refine hl_callv rfl rfl (anchor_fn) ?_)
    exact fin1B rfl rfl rfl
  by_cases h3 : 40 < x
  · repeat (first | refine go_ ?_ | refine bx_ (fun _ => ?_) | refine hl_callv rfl rfl (anchor_fn) ?_)
    exact fin1B rfl rfl rfl
  by_cases h4 : y < -40
  · repeat (first | refine go_ ?_ | refine bx_ (fun _ => ?_) | refine hl_callv rfl rfl (anchor_fn) ?_)
    exact fin1B rfl rfl rfl
  by_cases h5 : 40 < y
  · repeat (first | refine go_ ?_ | refine bx_ (fun _ => ?_) | refine hl_callv rfl rfl (anchor_fn) ?_)
    exact fin1B rfl rfl rfl
  have hpl : ∀ E, Fn Try.prog w0 B 17 [.agg [.int .i64 W, .int .i64 H, .slice a n cap].toArray] E (fun r M' => r = .agg [.int .i64 W, .int .i64 H, .slice a n cap].toArray ∧ M' = E) := fun E => plain_fn W H a n cap
  repeat (first | refine go_ ?_ | refine bx_ (fun _ => ?_) | refine hl_callv rfl rfl (anchor_fn) ?_ | refine hl_callv rfl rfl (hpl _) ?_)
  refine hl_call rfl rfl (rpright_fn W H (hN _)) (fun r M' hr => ?_)
  obtain ⟨⟨rfl, hR⟩ | ⟨rfl, hR⟩, rfl⟩ := hr
  rotate_left
  · repeat (first | refine go_ ?_ | refine bx_ (fun _ => ?_))
    exact fin1B rfl rfl rfl
  by_cases h6 : 60 < W
  · repeat (first | refine go_ ?_ | refine bx_ (fun _ => ?_))
    exact fin1B rfl rfl rfl
  by_cases h7 : 60 < H
  · repeat (first | refine go_ ?_ | refine bx_ (fun _ => ?_))
    exact fin1B rfl rfl rfl
  obtain ⟨r1, r2, r3, r4, r5, r6⟩ := id hR
  have hwb := mul_bd (a := W + 9) (b := H + 9) (M := 69) (N := 69) (by omega) (by omega)
  have hE : seeE (L6 65536 0 0 65536 (65536 * x) (65536 * y)) W H n f (W + 9) (H + 9) = 0 := by
    unfold seeE
    rw [back_move x y (by omega) (by omega), if_neg (by simp), if_neg (Classical.not_not.2 ⟨by omega, by omega, by omega, by omega, by omega⟩), if_neg (Classical.not_not.2 hR)]
  have hwh : 0 < (W + 9) * (H + 9) := Int.mul_pos (by omega) (by omega)
  obtain ⟨N, hNN⟩ : ∃ N : Nat, (W + 9) * (H + 9) = (N : Int) := ⟨((W + 9) * (H + 9)).toNat, by omega⟩
  have hNt : ((W + 9) * (H + 9)).toNat = N := by omega
  have hsm : Sm (L6 65536 0 0 65536 (65536 * x) (65536 * y)) := L6_sm (by unfold Big; omega) (by unfold Big; omega) (by unfold Big; omega) (by unfold Big; omega) (by unfold Big; omega) (by unfold Big; omega)
  have hs : ∀ E, Fn Try.prog w0 B 15 [.agg [.int .i64 W, .int .i64 H, .slice a n cap].toArray, .agg [.int .i64 65536, .int .i64 0, .int .i64 0, .int .i64 65536, .int .i64 (65536 * x), .int .i64 (65536 * y)].toArray, .int .i64 (W + 9), .int .i64 (H + 9), .bool sm] E (fun r M' => SeeR (L6 65536 0 0 65536 (65536 * x) (65536 * y)) W H n f (W + 9) (H + 9) sm E r M') := fun E => see_fn W H (hN E) _ hsm _ _ sm
  repeat (first | refine go_ ?_ | refine bx_ (fun _ => ?_))
  refine hl_call rfl rfl (see_pos (hs _) hE hNt (by omega)) (fun r M' hr => ?_)
  obtain ⟨g, c, rfl, rfl⟩ := hr
  rename_i g4
  have hcell : ∀ i, seenZ (L6 65536 0 0 65536 (65536 * x) (65536 * y)) W H f (W + 9) sm i = pixAt W.toNat H.toNat f ((i : Int) % (W + 9) - x) ((i : Int) / (W + 9) - y) := fun i => seen_move (hN M) hR x y (W + 9) (by omega) (by omega) sm i
  generalize seenZ (L6 65536 0 0 65536 (65536 * x) (65536 * y)) W H f (W + 9) sm = q at *
  repeat (first | rw [hNN] | refine go1_ ?_ | refine bx_ (fun _ => ?_))
  rename_i g9
  have hat : ∀ E, ∀ x y, Fn Try.prog w0 B 22 [.agg [.int .i64 W, .int .i64 H, .slice a n cap].toArray, .int .i64 x, .int .i64 y] E (fun v M' => v = .int .i64 (pixAt W.toNat H.toNat f x y) ∧ M' = E) := fun E x y => by
    have := rat_fn (cap := cap) ((hN E).pic hR) x y
    rw [Int.toNat_of_nonneg r1, Int.toNat_of_nonneg r3] at this
    exact this
  refine hc_loop (fun z fr X => ∃ j, j + z = N ∧ Agr fr [(1, .int .i64 x), (2, .int .i64 y), (3, .bool sm), (4, .pointer (some ⟨g4, 0, none⟩)), (9, .pointer (some ⟨g9, 0, none⟩)), (94, .slice (some ⟨g, 0, none⟩) N c), (95, .int .i64 (N : Int)), (96, .int .i64 (j : Int))] ∧
    X = ⟨g9, 34, [.int .i64 (W + 9), .int .i64 (H + 9), .slice (some ⟨g, 0, none⟩) N c], 3⟩ :: ⟨g, 3, tab N q, c * 1⟩ :: ⟨g4, 34, [.int .i64 W, .int .i64 H, .slice a n cap], 3⟩ :: M) N ?_ ?_
  · exact ⟨0, by omega, ⟨rfl, rfl, rfl, rfl, rfl, rfl, rfl, rfl, trivial⟩, rfl⟩
  rintro z fr X ⟨j, hj, hf, rfl⟩
  obtain ⟨base, rfl⟩ := hf.out
  clear hf
  by_cases hjt : j < N
  · have hcj := hcell j
    have e1 := Int.emod_nonneg (j : Int) (show W + 9 ≠ 0 by omega)
    have e2 := Int.emod_lt_of_pos (j : Int) (show 0 < W + 9 by omega)
    have e3 : 0 ≤ (j : Int) / (W + 9) := Int.ediv_nonneg (by omega) (by omega)
    have e4 : (j : Int) / (W + 9) < H + 9 := Int.ediv_lt_of_lt_mul (by omega) (by rw [Int.mul_comm]; omega)
    repeat (first | refine go_ ?_ | refine bx_ (fun _ => ?_))
    refine hc_draw (by kernel_rfl) (by kernel_rfl) ?_
    repeat (first | refine gd_ ?_ | refine hd_call rfl rfl (hpl _) ?_ | refine hd_call rfl rfl (hat _ _ _) ?_)
    repeat (first | refine go_ ?_ | refine bx_ (fun _ => ?_))
    exact ⟨z - 1, by omega, j + 1, by omega, ⟨rfl, rfl, rfl, rfl, rfl, rfl, rfl, rfl, trivial⟩, rfl⟩
  clear hE hs hcell hNt
  have hE : seeE (L6 65536 0 0 65536 0 0) W H n f W H = 0 := by
    have hb := back_move 0 0 (by omega) (by omega)
    have hwb := mul_bd (a := W) (b := H) (M := 69) (N := 69) (by omega) (by omega)
    unfold seeE
    rw [show L6 65536 0 0 65536 0 0 = L6 65536 0 0 65536 (65536 * 0) (65536 * 0) from rfl, hb, if_neg (by simp), if_neg (Classical.not_not.2 ⟨by omega, by omega, by omega, by omega, by omega⟩), if_neg (Classical.not_not.2 hR)]
  have hs : ∀ E, Fn Try.prog w0 B 15 [.agg [.int .i64 W, .int .i64 H, .slice a n cap].toArray, .agg (tab 6 (L6 65536 0 0 65536 0 0)).toArray, .int .i64 W, .int .i64 H, .bool sm] E (fun r M' => SeeR (L6 65536 0 0 65536 0 0) W H n f W H sm E r M') := fun E => see_fn W H (hN E) _ L6sm _ _ sm
  have h6 : ∀ E, Fn Try.prog w0 B 23 [] E (fun v H' => v = .agg (tab 6 (L6 65536 0 0 65536 0 0)).toArray ∧ H' = E) := fun E => one_fn
  have hcell : ∀ i, i < n → seenZ (L6 65536 0 0 65536 0 0) W H f W sm i = f i := fun i hi => by
    have := seen_move (hN M) hR 0 0 W (by omega) (by omega) sm i
    rw [Int.sub_zero, Int.sub_zero, at_index hR i hi] at this
    exact this
  have hnt : (W * H).toNat = n := by omega
  have hbd := (hN M).bd
  have hLE : Imp (⟨g9, 34, [.int .i64 (W + 9), .int .i64 (H + 9), .slice (some ⟨g, 0, none⟩) N c], 3⟩ :: ⟨g, 3, tab N q, c * 1⟩ :: ⟨g4, 34, [.int .i64 W, .int .i64 H, .slice a n cap], 3⟩ :: M) (⟨g4, 34, [.int .i64 W, .int .i64 H, .slice a n cap], 3⟩ :: M) := Imp.drop (Imp.drop (Imp.refl _))
  by_cases hn0 : n = 0
  · subst hn0
    repeat (first | refine go_ ?_ | refine bx_ (fun _ => ?_))
    refine HC.imp ?_ hLE
    refine hc_meet (fun fr X => ∃ g13 a2 c2, Agr fr [(4, .pointer (some ⟨g4, 0, none⟩)), (13, .pointer (some ⟨g13, 0, none⟩)), (14, .int .i64 0)] ∧ X = ⟨g13, 34, [.int .i64 W, .int .i64 H, .slice a2 0 c2], 3⟩ :: ⟨g4, 34, [.int .i64 W, .int .i64 H, .slice a 0 cap], 3⟩ :: M) ?_ ?_
    · refine hc_drawA (⟨g4, 34, [.int .i64 W, .int .i64 H, .slice a 0 cap], 3⟩ :: M) (by kernel_rfl) ?_
      refine ha_quiet [0, 1, 2, 3, 4, 5, 6] (by rfl) (by kernel_rfl) ?_
      repeat (first | refine gd_ ?_ | refine hq_call rfl rfl (fun E _ => h6 E) ?_)
      refine ha_fork2 7 11 (by rfl) (by kernel_rfl) (by rfl) (by rfl) (by first | exact Imp.refl _ | exact Imp.drop (Imp.refl _) | exact Imp.drop (Imp.drop (Imp.refl _)) | exact Imp.drop (Imp.drop (Imp.drop (Imp.refl _))) | exact Imp.drop (Imp.drop (Imp.drop (Imp.drop (Imp.refl _)))) | exact Imp.drop (Imp.drop (Imp.drop (Imp.drop (Imp.drop (Imp.refl _))))) | exact Imp.drop (Imp.drop (Imp.drop (Imp.drop (Imp.drop (Imp.drop (Imp.refl _)))))) | exact Imp.drop (Imp.drop (Imp.drop (Imp.drop (Imp.drop (Imp.drop (Imp.drop (Imp.refl _))))))) | exact Imp.drop (Imp.drop (Imp.drop (Imp.drop (Imp.drop (Imp.drop (Imp.drop (Imp.drop (Imp.refl _))))))))) ?_ ?_
      · skip
        refine hl_call rfl rfl (see_zero (hs _) hE hnt) (fun r M' hr => ?_)
        obtain ⟨⟨a2, c2, rfl⟩, rfl⟩ := hr
        repeat (first | refine op_ ?_ | refine bx_ (fun _ => ?_))
        refine ha_quiet [8, 9, 10] (by rfl) (by kernel_rfl) ?_
        repeat (first | refine gd_ ?_ | refine hq_call rfl rfl (fun E _ => h6 E) ?_)
        refine ha_fork1 11 (by rfl) (by kernel_rfl) (by rfl) (by first | exact Imp.refl _ | exact Imp.drop (Imp.refl _) | exact Imp.drop (Imp.drop (Imp.refl _)) | exact Imp.drop (Imp.drop (Imp.drop (Imp.refl _))) | exact Imp.drop (Imp.drop (Imp.drop (Imp.drop (Imp.refl _)))) | exact Imp.drop (Imp.drop (Imp.drop (Imp.drop (Imp.drop (Imp.refl _))))) | exact Imp.drop (Imp.drop (Imp.drop (Imp.drop (Imp.drop (Imp.drop (Imp.refl _)))))) | exact Imp.drop (Imp.drop (Imp.drop (Imp.drop (Imp.drop (Imp.drop (Imp.drop (Imp.refl _))))))) | exact Imp.drop (Imp.drop (Imp.drop (Imp.drop (Imp.drop (Imp.drop (Imp.drop (Imp.drop (Imp.refl _))))))))) ?_
        · skip
          repeat (first | refine op_ ?_ | refine bx_ (fun _ => ?_))
          refine ha_fork1 12 (by rfl) (by kernel_rfl) (by rfl) (by first | exact Imp.refl _ | exact Imp.drop (Imp.refl _) | exact Imp.drop (Imp.drop (Imp.refl _)) | exact Imp.drop (Imp.drop (Imp.drop (Imp.refl _))) | exact Imp.drop (Imp.drop (Imp.drop (Imp.drop (Imp.refl _)))) | exact Imp.drop (Imp.drop (Imp.drop (Imp.drop (Imp.drop (Imp.refl _))))) | exact Imp.drop (Imp.drop (Imp.drop (Imp.drop (Imp.drop (Imp.drop (Imp.refl _)))))) | exact Imp.drop (Imp.drop (Imp.drop (Imp.drop (Imp.drop (Imp.drop (Imp.drop (Imp.refl _))))))) | exact Imp.drop (Imp.drop (Imp.drop (Imp.drop (Imp.drop (Imp.drop (Imp.drop (Imp.drop (Imp.refl _))))))))) ?_
          · skip
            repeat (first | refine op_ ?_ | refine bx_ (fun _ => ?_))
            refine ha_quiet [13] (by rfl) (by kernel_rfl) ?_
            repeat (first | refine gd_ ?_ | refine hq_call rfl rfl (fun E _ => h6 E) ?_)
            refine ha_end (by rfl) (by kernel_rfl) (by first | exact Imp.refl _ | exact Imp.drop (Imp.refl _) | exact Imp.drop (Imp.drop (Imp.refl _)) | exact Imp.drop (Imp.drop (Imp.drop (Imp.refl _))) | exact Imp.drop (Imp.drop (Imp.drop (Imp.drop (Imp.refl _)))) | exact Imp.drop (Imp.drop (Imp.drop (Imp.drop (Imp.drop (Imp.refl _))))) | exact Imp.drop (Imp.drop (Imp.drop (Imp.drop (Imp.drop (Imp.drop (Imp.refl _)))))) | exact Imp.drop (Imp.drop (Imp.drop (Imp.drop (Imp.drop (Imp.drop (Imp.drop (Imp.refl _))))))) | exact Imp.drop (Imp.drop (Imp.drop (Imp.drop (Imp.drop (Imp.drop (Imp.drop (Imp.drop (Imp.refl _))))))))) ?_
            exact ⟨_, _, _, ⟨rfl, rfl, rfl, trivial⟩, rfl⟩
      · skip
        repeat (first | refine op_ ?_ | refine bx_ (fun _ => ?_))
        refine ha_fork1 7 (by rfl) (by kernel_rfl) (by rfl) (by first | exact Imp.refl _ | exact Imp.drop (Imp.refl _) | exact Imp.drop (Imp.drop (Imp.refl _)) | exact Imp.drop (Imp.drop (Imp.drop (Imp.refl _))) | exact Imp.drop (Imp.drop (Imp.drop (Imp.drop (Imp.refl _)))) | exact Imp.drop (Imp.drop (Imp.drop (Imp.drop (Imp.drop (Imp.refl _))))) | exact Imp.drop (Imp.drop (Imp.drop (Imp.drop (Imp.drop (Imp.drop (Imp.refl _)))))) | exact Imp.drop (Imp.drop (Imp.drop (Imp.drop (Imp.drop (Imp.drop (Imp.drop (Imp.refl _))))))) | exact Imp.drop (Imp.drop (Imp.drop (Imp.drop (Imp.drop (Imp.drop (Imp.drop (Imp.drop (Imp.refl _))))))))) ?_
        · skip
          refine hl_call rfl rfl (see_zero (hs _) hE hnt) (fun r M' hr => ?_)
          obtain ⟨⟨a2, c2, rfl⟩, rfl⟩ := hr
          repeat (first | refine op_ ?_ | refine bx_ (fun _ => ?_))
          refine ha_quiet [8, 9, 10] (by rfl) (by kernel_rfl) ?_
          repeat (first | refine gd_ ?_ | refine hq_call rfl rfl (fun E _ => h6 E) ?_)
          refine ha_fork1 12 (by rfl) (by kernel_rfl) (by rfl) (by first | exact Imp.refl _ | exact Imp.drop (Imp.refl _) | exact Imp.drop (Imp.drop (Imp.refl _)) | exact Imp.drop (Imp.drop (Imp.drop (Imp.refl _))) | exact Imp.drop (Imp.drop (Imp.drop (Imp.drop (Imp.refl _)))) | exact Imp.drop (Imp.drop (Imp.drop (Imp.drop (Imp.drop (Imp.refl _))))) | exact Imp.drop (Imp.drop (Imp.drop (Imp.drop (Imp.drop (Imp.drop (Imp.refl _)))))) | exact Imp.drop (Imp.drop (Imp.drop (Imp.drop (Imp.drop (Imp.drop (Imp.drop (Imp.refl _))))))) | exact Imp.drop (Imp.drop (Imp.drop (Imp.drop (Imp.drop (Imp.drop (Imp.drop (Imp.drop (Imp.refl _))))))))) ?_
          · skip
            repeat (first | refine op_ ?_ | refine bx_ (fun _ => ?_))
            refine ha_quiet [13] (by rfl) (by kernel_rfl) ?_
            repeat (first | refine gd_ ?_ | refine hq_call rfl rfl (fun E _ => h6 E) ?_)
            refine ha_end (by rfl) (by kernel_rfl) (by first | exact Imp.refl _ | exact Imp.drop (Imp.refl _) | exact Imp.drop (Imp.drop (Imp.refl _)) | exact Imp.drop (Imp.drop (Imp.drop (Imp.refl _))) | exact Imp.drop (Imp.drop (Imp.drop (Imp.drop (Imp.refl _)))) | exact Imp.drop (Imp.drop (Imp.drop (Imp.drop (Imp.drop (Imp.refl _))))) | exact Imp.drop (Imp.drop (Imp.drop (Imp.drop (Imp.drop (Imp.drop (Imp.refl _)))))) | exact Imp.drop (Imp.drop (Imp.drop (Imp.drop (Imp.drop (Imp.drop (Imp.drop (Imp.refl _))))))) | exact Imp.drop (Imp.drop (Imp.drop (Imp.drop (Imp.drop (Imp.drop (Imp.drop (Imp.drop (Imp.refl _))))))))) ?_
            exact ⟨_, _, _, ⟨rfl, rfl, rfl, trivial⟩, rfl⟩
    rintro fr X ⟨g13, a2, c2, hf, rfl⟩
    obtain ⟨base, rfl⟩ := hf.out
    clear hf
    repeat (first | refine go_ ?_ | refine bx_ (fun _ => ?_) | refine hl_callv rfl rfl (same_fn (f := fun _ => 0) (g := fun _ => 0) nums_zero nums_zero (fun i hi => absurd hi (by omega))) ?_)
    exact fin1B rfl rfl rfl
  · repeat (first | refine go_ ?_ | refine bx_ (fun _ => ?_))
    refine HC.imp ?_ hLE
    refine hc_meet (fun fr X => ∃ g13 g2 c2, Agr fr [(4, .pointer (some ⟨g4, 0, none⟩)), (13, .pointer (some ⟨g13, 0, none⟩)), (14, .int .i64 0)] ∧ X = ⟨g13, 34, [.int .i64 W, .int .i64 H, .slice (some ⟨g2, 0, none⟩) n c2], 3⟩ :: ⟨g2, 3, tab n (seenZ (L6 65536 0 0 65536 0 0) W H f W sm), c2 * 1⟩ :: ⟨g4, 34, [.int .i64 W, .int .i64 H, .slice a n cap], 3⟩ :: M) ?_ ?_
    · refine hc_drawA (⟨g4, 34, [.int .i64 W, .int .i64 H, .slice a n cap], 3⟩ :: M) (by kernel_rfl) ?_
      refine ha_quiet [0, 1, 2, 3, 4, 5, 6] (by rfl) (by kernel_rfl) ?_
      repeat (first | refine gd_ ?_ | refine hq_call rfl rfl (fun E _ => h6 E) ?_)
      refine ha_fork2 7 11 (by rfl) (by kernel_rfl) (by rfl) (by rfl) (by first | exact Imp.refl _ | exact Imp.drop (Imp.refl _) | exact Imp.drop (Imp.drop (Imp.refl _)) | exact Imp.drop (Imp.drop (Imp.drop (Imp.refl _))) | exact Imp.drop (Imp.drop (Imp.drop (Imp.drop (Imp.refl _)))) | exact Imp.drop (Imp.drop (Imp.drop (Imp.drop (Imp.drop (Imp.refl _))))) | exact Imp.drop (Imp.drop (Imp.drop (Imp.drop (Imp.drop (Imp.drop (Imp.refl _)))))) | exact Imp.drop (Imp.drop (Imp.drop (Imp.drop (Imp.drop (Imp.drop (Imp.drop (Imp.refl _))))))) | exact Imp.drop (Imp.drop (Imp.drop (Imp.drop (Imp.drop (Imp.drop (Imp.drop (Imp.drop (Imp.refl _))))))))) ?_ ?_
      · skip
        refine hl_call rfl rfl (see_pos (hs _) hE hnt (by omega)) (fun r M' hr => ?_)
        obtain ⟨g2, c2, rfl, rfl⟩ := hr
        repeat (first | refine op_ ?_ | refine bx_ (fun _ => ?_))
        refine ha_quiet [8, 9, 10] (by rfl) (by kernel_rfl) ?_
        repeat (first | refine gd_ ?_ | refine hq_call rfl rfl (fun E _ => h6 E) ?_)
        refine ha_fork1 11 (by rfl) (by kernel_rfl) (by rfl) (by first | exact Imp.refl _ | exact Imp.drop (Imp.refl _) | exact Imp.drop (Imp.drop (Imp.refl _)) | exact Imp.drop (Imp.drop (Imp.drop (Imp.refl _))) | exact Imp.drop (Imp.drop (Imp.drop (Imp.drop (Imp.refl _)))) | exact Imp.drop (Imp.drop (Imp.drop (Imp.drop (Imp.drop (Imp.refl _))))) | exact Imp.drop (Imp.drop (Imp.drop (Imp.drop (Imp.drop (Imp.drop (Imp.refl _)))))) | exact Imp.drop (Imp.drop (Imp.drop (Imp.drop (Imp.drop (Imp.drop (Imp.drop (Imp.refl _))))))) | exact Imp.drop (Imp.drop (Imp.drop (Imp.drop (Imp.drop (Imp.drop (Imp.drop (Imp.drop (Imp.refl _))))))))) ?_
        · skip
          repeat (first | refine op_ ?_ | refine bx_ (fun _ => ?_))
          refine ha_fork1 12 (by rfl) (by kernel_rfl) (by rfl) (by first | exact Imp.refl _ | exact Imp.drop (Imp.refl _) | exact Imp.drop (Imp.drop (Imp.refl _)) | exact Imp.drop (Imp.drop (Imp.drop (Imp.refl _))) | exact Imp.drop (Imp.drop (Imp.drop (Imp.drop (Imp.refl _)))) | exact Imp.drop (Imp.drop (Imp.drop (Imp.drop (Imp.drop (Imp.refl _))))) | exact Imp.drop (Imp.drop (Imp.drop (Imp.drop (Imp.drop (Imp.drop (Imp.refl _)))))) | exact Imp.drop (Imp.drop (Imp.drop (Imp.drop (Imp.drop (Imp.drop (Imp.drop (Imp.refl _))))))) | exact Imp.drop (Imp.drop (Imp.drop (Imp.drop (Imp.drop (Imp.drop (Imp.drop (Imp.drop (Imp.refl _))))))))) ?_
          · skip
            repeat (first | refine op_ ?_ | refine bx_ (fun _ => ?_))
            refine ha_quiet [13] (by rfl) (by kernel_rfl) ?_
            repeat (first | refine gd_ ?_ | refine hq_call rfl rfl (fun E _ => h6 E) ?_)
            refine ha_end (by rfl) (by kernel_rfl) (by first | exact Imp.refl _ | exact Imp.drop (Imp.refl _) | exact Imp.drop (Imp.drop (Imp.refl _)) | exact Imp.drop (Imp.drop (Imp.drop (Imp.refl _))) | exact Imp.drop (Imp.drop (Imp.drop (Imp.drop (Imp.refl _)))) | exact Imp.drop (Imp.drop (Imp.drop (Imp.drop (Imp.drop (Imp.refl _))))) | exact Imp.drop (Imp.drop (Imp.drop (Imp.drop (Imp.drop (Imp.drop (Imp.refl _)))))) | exact Imp.drop (Imp.drop (Imp.drop (Imp.drop (Imp.drop (Imp.drop (Imp.drop (Imp.refl _))))))) | exact Imp.drop (Imp.drop (Imp.drop (Imp.drop (Imp.drop (Imp.drop (Imp.drop (Imp.drop (Imp.refl _))))))))) ?_
            exact ⟨_, _, _, ⟨rfl, rfl, rfl, trivial⟩, rfl⟩
      · skip
        repeat (first | refine op_ ?_ | refine bx_ (fun _ => ?_))
        refine ha_fork1 7 (by rfl) (by kernel_rfl) (by rfl) (by first | exact Imp.refl _ | exact Imp.drop (Imp.refl _) | exact Imp.drop (Imp.drop (Imp.refl _)) | exact Imp.drop (Imp.drop (Imp.drop (Imp.refl _))) | exact Imp.drop (Imp.drop (Imp.drop (Imp.drop (Imp.refl _)))) | exact Imp.drop (Imp.drop (Imp.drop (Imp.drop (Imp.drop (Imp.refl _))))) | exact Imp.drop (Imp.drop (Imp.drop (Imp.drop (Imp.drop (Imp.drop (Imp.refl _)))))) | exact Imp.drop (Imp.drop (Imp.drop (Imp.drop (Imp.drop (Imp.drop (Imp.drop (Imp.refl _))))))) | exact Imp.drop (Imp.drop (Imp.drop (Imp.drop (Imp.drop (Imp.drop (Imp.drop (Imp.drop (Imp.refl _))))))))) ?_
        · skip
          refine hl_call rfl rfl (see_pos (hs _) hE hnt (by omega)) (fun r M' hr => ?_)
          obtain ⟨g2, c2, rfl, rfl⟩ := hr
          repeat (first | refine op_ ?_ | refine bx_ (fun _ => ?_))
          refine ha_quiet [8, 9, 10] (by rfl) (by kernel_rfl) ?_
          repeat (first | refine gd_ ?_ | refine hq_call rfl rfl (fun E _ => h6 E) ?_)
          refine ha_fork1 12 (by rfl) (by kernel_rfl) (by rfl) (by first | exact Imp.refl _ | exact Imp.drop (Imp.refl _) | exact Imp.drop (Imp.drop (Imp.refl _)) | exact Imp.drop (Imp.drop (Imp.drop (Imp.refl _))) | exact Imp.drop (Imp.drop (Imp.drop (Imp.drop (Imp.refl _)))) | exact Imp.drop (Imp.drop (Imp.drop (Imp.drop (Imp.drop (Imp.refl _))))) | exact Imp.drop (Imp.drop (Imp.drop (Imp.drop (Imp.drop (Imp.drop (Imp.refl _)))))) | exact Imp.drop (Imp.drop (Imp.drop (Imp.drop (Imp.drop (Imp.drop (Imp.drop (Imp.refl _))))))) | exact Imp.drop (Imp.drop (Imp.drop (Imp.drop (Imp.drop (Imp.drop (Imp.drop (Imp.drop (Imp.refl _))))))))) ?_
          · skip
            repeat (first | refine op_ ?_ | refine bx_ (fun _ => ?_))
            refine ha_quiet [13] (by rfl) (by kernel_rfl) ?_
            repeat (first | refine gd_ ?_ | refine hq_call rfl rfl (fun E _ => h6 E) ?_)
            refine ha_end (by rfl) (by kernel_rfl) (by first | exact Imp.refl _ | exact Imp.drop (Imp.refl _) | exact Imp.drop (Imp.drop (Imp.refl _)) | exact Imp.drop (Imp.drop (Imp.drop (Imp.refl _))) | exact Imp.drop (Imp.drop (Imp.drop (Imp.drop (Imp.refl _)))) | exact Imp.drop (Imp.drop (Imp.drop (Imp.drop (Imp.drop (Imp.refl _))))) | exact Imp.drop (Imp.drop (Imp.drop (Imp.drop (Imp.drop (Imp.drop (Imp.refl _)))))) | exact Imp.drop (Imp.drop (Imp.drop (Imp.drop (Imp.drop (Imp.drop (Imp.drop (Imp.refl _))))))) | exact Imp.drop (Imp.drop (Imp.drop (Imp.drop (Imp.drop (Imp.drop (Imp.drop (Imp.drop (Imp.refl _))))))))) ?_
            exact ⟨_, _, _, ⟨rfl, rfl, rfl, trivial⟩, rfl⟩
    rintro fr X ⟨g13, g2, c2, hf, rfl⟩
    obtain ⟨base, rfl⟩ := hf.out
    clear hf
    repeat (first | refine go_ ?_ | refine bx_ (fun _ => ?_) | refine hl_callv rfl rfl (same_fn (nums_own (by first | exact .here | exact (.there .here) | exact (.there (.there .here)) | exact (.there (.there (.there .here))) | exact (.there (.there (.there (.there .here)))) | exact (.there (.there (.there (.there (.there .here))))) | exact (.there (.there (.there (.there (.there (.there .here)))))) | exact (.there (.there (.there (.there (.there (.there (.there .here))))))) | exact (.there (.there (.there (.there (.there (.there (.there (.there .here))))))))) (fun i hi => by rw [hcell i hi]; exact hbd i hi) (by omega)) (hN _) hcell) ?_)
    exact fin1B rfl rfl rfl
theorem walk (W H : Int) (a : Option Addr) (len cap : Nat) (l : List Int) (x y : Int) (sm : Bool) (wd : World) (_ : -9223372036854775808 ≤ W ∧ W ≤ 9223372036854775807) (_ : -9223372036854775808 ≤ H ∧ H ≤ 9223372036854775807) (hl : Sl intV wd a len cap l) (hx : ∀ x ∈ l, -9223372036854775808 ≤ x ∧ x ≤ 9223372036854775807)
    (_ : -9223372036854775808 ≤ x ∧ x ≤ 9223372036854775807) (_ : -9223372036854775808 ≤ y ∧ y ≤ 9223372036854775807) :
    Calls Try.prog 7 #[picV W H a len cap, .int .i64 x, .int .i64 y, .bool sm] wd fun e w' => e = .returned (.bool true) ∧ Below wd.heap.size wd w' := by
  have h1 := hl.small
  have h2 := hl.le
  exact calls_of_fn (law W H (fun hn E => nums_par (Nat.le_refl _) hl hx (by omega)) (by omega) x y sm) fun _ _ h => h

/-! The step to the statement (written by program). -/
open Go.ChangeShapes Go.WideShapes Go.ChangeAt
set_option maxRecDepth 100000 in
theorem lifted (os : Os) (started : os.Started) (H : Type) (enc : TypeId × Value → H) :
    ReturnsInHanded {} Try.checked os 7 .any (Rows.affineMovesSpec.pre6 enc Try.prog Try.f7 Rows.affineMovesRow.domain false) (Rows.affineMovesSpec.post enc Try.prog Try.f7 false true false false) := by
  refine returnsInHanded_of_change (C := Try.checked) own started (by kernel_rfl) Try.func7
    (ChangeSpec.witness6 (enc := enc) (C := Try.checked) false ⟨#[], #[.agg #[.int .i64 0, .int .i64 0, .slice none 0 0], .int .i64 0, .int .i64 0, .bool false], []⟩ 8 (by kernel_rfl) (by kernel_rfl) (by kernel_rfl) (by kernel_rfl)) ?_
  intro W base args ds gs before hval0 hW hcnd _
  have hval : ∀ (j : Nat) t v, Try.f7.params[j]? = some t → args[j]? = some v → Value.okWide Try.prog W .any base t v := hval0
  have hW' := hW
  obtain ⟨p, q, hA0, hV, rfl, hfz, hnd⟩ := hW
  have hA : DataW.TrodAll enc Try.prog W 0 (fun _ => true) true Try.f7.params.toList args.toList ds p := hA0
  rw [Try.params7] at hA hval
  obtain ⟨v0, vs0, d0, ds0, p0, q0, hargs, rfl, rfl, h0, r0⟩ := trodAll_cons hA
  obtain ⟨v1, vs1, d1, ds1, p1, q1, rfl, rfl, rfl, h1, r1⟩ := trodAll_cons r0
  obtain ⟨v2, vs2, d2, ds2, p2, q2, rfl, rfl, rfl, h2, r2⟩ := trodAll_cons r1
  obtain ⟨v3, vs3, d3, ds3, p3, q3, rfl, rfl, rfl, h3, r3⟩ := trodAll_cons r2
  obtain ⟨rfl, rfl, rfl⟩ := trodAll_nil r3
  obtain rfl : args = #[v0, v1, v2, v3] := by cases args; simp_all
  obtain ⟨rfl, rfl⟩ := trodVars_none hV
  have k0 := h0
  have lt0 : ∀ x ∈ p0, x.block < W.heap.size := by obtain ⟨m, hm⟩ := k0; exact DataW.trod_lt m _ _ _ hm
  obtain ⟨W0, H0, a0, len0, cap0, l0, rfl, x0, y0, w0, b0⟩ := open_pic (hval 0 34 v0 rfl rfl) k0
  have k1 := h1
  have lt1 : ∀ x ∈ p1, x.block < W.heap.size := by obtain ⟨m, hm⟩ := k1; exact DataW.trod_lt m _ _ _ hm
  obtain ⟨a1, rfl, _, _, w1⟩ := open_int Try.underlying3 (hval 1 3 v1 rfl rfl) h1
  have w1 := wf_i64 w1
  have k2 := h2
  have lt2 : ∀ x ∈ p2, x.block < W.heap.size := by obtain ⟨m, hm⟩ := k2; exact DataW.trod_lt m _ _ _ hm
  obtain ⟨a2, rfl, _, _, w2⟩ := open_int Try.underlying3 (hval 2 3 v2 rfl rfl) h2
  have w2 := wf_i64 w2
  have k3 := h3
  have lt3 : ∀ x ∈ p3, x.block < W.heap.size := by obtain ⟨m, hm⟩ := k3; exact DataW.trod_lt m _ _ _ hm
  obtain ⟨a3, rfl, _, _⟩ := open_bool Try.underlying4 (hval 3 4 v3 rfl rfl) h3
  clear hA0 hval0
  refine (walk W0 H0 a0 len0 cap0 l0 a1 a2 a3 W x0 y0 w0 b0 w1 w2).mono fun e W' ⟨he, bel⟩ => ?_
  subst he
  exact ⟨_, rfl, _, _, _, [], _, [], hW', trodAll_mk1 (shut_bool Try.underlying4 _), (trodAll_cons_mk (Below.trod laidOut (by kernel_rfl) (of_decide_eq_true (by kernel_rfl)) k0 bel lt0) (trodAll_cons_mk (Below.trod laidOut (by kernel_rfl) (of_decide_eq_true (by kernel_rfl)) k1 bel lt1) (trodAll_cons_mk (Below.trod laidOut (by kernel_rfl) (of_decide_eq_true (by kernel_rfl)) k2 bel lt2) (trodAll_cons_mk (Below.trod laidOut (by kernel_rfl) (of_decide_eq_true (by kernel_rfl)) k3 bel lt3) trodAll_mk0)))), rfl, bel.frame _, fun h => by cases h⟩

theorem over : Rows.affineMovesRow.holds Try.pinned (OpenSpec.ofChange Rows.affineMovesSpec) :=
  OpenClaim.holds_of_wide 7 Try.f7 rfl rfl rfl rfl rfl rfl rfl ⟨rfl, rfl, rfl, rfl, rfl⟩ rfl rfl rfl rfl rfl (by kernel_rfl) Try.func7 (by kernel_rfl)
    (of_decide_eq_true (by kernel_rfl)) (by unfold Func.isWrapper; first | (rw [if_pos (by decide +kernel)]; kernel_rfl) | (rw [if_neg (by decide +kernel)]; exact ⟨rfl, rfl⟩))
    (fun os started H enc _ => lifted os started H enc)

/-- The statement. -/
theorem proved : Rows.AffineMovesSaid := over
#print axioms proved
end Go.Proofs.Ytbgdligfdfhbkaa.affineMoves
