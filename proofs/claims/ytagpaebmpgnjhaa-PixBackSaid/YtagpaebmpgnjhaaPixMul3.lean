/-
  The contracts of pix.Unmultiply and pix.Multiply.
-/
import Derived.Test.YtagpaebmpgnjhaaPixel
namespace Go.Proofs.Ytagpaebmpgnjhaa
open Go.RowKit

/-- The first k numbers turned by h. -/
def mapK (h : Int → Int) (P : List Int) (k : Nat) : List Int := (P.take k).map h ++ P.drop k
theorem length_mapK (h : Int → Int) (P : List Int) (k : Nat) : (mapK h P k).length = P.length := by simp [mapK]; omega
theorem mapK_at (h : Int → Int) (P : List Int) (k i : Nat) (hk : k ≤ i) (hi : i < P.length) : (mapK h P k)[i]? = some P[i] := by
  simp only [mapK]
  rw [List.getElem?_append_right (by simp; omega)]
  simp only [List.length_map, List.length_take, List.getElem?_drop]
  rw [show k + (i - min k P.length) = i by omega, List.getElem?_eq_getElem hi]
theorem mapK_set (h : Int → Int) (P : List Int) (k : Nat) (hk : k < P.length) : (mapK h P k).set k (h P[k]) = mapK h P (k + 1) := by
  simp only [mapK]
  rw [List.set_append_right _ _ (by simp; omega), List.length_map, List.length_take, show k - min k P.length = 0 by omega, List.drop_eq_getElem_cons hk, List.set_cons_zero,
    List.take_succ_eq_append_getElem hk, List.map_append, List.append_assoc]; rfl
theorem bare_still (c a : Int) (hc : 0 ≤ c) (hc' : c ≤ 100000) (ha : 0 ≤ a) (ha' : a ≤ 100000) (w : World) :
    Calls Try.prog 19 #[.int .i64 c, .int .i64 a] w fun e w' => e = .returned (.int .i64 (bareZ c a)) ∧ w' = w :=
  (bare_any c a hc hc' ha ha' w).mono fun _ _ h => ⟨h.1, h.2.symm⟩
theorem refBare_still (c a : Int) (hc : 0 ≤ c) (hc' : c ≤ 100000) (ha : 0 ≤ a) (ha' : a ≤ 100000) (w : World) :
    Calls Try.prog 20 #[.int .i64 c, .int .i64 a] w fun e w' => e = .returned (.int .i64 (bareZ c a)) ∧ w' = w :=
  (refBare_any c a hc hc' ha ha' w).mono fun _ _ h => ⟨h.1, h.2.symm⟩

set_option maxHeartbeats 4000000 in
theorem unmul_any (P : List Int) (hP : P.length = 4) (bP : ∀ x ∈ P, Byte x) (w : World) :
    Calls Try.prog 23 #[arrV P] w fun e w' => e = .returned (arrV (mapK (fun x => bareZ x (P[3]'(by omega))) P 3)) ∧ Below w.heap.size w w' := by
  have q3 : 3 < P.length := by omega
  have s3 := bP _ (List.getElem_mem q3)
  have BP := Lib.hid bP
  have HP := Lib.hid hP
  clear bP
  go_enter Try.func23, Try.ntmps23
  go_wp2_with fail
  obtain ⟨h, hh⟩ : ∃ h : Int → Int, h = fun x => bareZ x P[3] := ⟨_, rfl⟩
  go_loopg [4] 3 (fun m i wr => ∃ (k : Nat), k + m = 3 ∧ i = .int .i64 k ∧ Blk wr w.heap.size 22 ((mapK h P k).map intV) ∧ Blk wr (w.heap.size + 1) 22 ([0, 0, 0, 0].map intV) ∧ Below w.heap.size w wr)
  case atStart =>
    refine ⟨0, by omega, rfl, ?_, ?_, ?_⟩
    · exact (Blk.new _ _ _ _ rfl _ (by simp [mapK])).alloc _
    · exact Blk.new _ _ _ _ (by simp) _ rfl
    · repeat (first | exact Below.refl _ _ | refine Below.alloc ?_ (by first | (simp; done) | (simp; omega)) _)
  case round =>
    obtain ⟨k, hk, rfl, hA, hB, hbel⟩ := hrel
    have HH := Lib.hid hh
    clear hh
    have HA := Lib.hid hA
    have HBB := Lib.hid hB
    clear hA hB
    by_cases hlt : k < 3
    · have hk0 : k < P.length := by omega
      have lk := length_mapK h P k
      have cA : wr.cell? ⟨w.heap.size, k, none⟩ = some (.int .i64 P[k]) := by
        have e := mapK_at h P k k (Nat.le_refl _) hk0
        rw [List.getElem?_eq_getElem (by omega)] at e
        simp only [Option.some.injEq] at e
        rw [HA.out.cell k (by simp; omega)]; simp [e]
      have c3 : wr.cell? ⟨w.heap.size, 3, none⟩ = some (.int .i64 P[3]) := by
        have e := mapK_at h P k 3 (by omega) q3
        rw [List.getElem?_eq_getElem (by omega)] at e
        simp only [Option.some.injEq] at e
        rw [HA.out.cell 3 (by simp; omega)]; simp [e]
      have zA := HA.out.frozen k
      have bx := BP.out _ (List.getElem_mem hk0)
      have hst := HA.out.set k (intV (h P[k]))
      rw [← List.map_set, mapK_set h P k hk0] at hst
      have hv : h P[k] = bareZ P[k] P[3] := by rw [HH.out]
      rw [hv] at hst
      have c1 := bare_still P[k] P[3] bx.1 (by have := bx.2; omega) s3.1 (by have := s3.2; omega)
      have C1 := Lib.hid c1
      have HST := Lib.hid hst
      clear c1 hst hv lk
      generalize P[k] = x at *
      go_wp2_with fail
      have hk4 : (k : Int) < 4 := by omega
      go_still_tail 8, (by kernel_rfl)
      still_call (C1.out _)
      repeat still_step
      try refine wpStill_nil ?_
      change wpList _ _ _ _ _ wr.drew
      go_wp2_with fail
      go_roundg (gk - 1)
      case measure => omega
      case rel => exact ⟨k + 1, by omega, by go_num, HST.out.drew, (HBB.out.other (by dsimp only; omega) _).drew, (hbel.setCell (by dsimp only; omega) _).drew⟩
    · obtain rfl : k = 3 := by omega
      have lk := length_mapK h P 3
      go_wp2_with ((with_reducible refine stopLoad Try.underlying22 ?_))
      refine unhide (wpl_load rfl _ _ rfl _ rfl _ _ HA.out _ _ Try.underlying22 (by rw [List.length_map, lk, HP.out]; kernel_rfl) ?_)
      refine wpl_store rfl _ _ _ rfl _ rfl (mapK h P 3) rfl _ _ HBB.out (by rw [lk]; simpa using HP.out.symm) (by rw [lk, HP.out]; kernel_rfl) ?_
      have hres := HBB.out.row ((mapK h P 3).map intV)
      have hb2 := below_row hbel (g := w.heap.size + 1) (by omega) ((mapK h P 3).map intV).toArray
      generalize wr.setRow (w.heap.size + 1) ((mapK h P 3).map intV).toArray = w9 at *
      have HLK := Lib.hid lk
      clear lk
      go_wp2_with fail
      refine bodyPost_ret (results_blk rfl _ _ _ _ _ rfl hres _ _ Try.underlying22 (by rw [List.length_map, HLK.out, HP.out]; kernel_rfl)) rfl ⟨by rw [HH.out], hb2⟩

set_option maxHeartbeats 4000000 in
theorem mult_any (P : List Int) (hP : P.length = 4) (bP : ∀ x ∈ P, Byte x) (w : World) :
    Calls Try.prog 24 #[arrV P] w fun e w' => e = .returned (arrV (mapK (fun x => mulZ x (P[3]'(by omega))) P 3)) ∧ Below w.heap.size w w' := by
  have q3 : 3 < P.length := by omega
  have s3 := bP _ (List.getElem_mem q3)
  have BP := Lib.hid bP
  have HP := Lib.hid hP
  clear bP
  go_enter Try.func24, Try.ntmps24
  go_wp2_with fail
  obtain ⟨h, hh⟩ : ∃ h : Int → Int, h = fun x => mulZ x P[3] := ⟨_, rfl⟩
  go_loopg [4] 3 (fun m i wr => ∃ (k : Nat), k + m = 3 ∧ i = .int .i64 k ∧ Blk wr w.heap.size 22 ((mapK h P k).map intV) ∧ Blk wr (w.heap.size + 1) 22 ([0, 0, 0, 0].map intV) ∧ Below w.heap.size w wr)
  case atStart =>
    refine ⟨0, by omega, rfl, ?_, ?_, ?_⟩
    · exact (Blk.new _ _ _ _ rfl _ (by simp [mapK])).alloc _
    · exact Blk.new _ _ _ _ (by simp) _ rfl
    · repeat (first | exact Below.refl _ _ | refine Below.alloc ?_ (by first | (simp; done) | (simp; omega)) _)
  case round =>
    obtain ⟨k, hk, rfl, hA, hB, hbel⟩ := hrel
    have HH := Lib.hid hh
    clear hh
    have HA := Lib.hid hA
    have HBB := Lib.hid hB
    clear hA hB
    by_cases hlt : k < 3
    · have hk0 : k < P.length := by omega
      have lk := length_mapK h P k
      have cA : wr.cell? ⟨w.heap.size, k, none⟩ = some (.int .i64 P[k]) := by
        have e := mapK_at h P k k (Nat.le_refl _) hk0
        rw [List.getElem?_eq_getElem (by omega)] at e
        simp only [Option.some.injEq] at e
        rw [HA.out.cell k (by simp; omega)]; simp [e]
      have c3 : wr.cell? ⟨w.heap.size, 3, none⟩ = some (.int .i64 P[3]) := by
        have e := mapK_at h P k 3 (by omega) q3
        rw [List.getElem?_eq_getElem (by omega)] at e
        simp only [Option.some.injEq] at e
        rw [HA.out.cell 3 (by simp; omega)]; simp [e]
      have zA := HA.out.frozen k
      have bx := BP.out _ (List.getElem_mem hk0)
      have hst := HA.out.set k (intV (h P[k]))
      rw [← List.map_set, mapK_set h P k hk0] at hst
      have hv : h P[k] = mulZ P[k] P[3] := by rw [HH.out]
      rw [hv] at hst
      have c1 := mul_still P[k] P[3] bx.1 (by have := bx.2; omega) s3.1 (by have := s3.2; omega)
      have C1 := Lib.hid c1
      have HST := Lib.hid hst
      clear c1 hst hv lk
      generalize P[k] = x at *
      go_wp2_with fail
      have hk4 : (k : Int) < 4 := by omega
      go_still_tail 8, (by kernel_rfl)
      still_call (C1.out _)
      repeat still_step
      try refine wpStill_nil ?_
      change wpList _ _ _ _ _ wr.drew
      go_wp2_with fail
      go_roundg (gk - 1)
      case measure => omega
      case rel => exact ⟨k + 1, by omega, by go_num, HST.out.drew, (HBB.out.other (by dsimp only; omega) _).drew, (hbel.setCell (by dsimp only; omega) _).drew⟩
    · obtain rfl : k = 3 := by omega
      have lk := length_mapK h P 3
      go_wp2_with ((with_reducible refine stopLoad Try.underlying22 ?_))
      refine unhide (wpl_load rfl _ _ rfl _ rfl _ _ HA.out _ _ Try.underlying22 (by rw [List.length_map, lk, HP.out]; kernel_rfl) ?_)
      refine wpl_store rfl _ _ _ rfl _ rfl (mapK h P 3) rfl _ _ HBB.out (by rw [lk]; simpa using HP.out.symm) (by rw [lk, HP.out]; kernel_rfl) ?_
      have hres := HBB.out.row ((mapK h P 3).map intV)
      have hb2 := below_row hbel (g := w.heap.size + 1) (by omega) ((mapK h P 3).map intV).toArray
      generalize wr.setRow (w.heap.size + 1) ((mapK h P 3).map intV).toArray = w9 at *
      have HLK := Lib.hid lk
      clear lk
      go_wp2_with fail
      refine bodyPost_ret (results_blk rfl _ _ _ _ _ rfl hres _ _ Try.underlying22 (by rw [List.length_map, HLK.out, HP.out]; kernel_rfl)) rfl ⟨by rw [HH.out], hb2⟩

end Go.Proofs.Ytagpaebmpgnjhaa
