/-
  The contract of the reference's Way.
-/
import Derived.Test.YtagpaebmpgnjhaaPixWay
namespace Go.Proofs.Ytagpaebmpgnjhaa
open Go.RowKit

theorem refMul_still (a b : Int) (ha : 0 ≤ a) (ha' : a ≤ 100000) (hb : 0 ≤ b) (hb' : b ≤ 100000) (w : World) :
    Calls Try.prog 18 #[.int .i64 a, .int .i64 b] w fun e w' => e = .returned (.int .i64 (mulZ a b)) ∧ w' = w :=
  (refMul_any a b ha ha' hb hb' w).mono fun _ _ h => ⟨h.1, h.2.symm⟩

def fL (d : Int) : List Int := [0, 255, 0, 255, 255 - d, d, 0, 255 - d, 0, d, 255 - d, 255 - d]
def gL (s : Int) : List Int := [0, 0, 255, 255 - s, 255, 0, s, 0, 255 - s, 255 - s, s, 255 - s]
theorem fac_list (n : Nat) (h : n < 12) (s d : Int) : (fL d)[n]? = some (facZ n s d).1 ∧ (gL s)[n]? = some (facZ n s d).2 := by
  have : n = 0 ∨ n = 1 ∨ n = 2 ∨ n = 3 ∨ n = 4 ∨ n = 5 ∨ n = 6 ∨ n = 7 ∨ n = 8 ∨ n = 9 ∨ n = 10 ∨ n = 11 := by omega
  rcases this with rfl | rfl | rfl | rfl | rfl | rfl | rfl | rfl | rfl | rfl | rfl | rfl <;> exact ⟨rfl, rfl⟩
theorem fac_out (way s d : Int) (h : way < 0 ∨ 11 < way) : facZ way s d = facZ 0 s d := by
  unfold facZ
  rw [if_neg (by omega), if_neg (by omega), if_neg (by omega), if_neg (by omega), if_neg (by omega), if_neg (by omega), if_neg (by omega), if_neg (by omega), if_neg (by omega), if_neg (by omega), if_neg (by omega)]; rfl

set_option maxHeartbeats 4000000 in
theorem refWay_in (n : Nat) (S D : List Int) (hS : S.length = 4) (hD : D.length = 4) (bS : ∀ x ∈ S, Byte x) (bD : ∀ x ∈ D, Byte x) (hn : n < 12) (w : World) :
    Calls Try.prog 15 #[.int .i64 (n : Int), arrV S, arrV D] w fun e w' =>
      e = .returned (arrV (wayL (facZ (n : Int) (S[3]'(by omega)) (D[3]'(by omega))) S D)) ∧ Below w.heap.size w w' := by
  have hf := facZ_bd (way := (n : Int)) (bS _ (List.getElem_mem (show 3 < S.length by omega))) (bD _ (List.getElem_mem (show 3 < D.length by omega)))
  have hfl := fac_list n (by omega) (S[3]'(by omega)) (D[3]'(by omega))
  have s3 := bS _ (List.getElem_mem (show 3 < S.length by omega))
  have d3 := bD _ (List.getElem_mem (show 3 < D.length by omega))
  have q1 : 3 < S.length := by omega
  have q2 : 3 < D.length := by omega
  have BS := Lib.hid bS
  have BD := Lib.hid bD
  have HS := Lib.hid hS
  have HD := Lib.hid hD
  clear bS bD
  obtain ⟨R, hRd⟩ : ∃ R, wayL (facZ (n : Int) S[3] D[3]) S D = R := ⟨_, rfl⟩
  have HRD := Lib.hid hRd
  have hR := getElem_wayL (facZ (n : Int) S[3] D[3]) S D
  have hRl := length_wayL (facZ (n : Int) S[3] D[3]) S D (by omega)
  rw [hRd] at hRl
  simp only [hRd] at hR
  clear hRd
  have HRL := Lib.hid hRl
  clear hRl
  have FLD := Lib.hid hfl.1
  have FLG := Lib.hid hfl.2
  clear hfl
  generalize hF : facZ (n : Int) S[3] D[3] = F at *
  have HF := Lib.hid hF
  clear hF
  obtain ⟨f, g⟩ := F
  have HR := Lib.hid hR
  clear hR
  simp only at hf
  have hff := hf.1
  have hgg := hf.2
  have s31 := s3.1
  have s32 := s3.2
  have d31 := d3.1
  have d32 := d3.2
  generalize hu : S[3] = u at *
  generalize hv : D[3] = v at *
  have HU := Lib.hid hu
  have HV := Lib.hid hv
  go_enter Try.func15, Try.ntmps15
  go_wp2_with fail
  clear hu hv
  go_loopg [10] 4 (fun m i wr => ∃ (k : Nat), k + m = 4 ∧ i = .int .i64 k ∧ Blk wr w.heap.size 22 (S.map intV) ∧ Blk wr (w.heap.size + 1) 22 (D.map intV) ∧ Blk wr (w.heap.size + 1 + 1) 22 ((fill R 4 0).map intV) ∧
    Blk wr (w.heap.size + 1 + 1 + 1) 27 ((fL v).map intV) ∧ Blk wr (w.heap.size + 1 + 1 + 1 + 1) 27 ((gL u).map intV) ∧ Blk wr (w.heap.size + 1 + 1 + 1 + 1 + 1) 22 ((fill R 4 k).map intV) ∧ Below w.heap.size w wr)
  case atStart =>
    refine ⟨0, by omega, rfl, ?_, ?_, ?_, ?_, ?_, ?_, ?_⟩
    · exact (((((Blk.new _ _ _ _ rfl _ rfl).alloc _).alloc _).alloc _).alloc _).alloc _
    · exact ((((Blk.new _ _ _ _ (by simp) _ rfl).alloc _).alloc _).alloc _).alloc _
    · exact (((Blk.new _ _ _ _ (by simp) _ rfl).alloc _).alloc _).alloc _
    · exact ((Blk.new _ _ _ _ (by simp) _ rfl).alloc _).alloc _
    · exact (Blk.new _ _ _ _ (by simp) _ rfl).alloc _
    · exact Blk.new _ _ _ _ (by simp) _ rfl
    · repeat (first | exact Below.refl _ _ | refine Below.alloc ?_ (by first | (simp; done) | (simp; omega)) _)
  case round =>
    obtain ⟨k, hk, rfl, hA, hB, hC, hG1, hG2, hD2, hbel⟩ := hrel
    have HA := Lib.hid hA
    have HB := Lib.hid hB
    have HC := Lib.hid hC
    have HG1 := Lib.hid hG1
    have HG2 := Lib.hid hG2
    have HDD := Lib.hid hD2
    clear hA hB hC hD2 hG1 hG2
    by_cases hlt : k < 4
    · have hk0 : k < S.length := by omega
      have hk1 : k < D.length := by omega
      have cA := HA.out.cell k (by simpa using hk0)
      have cB := HB.out.cell k (by simpa using hk1)
      have cF : wr.cell? ⟨w.heap.size + 1 + 1 + 1, n, none⟩ = some (.int .i64 f) := by
        have h := HG1.out.cell n (by simp [fL]; try omega)
        rw [h]
        have h2 := FLD.out
        rw [List.getElem?_eq_getElem (by simp [fL]; try omega)] at h2
        simp only [Option.some.injEq] at h2
        simp only [List.getElem_map, h2]
      have cG : wr.cell? ⟨w.heap.size + 1 + 1 + 1 + 1, n, none⟩ = some (.int .i64 g) := by
        have h := HG2.out.cell n (by simp [gL]; try omega)
        rw [h]
        have h2 := FLG.out
        rw [List.getElem?_eq_getElem (by simp [gL]; try omega)] at h2
        simp only [Option.some.injEq] at h2
        simp only [List.getElem_map, h2]
      have cD := HDD.out.cell k (by have := length_fill R 4 k (by have := HRL.out; omega) (by omega); simpa [this] using hlt)
      have zD := HDD.out.frozen k
      have bx := BS.out _ (List.getElem_mem hk0)
      have by_ := BD.out _ (List.getElem_mem hk1)
      obtain ⟨r, hr⟩ : ∃ r, r = wayZ (f, g) (S[k]'hk0) (D[k]'hk1) := ⟨_, rfl⟩
      have hst : ∀ v0 : Value, Blk ((wr.setCell ⟨w.heap.size + 1 + 1 + 1 + 1 + 1, k, none⟩ v0)) (w.heap.size + 1 + 1 + 1 + 1 + 1) 22 (((fill R 4 k).map intV).set k v0) := fun v0 => HDD.out.set k v0
      have hrk := HR.out k hk0 hk1
      rw [← hr] at hrk
      have hfs : ((fill R 4 k).map intV).set k (intV r) = (fill R 4 (k + 1)).map intV := by
        rw [← List.map_set, fill_set' R 4 k (by have := HRL.out; omega) hlt r hrk]
      clear hrk
      simp only [List.getElem_map] at cA cB
      generalize S[k] = x at *
      generalize D[k] = y at *
      generalize (List.map intV (fill R 4 k))[k]'(by have := length_fill R 4 k (by have := HRL.out; omega) (by omega); simpa [this] using hlt) = z at *
      have HST := Lib.hid hst
      have HFS := Lib.hid hfs
      have HRK := Lib.hid hr
      clear hst hr hfs
      have m1 := mulZ_bd bx hff
      have m2 := mulZ_bd by_ hgg
      have c1 := refMul_still x f bx.1 (by have := bx.2; omega) hff.1 (by have := hff.2; omega)
      have c2 := refMul_still y g by_.1 (by have := by_.2; omega) hgg.1 (by have := hgg.2; omega)
      have HW : Hid (wayZ (f, g) x y = min 255 (mulZ x f + mulZ y g)) := rfl
      generalize mulZ x f = n1 at *
      generalize mulZ y g = n2 at *
      obtain ⟨m11, m12⟩ := m1
      obtain ⟨m21, m22⟩ := m2
      have e1 : IntKind.i64.wrap (n1 + n2) = n1 + n2 := IntWalk.i64_in _ (by omega)
      have hnI : ((n : Nat) : Int) < 12 := by omega
      have C1 := Lib.hid c1
      have C2 := Lib.hid c2
      clear c1 c2
      go_wp2_with fail
      go_still_tail 17, (by kernel_rfl)
      still_call (C1.out _)
      repeat still_step
      still_call (C2.out _)
      repeat still_step
      try refine wpStill_nil ?_
      change wpList _ _ _ _ _ wr.drew
      have er : r = min 255 (n1 + n2) := by rw [HRK.out, HW.out]
      have ER := Lib.hid er
      clear er e1
      have HST1 := Lib.hid (HST.out (.int .i64 (n1 + n2)))
      have cn := HST1.out.cell k (by simp only [List.length_set, List.length_map]; have := length_fill R 4 k (by have := HRL.out; omega) (by omega); omega)
      simp only [List.getElem_set_self] at cn
      have zn := HST1.out.frozen k
      by_cases hbig : 255 < n1 + n2
      · go_wp2_with fail
        go_roundg (gk - 1)
        case measure => omega
        case rel => exact ⟨k + 1, by omega, by go_num, ((HA.out.other (by dsimp only; omega) _).other (by dsimp only; omega) _).drew, ((HB.out.other (by dsimp only; omega) _).other (by dsimp only; omega) _).drew, ((HC.out.other (by dsimp only; omega) _).other (by dsimp only; omega) _).drew, ((HG1.out.other (by dsimp only; omega) _).other (by dsimp only; omega) _).drew, ((HG2.out.other (by dsimp only; omega) _).other (by dsimp only; omega) _).drew, by
          have er := ER.out
          have h := HST1.out.set k (intV 255)
          rw [List.set_set, show (255 : Int) = r by omega, HFS.out] at h
          rw [show (255 : Int) = r by omega]; exact h.drew, ((hbel.setCell (by dsimp only; omega) _).setCell (by dsimp only; omega) _).drew⟩
      · go_wp2_with fail
        go_roundg (gk - 1)
        case measure => omega
        case rel => exact ⟨k + 1, by omega, by go_num, (HA.out.other (by dsimp only; omega) _).drew, (HB.out.other (by dsimp only; omega) _).drew, (HC.out.other (by dsimp only; omega) _).drew, (HG1.out.other (by dsimp only; omega) _).drew, (HG2.out.other (by dsimp only; omega) _).drew, by
          have er := ER.out
          have h := HST1.out
          rw [show n1 + n2 = r by omega] at h
          rw [show n1 + n2 = r by omega]
          rw [show (Value.int .i64 r) = intV r from rfl, HFS.out] at h; exact h.drew, (hbel.setCell (by dsimp only; omega) _).drew⟩
    · obtain rfl : k = 4 := by omega
      rw [fill_end R 4 (by have := HRL.out; omega)] at HDD
      go_wp2_with ((with_reducible refine stopLoad Try.underlying22 ?_))
      refine unhide (wpl_load rfl _ _ rfl _ rfl _ _ HDD.out _ _ Try.underlying22 (by rw [List.length_map, HRL.out, HS.out]; kernel_rfl) ?_)
      refine wpl_store rfl _ _ _ rfl _ rfl R rfl _ _ HC.out (by rw [List.length_map, length_fill R 4 0 (by have := HRL.out; omega) (by omega)]; have := HRL.out; omega) (by rw [HRL.out, HS.out]; kernel_rfl) ?_
      have hres := HC.out.row (R.map intV)
      have hb2 := below_row hbel (g := w.heap.size + 1 + 1) (by omega) (R.map intV).toArray
      generalize wr.setRow (w.heap.size + 1 + 1) (R.map intV).toArray = w9 at *
      go_wp2_with fail
      refine bodyPost_ret (results_blk rfl _ _ _ _ _ rfl hres _ _ Try.underlying22 (by rw [List.length_map, HRL.out, HS.out]; kernel_rfl)) rfl ⟨by first | rw [HRD.out] | rw [HF.out, HRD.out], hb2⟩

set_option maxHeartbeats 4000000 in
theorem refWay_neg (way : Int) (S D : List Int) (hS : S.length = 4) (hD : D.length = 4) (bS : ∀ x ∈ S, Byte x) (bD : ∀ x ∈ D, Byte x) (hw : way < 0) (w : World) :
    Calls Try.prog 15 #[.int .i64 way, arrV S, arrV D] w fun e w' =>
      e = .returned (arrV (wayL (facZ 0 (S[3]'(by omega)) (D[3]'(by omega))) S D)) ∧ Below w.heap.size w w' := by
  have hf := facZ_bd (way := 0) (bS _ (List.getElem_mem (show 3 < S.length by omega))) (bD _ (List.getElem_mem (show 3 < D.length by omega)))
  have hfl := fac_list 0 (by omega) (S[3]'(by omega)) (D[3]'(by omega))
  have s3 := bS _ (List.getElem_mem (show 3 < S.length by omega))
  have d3 := bD _ (List.getElem_mem (show 3 < D.length by omega))
  have q1 : 3 < S.length := by omega
  have q2 : 3 < D.length := by omega
  have BS := Lib.hid bS
  have BD := Lib.hid bD
  have HS := Lib.hid hS
  have HD := Lib.hid hD
  clear bS bD
  obtain ⟨R, hRd⟩ : ∃ R, wayL (facZ 0 S[3] D[3]) S D = R := ⟨_, rfl⟩
  have HRD := Lib.hid hRd
  have hR := getElem_wayL (facZ 0 S[3] D[3]) S D
  have hRl := length_wayL (facZ 0 S[3] D[3]) S D (by omega)
  rw [hRd] at hRl
  simp only [hRd] at hR
  clear hRd
  have HRL := Lib.hid hRl
  clear hRl
  have FLD := Lib.hid hfl.1
  have FLG := Lib.hid hfl.2
  clear hfl
  generalize hF : facZ 0 S[3] D[3] = F at *
  have HF := Lib.hid hF
  clear hF
  obtain ⟨f, g⟩ := F
  have HR := Lib.hid hR
  clear hR
  simp only at hf
  have hff := hf.1
  have hgg := hf.2
  have s31 := s3.1
  have s32 := s3.2
  have d31 := d3.1
  have d32 := d3.2
  generalize hu : S[3] = u at *
  generalize hv : D[3] = v at *
  have HU := Lib.hid hu
  have HV := Lib.hid hv
  go_enter Try.func15, Try.ntmps15
  go_wp2_with fail
  clear hu hv
  go_loopg [10] 4 (fun m i wr => ∃ (k : Nat), k + m = 4 ∧ i = .int .i64 k ∧ Blk wr w.heap.size 22 (S.map intV) ∧ Blk wr (w.heap.size + 1) 22 (D.map intV) ∧ Blk wr (w.heap.size + 1 + 1) 22 ((fill R 4 0).map intV) ∧
    Blk wr (w.heap.size + 1 + 1 + 1) 27 ((fL v).map intV) ∧ Blk wr (w.heap.size + 1 + 1 + 1 + 1) 27 ((gL u).map intV) ∧ Blk wr (w.heap.size + 1 + 1 + 1 + 1 + 1) 22 ((fill R 4 k).map intV) ∧ Below w.heap.size w wr)
  case atStart =>
    refine ⟨0, by omega, rfl, ?_, ?_, ?_, ?_, ?_, ?_, ?_⟩
    · exact (((((Blk.new _ _ _ _ rfl _ rfl).alloc _).alloc _).alloc _).alloc _).alloc _
    · exact ((((Blk.new _ _ _ _ (by simp) _ rfl).alloc _).alloc _).alloc _).alloc _
    · exact (((Blk.new _ _ _ _ (by simp) _ rfl).alloc _).alloc _).alloc _
    · exact ((Blk.new _ _ _ _ (by simp) _ rfl).alloc _).alloc _
    · exact (Blk.new _ _ _ _ (by simp) _ rfl).alloc _
    · exact Blk.new _ _ _ _ (by simp) _ rfl
    · repeat (first | exact Below.refl _ _ | refine Below.alloc ?_ (by first | (simp; done) | (simp; omega)) _)
  case round =>
    obtain ⟨k, hk, rfl, hA, hB, hC, hG1, hG2, hD2, hbel⟩ := hrel
    have HA := Lib.hid hA
    have HB := Lib.hid hB
    have HC := Lib.hid hC
    have HG1 := Lib.hid hG1
    have HG2 := Lib.hid hG2
    have HDD := Lib.hid hD2
    clear hA hB hC hD2 hG1 hG2
    by_cases hlt : k < 4
    · have hk0 : k < S.length := by omega
      have hk1 : k < D.length := by omega
      have cA := HA.out.cell k (by simpa using hk0)
      have cB := HB.out.cell k (by simpa using hk1)
      have cF : wr.cell? ⟨w.heap.size + 1 + 1 + 1, 0, none⟩ = some (.int .i64 f) := by
        have h := HG1.out.cell 0 (by simp [fL]; try omega)
        rw [h]
        have h2 := FLD.out
        rw [List.getElem?_eq_getElem (by simp [fL]; try omega)] at h2
        simp only [Option.some.injEq] at h2
        simp only [List.getElem_map, h2]
      have cG : wr.cell? ⟨w.heap.size + 1 + 1 + 1 + 1, 0, none⟩ = some (.int .i64 g) := by
        have h := HG2.out.cell 0 (by simp [gL]; try omega)
        rw [h]
        have h2 := FLG.out
        rw [List.getElem?_eq_getElem (by simp [gL]; try omega)] at h2
        simp only [Option.some.injEq] at h2
        simp only [List.getElem_map, h2]
      have cD := HDD.out.cell k (by have := length_fill R 4 k (by have := HRL.out; omega) (by omega); simpa [this] using hlt)
      have zD := HDD.out.frozen k
      have bx := BS.out _ (List.getElem_mem hk0)
      have by_ := BD.out _ (List.getElem_mem hk1)
      obtain ⟨r, hr⟩ : ∃ r, r = wayZ (f, g) (S[k]'hk0) (D[k]'hk1) := ⟨_, rfl⟩
      have hst : ∀ v0 : Value, Blk ((wr.setCell ⟨w.heap.size + 1 + 1 + 1 + 1 + 1, k, none⟩ v0)) (w.heap.size + 1 + 1 + 1 + 1 + 1) 22 (((fill R 4 k).map intV).set k v0) := fun v0 => HDD.out.set k v0
      have hrk := HR.out k hk0 hk1
      rw [← hr] at hrk
      have hfs : ((fill R 4 k).map intV).set k (intV r) = (fill R 4 (k + 1)).map intV := by
        rw [← List.map_set, fill_set' R 4 k (by have := HRL.out; omega) hlt r hrk]
      clear hrk
      simp only [List.getElem_map] at cA cB
      generalize S[k] = x at *
      generalize D[k] = y at *
      generalize (List.map intV (fill R 4 k))[k]'(by have := length_fill R 4 k (by have := HRL.out; omega) (by omega); simpa [this] using hlt) = z at *
      have HST := Lib.hid hst
      have HFS := Lib.hid hfs
      have HRK := Lib.hid hr
      clear hst hr hfs
      have m1 := mulZ_bd bx hff
      have m2 := mulZ_bd by_ hgg
      have c1 := refMul_still x f bx.1 (by have := bx.2; omega) hff.1 (by have := hff.2; omega)
      have c2 := refMul_still y g by_.1 (by have := by_.2; omega) hgg.1 (by have := hgg.2; omega)
      have HW : Hid (wayZ (f, g) x y = min 255 (mulZ x f + mulZ y g)) := rfl
      generalize mulZ x f = n1 at *
      generalize mulZ y g = n2 at *
      obtain ⟨m11, m12⟩ := m1
      obtain ⟨m21, m22⟩ := m2
      have e1 : IntKind.i64.wrap (n1 + n2) = n1 + n2 := IntWalk.i64_in _ (by omega)
      have hnI : (0 : Int) < 12 := by omega
      have C1 := Lib.hid c1
      have C2 := Lib.hid c2
      clear c1 c2
      go_wp2_with fail
      go_still_tail 17, (by kernel_rfl)
      still_call (C1.out _)
      repeat still_step
      still_call (C2.out _)
      repeat still_step
      try refine wpStill_nil ?_
      change wpList _ _ _ _ _ wr.drew
      have er : r = min 255 (n1 + n2) := by rw [HRK.out, HW.out]
      have ER := Lib.hid er
      clear er e1
      have HST1 := Lib.hid (HST.out (.int .i64 (n1 + n2)))
      have cn := HST1.out.cell k (by simp only [List.length_set, List.length_map]; have := length_fill R 4 k (by have := HRL.out; omega) (by omega); omega)
      simp only [List.getElem_set_self] at cn
      have zn := HST1.out.frozen k
      by_cases hbig : 255 < n1 + n2
      · go_wp2_with fail
        go_roundg (gk - 1)
        case measure => omega
        case rel => exact ⟨k + 1, by omega, by go_num, ((HA.out.other (by dsimp only; omega) _).other (by dsimp only; omega) _).drew, ((HB.out.other (by dsimp only; omega) _).other (by dsimp only; omega) _).drew, ((HC.out.other (by dsimp only; omega) _).other (by dsimp only; omega) _).drew, ((HG1.out.other (by dsimp only; omega) _).other (by dsimp only; omega) _).drew, ((HG2.out.other (by dsimp only; omega) _).other (by dsimp only; omega) _).drew, by
          have er := ER.out
          have h := HST1.out.set k (intV 255)
          rw [List.set_set, show (255 : Int) = r by omega, HFS.out] at h
          rw [show (255 : Int) = r by omega]; exact h.drew, ((hbel.setCell (by dsimp only; omega) _).setCell (by dsimp only; omega) _).drew⟩
      · go_wp2_with fail
        go_roundg (gk - 1)
        case measure => omega
        case rel => exact ⟨k + 1, by omega, by go_num, (HA.out.other (by dsimp only; omega) _).drew, (HB.out.other (by dsimp only; omega) _).drew, (HC.out.other (by dsimp only; omega) _).drew, (HG1.out.other (by dsimp only; omega) _).drew, (HG2.out.other (by dsimp only; omega) _).drew, by
          have er := ER.out
          have h := HST1.out
          rw [show n1 + n2 = r by omega] at h
          rw [show n1 + n2 = r by omega]
          rw [show (Value.int .i64 r) = intV r from rfl, HFS.out] at h; exact h.drew, (hbel.setCell (by dsimp only; omega) _).drew⟩
    · obtain rfl : k = 4 := by omega
      rw [fill_end R 4 (by have := HRL.out; omega)] at HDD
      go_wp2_with ((with_reducible refine stopLoad Try.underlying22 ?_))
      refine unhide (wpl_load rfl _ _ rfl _ rfl _ _ HDD.out _ _ Try.underlying22 (by rw [List.length_map, HRL.out, HS.out]; kernel_rfl) ?_)
      refine wpl_store rfl _ _ _ rfl _ rfl R rfl _ _ HC.out (by rw [List.length_map, length_fill R 4 0 (by have := HRL.out; omega) (by omega)]; have := HRL.out; omega) (by rw [HRL.out, HS.out]; kernel_rfl) ?_
      have hres := HC.out.row (R.map intV)
      have hb2 := below_row hbel (g := w.heap.size + 1 + 1) (by omega) (R.map intV).toArray
      generalize wr.setRow (w.heap.size + 1 + 1) (R.map intV).toArray = w9 at *
      go_wp2_with fail
      refine bodyPost_ret (results_blk rfl _ _ _ _ _ rfl hres _ _ Try.underlying22 (by rw [List.length_map, HRL.out, HS.out]; kernel_rfl)) rfl ⟨by first | rw [HRD.out] | rw [HF.out, HRD.out], hb2⟩

set_option maxHeartbeats 4000000 in
theorem refWay_big (way : Int) (S D : List Int) (hS : S.length = 4) (hD : D.length = 4) (bS : ∀ x ∈ S, Byte x) (bD : ∀ x ∈ D, Byte x) (hw0 : 0 ≤ way) (hw : 11 < way) (w : World) :
    Calls Try.prog 15 #[.int .i64 way, arrV S, arrV D] w fun e w' =>
      e = .returned (arrV (wayL (facZ 0 (S[3]'(by omega)) (D[3]'(by omega))) S D)) ∧ Below w.heap.size w w' := by
  have hf := facZ_bd (way := 0) (bS _ (List.getElem_mem (show 3 < S.length by omega))) (bD _ (List.getElem_mem (show 3 < D.length by omega)))
  have hfl := fac_list 0 (by omega) (S[3]'(by omega)) (D[3]'(by omega))
  have s3 := bS _ (List.getElem_mem (show 3 < S.length by omega))
  have d3 := bD _ (List.getElem_mem (show 3 < D.length by omega))
  have q1 : 3 < S.length := by omega
  have q2 : 3 < D.length := by omega
  have BS := Lib.hid bS
  have BD := Lib.hid bD
  have HS := Lib.hid hS
  have HD := Lib.hid hD
  clear bS bD
  obtain ⟨R, hRd⟩ : ∃ R, wayL (facZ 0 S[3] D[3]) S D = R := ⟨_, rfl⟩
  have HRD := Lib.hid hRd
  have hR := getElem_wayL (facZ 0 S[3] D[3]) S D
  have hRl := length_wayL (facZ 0 S[3] D[3]) S D (by omega)
  rw [hRd] at hRl
  simp only [hRd] at hR
  clear hRd
  have HRL := Lib.hid hRl
  clear hRl
  have FLD := Lib.hid hfl.1
  have FLG := Lib.hid hfl.2
  clear hfl
  generalize hF : facZ 0 S[3] D[3] = F at *
  have HF := Lib.hid hF
  clear hF
  obtain ⟨f, g⟩ := F
  have HR := Lib.hid hR
  clear hR
  simp only at hf
  have hff := hf.1
  have hgg := hf.2
  have s31 := s3.1
  have s32 := s3.2
  have d31 := d3.1
  have d32 := d3.2
  generalize hu : S[3] = u at *
  generalize hv : D[3] = v at *
  have HU := Lib.hid hu
  have HV := Lib.hid hv
  go_enter Try.func15, Try.ntmps15
  go_wp2_with fail
  clear hu hv
  go_loopg [10] 4 (fun m i wr => ∃ (k : Nat), k + m = 4 ∧ i = .int .i64 k ∧ Blk wr w.heap.size 22 (S.map intV) ∧ Blk wr (w.heap.size + 1) 22 (D.map intV) ∧ Blk wr (w.heap.size + 1 + 1) 22 ((fill R 4 0).map intV) ∧
    Blk wr (w.heap.size + 1 + 1 + 1) 27 ((fL v).map intV) ∧ Blk wr (w.heap.size + 1 + 1 + 1 + 1) 27 ((gL u).map intV) ∧ Blk wr (w.heap.size + 1 + 1 + 1 + 1 + 1) 22 ((fill R 4 k).map intV) ∧ Below w.heap.size w wr)
  case atStart =>
    refine ⟨0, by omega, rfl, ?_, ?_, ?_, ?_, ?_, ?_, ?_⟩
    · exact (((((Blk.new _ _ _ _ rfl _ rfl).alloc _).alloc _).alloc _).alloc _).alloc _
    · exact ((((Blk.new _ _ _ _ (by simp) _ rfl).alloc _).alloc _).alloc _).alloc _
    · exact (((Blk.new _ _ _ _ (by simp) _ rfl).alloc _).alloc _).alloc _
    · exact ((Blk.new _ _ _ _ (by simp) _ rfl).alloc _).alloc _
    · exact (Blk.new _ _ _ _ (by simp) _ rfl).alloc _
    · exact Blk.new _ _ _ _ (by simp) _ rfl
    · repeat (first | exact Below.refl _ _ | refine Below.alloc ?_ (by first | (simp; done) | (simp; omega)) _)
  case round =>
    obtain ⟨k, hk, rfl, hA, hB, hC, hG1, hG2, hD2, hbel⟩ := hrel
    have HA := Lib.hid hA
    have HB := Lib.hid hB
    have HC := Lib.hid hC
    have HG1 := Lib.hid hG1
    have HG2 := Lib.hid hG2
    have HDD := Lib.hid hD2
    clear hA hB hC hD2 hG1 hG2
    by_cases hlt : k < 4
    · have hk0 : k < S.length := by omega
      have hk1 : k < D.length := by omega
      have cA := HA.out.cell k (by simpa using hk0)
      have cB := HB.out.cell k (by simpa using hk1)
      have cF : wr.cell? ⟨w.heap.size + 1 + 1 + 1, 0, none⟩ = some (.int .i64 f) := by
        have h := HG1.out.cell 0 (by simp [fL]; try omega)
        rw [h]
        have h2 := FLD.out
        rw [List.getElem?_eq_getElem (by simp [fL]; try omega)] at h2
        simp only [Option.some.injEq] at h2
        simp only [List.getElem_map, h2]
      have cG : wr.cell? ⟨w.heap.size + 1 + 1 + 1 + 1, 0, none⟩ = some (.int .i64 g) := by
        have h := HG2.out.cell 0 (by simp [gL]; try omega)
        rw [h]
        have h2 := FLG.out
        rw [List.getElem?_eq_getElem (by simp [gL]; try omega)] at h2
        simp only [Option.some.injEq] at h2
        simp only [List.getElem_map, h2]
      have cD := HDD.out.cell k (by have := length_fill R 4 k (by have := HRL.out; omega) (by omega); simpa [this] using hlt)
      have zD := HDD.out.frozen k
      have bx := BS.out _ (List.getElem_mem hk0)
      have by_ := BD.out _ (List.getElem_mem hk1)
      obtain ⟨r, hr⟩ : ∃ r, r = wayZ (f, g) (S[k]'hk0) (D[k]'hk1) := ⟨_, rfl⟩
      have hst : ∀ v0 : Value, Blk ((wr.setCell ⟨w.heap.size + 1 + 1 + 1 + 1 + 1, k, none⟩ v0)) (w.heap.size + 1 + 1 + 1 + 1 + 1) 22 (((fill R 4 k).map intV).set k v0) := fun v0 => HDD.out.set k v0
      have hrk := HR.out k hk0 hk1
      rw [← hr] at hrk
      have hfs : ((fill R 4 k).map intV).set k (intV r) = (fill R 4 (k + 1)).map intV := by
        rw [← List.map_set, fill_set' R 4 k (by have := HRL.out; omega) hlt r hrk]
      clear hrk
      simp only [List.getElem_map] at cA cB
      generalize S[k] = x at *
      generalize D[k] = y at *
      generalize (List.map intV (fill R 4 k))[k]'(by have := length_fill R 4 k (by have := HRL.out; omega) (by omega); simpa [this] using hlt) = z at *
      have HST := Lib.hid hst
      have HFS := Lib.hid hfs
      have HRK := Lib.hid hr
      clear hst hr hfs
      have m1 := mulZ_bd bx hff
      have m2 := mulZ_bd by_ hgg
      have c1 := refMul_still x f bx.1 (by have := bx.2; omega) hff.1 (by have := hff.2; omega)
      have c2 := refMul_still y g by_.1 (by have := by_.2; omega) hgg.1 (by have := hgg.2; omega)
      have HW : Hid (wayZ (f, g) x y = min 255 (mulZ x f + mulZ y g)) := rfl
      generalize mulZ x f = n1 at *
      generalize mulZ y g = n2 at *
      obtain ⟨m11, m12⟩ := m1
      obtain ⟨m21, m22⟩ := m2
      have e1 : IntKind.i64.wrap (n1 + n2) = n1 + n2 := IntWalk.i64_in _ (by omega)
      have hnI : (0 : Int) < 12 := by omega
      have C1 := Lib.hid c1
      have C2 := Lib.hid c2
      clear c1 c2
      go_wp2_with fail
      go_still_tail 17, (by kernel_rfl)
      still_call (C1.out _)
      repeat still_step
      still_call (C2.out _)
      repeat still_step
      try refine wpStill_nil ?_
      change wpList _ _ _ _ _ wr.drew
      have er : r = min 255 (n1 + n2) := by rw [HRK.out, HW.out]
      have ER := Lib.hid er
      clear er e1
      have HST1 := Lib.hid (HST.out (.int .i64 (n1 + n2)))
      have cn := HST1.out.cell k (by simp only [List.length_set, List.length_map]; have := length_fill R 4 k (by have := HRL.out; omega) (by omega); omega)
      simp only [List.getElem_set_self] at cn
      have zn := HST1.out.frozen k
      by_cases hbig : 255 < n1 + n2
      · go_wp2_with fail
        go_roundg (gk - 1)
        case measure => omega
        case rel => exact ⟨k + 1, by omega, by go_num, ((HA.out.other (by dsimp only; omega) _).other (by dsimp only; omega) _).drew, ((HB.out.other (by dsimp only; omega) _).other (by dsimp only; omega) _).drew, ((HC.out.other (by dsimp only; omega) _).other (by dsimp only; omega) _).drew, ((HG1.out.other (by dsimp only; omega) _).other (by dsimp only; omega) _).drew, ((HG2.out.other (by dsimp only; omega) _).other (by dsimp only; omega) _).drew, by
          have er := ER.out
          have h := HST1.out.set k (intV 255)
          rw [List.set_set, show (255 : Int) = r by omega, HFS.out] at h
          rw [show (255 : Int) = r by omega]; exact h.drew, ((hbel.setCell (by dsimp only; omega) _).setCell (by dsimp only; omega) _).drew⟩
      · go_wp2_with fail
        go_roundg (gk - 1)
        case measure => omega
        case rel => exact ⟨k + 1, by omega, by go_num, (HA.out.other (by dsimp only; omega) _).drew, (HB.out.other (by dsimp only; omega) _).drew, (HC.out.other (by dsimp only; omega) _).drew, (HG1.out.other (by dsimp only; omega) _).drew, (HG2.out.other (by dsimp only; omega) _).drew, by
          have er := ER.out
          have h := HST1.out
          rw [show n1 + n2 = r by omega] at h
          rw [show n1 + n2 = r by omega]
          rw [show (Value.int .i64 r) = intV r from rfl, HFS.out] at h; exact h.drew, (hbel.setCell (by dsimp only; omega) _).drew⟩
    · obtain rfl : k = 4 := by omega
      rw [fill_end R 4 (by have := HRL.out; omega)] at HDD
      go_wp2_with ((with_reducible refine stopLoad Try.underlying22 ?_))
      refine unhide (wpl_load rfl _ _ rfl _ rfl _ _ HDD.out _ _ Try.underlying22 (by rw [List.length_map, HRL.out, HS.out]; kernel_rfl) ?_)
      refine wpl_store rfl _ _ _ rfl _ rfl R rfl _ _ HC.out (by rw [List.length_map, length_fill R 4 0 (by have := HRL.out; omega) (by omega)]; have := HRL.out; omega) (by rw [HRL.out, HS.out]; kernel_rfl) ?_
      have hres := HC.out.row (R.map intV)
      have hb2 := below_row hbel (g := w.heap.size + 1 + 1) (by omega) (R.map intV).toArray
      generalize wr.setRow (w.heap.size + 1 + 1) (R.map intV).toArray = w9 at *
      go_wp2_with fail
      refine bodyPost_ret (results_blk rfl _ _ _ _ _ rfl hres _ _ Try.underlying22 (by rw [List.length_map, HRL.out, HS.out]; kernel_rfl)) rfl ⟨by first | rw [HRD.out] | rw [HF.out, HRD.out], hb2⟩

theorem refWay_any (way : Int) (S D : List Int) (hS : S.length = 4) (hD : D.length = 4) (bS : ∀ x ∈ S, Byte x) (bD : ∀ x ∈ D, Byte x) (w : World) :
    Calls Try.prog 15 #[.int .i64 way, arrV S, arrV D] w fun e w' =>
      e = .returned (arrV (wayL (facZ way (S[3]'(by omega)) (D[3]'(by omega))) S D)) ∧ Below w.heap.size w w' := by
  by_cases h : way < 0
  · rw [fac_out way _ _ (Or.inl h)]; exact refWay_neg way S D hS hD bS bD h w
  · by_cases h2 : 11 < way
    · rw [fac_out way _ _ (Or.inr h2)]; exact refWay_big way S D hS hD bS bD (by omega) h2 w
    · obtain ⟨n, rfl⟩ := Int.eq_ofNat_of_zero_le (show 0 ≤ way by omega)
      exact refWay_in n S D hS hD bS bD (by omega) w

end Go.Proofs.Ytagpaebmpgnjhaa
