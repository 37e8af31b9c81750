/-
  The contracts of pix.Way, of the reference's Way, and of the statements' own pixel.
-/
import Derived.Test.YtagpaebmpgnjhaaPixFactors
import Derived.LoopN
namespace Go.Proofs.Ytagpaebmpgnjhaa
open Go.RowKit

theorem mul_still (a b : Int) (ha : 0 ≤ a) (ha' : a ≤ 100000) (hb : 0 ≤ b) (hb' : b ≤ 100000) (w : World) :
    Calls Try.prog 17 #[.int .i64 a, .int .i64 b] w fun e w' => e = .returned (.int .i64 (mulZ a b)) ∧ w' = w :=
  (mul_any a b ha ha' hb hb' w).mono fun _ _ h => ⟨h.1, h.2.symm⟩

def wayL (F : Int × Int) : List Int → List Int → List Int
  | x :: s, y :: d => wayZ F x y :: wayL F s d
  | _, _ => []
theorem length_wayL (F : Int × Int) : ∀ (s d : List Int), d.length = s.length → (wayL F s d).length = s.length
  | [], _, _ => by simp [wayL]
  | _ :: s, _ :: d, h => by simp [wayL, length_wayL F s d (by simpa using h)]
theorem getElem_wayL (F : Int × Int) : ∀ (s d : List Int) (i : Nat) (h1 : i < s.length) (h2 : i < d.length), (wayL F s d)[i]? = some (wayZ F s[i] d[i])
  | _ :: _, _ :: _, 0, _, _ => by simp [wayL]
  | _ :: s, _ :: d, i + 1, h1, h2 => by
    simp only [wayL, List.getElem?_cons_succ, List.getElem_cons_succ]
    exact getElem_wayL F s d i (by simpa using h1) (by simpa using h2)

/-- A row that is filled from its beginning on. -/
def fill (l : List Int) (n k : Nat) : List Int := l.take k ++ List.replicate (n - k) 0
theorem fill_set (l : List Int) (n k : Nat) (hl : l.length = n) (hk : k < n) : (fill l n k).set k (l[k]'(by omega)) = fill l n (k + 1) := by
  unfold fill
  rw [List.set_append_right _ _ (by simp; omega), List.length_take, show k - min k l.length = 0 by omega, show n - k = (n - (k + 1)) + 1 by omega, List.replicate_succ, List.set_cons_zero,
    List.take_succ_eq_append_getElem (by omega), List.append_assoc]; rfl
theorem fill_set' (l : List Int) (n k : Nat) (hl : l.length = n) (hk : k < n) (r : Int) (h : l[k]? = some r) : (fill l n k).set k r = fill l n (k + 1) := by
  rw [List.getElem?_eq_getElem (by omega)] at h
  simp only [Option.some.injEq] at h
  rw [← h]; exact fill_set l n k hl hk
theorem fill_end (l : List Int) (n : Nat) (hl : l.length = n) : fill l n n = l := by simp [fill, ← hl]
theorem length_fill (l : List Int) (n k : Nat) (hl : l.length = n) (hk : k ≤ n) : (fill l n k).length = n := by simp [fill]; omega

set_option maxHeartbeats 4000000 in
theorem way_any (way : Int) (S D : List Int) (hS : S.length = 4) (hD : D.length = 4) (bS : ∀ x ∈ S, Byte x) (bD : ∀ x ∈ D, Byte x) (w : World) :
    Calls Try.prog 14 #[.int .i64 way, arrV S, arrV D] w fun e w' =>
      e = .returned (arrV (wayL (facZ way (S[3]'(by omega)) (D[3]'(by omega))) S D)) ∧ Below w.heap.size w w' := by
  have hf := facZ_bd (way := way) (bS _ (List.getElem_mem (show 3 < S.length by omega))) (bD _ (List.getElem_mem (show 3 < D.length by omega)))
  have s3 := bS _ (List.getElem_mem (show 3 < S.length by omega))
  have d3 := bD _ (List.getElem_mem (show 3 < D.length by omega))
  have q1 : 3 < S.length := by omega
  have q2 : 3 < D.length := by omega
  have BS := Lib.hid bS
  have BD := Lib.hid bD
  have HS := Lib.hid hS
  have HD := Lib.hid hD
  clear bS bD
  go_enter Try.func14, Try.ntmps14
  go_wp2_with fail
  refine (factors_any way _ _ s3 d3 _).mono ?_
  rintro e w' ⟨rfl, rfl⟩
  obtain ⟨R, hRd⟩ : ∃ R, wayL (facZ way S[3] D[3]) S D = R := ⟨_, rfl⟩
  have HRD := Lib.hid hRd
  have hR := getElem_wayL (facZ way S[3] D[3]) S D
  have hRl := length_wayL (facZ way S[3] D[3]) S D (by omega)
  rw [hRd] at hRl
  simp only [hRd] at hR
  clear hRd
  have HRL := Lib.hid hRl
  clear hRl
  generalize hF : facZ way S[3] D[3] = F at *
  have HF := Lib.hid hF
  clear hF
  obtain ⟨f, g⟩ := F
  have HR := Lib.hid hR
  clear hR
  simp only at hf
  have hff := hf.1
  have hgg := hf.2
  go_wp2_with fail
  go_loopg [20] 4 (fun m i wr => ∃ (k : Nat), k + m = 4 ∧ i = .int .i64 k ∧ Blk wr w.heap.size 22 (S.map intV) ∧ Blk wr (w.heap.size + 1) 22 (D.map intV) ∧ Blk wr (w.heap.size + 1 + 1) 22 (fill R 4 0 |>.map intV) ∧
    Blk wr (w.heap.size + 1 + 1 + 1) 22 ((fill R 4 k).map intV) ∧ Below w.heap.size w wr)
  case atStart =>
    refine ⟨0, by omega, rfl, ?_, ?_, ?_, ?_, ?_⟩
    · exact (((Blk.new _ _ _ _ rfl _ rfl).alloc _).alloc _).alloc _
    · exact ((Blk.new _ _ _ _ (by simp) _ rfl).alloc _).alloc _
    · exact (Blk.new _ _ _ _ (by simp) _ rfl).alloc _
    · exact Blk.new _ _ _ _ (by simp) _ rfl
    · repeat (first | exact Below.refl _ _ | refine Below.alloc ?_ (by first | (simp; done) | (simp; omega)) _)
  case round =>
    obtain ⟨k, hk, rfl, hA, hB, hC, hD2, hbel⟩ := hrel
    have HA := Lib.hid hA
    have HB := Lib.hid hB
    have HC := Lib.hid hC
    have HDD := Lib.hid hD2
    clear hA hB hC hD2
    by_cases hlt : k < 4
    · have hk0 : k < S.length := by omega
      have hk1 : k < D.length := by omega
      have cA := HA.out.cell k (by simpa using hk0)
      have cB := HB.out.cell k (by simpa using hk1)
      have cD := HDD.out.cell k (by have := length_fill R 4 k (by have := HRL.out; omega) (by omega); simpa [this] using hlt)
      have zD := HDD.out.frozen k
      have bx := BS.out _ (List.getElem_mem hk0)
      have by_ := BD.out _ (List.getElem_mem hk1)
      obtain ⟨r, hr⟩ : ∃ r, r = wayZ (f, g) (S[k]'hk0) (D[k]'hk1) := ⟨_, rfl⟩
      have hst := HDD.out.set k (intV r)
      have hrk := HR.out k hk0 hk1
      rw [← hr] at hrk
      rw [← List.map_set, fill_set' R 4 k (by have := HRL.out; omega) hlt r hrk] at hst
      clear hrk
      simp only [List.getElem_map] at cA cB
      generalize S[k] = x at *
      generalize D[k] = y at *
      generalize (List.map intV (fill R 4 k))[k]'(by have := length_fill R 4 k (by have := HRL.out; omega) (by omega); simpa [this] using hlt) = z at *
      have HST := Lib.hid hst
      have HRK := Lib.hid hr
      clear hst hr
      have m1 := mulZ_bd bx hff
      have m2 := mulZ_bd by_ hgg
      have c1 := mul_still x f bx.1 (by have := bx.2; omega) hff.1 (by have := hff.2; omega)
      have c2 := mul_still y g by_.1 (by have := by_.2; omega) hgg.1 (by have := hgg.2; omega)
      have HW : Hid (wayZ (f, g) x y = min 255 (mulZ x f + mulZ y g)) := rfl
      generalize mulZ x f = n1 at *
      generalize mulZ y g = n2 at *
      obtain ⟨m11, m12⟩ := m1
      obtain ⟨m21, m22⟩ := m2
      have e1 : IntKind.i64.wrap (n1 + n2) = n1 + n2 := IntWalk.i64_in _ (by omega)
      have C1 := Lib.hid c1
      have C2 := Lib.hid c2
      clear c1 c2
      go_wp2_with fail
      go_still_tail 14, (by kernel_rfl)
      still_call (C1.out _)
      repeat still_step
      still_call (C2.out _)
      repeat still_step
      refine wpStill_nil ?_
      change wpList _ _ _ _ _ wr.drew
      go_wp2_with fail
      all_goals
        have er : r = min 255 (n1 + n2) := by rw [HRK.out, HW.out]
        go_roundg (gk - 1)
        case measure => omega
        case rel => exact ⟨k + 1, by omega, by go_num, (HA.out.other (by dsimp only; omega) _).drew, (HB.out.other (by dsimp only; omega) _).drew, (HC.out.other (by dsimp only; omega) _).drew, by
          first
            | (rw [show n1 + n2 = r by omega]; exact HST.out.drew)
            | (rw [show (255 : Int) = r by omega]; exact HST.out.drew), (hbel.setCell (by simp; omega) _).drew⟩
    · obtain rfl : k = 4 := by omega
      rw [fill_end R 4 (by have := HRL.out; omega)] at HDD
      go_wp2_with ((with_reducible refine stopLoad Try.underlying22 ?_))
      refine unhide (wpl_load rfl _ _ rfl _ rfl _ _ HDD.out _ _ Try.underlying22 (by rw [List.length_map, HRL.out, HS.out]; kernel_rfl) ?_)
      refine wpl_store rfl _ _ _ rfl _ rfl R rfl _ _ HC.out (by rw [List.length_map, length_fill R 4 0 (by have := HRL.out; omega) (by omega)]; have := HRL.out; omega) (by rw [HRL.out, HS.out]; kernel_rfl) ?_
      have hres := HC.out.row (R.map intV)
      have hb2 := below_row hbel (g := w.heap.size + 1 + 1) (by omega) (R.map intV).toArray
      generalize wr.setRow (w.heap.size + 1 + 1) (R.map intV).toArray = w9 at *
      go_wp2_with fail
      refine bodyPost_ret (results_blk rfl _ _ _ _ _ rfl hres _ _ Try.underlying22 (by rw [List.length_map, HRL.out, HS.out]; kernel_rfl)) rfl ⟨by rw [HF.out, HRD.out], hb2⟩

end Go.Proofs.Ytagpaebmpgnjhaa
