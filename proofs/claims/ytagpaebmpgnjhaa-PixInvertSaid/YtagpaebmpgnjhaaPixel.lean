/-
  The contract of the statements' own function 'pixel'.
-/
import Derived.Test.YtagpaebmpgnjhaaPixAnchor
namespace Go.Proofs.Ytagpaebmpgnjhaa
open Go.RowKit

/-- Four numbers that are a pixel. -/
def PixOk (P : List Int) : Prop := ∀ i (h : i < P.length), Byte P[i] ∧ P[i] ≤ P.getD 3 0

set_option maxHeartbeats 2000000 in
theorem pixel_any (P : List Int) (hP : P.length = 4) (hw : ∀ x ∈ P, -9223372036854775808 ≤ x ∧ x ≤ 9223372036854775807) (b : Bool) (hb : b = true ↔ PixOk P) (w : World) :
    Calls Try.prog 13 #[arrV P] w fun e w' => e = .returned (.bool b) ∧ Below w.heap.size w w' := by
  have q3 : 3 < P.length := by omega
  have HB := Lib.hid hb
  have HW := Lib.hid hw
  have HP := Lib.hid hP
  clear hb hw
  have hidx := run_index_arr (P := Try.prog) 22 3 4 Try.underlying22 Try.underlying3 (by kernel_rfl) P hP
  have HI := Lib.hid hidx
  clear hidx
  go_enter Try.func13, Try.ntmps13
  go_wp2_with ((with_reducible refine stopLoad Try.underlying22 ?_))
  have hblk : Blk (w.alloc (.cells (P.map intV).toArray 22)) w.heap.size 22 (P.map intV) := Blk.new _ _ _ _ rfl _ rfl
  have hbel : Below w.heap.size w (w.alloc (.cells (P.map intV).toArray 22)) := (Below.refl _ _).alloc (Nat.le_refl _) _
  refine unhide (wpl_load rfl _ _ rfl _ rfl _ _ hblk _ _ Try.underlying22 (by rw [List.length_map, hP]; kernel_rfl) ?_)
  generalize w.alloc (.cells (P.map intV).toArray 22) = w1 at *
  have c3 : w1.cell? ⟨w.heap.size, 3, none⟩ = some (.int .i64 P[3]) := by rw [hblk.cell 3 (by simpa using q3)]; simp
  have w3 := HW.out _ (List.getElem_mem q3)
  have hg3 : P.getD 3 0 = P[3] := by simp [List.getD, q3]
  have HBL := Lib.hid hblk
  have HG := Lib.hid hg3
  clear hblk hg3
  go_wp2_with fail
  go_loopg [6] 4 (fun m i wr => ∃ (k : Nat), k + m = 4 ∧ i = .int .i64 k ∧ w1 = wr ∧ ∀ i (h : i < P.length), i < k → Byte P[i] ∧ P[i] ≤ P.getD 3 0)
  case atStart => exact ⟨0, by omega, rfl, rfl, fun i h hi => by omega⟩
  case round =>
    obtain ⟨k, hk, rfl, rfl, hok⟩ := hrel
    have HOK := Lib.hid hok
    clear hok
    by_cases hlt : k < 4
    · have hk0 : k < P.length := by omega
      have hx := HI.out k hk0
      have wx := HW.out _ (List.getElem_mem hk0)
      have hno : ¬ (Byte P[k] ∧ P[k] ≤ P.getD 3 0) → b = false := fun h => by
        cases b with
        | false => rfl
        | true => exact absurd (HB.out.1 rfl k hk0) h
      have hnext : Byte P[k] ∧ P[k] ≤ P.getD 3 0 → ∀ i (h : i < P.length), i < k + 1 → Byte P[i] ∧ P[i] ≤ P.getD 3 0 := fun h i hi hik => by
        by_cases he : i = k
        · subst he; exact h
        · exact HOK.out i hi (by omega)
      rw [HG.out] at hno hnext
      have HNO := Lib.hid hno
      have HNX : Hid (Byte P[k] ∧ P[k] ≤ P[3] → ∀ i (h : i < P.length), i < k + 1 → Byte P[i] ∧ P[i] ≤ P[3]) := hnext
      clear hno hnext
      have HGG : Hid ((∀ i (h : i < P.length), i < k + 1 → Byte P[i] ∧ P[i] ≤ P[3]) → (∀ i (h : i < P.length), i < k + 1 → Byte P[i] ∧ P[i] ≤ P.getD 3 0)) := fun h => by rw [HG.out]; exact h
      generalize hxx : P[k] = x at *
      have HXX := Lib.hid hxx
      clear hxx
      by_cases hby : Byte x
      · by_cases hle : x ≤ P[3]
        · have hn : ¬ P[3] < x := by omega
          obtain ⟨x1, x2⟩ := hby
          go_wp2_with fail
          refine (byteful_yes x ⟨x1, x2⟩ _).mono ?_
          rintro e w' ⟨rfl, rfl⟩
          go_wp2_with fail
          go_roundg (gk - 1)
          case measure => omega
          case rel => exact ⟨k + 1, by omega, by go_num, rfl, HGG.out (HNX.out ⟨⟨x1, x2⟩, hle⟩)⟩
        · have hbf := HNO.out (fun h => hle h.2)
          have hn : P[3] < x := by omega
          have HBF := Lib.hid hbf
          obtain ⟨x1, x2⟩ := hby
          clear hbf
          go_wp2_with fail
          refine (byteful_yes x ⟨x1, x2⟩ _).mono ?_
          rintro e w' ⟨rfl, rfl⟩
          go_wp2_with fail
          go_ret
          exact ⟨by rw [HBF.out]; rfl, hbel⟩
      · have hbf := HNO.out (fun h => hby h.1)
        have HBF := Lib.hid hbf
        clear hbf
        go_wp2_with fail
        refine (byteful_no x hby _).mono ?_
        rintro e w' ⟨rfl, rfl⟩
        go_wp2_with fail
        go_ret
        exact ⟨by rw [HBF.out]; rfl, hbel⟩
    · have hbt : b = true := HB.out.2 (fun i hi => HOK.out i hi (by have := HP.out; omega))
      have HBT := Lib.hid hbt
      clear hbt
      go_wp2_with fail
      go_ret
      exact ⟨by rw [HBT.out]; rfl, hbel⟩

theorem pixel_yes (P : List Int) (hP : P.length = 4) (h : PixOk P) (w : World) :
    Calls Try.prog 13 #[arrV P] w fun e w' => e = .returned (.bool true) ∧ Below w.heap.size w w' :=
  pixel_any P hP (fun x hx => by obtain ⟨i, hi, rfl⟩ := List.getElem_of_mem hx; have := (h i hi).1; unfold Byte at this; omega) true ⟨fun _ => h, fun _ => rfl⟩ w
theorem pixel_no (P : List Int) (hP : P.length = 4) (hw : ∀ x ∈ P, -9223372036854775808 ≤ x ∧ x ≤ 9223372036854775807) (h : ¬ PixOk P) (w : World) :
    Calls Try.prog 13 #[arrV P] w fun e w' => e = .returned (.bool false) ∧ Below w.heap.size w w' :=
  pixel_any P hP hw false ⟨(fun h => by cases h), fun h' => absurd h' h⟩ w

end Go.Proofs.Ytagpaebmpgnjhaa
