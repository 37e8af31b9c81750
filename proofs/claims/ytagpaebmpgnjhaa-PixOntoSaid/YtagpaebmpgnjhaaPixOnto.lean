/-
  The statement PixOnto holds, whatever the two pixels.
-/
import Derived.Test.YtagpaebmpgnjhaaPixel
import Derived.Test.YtagpaebmpgnjhaaPixWay
import Derived.Test.YtagpaebmpgnjhaaOpenArr
import Derived.Deep.RegionHeld3
import Derived.Deep.LoopGhost
namespace Go.Proofs.Ytagpaebmpgnjhaa.pixOnto
open Go.RowKit

abbrev V4 (a b c d : Int) : Value := .agg #[.int .i64 a, .int .i64 b, .int .i64 c, .int .i64 d]

/-- Way, with its four numbers told one by one. -/
theorem way4 (way s0 s1 s2 s3 d0 d1 d2 d3 r0 r1 r2 r3 : Int) (hS : PixOk [s0, s1, s2, s3]) (hD : PixOk [d0, d1, d2, d3])
    (h0 : wayZ (facZ way s3 d3) s0 d0 = r0) (h1 : wayZ (facZ way s3 d3) s1 d1 = r1) (h2 : wayZ (facZ way s3 d3) s2 d2 = r2) (h3 : wayZ (facZ way s3 d3) s3 d3 = r3) (w : World) :
    Calls Try.prog 14 #[.int .i64 way, V4 s0 s1 s2 s3, V4 d0 d1 d2 d3] w fun e w' => e = .returned (V4 r0 r1 r2 r3) ∧ Below w.heap.size w w' := by
  have bS : ∀ x ∈ [s0, s1, s2, s3], Byte x := fun x hx => by obtain ⟨i, hi, rfl⟩ := List.getElem_of_mem hx; exact (hS i hi).1
  have bD : ∀ x ∈ [d0, d1, d2, d3], Byte x := fun x hx => by obtain ⟨i, hi, rfl⟩ := List.getElem_of_mem hx; exact (hD i hi).1
  have h := way_any way [s0, s1, s2, s3] [d0, d1, d2, d3] rfl rfl bS bD w
  subst h0 h1 h2 h3
  exact h

theorem mul255 {x : Int} (h : Byte x) : mulZ x 255 = x := by unfold mulZ; unfold Byte at h; omega
theorem mul255' {x : Int} (h : Byte x) : mulZ 255 x = x := by rw [mulZ_comm]; exact mul255 h
theorem mul0 (x : Int) : mulZ x 0 = 0 := by unfold mulZ; omega
theorem mul0' (x : Int) : mulZ 0 x = 0 := by unfold mulZ; omega
theorem ok0 : PixOk [0, 0, 0, 0] := by
  intro i hi
  have : i = 0 ∨ i = 1 ∨ i = 2 ∨ i = 3 := by simp at hi; omega
  have z : Byte 0 ∧ (0 : Int) ≤ 0 := ⟨by decide, by decide⟩
  rcases this with rfl | rfl | rfl | rfl <;> exact z

def turnL : List Int := [0, 2, 1, 4, 3, 6, 5, 8, 7, 10, 9, 11]
theorem turned (k : Nat) (hk : k < 12) (s a : Int) : facZ (turnL[k]'hk) a s = ((facZ k s a).2, (facZ k s a).1) := by
  have : k = 0 ∨ k = 1 ∨ k = 2 ∨ k = 3 ∨ k = 4 ∨ k = 5 ∨ k = 6 ∨ k = 7 ∨ k = 8 ∨ k = 9 ∨ k = 10 ∨ k = 11 := by omega
  rcases this with rfl | rfl | rfl | rfl | rfl | rfl | rfl | rfl | rfl | rfl | rfl | rfl <;> rfl
theorem swapped (k : Nat) (hk : k < 12) (s a x y : Int) : wayZ (facZ (turnL[k]'hk) a s) y x = wayZ (facZ k s a) x y := by
  rw [turned k hk]; unfold wayZ; rw [Int.add_comm]

theorem four_below {w w' : World} {g : Nat} {a b c d : Int} (h : Four w g a b c d) (hb : Below w.heap.size w w') (hg : g < w.heap.size) : Four w' g a b c d := by
  obtain ⟨h0, h1, h2, h3⟩ := h
  exact ⟨by rw [bcell hb _ _ hg]; exact h0, by rw [bcell hb _ _ hg]; exact h1, by rw [bcell hb _ _ hg]; exact h2, by rw [bcell hb _ _ hg]; exact h3⟩

/-- What holds of the world in a drawn region: the three pixels stand. -/
abbrev Held (w : World) (s0 s1 s2 s3 d0 d1 d2 d3 : Int) (b k : Nat) (w' : World) : Prop :=
  (w'.cell? ⟨b, 0, none⟩ = some (.int .i64 s0) ∧ w'.cell? ⟨b, 1, none⟩ = some (.int .i64 s1) ∧ w'.cell? ⟨b, 2, none⟩ = some (.int .i64 s2) ∧ w'.cell? ⟨b, 3, none⟩ = some (.int .i64 s3)) ∧
  (w'.cell? ⟨b + 1, 0, none⟩ = some (.int .i64 d0) ∧ w'.cell? ⟨b + 1, 1, none⟩ = some (.int .i64 d1) ∧ w'.cell? ⟨b + 1, 2, none⟩ = some (.int .i64 d2) ∧ w'.cell? ⟨b + 1, 3, none⟩ = some (.int .i64 d3)) ∧
  (w'.cell? ⟨k, 0, none⟩ = some (.int .i64 0) ∧ w'.cell? ⟨k, 1, none⟩ = some (.int .i64 0) ∧ w'.cell? ⟨k, 2, none⟩ = some (.int .i64 0) ∧ w'.cell? ⟨k, 3, none⟩ = some (.int .i64 0)) ∧
  b + 1 < w.heap.size ∧ k < w.heap.size ∧ Below w.heap.size w w'
theorem held_below {w : World} {s0 s1 s2 s3 d0 d1 d2 d3 : Int} {b k : Nat} {w1 w2 : World} (h : Held w s0 s1 s2 s3 d0 d1 d2 d3 b k w1) (hb : Below w1.heap.size w1 w2) : Held w s0 s1 s2 s3 d0 d1 d2 d3 b k w2 := by
  obtain ⟨h1, h2, h3, h4, h5, h6⟩ := h
  have := h6.size
  exact ⟨four_below h1 hb (by omega), four_below h2 hb (by omega), four_below h3 hb (by omega), h4, h5, h6.trans (hb.mono (by omega))⟩
theorem held_drew {w : World} {s0 s1 s2 s3 d0 d1 d2 d3 : Int} {b k : Nat} {w1 : World} (h : Held w s0 s1 s2 s3 d0 d1 d2 d3 b k w1) : Held w s0 s1 s2 s3 d0 d1 d2 d3 b k w1.drew :=
  held_below h (Below.refl _ _).drew

abbrev Held2 (w : World) (s0 s1 s2 s3 d0 d1 d2 d3 : Int) (b : Nat) (w' : World) : Prop :=
  (w'.cell? ⟨b, 0, none⟩ = some (.int .i64 s0) ∧ w'.cell? ⟨b, 1, none⟩ = some (.int .i64 s1) ∧ w'.cell? ⟨b, 2, none⟩ = some (.int .i64 s2) ∧ w'.cell? ⟨b, 3, none⟩ = some (.int .i64 s3)) ∧
  (w'.cell? ⟨b + 1, 0, none⟩ = some (.int .i64 d0) ∧ w'.cell? ⟨b + 1, 1, none⟩ = some (.int .i64 d1) ∧ w'.cell? ⟨b + 1, 2, none⟩ = some (.int .i64 d2) ∧ w'.cell? ⟨b + 1, 3, none⟩ = some (.int .i64 d3)) ∧
  b + 1 < w.heap.size ∧ Below w.heap.size w w'
theorem held2_below {w : World} {s0 s1 s2 s3 d0 d1 d2 d3 : Int} {b : Nat} {w1 w2 : World} (h : Held2 w s0 s1 s2 s3 d0 d1 d2 d3 b w1) (hb : Below w1.heap.size w1 w2) : Held2 w s0 s1 s2 s3 d0 d1 d2 d3 b w2 := by
  obtain ⟨h1, h2, h4, h6⟩ := h
  have := h6.size
  exact ⟨four_below h1 hb (by omega), four_below h2 hb (by omega), h4, h6.trans (hb.mono (by omega))⟩
theorem held2_drew {w : World} {s0 s1 s2 s3 d0 d1 d2 d3 : Int} {b : Nat} {w1 : World} (h : Held2 w s0 s1 s2 s3 d0 d1 d2 d3 b w1) : Held2 w s0 s1 s2 s3 d0 d1 d2 d3 b w1.drew :=
  held2_below h (Below.refl _ _).drew

/-- What a round of the twelve needs. -/
theorem rounds (s0 s1 s2 s3 d0 d1 d2 d3 : Int) (hS : PixOk [s0, s1, s2, s3]) (hD : PixOk [d0, d1, d2, d3]) (k : Nat) (hk : k < 12) : ∃ T r0 r1 r2 r3 : Int,
    (∀ w, (Instr.index 27 (.agg #[.int .i64 0, .int .i64 2, .int .i64 1, .int .i64 4, .int .i64 3, .int .i64 6, .int .i64 5, .int .i64 8, .int .i64 7, .int .i64 10, .int .i64 9, .int .i64 11]) (.int .i64 (k : Int))).run Try.prog w = .ok (.int .i64 T) w) ∧
    (∀ w, Calls Try.prog 14 #[.int .i64 (k : Int), V4 s0 s1 s2 s3, V4 d0 d1 d2 d3] w fun e w' => e = .returned (V4 r0 r1 r2 r3) ∧ Below w.heap.size w w') ∧
    (∀ w, Calls Try.prog 14 #[.int .i64 T, V4 d0 d1 d2 d3, V4 s0 s1 s2 s3] w fun e w' => e = .returned (V4 r0 r1 r2 r3) ∧ Below w.heap.size w w') :=
  ⟨turnL[k]'hk, _, _, _, _, fun w => run_index_arr (P := Try.prog) 27 3 12 Try.underlying27 Try.underlying3 (by kernel_rfl) turnL rfl k hk w,
    fun w => way4 k s0 s1 s2 s3 d0 d1 d2 d3 _ _ _ _ hS hD rfl rfl rfl rfl w,
    fun w => way4 (turnL[k]'hk) d0 d1 d2 d3 s0 s1 s2 s3 _ _ _ _ hD hS (swapped k hk s3 d3 s0 d0) (swapped k hk s3 d3 s1 d1) (swapped k hk s3 d3 s2 d2) (swapped k hk s3 d3 s3 d3) w⟩

theorem last255 (a b c : Int) (w : World) : (Instr.index 22 (V4 a b c 255) (.int .i64 3)).run Try.prog w = .ok (.int .i64 255) w :=
  run_index_arr (P := Try.prog) 22 3 4 Try.underlying22 Try.underlying3 (by kernel_rfl) [a, b, c, 255] rfl 3 (by simp) w

set_option maxHeartbeats 4000000 in
theorem yes (s0 s1 s2 s3 d0 d1 d2 d3 : Int) (w : World) (hS : PixOk [s0, s1, s2, s3]) (hD : PixOk [d0, d1, d2, d3]) :
    Calls Try.prog 4 #[V4 s0 s1 s2 s3, V4 d0 d1 d2 d3] w fun e w' => e = .returned (.bool true) ∧ Below w.heap.size w w' := by
  have x0 := (hS 0 (by simp)).1
  have x1 := (hS 1 (by simp)).1
  have x2 := (hS 2 (by simp)).1
  have x3 := (hS 3 (by simp)).1
  have y0 := (hD 0 (by simp)).1
  have y1 := (hD 1 (by simp)).1
  have y2 := (hD 2 (by simp)).1
  have y3 := (hD 3 (by simp)).1
  simp only [List.getElem_cons_zero, List.getElem_cons_succ] at x0 x1 x2 x3 y0 y1 y2 y3
  have m : ∀ a : Int, Byte a → min 255 a = a := by intro a h; unfold Byte at h; omega
  have z0 : min (255 : Int) 0 = 0 := rfl
  have A1 := Lib.hid (way4 3 0 0 0 0 d0 d1 d2 d3 d0 d1 d2 d3 ok0 hD (by simp [facZ, wayZ, mul0', mul0, mul255, *]) (by simp [facZ, wayZ, mul0', mul0, mul255, *]) (by simp [facZ, wayZ, mul0', mul0, mul255, *]) (by simp [facZ, wayZ, mul0', mul0, mul255, *]))
  have A2 := Lib.hid (way4 3 s0 s1 s2 s3 0 0 0 0 s0 s1 s2 s3 hS ok0 (by simp [facZ, wayZ, mul0', mul0, mul255, *]) (by simp [facZ, wayZ, mul0', mul0, mul255, *]) (by simp [facZ, wayZ, mul0', mul0, mul255, *]) (by simp [facZ, wayZ, mul0', mul0, mul255, *]))
  have A3 := Lib.hid (way4 4 s0 s1 s2 s3 0 0 0 0 s0 s1 s2 s3 hS ok0 (by simp [facZ, wayZ, mul0', mul0, mul255, *]) (by simp [facZ, wayZ, mul0', mul0, mul255, *]) (by simp [facZ, wayZ, mul0', mul0, mul255, *]) (by simp [facZ, wayZ, mul0', mul0, mul255, *]))
  have A4 := Lib.hid (way4 5 s0 s1 s2 s3 0 0 0 0 0 0 0 0 hS ok0 (by simp [facZ, wayZ, mul0', mul0, *]) (by simp [facZ, wayZ, mul0', mul0, *]) (by simp [facZ, wayZ, mul0', mul0, *]) (by simp [facZ, wayZ, mul0', mul0, *]))
  have A5 := Lib.hid (way4 7 s0 s1 s2 s3 0 0 0 0 s0 s1 s2 s3 hS ok0 (by simp [facZ, wayZ, mul0', mul0, mul255, *]) (by simp [facZ, wayZ, mul0', mul0, mul255, *]) (by simp [facZ, wayZ, mul0', mul0, mul255, *]) (by simp [facZ, wayZ, mul0', mul0, mul255, *]))
  have A6 := Lib.hid (way4 0 s0 s1 s2 s3 d0 d1 d2 d3 0 0 0 0 hS hD (by simp [facZ, wayZ, mul0', mul0, *]) (by simp [facZ, wayZ, mul0', mul0, *]) (by simp [facZ, wayZ, mul0', mul0, *]) (by simp [facZ, wayZ, mul0', mul0, *]))
  have A7 := Lib.hid (way4 1 s0 s1 s2 s3 d0 d1 d2 d3 s0 s1 s2 s3 hS hD (by simp [facZ, wayZ, mul0, mul255, *]) (by simp [facZ, wayZ, mul0, mul255, *]) (by simp [facZ, wayZ, mul0, mul255, *]) (by simp [facZ, wayZ, mul0, mul255, *]))
  have A8 := Lib.hid (way4 2 s0 s1 s2 s3 d0 d1 d2 d3 d0 d1 d2 d3 hS hD (by simp [facZ, wayZ, mul0, mul255, *]) (by simp [facZ, wayZ, mul0, mul255, *]) (by simp [facZ, wayZ, mul0, mul255, *]) (by simp [facZ, wayZ, mul0, mul255, *]))
  have hD' : PixOk [d0, d1, d2, 255] := by
    intro i hi
    have : i = 0 ∨ i = 1 ∨ i = 2 ∨ i = 3 := by simp at hi; omega
    rcases this with rfl | rfl | rfl | rfl
    · exact ⟨y0, y0.2⟩
    · exact ⟨y1, y1.2⟩
    · exact ⟨y2, y2.2⟩
    · exact ⟨by unfold Byte; simp, by simp⟩
  have hfull : min 255 (mulZ s3 255 + mulZ 255 (255 - s3)) = 255 := by
    rw [mul255 x3, mul255' (by unfold Byte at *; omega)]; omega
  obtain ⟨p0, p1, p2, a9⟩ : ∃ p0 p1 p2 : Int, ∀ w, Calls Try.prog 14 #[.int .i64 3, V4 s0 s1 s2 s3, V4 d0 d1 d2 255] w fun e w' => e = .returned (V4 p0 p1 p2 255) ∧ Below w.heap.size w w' :=
    ⟨_, _, _, way4 3 s0 s1 s2 s3 d0 d1 d2 255 _ _ _ 255 hS hD' rfl rfl rfl (by simp only [facZ, wayZ]; exact hfull)⟩
  obtain ⟨q0, q1, q2, b9⟩ : ∃ q0 q1 q2 : Int, ∀ w, Calls Try.prog 14 #[.int .i64 9, V4 s0 s1 s2 s3, V4 d0 d1 d2 255] w fun e w' => e = .returned (V4 q0 q1 q2 255) ∧ Below w.heap.size w w' :=
    ⟨_, _, _, way4 9 s0 s1 s2 s3 d0 d1 d2 255 _ _ _ 255 hS hD' rfl rfl rfl (by simp only [facZ, wayZ]; exact hfull)⟩
  have A9 := Lib.hid a9
  have B9 := Lib.hid b9
  clear a9 b9
  have RK := Lib.hid (rounds s0 s1 s2 s3 d0 d1 d2 d3 hS hD)
  have C0 := Lib.hid (fun w => pixel_yes _ rfl hS w)
  have C3 := Lib.hid (fun w => pixel_yes _ rfl hD w)
  clear m z0 hfull hD' x0 x1 x2 x3 y0 y1 y2 y3 hS hD
  have eqS := run_eq_arr (P := Try.prog) 22 3 4 Try.underlying22 Try.underlying3 (by kernel_rfl) [s0, s1, s2, s3] [s0, s1, s2, s3] rfl rfl
  have eqD := run_eq_arr (P := Try.prog) 22 3 4 Try.underlying22 Try.underlying3 (by kernel_rfl) [d0, d1, d2, d3] [d0, d1, d2, d3] rfl rfl
  have eqN := run_eq_arr (P := Try.prog) 22 3 4 Try.underlying22 Try.underlying3 (by kernel_rfl) [0, 0, 0, 0] [0, 0, 0, 0] rfl rfl
  simp only [List.map_cons, List.map_nil, BEq.rfl] at eqS eqD eqN
  have hgd : Try.prog.eqGuardType Try.prog.depth 22 = false := by kernel_rfl
  go_enter Try.func4, Try.ntmps4
  go_wp2_with fail
  refine (anchor_any _).mono ?_
  rintro e w1 ⟨rfl, hb1⟩
  have f1 : Blk w1 w.heap.size 22 ([s0, s1, s2, s3].map intV) := ((Blk.new _ _ _ _ rfl _ rfl).alloc _).below hb1
  have f2 : Blk w1 (w.heap.size + 1) 22 ([d0, d1, d2, d3].map intV) := (Blk.new _ _ _ _ (by simp) _ rfl).below hb1
  have hbel : Below w.heap.size w w1 := (((Below.refl _ _).alloc (Nat.le_refl _) _).alloc (by simp) _).trans (hb1.mono (by simp; omega))
  clear hb1
  have F1 := Lib.hid f1
  have F2 := Lib.hid f2
  obtain ⟨a0, a1, a2, a3⟩ := f1.four
  obtain ⟨b0, b1, b2, b3⟩ := f2.four
  clear f1 f2
  go_wp2_with fail
  refine (C0.out _).mono ?_
  rintro e w2 ⟨rfl, hb2⟩
  clear a0 a1 a2 a3 b0 b1 b2 b3
  have f1 := F1.out.below hb2
  have f2 := F2.out.below hb2
  have hbel := hbel.trans (hb2.mono (by have := F1.out.lt; omega))
  clear hb2 F1 F2
  have F1 := Lib.hid f1
  have F2 := Lib.hid f2
  obtain ⟨a0, a1, a2, a3⟩ := f1.four
  obtain ⟨b0, b1, b2, b3⟩ := f2.four
  clear f1 f2
  go_wp2_with fail
  refine (C3.out _).mono ?_
  rintro e w3 ⟨rfl, hb3⟩
  clear a0 a1 a2 a3 b0 b1 b2 b3
  have f1 := F1.out.below hb3
  have f2 := F2.out.below hb3
  have hbel := hbel.trans (hb3.mono (by have := F1.out.lt; omega))
  clear hb3 F1 F2
  have F1 := Lib.hid f1
  have F2 := Lib.hid f2
  clear f1 f2
  go_wp2_with fail
  have G1 : Hid (Blk (w3.alloc (.cells #[.int .i64 0, .int .i64 0, .int .i64 0, .int .i64 0] 22)) w.heap.size 22 ([s0, s1, s2, s3].map intV)) := F1.out.alloc _
  have G2 : Hid (Blk (w3.alloc (.cells #[.int .i64 0, .int .i64 0, .int .i64 0, .int .i64 0] 22)) (w.heap.size + 1) 22 ([d0, d1, d2, d3].map intV)) := F2.out.alloc _
  have G3 : Hid (Blk (w3.alloc (.cells #[.int .i64 0, .int .i64 0, .int .i64 0, .int .i64 0] 22)) w3.heap.size 22 ([0, 0, 0, 0].map intV)) := Blk.new _ _ _ _ rfl _ rfl
  have hbel := hbel.alloc (by have := F1.out.lt; omega) (.cells #[.int .i64 0, .int .i64 0, .int .i64 0, .int .i64 0] 22)
  clear F1 F2
  generalize w3.alloc (.cells #[.int .i64 0, .int .i64 0, .int .i64 0, .int .i64 0] 22) = w5 at *
  generalize w3.heap.size = k at *
  have HB0 : Hid (∃ B, B = w.heap.size) := ⟨_, rfl⟩
  generalize hB : w.heap.size = B at *
  have HBB := Lib.hid hB
  have HBEL := Lib.hid hbel
  clear hB hbel HB0
  have hh : Held w5 s0 s1 s2 s3 d0 d1 d2 d3 B k w5 := ⟨G1.out.four, G2.out.four, G3.out.four, G2.out.lt, G3.out.lt, Below.refl _ _⟩
  go_region_held3 (fun w' => (w'.cell? ⟨B, 0, none⟩ = some (.int .i64 s0) ∧ w'.cell? ⟨B, 1, none⟩ = some (.int .i64 s1) ∧ w'.cell? ⟨B, 2, none⟩ = some (.int .i64 s2) ∧ w'.cell? ⟨B, 3, none⟩ = some (.int .i64 s3)) ∧
      (w'.cell? ⟨B + 1, 0, none⟩ = some (.int .i64 d0) ∧ w'.cell? ⟨B + 1, 1, none⟩ = some (.int .i64 d1) ∧ w'.cell? ⟨B + 1, 2, none⟩ = some (.int .i64 d2) ∧ w'.cell? ⟨B + 1, 3, none⟩ = some (.int .i64 d3)) ∧
      (w'.cell? ⟨k, 0, none⟩ = some (.int .i64 0) ∧ w'.cell? ⟨k, 1, none⟩ = some (.int .i64 0) ∧ w'.cell? ⟨k, 2, none⟩ = some (.int .i64 0) ∧ w'.cell? ⟨k, 3, none⟩ = some (.int .i64 0)) ∧
      B + 1 < w5.heap.size ∧ k < w5.heap.size ∧ Below w5.heap.size w5 w') ((first | exact held_drew hh | exact held_below (by assumption) hb6))
    ((go_at_call 14; (first | (with_reducible refine (A1.out _).mono ?_) | (with_reducible refine (A2.out _).mono ?_) | (with_reducible refine (A3.out _).mono ?_) | (with_reducible refine (A4.out _).mono ?_) | (with_reducible refine (A5.out _).mono ?_) | (with_reducible refine (A6.out _).mono ?_) | (with_reducible refine (A7.out _).mono ?_) | (with_reducible refine (A8.out _).mono ?_)); rintro e w6 ⟨rfl, hb6⟩))
  rename_i hHd
  have g1 := G1.out.below hHd.2.2.2.2.2
  have g2 := G2.out.below hHd.2.2.2.2.2
  have hbel : Below B w w6 := HBEL.out.trans (hHd.2.2.2.2.2.mono (by have := G2.out.lt; omega))
  have K1 := Lib.hid g1
  have K2 := Lib.hid g2
  have KB := Lib.hid hbel
  clear hHd g1 g2 hbel hb6 hh G1 G2 G3 A1 A2 A3 A4 A5 A6 A7 A8 eqN
  go_wp2_with fail
  go_loopg [6] 12 (fun m i wr => ∃ (k : Nat), k + m = 12 ∧ i = .int .i64 k ∧ Blk wr B 22 ([s0, s1, s2, s3].map intV) ∧ Blk wr (B + 1) 22 ([d0, d1, d2, d3].map intV) ∧ Below B w wr)
  case atStart => exact ⟨0, by omega, rfl, K1.out, K2.out, KB.out⟩
  case round =>
    clear K1 K2 KB
    obtain ⟨k, hk, rfl, g1, g2, hbel⟩ := hrel
    have K1 := Lib.hid g1
    have K2 := Lib.hid g2
    have KB := Lib.hid hbel
    clear g1 g2 hbel
    by_cases hlt : k < 12
    · obtain ⟨T, r0, r1, r2, r3, hI, ck, dk⟩ := RK.out k hlt
      have CK := Lib.hid ck
      have DK := Lib.hid dk
      clear ck dk
      have eqR := run_eq_arr (P := Try.prog) 22 3 4 Try.underlying22 Try.underlying3 (by kernel_rfl) [r0, r1, r2, r3] [r0, r1, r2, r3] rfl rfl
      simp only [List.map_cons, List.map_nil, BEq.rfl] at eqR
      have hh : Held2 wr s0 s1 s2 s3 d0 d1 d2 d3 B wr := ⟨K1.out.four, K2.out.four, K2.out.lt, Below.refl _ _⟩
      go_wp2_with fail
      go_region_held3 (fun w' => (w'.cell? ⟨B, 0, none⟩ = some (.int .i64 s0) ∧ w'.cell? ⟨B, 1, none⟩ = some (.int .i64 s1) ∧ w'.cell? ⟨B, 2, none⟩ = some (.int .i64 s2) ∧ w'.cell? ⟨B, 3, none⟩ = some (.int .i64 s3)) ∧
          (w'.cell? ⟨B + 1, 0, none⟩ = some (.int .i64 d0) ∧ w'.cell? ⟨B + 1, 1, none⟩ = some (.int .i64 d1) ∧ w'.cell? ⟨B + 1, 2, none⟩ = some (.int .i64 d2) ∧ w'.cell? ⟨B + 1, 3, none⟩ = some (.int .i64 d3)) ∧
          B + 1 < wr.heap.size ∧ Below wr.heap.size wr w') ((first | exact held2_drew hh | exact held2_below (by assumption) hb6))
        ((go_at_call 14; (first | (with_reducible refine (CK.out _).mono ?_) | (with_reducible refine (DK.out _).mono ?_)); rintro e w6 ⟨rfl, hb6⟩))
      all_goals
        rename_i hHd
        have g1 := K1.out.below hHd.2.2.2
        have g2 := K2.out.below hHd.2.2.2
        have hbel := KB.out.trans (hHd.2.2.2.mono (by have := K2.out.lt; omega))
        have J1 := Lib.hid g1
        have J2 := Lib.hid g2
        have JB := Lib.hid hbel
        clear hHd g1 g2 hbel hb6 hh K1 K2 KB
        go_wp2_with fail
        go_roundg (gk - 1)
        case measure => omega
        case rel => exact ⟨k + 1, by omega, by go_num, J1.out, J2.out, JB.out⟩
    · obtain rfl : k = 12 := by omega
      have z3 := K2.out.frozen 3
      have ix1 := last255 p0 p1 p2
      have ix2 := last255 q0 q1 q2
      obtain ⟨a0, a1, a2, a3⟩ := K1.out.four
      obtain ⟨b0, b1, b2, b3⟩ := K2.out.four
      go_wp2_with fail
      have g1 := K1.out.other (a := ⟨B + 1, 3, none⟩) (by show B ≠ B + 1; omega) (.int .i64 255)
      have g2 := K2.out.set 3 (.int .i64 255)
      have hbel := KB.out.setCell (p := ⟨B + 1, 3, none⟩) (by show _ ≤ _; simp) (.int .i64 255)
      simp only [List.map_cons, List.map_nil, List.set_cons_zero, List.set_cons_succ] at g2
      generalize wr.setCell ⟨B + 1, 3, none⟩ (.int .i64 255) = w8 at *
      have G1 := Lib.hid g1
      have G2 := Lib.hid g2
      have HB := Lib.hid hbel
      clear z3 a0 a1 a2 a3 b0 b1 b2 b3 g1 g2 hbel
      with_reducible refine (A9.out _).mono ?_
      rintro e w9 ⟨rfl, hb9⟩
      have hbel := HB.out.trans (hb9.mono (by have := G2.out.lt; omega))
      obtain ⟨a0, a1, a2, a3⟩ := Blk.four (G1.out.below hb9)
      obtain ⟨b0, b1, b2, b3⟩ := Blk.four (G2.out.below hb9)
      have hs9 : B + 1 < w9.heap.size := (G2.out.below hb9).lt
      have HB9 := Lib.hid hbel
      clear hb9 hbel
      go_wp2_with fail
      with_reducible refine (B9.out _).mono ?_
      rintro e w10 ⟨rfl, hb10⟩
      have hbel := HB9.out.trans (hb10.mono (by omega))
      have JB := Lib.hid hbel
      clear hbel hb10 a0 a1 a2 a3 b0 b1 b2 b3
      go_wp2_with fail
      go_ret
      exact ⟨rfl, by rw [HBB.out]; exact JB.out⟩

theorem no (s0 s1 s2 s3 d0 d1 d2 d3 : Int) (w : World) (wS : ∀ x ∈ [s0, s1, s2, s3], -9223372036854775808 ≤ x ∧ x ≤ 9223372036854775807) (wD : ∀ x ∈ [d0, d1, d2, d3], -9223372036854775808 ≤ x ∧ x ≤ 9223372036854775807)
    (h : ¬ PixOk [s0, s1, s2, s3] ∨ (PixOk [s0, s1, s2, s3] ∧ ¬ PixOk [d0, d1, d2, d3])) :
    Calls Try.prog 4 #[arrV [s0, s1, s2, s3], arrV [d0, d1, d2, d3]] w fun e w' => e = .returned (.bool true) ∧ Below w.heap.size w w' := by
  have H := Lib.hid h
  have WS := Lib.hid wS
  have WD := Lib.hid wD
  clear h wS wD
  go_enter Try.func4, Try.ntmps4
  go_wp2_with fail
  refine (anchor_any _).mono ?_
  rintro e w1 ⟨rfl, hb1⟩
  have f1 : Four w1 w.heap.size s0 s1 s2 s3 := four_below ((Blk.new _ _ _ _ rfl _ rfl).alloc _).four hb1 (by simp; omega)
  have f2 : Four w1 (w.heap.size + 1) d0 d1 d2 d3 := four_below (Blk.new _ _ _ _ (by simp) _ rfl).four hb1 (by simp)
  have hs1 : w.heap.size + 1 < w1.heap.size := by have := hb1.size; simp at this; omega
  have hbel : Below w.heap.size w w1 := (((Below.refl _ _).alloc (Nat.le_refl _) _).alloc (by simp) _).trans (hb1.mono (by simp; omega))
  clear hb1
  have F2 := Lib.hid f2
  obtain ⟨a0, a1, a2, a3⟩ := f1
  obtain ⟨b0, b1, b2, b3⟩ := f2
  go_wp2_with fail
  rcases H.out with h | ⟨h, h'⟩
  · refine (pixel_no [s0, s1, s2, s3] rfl WS.out h _).mono ?_
    rintro e w2 ⟨rfl, hb2⟩
    have hbel := hbel.trans (hb2.mono (by omega))
    clear h
    go_wp2_with fail
    go_ret
    exact ⟨rfl, hbel⟩
  · refine (pixel_yes [s0, s1, s2, s3] rfl h _).mono ?_
    rintro e w2 ⟨rfl, hb2⟩
    have H2 := Lib.hid h'
    clear a0 a1 a2 a3 b0 b1 b2 b3 h h'
    have f2 := four_below F2.out hb2 (by omega)
    have hs2 : w.heap.size + 1 < w2.heap.size := by have := hb2.size; omega
    have hbel := hbel.trans (hb2.mono (by omega))
    clear hb2 hs1 F2
    obtain ⟨b0, b1, b2, b3⟩ := f2
    go_wp2_with fail
    refine (pixel_no [d0, d1, d2, d3] rfl WD.out H2.out _).mono ?_
    rintro e w3 ⟨rfl, hb3⟩
    have hbel := hbel.trans (hb3.mono (by omega))
    go_wp2_with fail
    go_ret
    exact ⟨rfl, hbel⟩

theorem walk (S D : List Int) (w : World) (hS : S.length = 4) (wS : ∀ x ∈ S, -9223372036854775808 ≤ x ∧ x ≤ 9223372036854775807)
    (hD : D.length = 4) (wD : ∀ x ∈ D, -9223372036854775808 ≤ x ∧ x ≤ 9223372036854775807) :
    Calls Try.prog 4 #[arrV S, arrV D] w fun e w' => e = .returned (.bool true) ∧ Below w.heap.size w w' := by
  match S, hS, D, hD with
  | [s0, s1, s2, s3], _, [d0, d1, d2, d3], _ =>
    by_cases h1 : PixOk [s0, s1, s2, s3]
    · by_cases h2 : PixOk [d0, d1, d2, d3]
      · exact yes s0 s1 s2 s3 d0 d1 d2 d3 w h1 h2
      · exact no s0 s1 s2 s3 d0 d1 d2 d3 w wS wD (Or.inr ⟨h1, h2⟩)
    · exact no s0 s1 s2 s3 d0 d1 d2 d3 w wS wD (Or.inl h1)

/-! The step to the statement (written by program). -/
open Go.ChangeShapes Go.WideShapes Go.ChangeAt
set_option maxRecDepth 100000 in
theorem lifted (os : Os) (started : os.Started) (H : Type) (enc : TypeId × Value → H) :
    ReturnsInHanded {} Try.checked os 4 .any (Rows.pixOntoSpec.pre6 enc Try.prog Try.f4 Rows.pixOntoRow.domain false) (Rows.pixOntoSpec.post enc Try.prog Try.f4 false true false false) := by
  refine returnsInHanded_of_change (C := Try.checked) own started (by kernel_rfl) Try.func4
    (ChangeSpec.witness6 (enc := enc) (C := Try.checked) false ⟨#[], #[.agg #[.int .i64 0, .int .i64 0, .int .i64 0, .int .i64 0], .agg #[.int .i64 0, .int .i64 0, .int .i64 0, .int .i64 0]], []⟩ 8 (by kernel_rfl) (by kernel_rfl) (by kernel_rfl) (by kernel_rfl)) ?_
  intro W base args ds gs before hval0 hW hcnd _
  have hval : ∀ (j : Nat) t v, Try.f4.params[j]? = some t → args[j]? = some v → Value.okWide Try.prog W .any base t v := hval0
  have hW' := hW
  obtain ⟨p, q, hA0, hV, rfl, hfz, hnd⟩ := hW
  have hA : DataW.TrodAll enc Try.prog W 0 (fun _ => true) true Try.f4.params.toList args.toList ds p := hA0
  rw [Try.params4] at hA hval
  obtain ⟨v0, vs0, d0, ds0, p0, q0, hargs, rfl, rfl, h0, r0⟩ := trodAll_cons hA
  obtain ⟨v1, vs1, d1, ds1, p1, q1, rfl, rfl, rfl, h1, r1⟩ := trodAll_cons r0
  obtain ⟨rfl, rfl, rfl⟩ := trodAll_nil r1
  obtain rfl : args = #[v0, v1] := by cases args; simp_all
  obtain ⟨rfl, rfl⟩ := trodVars_none hV
  have k0 := h0
  have lt0 : ∀ x ∈ p0, x.block < W.heap.size := by obtain ⟨m, hm⟩ := k0; exact DataW.trod_lt m _ _ _ hm
  obtain ⟨l0, rfl, n0, b0⟩ := open_array Try.underlying22 Try.underlying3 (by kernel_rfl) (by kernel_rfl) (hval 0 22 v0 rfl rfl) k0
  have k1 := h1
  have lt1 : ∀ x ∈ p1, x.block < W.heap.size := by obtain ⟨m, hm⟩ := k1; exact DataW.trod_lt m _ _ _ hm
  obtain ⟨l1, rfl, n1, b1⟩ := open_array Try.underlying22 Try.underlying3 (by kernel_rfl) (by kernel_rfl) (hval 1 22 v1 rfl rfl) k1
  clear hA0 hval0
  refine (walk l0 l1 W n0 b0 n1 b1).mono fun e W' ⟨he, bel⟩ => ?_
  subst he
  exact ⟨_, rfl, _, _, _, [], _, [], hW', trodAll_mk1 (shut_bool Try.underlying4 _), (trodAll_cons_mk (Below.trod laidOut (by kernel_rfl) (of_decide_eq_true (by kernel_rfl)) k0 bel lt0) (trodAll_cons_mk (Below.trod laidOut (by kernel_rfl) (of_decide_eq_true (by kernel_rfl)) k1 bel lt1) trodAll_mk0)), rfl, bel.frame _, fun h => by cases h⟩

theorem over : Rows.pixOntoRow.holds Try.pinned (OpenSpec.ofChange Rows.pixOntoSpec) :=
  OpenClaim.holds_of_wide 4 Try.f4 rfl rfl rfl rfl rfl rfl rfl ⟨rfl, rfl, rfl, rfl, rfl⟩ rfl rfl rfl rfl rfl (by kernel_rfl) Try.func4 (by kernel_rfl)
    (of_decide_eq_true (by kernel_rfl)) (by unfold Func.isWrapper; first | (rw [if_pos (by decide +kernel)]; kernel_rfl) | (rw [if_neg (by decide +kernel)]; exact ⟨rfl, rfl⟩))
    (fun os started H enc _ => lifted os started H enc)

/-- The statement. -/
theorem proved : Rows.PixOntoSaid := over
#print axioms proved
end Go.Proofs.Ytagpaebmpgnjhaa.pixOnto
