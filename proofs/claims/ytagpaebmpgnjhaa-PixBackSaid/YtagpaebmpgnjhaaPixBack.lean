/-
  The statement PixBack holds, whatever the four numbers.
-/
import Derived.Test.YtagpaebmpgnjhaaPixMul3
import Derived.Test.YtagpaebmpgnjhaaOpenArr
import Derived.Deep.RegionHeld3
namespace Go.Proofs.Ytagpaebmpgnjhaa.pixBack
open Go.RowKit

theorem back {c a : Int} (hc : 0 ≤ c) (hca : c ≤ a) (ha : a ≤ 255) : mulZ (bareZ c a) a = c := by
  unfold bareZ
  split
  · rename_i h; subst h; obtain rfl : c = 0 := by omega
    rfl
  · rename_i h
    obtain ⟨q, hq⟩ : ∃ q, q = (255 * c + a / 2) / a := ⟨_, rfl⟩
    rw [← hq]
    have h1 : a * q ≤ 255 * c + a / 2 := by rw [hq]; exact Int.mul_ediv_self_le (by omega)
    have h2 : 255 * c + a / 2 < a * q + a := by rw [hq]; exact Int.lt_mul_ediv_self_add (by omega)
    have h3 : q ≤ 255 := by
      rcases Int.lt_or_le 255 q with h | h
      · have h4 : a * 256 ≤ a * q := Int.mul_le_mul_of_nonneg_left (by omega) (by omega)
        omega
      · exact h
    rw [show min 255 q = q by omega]
    unfold mulZ
    rw [Int.mul_comm q a]
    omega

/-- What holds of the world in the drawn region. -/
abbrev Held (w : World) (p0 p1 p2 p3 m0 m1 m2 : Int) (b g : Nat) (w' : World) : Prop :=
  (w'.cell? ⟨b, 0, none⟩ = some (.int .i64 p0) ∧ w'.cell? ⟨b, 1, none⟩ = some (.int .i64 p1) ∧ w'.cell? ⟨b, 2, none⟩ = some (.int .i64 p2) ∧ w'.cell? ⟨b, 3, none⟩ = some (.int .i64 p3)) ∧
  (w'.cell? ⟨g, 0, none⟩ = some (.int .i64 m0) ∧ w'.cell? ⟨g, 1, none⟩ = some (.int .i64 m1) ∧ w'.cell? ⟨g, 2, none⟩ = some (.int .i64 m2) ∧ w'.cell? ⟨g, 3, none⟩ = some (.int .i64 p3)) ∧
  b < g ∧ g < w'.heap.size ∧ Below b w w'
theorem four_below {w w' : World} {g : Nat} {a b c d : Int} (h : Four w g a b c d) (hb : Below w.heap.size w w') (hg : g < w.heap.size) : Four w' g a b c d := by
  obtain ⟨h0, h1, h2, h3⟩ := h
  exact ⟨by rw [bcell hb _ _ hg]; exact h0, by rw [bcell hb _ _ hg]; exact h1, by rw [bcell hb _ _ hg]; exact h2, by rw [bcell hb _ _ hg]; exact h3⟩
theorem held_below {w : World} {p0 p1 p2 p3 m0 m1 m2 : Int} {b g : Nat} {w1 w2 : World} (h : Held w p0 p1 p2 p3 m0 m1 m2 b g w1) (hb : Below w1.heap.size w1 w2) : Held w p0 p1 p2 p3 m0 m1 m2 b g w2 := by
  obtain ⟨h1, h2, h4, h5, h6⟩ := h
  exact ⟨four_below h1 hb (by omega), four_below h2 hb (by omega), h4, by have := hb.size; omega, h6.trans (hb.mono (by omega))⟩
theorem held_drew {w : World} {p0 p1 p2 p3 m0 m1 m2 : Int} {b g : Nat} {w1 : World} (h : Held w p0 p1 p2 p3 m0 m1 m2 b g w1) : Held w p0 p1 p2 p3 m0 m1 m2 b g w1.drew :=
  held_below h (Below.refl _ _).drew

set_option maxHeartbeats 4000000 in
theorem yes (p0 p1 p2 p3 : Int) (w : World) (hP : PixOk [p0, p1, p2, p3]) :
    Calls Try.prog 7 #[arrV [p0, p1, p2, p3]] w fun e w' => e = .returned (.bool true) ∧ Below w.heap.size w w' := by
  have bP : ∀ x ∈ [p0, p1, p2, p3], Byte x := fun x hx => by obtain ⟨i, hi, rfl⟩ := List.getElem_of_mem hx; exact (hP i hi).1
  have k0 : 0 ≤ p0 ∧ p0 ≤ p3 := ⟨(hP 0 (by simp)).1.1, (hP 0 (by simp)).2⟩
  have k1 : 0 ≤ p1 ∧ p1 ≤ p3 := ⟨(hP 1 (by simp)).1.1, (hP 1 (by simp)).2⟩
  have k2 : 0 ≤ p2 ∧ p2 ≤ p3 := ⟨(hP 2 (by simp)).1.1, (hP 2 (by simp)).2⟩
  have k3 : 0 ≤ p3 ∧ p3 ≤ 255 := (hP 3 (by simp)).1
  have bU : ∀ x ∈ [bareZ p0 p3, bareZ p1 p3, bareZ p2 p3, p3], Byte x := by
    simp only [List.mem_cons, List.not_mem_nil, or_false, forall_eq_or_imp, forall_eq]
    exact ⟨bareZ_bd k0.1 k3.1, bareZ_bd k1.1 k3.1, bareZ_bd k2.1 k3.1, k3⟩
  have c1 := fun w => unmul_any [p0, p1, p2, p3] rfl bP w
  have c2 := fun w => mult_any [bareZ p0 p3, bareZ p1 p3, bareZ p2 p3, p3] rfl bU w
  have e2 : mapK (fun x => mulZ x ([bareZ p0 p3, bareZ p1 p3, bareZ p2 p3, p3] : List Int)[3]) [bareZ p0 p3, bareZ p1 p3, bareZ p2 p3, p3] 3 = [p0, p1, p2, p3] := by
    show [mulZ (bareZ p0 p3) p3, mulZ (bareZ p1 p3) p3, mulZ (bareZ p2 p3) p3, p3] = _
    rw [back k0.1 k0.2 k3.2, back k1.1 k1.2 k3.2, back k2.1 k2.2 k3.2]
  simp only [e2] at c2
  have e1 : mapK (fun x => bareZ x ([p0, p1, p2, p3] : List Int)[3]) [p0, p1, p2, p3] 3 = [bareZ p0 p3, bareZ p1 p3, bareZ p2 p3, p3] := rfl
  simp only [e1] at c1
  have hu : ∀ k (hk : k < 3), ([bareZ p0 p3, bareZ p1 p3, bareZ p2 p3, p3] : List Int)[k]'(by simp; omega) = bareZ (([p0, p1, p2, p3] : List Int)[k]'(by simp; omega)) p3 := by
    intro k hk
    have : k = 0 ∨ k = 1 ∨ k = 2 := by omega
    rcases this with rfl | rfl | rfl <;> rfl
  have hpb : ∀ k (hk : k < 3), Byte (([p0, p1, p2, p3] : List Int)[k]'(by simp; omega)) := fun k hk => bP _ (List.getElem_mem _)
  have HUK := Lib.hid hu
  have HPB := Lib.hid hpb
  clear e1 e2 bU bP k0 k1 k2 hu hpb
  have C0 := Lib.hid (fun w => pixel_yes _ rfl hP w)
  have C1 := Lib.hid c1
  have C2 := Lib.hid c2
  clear c1 c2 hP
  have heq := run_eq_arr (P := Try.prog) 22 3 4 Try.underlying22 Try.underlying3 (by kernel_rfl) [p0, p1, p2, p3] [p0, p1, p2, p3] rfl rfl
  simp only [List.map_cons, List.map_nil, BEq.rfl] at heq
  have hgd : Try.prog.eqGuardType Try.prog.depth 22 = false := by kernel_rfl
  generalize bareZ p0 p3 = m0 at *
  generalize bareZ p1 p3 = m1 at *
  generalize bareZ p2 p3 = m2 at *
  go_enter Try.func7, Try.ntmps7
  go_wp2_with fail
  refine (anchor_any _).mono ?_
  rintro e w1 ⟨rfl, hb1⟩
  have f1 : Blk w1 w.heap.size 22 ([p0, p1, p2, p3].map intV) := (Blk.new _ _ _ _ rfl _ rfl).below hb1
  have hs1 : w.heap.size < w1.heap.size := f1.lt
  have hbel : Below w.heap.size w w1 := ((Below.refl _ _).alloc (Nat.le_refl _) _).trans (hb1.mono (by simp))
  clear hb1
  have F1 := Lib.hid f1
  obtain ⟨a0, a1, a2, a3⟩ := f1.four
  clear f1
  go_wp2_with fail
  refine (C0.out _).mono ?_
  rintro e w2 ⟨rfl, hb2⟩
  clear a0 a1 a2 a3
  have f1 := F1.out.below hb2
  have hs2 : w.heap.size < w2.heap.size := f1.lt
  have hbel := hbel.trans (hb2.mono (by omega))
  clear hb2 hs1 F1
  have F1 := Lib.hid f1
  obtain ⟨a0, a1, a2, a3⟩ := f1.four
  clear f1
  go_wp2_with fail
  refine (C1.out _).mono ?_
  rintro e w3 ⟨rfl, hb3⟩
  clear a0 a1 a2 a3
  have f1 := F1.out.below hb3
  have hs3 : w.heap.size < w3.heap.size := f1.lt
  have hbel := hbel.trans (hb3.mono (by omega))
  clear hb3 hs2 F1
  have F1 := Lib.hid f1
  clear f1
  go_wp2_with fail
  have g1 : Blk (w3.alloc (.cells #[.int .i64 m0, .int .i64 m1, .int .i64 m2, .int .i64 p3] 22)) w.heap.size 22 ([p0, p1, p2, p3].map intV) := F1.out.alloc _
  have g2 : Blk (w3.alloc (.cells #[.int .i64 m0, .int .i64 m1, .int .i64 m2, .int .i64 p3] 22)) w3.heap.size 22 ([m0, m1, m2, p3].map intV) := Blk.new _ _ _ _ rfl _ rfl
  have hbel := hbel.alloc (by omega) (.cells #[.int .i64 m0, .int .i64 m1, .int .i64 m2, .int .i64 p3] 22)
  have hs5 := g2.lt
  generalize w3.alloc (.cells #[.int .i64 m0, .int .i64 m1, .int .i64 m2, .int .i64 p3] 22) = w5 at *
  generalize w3.heap.size = g at *
  have G1 := Lib.hid g1
  have G2 := Lib.hid g2
  clear g1 g2 F1
  go_loopg [4] 3 (fun m i wr => ∃ (k : Nat), k + m = 3 ∧ i = .int .i64 k ∧ Blk wr w.heap.size 22 ([p0, p1, p2, p3].map intV) ∧ Blk wr g 22 ([m0, m1, m2, p3].map intV) ∧ g < wr.heap.size ∧ Below w.heap.size w wr)
  case atStart => exact ⟨0, by omega, rfl, G1.out, G2.out, hs5, hbel⟩
  case round =>
    clear hs5 hbel G1 G2
    obtain ⟨k, hk, rfl, g1, g2, hsz, hbel⟩ := hrel
    have G1 := Lib.hid g1
    have G2 := Lib.hid g2
    clear g1 g2
    by_cases hlt : k < 3
    · have cA := G1.out.cell k (by simp; omega)
      have cB := G2.out.cell k (by simp; omega)
      have c3 := G1.out.four.2.2.2
      have hbx := HPB.out k hlt
      have huk := HUK.out k hlt
      simp only [List.getElem_map] at cA cB
      rw [huk] at cB
      clear huk
      generalize ([p0, p1, p2, p3] : List Int)[k]'(by simp; omega) = x at *
      have ca := refBare_still x p3 hbx.1 (by have := hbx.2; omega) k3.1 (by have := k3.2; omega)
      have CA := Lib.hid ca
      clear ca
      generalize bareZ x p3 = y at *
      have hne : (y != y) = false := by simp
      have hk4 : (k : Int) < 4 := by omega
      go_wp2_with fail
      refine wp_region_still_lit (by kernel_rfl) (by kernel_rfl) ?_
      repeat still_step
      still_call (CA.out _)
      repeat still_step
      refine wpStill_nil ?_
      go_wp2_with fail
      go_roundg (gk - 1)
      case measure => omega
      case rel => exact ⟨k + 1, by omega, by go_num, G1.out.drew, G2.out.drew, hsz, hbel.drew⟩
    · have hh : Held w p0 p1 p2 p3 m0 m1 m2 w.heap.size g wr := ⟨G1.out.four, G2.out.four, by omega, hsz, hbel⟩
      generalize hB : w.heap.size = B at *
      have HBB := Lib.hid hB
      clear hsz hbel hB
      go_wp2_with fail
      go_region_held3 (fun w' => (w'.cell? ⟨B, 0, none⟩ = some (.int .i64 p0) ∧ w'.cell? ⟨B, 1, none⟩ = some (.int .i64 p1) ∧ w'.cell? ⟨B, 2, none⟩ = some (.int .i64 p2) ∧ w'.cell? ⟨B, 3, none⟩ = some (.int .i64 p3)) ∧
          (w'.cell? ⟨g, 0, none⟩ = some (.int .i64 m0) ∧ w'.cell? ⟨g, 1, none⟩ = some (.int .i64 m1) ∧ w'.cell? ⟨g, 2, none⟩ = some (.int .i64 m2) ∧ w'.cell? ⟨g, 3, none⟩ = some (.int .i64 p3)) ∧
          B < g ∧ g < w'.heap.size ∧ Below B w w') ((first | exact held_drew hh | exact held_below (held_drew hh) hb6))
        (first | (go_at_call 24; refine (C2.out _).mono ?_; rintro e w6 ⟨rfl, hb6⟩))
      go_wp2
      go_ret
      exact ⟨rfl, by rw [HBB.out]; exact (held_below (held_drew hh) hb6).2.2.2.2⟩

theorem walk (P : List Int) (w : World) (hP : P.length = 4) (wP : ∀ x ∈ P, -9223372036854775808 ≤ x ∧ x ≤ 9223372036854775807) :
    Calls Try.prog 7 #[arrV P] w fun e w' => e = .returned (.bool true) ∧ Below w.heap.size w w' := by
  match P, hP with
  | [p0, p1, p2, p3], _ =>
    by_cases h : PixOk [p0, p1, p2, p3]
    · exact yes p0 p1 p2 p3 w h
    · have H := Lib.hid h
      have WP := Lib.hid wP
      clear h wP
      go_enter Try.func7, Try.ntmps7
      go_wp2_with fail
      refine (anchor_any _).mono ?_
      rintro e w1 ⟨rfl, hb1⟩
      have f1 : Blk w1 w.heap.size 22 ([p0, p1, p2, p3].map intV) := (Blk.new _ _ _ _ rfl _ rfl).below hb1
      have hs1 : w.heap.size < w1.heap.size := f1.lt
      have hbel : Below w.heap.size w w1 := ((Below.refl _ _).alloc (Nat.le_refl _) _).trans (hb1.mono (by simp))
      obtain ⟨a0, a1, a2, a3⟩ := f1.four
      clear f1 hb1
      go_wp2_with fail
      refine (pixel_no [p0, p1, p2, p3] rfl WP.out H.out _).mono ?_
      rintro e w2 ⟨rfl, hb2⟩
      have hbel := hbel.trans (hb2.mono (by omega))
      go_wp2_with fail
      go_ret
      exact ⟨rfl, hbel⟩

/-! The step to the statement (written by program). -/
open Go.ChangeShapes Go.WideShapes Go.ChangeAt
set_option maxRecDepth 100000 in
theorem lifted (os : Os) (started : os.Started) (H : Type) (enc : TypeId × Value → H) :
    ReturnsInHanded {} Try.checked os 7 .any (Rows.pixBackSpec.pre6 enc Try.prog Try.f7 Rows.pixBackRow.domain false) (Rows.pixBackSpec.post enc Try.prog Try.f7 false true false false) := by
  refine returnsInHanded_of_change (C := Try.checked) own started (by kernel_rfl) Try.func7
    (ChangeSpec.witness6 (enc := enc) (C := Try.checked) false ⟨#[], #[.agg #[.int .i64 0, .int .i64 0, .int .i64 0, .int .i64 0]], []⟩ 8 (by kernel_rfl) (by kernel_rfl) (by kernel_rfl) (by kernel_rfl)) ?_
  intro W base args ds gs before hval0 hW hcnd _
  have hval : ∀ (j : Nat) t v, Try.f7.params[j]? = some t → args[j]? = some v → Value.okWide Try.prog W .any base t v := hval0
  have hW' := hW
  obtain ⟨p, q, hA0, hV, rfl, hfz, hnd⟩ := hW
  have hA : DataW.TrodAll enc Try.prog W 0 (fun _ => true) true Try.f7.params.toList args.toList ds p := hA0
  rw [Try.params7] at hA hval
  obtain ⟨v0, vs0, d0, ds0, p0, q0, hargs, rfl, rfl, h0, r0⟩ := trodAll_cons hA
  obtain ⟨rfl, rfl, rfl⟩ := trodAll_nil r0
  obtain rfl : args = #[v0] := by cases args; simp_all
  obtain ⟨rfl, rfl⟩ := trodVars_none hV
  have k0 := h0
  have lt0 : ∀ x ∈ p0, x.block < W.heap.size := by obtain ⟨m, hm⟩ := k0; exact DataW.trod_lt m _ _ _ hm
  obtain ⟨l0, rfl, n0, b0⟩ := open_array Try.underlying22 Try.underlying3 (by kernel_rfl) (by kernel_rfl) (hval 0 22 v0 rfl rfl) k0
  clear hA0 hval0
  refine (walk l0 W n0 b0).mono fun e W' ⟨he, bel⟩ => ?_
  subst he
  exact ⟨_, rfl, _, _, _, [], _, [], hW', trodAll_mk1 (shut_bool Try.underlying4 _), (trodAll_cons_mk (Below.trod laidOut (by kernel_rfl) (of_decide_eq_true (by kernel_rfl)) k0 bel lt0) trodAll_mk0), rfl, bel.frame _, fun h => by cases h⟩

theorem over : Rows.pixBackRow.holds Try.pinned (OpenSpec.ofChange Rows.pixBackSpec) :=
  OpenClaim.holds_of_wide 7 Try.f7 rfl rfl rfl rfl rfl rfl rfl ⟨rfl, rfl, rfl, rfl, rfl⟩ rfl rfl rfl rfl rfl (by kernel_rfl) Try.func7 (by kernel_rfl)
    (of_decide_eq_true (by kernel_rfl)) (by unfold Func.isWrapper; first | (rw [if_pos (by decide +kernel)]; kernel_rfl) | (rw [if_neg (by decide +kernel)]; exact ⟨rfl, rfl⟩))
    (fun os started H enc _ => lifted os started H enc)

/-- The statement. -/
theorem proved : Rows.PixBackSaid := over
#print axioms proved
end Go.Proofs.Ytagpaebmpgnjhaa.pixBack
