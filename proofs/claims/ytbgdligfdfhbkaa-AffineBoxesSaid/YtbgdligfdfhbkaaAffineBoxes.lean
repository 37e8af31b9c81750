/-
  The statement AffineBoxes holds, whatever the map and the rectangle.
-/
import Derived.Test.YtbgdligfdfhbkaaA11
namespace Go.Proofs.Ytbgdligfdfhbkaa.affineBoxes
open Go.RowKit
def cS (a b c x y w h : Int) (k : Nat) : Int := a * (x + (k : Int) % 2 * w) + b * (y + (k : Int) / 2 * h) + c
theorem cS_eq (a b c x y w h : Int) : ∀ k, k < 4 → cS a b c x y w h k = cornZ a b c x y w h k
  | 0, _ => by show a * (x + 0 * w) + b * (y + 0 * h) + c = _; rw [Int.zero_mul, Int.zero_mul, Int.add_zero, Int.add_zero]; rfl
  | 1, _ => by show a * (x + 1 * w) + b * (y + 0 * h) + c = _; rw [Int.zero_mul, Int.one_mul, Int.add_zero]; rfl
  | 2, _ => by show a * (x + 0 * w) + b * (y + 1 * h) + c = _; rw [Int.zero_mul, Int.one_mul, Int.add_zero]; rfl
  | 3, _ => by show a * (x + 1 * w) + b * (y + 1 * h) + c = _; rw [Int.one_mul, Int.one_mul]; rfl
theorem ends {a b c x y w h s g : Int} (h1 : ∀ i, i < 4 → s ≤ cS a b c x y w h i) (h2 : ∃ i, i < 4 ∧ s = cS a b c x y w h i) (h3 : ∀ i, i < 4 → cS a b c x y w h i ≤ g) (h4 : ∃ i, i < 4 ∧ g = cS a b c x y w h i) :
    loZ a b c x y w h = s / 65536 ∧ hiZ a b c x y w h = -(-g / 65536) := by
  have e := cS_eq a b c x y w h
  have a0 := h1 0 (by omega); have a1 := h1 1 (by omega); have a2 := h1 2 (by omega); have a3 := h1 3 (by omega)
  have b0 := h3 0 (by omega); have b1 := h3 1 (by omega); have b2 := h3 2 (by omega); have b3 := h3 3 (by omega)
  rw [e 0 (by omega)] at a0 b0; rw [e 1 (by omega)] at a1 b1; rw [e 2 (by omega)] at a2 b2; rw [e 3 (by omega)] at a3 b3
  have hs : s = cornZ a b c x y w h 0 ∨ s = cornZ a b c x y w h 1 ∨ s = cornZ a b c x y w h 2 ∨ s = cornZ a b c x y w h 3 := by
    obtain ⟨i, hi, rfl⟩ := h2
    rw [e i hi]
    match i, hi with | 0, _ => exact .inl rfl | 1, _ => exact .inr (.inl rfl) | 2, _ => exact .inr (.inr (.inl rfl)) | 3, _ => exact .inr (.inr (.inr rfl))
  have hg : g = cornZ a b c x y w h 0 ∨ g = cornZ a b c x y w h 1 ∨ g = cornZ a b c x y w h 2 ∨ g = cornZ a b c x y w h 3 := by
    obtain ⟨i, hi, rfl⟩ := h4
    rw [e i hi]
    match i, hi with | 0, _ => exact .inl rfl | 1, _ => exact .inr (.inl rfl) | 2, _ => exact .inr (.inr (.inl rfl)) | 3, _ => exact .inr (.inr (.inr rfl))
  unfold loZ hiZ
  generalize cornZ a b c x y w h 0 = c0 at *
  generalize cornZ a b c x y w h 1 = c1 at *
  generalize cornZ a b c x y w h 2 = c2 at *
  generalize cornZ a b c x y w h 3 = c3 at *
  omega
set_option maxHeartbeats 16000000 in
set_option maxRecDepth 100000 in
theorem law {w0 : World} {B : Nat} {M : List Ent} (m : Nat → Int) (hm : Sm m) (x y w h : Int) :
    Fn Try.prog w0 B 10 [mapV m, .int .i64 x, .int .i64 y, .int .i64 w, .int .i64 h] M (fun u _ => u = .bool true) := by
  have hrt : ∀ E, Fn Try.prog w0 B 27 [.agg (tab 6 m).toArray] E (fun v H' => v = .bool (decide (Rt m)) ∧ H' = E) := fun E => rright_fn m hm
  have hbx : ∀ E, Fn Try.prog w0 B 28 [.agg (tab 6 m).toArray, .int .i64 x, .int .i64 y, .int .i64 w, .int .i64 h] E (fun r M' => ((BoxOk m x y w h ∧ r = .tuple #[.int .i64 (loZ (m 0) (m 1) (m 4) x y w h), .int .i64 (loZ (m 2) (m 3) (m 5) x y w h), .int .i64 (hiZ (m 0) (m 1) (m 4) x y w h - loZ (m 0) (m 1) (m 4) x y w h), .int .i64 (hiZ (m 2) (m 3) (m 5) x y w h - loZ (m 2) (m 3) (m 5) x y w h), .int .i64 0]) ∨
        (¬ BoxOk m x y w h ∧ r = .tuple #[.int .i64 0, .int .i64 0, .int .i64 0, .int .i64 0, .int .i64 31])) ∧ M' = E) := fun E => box_fn m hm x y w h
  refine fn_intro Try.func10 rfl (by kernel_rfl) rfl ?_
  unfold mapV
  repeat (first | refine go_ ?_ | refine bx_ (fun _ => ?_) | refine hl_callv rfl rfl (anchor_fn) ?_)
  rename_i g5
  have hbx2 : ∀ E, ∃ b1 b2 b3 b4 e : Int, Fn Try.prog w0 B 28 [.agg (tab 6 m).toArray, .int .i64 x, .int .i64 y, .int .i64 w, .int .i64 h] E (fun r M' => r = .tuple #[.int .i64 b1, .int .i64 b2, .int .i64 b3, .int .i64 b4, .int .i64 e] ∧ M' = E) ∧
      ((BoxOk m x y w h ∧ b1 = loZ (m 0) (m 1) (m 4) x y w h ∧ b2 = loZ (m 2) (m 3) (m 5) x y w h ∧ b3 = hiZ (m 0) (m 1) (m 4) x y w h - loZ (m 0) (m 1) (m 4) x y w h ∧ b4 = hiZ (m 2) (m 3) (m 5) x y w h - loZ (m 2) (m 3) (m 5) x y w h ∧ e = 0) ∨ (¬ BoxOk m x y w h ∧ b1 = 0 ∧ b2 = 0 ∧ b3 = 0 ∧ b4 = 0 ∧ e = 31)) := fun E => by
    by_cases hk : BoxOk m x y w h
    · refine ⟨_, _, _, _, _, (hbx E).mono fun r M' hr => ?_, .inl ⟨hk, rfl, rfl, rfl, rfl, rfl⟩⟩
      obtain ⟨⟨_, h1⟩ | ⟨h1, _⟩, h2⟩ := hr
      · exact ⟨h1, h2⟩
      · exact absurd hk h1
    · refine ⟨_, _, _, _, _, (hbx E).mono fun r M' hr => ?_, .inr ⟨hk, rfl, rfl, rfl, rfl, rfl⟩⟩
      obtain ⟨⟨h1, _⟩ | ⟨_, h1⟩, h2⟩ := hr
      · exact absurd h1 hk
      · exact ⟨h1, h2⟩
  obtain ⟨b1, b2, b3, b4, e, hb, hcase⟩ := hbx2 (⟨g5, 23, tab 6 m, 6⟩ :: M)
  refine hl_callv rfl rfl hb ?_
  iterate 13 (refine go1_ ?_)
  refine hc_meet (fun fr X => ∃ bb, Agr fr [(1, .int .i64 x), (2, .int .i64 y), (3, .int .i64 w), (4, .int .i64 h), (5, .pointer (some ⟨g5, 0, none⟩)), (11, .int .i64 b1), (12, .int .i64 b2), (13, .int .i64 b3), (14, .int .i64 b4), (15, .int .i64 e), (16, .bool bb)] ∧ X = ⟨g5, 23, tab 6 m, 6⟩ :: M ∧ ((bb = true ∧ Rt m ∧ 0 ≤ w ∧ 0 ≤ h) ∨ (bb = false ∧ ¬ BoxOk m x y w h))) ?_ ?_
  · by_cases hr : Rt m
    rotate_left
    · have hrt' : ∀ E, Fn Try.prog w0 B 27 [.agg (tab 6 m).toArray] E (fun v H' => v = .bool false ∧ H' = E) := fun E => by have := hrt E; rw [decide_eq_false hr] at this; exact this
      repeat (first | refine go_ ?_ | refine bx_ (fun _ => ?_) | refine hl_callv rfl rfl (hrt' _) ?_)
      exact ⟨_, ⟨rfl, rfl, rfl, rfl, rfl, rfl, rfl, rfl, rfl, rfl, rfl, trivial⟩, rfl, .inr ⟨rfl, fun hk => hr hk.1⟩⟩
    have hrt' : ∀ E, Fn Try.prog w0 B 27 [.agg (tab 6 m).toArray] E (fun v H' => v = .bool true ∧ H' = E) := fun E => by have := hrt E; rw [decide_eq_true hr] at this; exact this
    by_cases hw : 0 ≤ w
    rotate_left
    · repeat (first | refine go_ ?_ | refine bx_ (fun _ => ?_) | refine hl_callv rfl rfl (hrt' _) ?_)
      exact ⟨_, ⟨rfl, rfl, rfl, rfl, rfl, rfl, rfl, rfl, rfl, rfl, rfl, trivial⟩, rfl, .inr ⟨rfl, fun hk => hw hk.2.2.1⟩⟩
    by_cases hh : 0 ≤ h
    rotate_left
    · repeat (first | refine go_ ?_ | refine bx_ (fun _ => ?_) | refine hl_callv rfl rfl (hrt' _) ?_)
      exact ⟨_, ⟨rfl, rfl, rfl, rfl, rfl, rfl, rfl, rfl, rfl, rfl, rfl, trivial⟩, rfl, .inr ⟨rfl, fun hk => hh hk.2.2.2⟩⟩
    · repeat (first | refine go_ ?_ | refine bx_ (fun _ => ?_) | refine hl_callv rfl rfl (hrt' _) ?_)
      exact ⟨_, ⟨rfl, rfl, rfl, rfl, rfl, rfl, rfl, rfl, rfl, rfl, rfl, trivial⟩, rfl, .inl ⟨rfl, hr, hw, hh⟩⟩
  rintro fr X ⟨b0, hf, rfl, hb0⟩
  obtain ⟨base, rfl⟩ := hf.out
  clear hf hrt hbx hbx2 hb
  have hg := v4_get x y w h
  have hin := v4_in x y w h
  generalize v4 x y w h = v at *
  repeat (first | refine go_ ?_ | refine bx_ (fun _ => ?_))
  refine hc_loop (fun z fr X => ∃ (k : Nat) (bb : Bool), k + z = 4 ∧ ((bb = true ∧ Rt m ∧ 0 ≤ w ∧ 0 ≤ h ∧ ∀ i, i < k → -32768 ≤ v i ∧ v i ≤ 32768) ∨ (bb = false ∧ ¬ BoxOk m x y w h)) ∧
    Agr fr [(1, .int .i64 x), (2, .int .i64 y), (3, .int .i64 w), (4, .int .i64 h), (5, .pointer (some ⟨g5, 0, none⟩)), (11, .int .i64 b1), (12, .int .i64 b2), (13, .int .i64 b3), (14, .int .i64 b4), (15, .int .i64 e), (16, .bool bb), (54, .agg [.int .i64 x, .int .i64 y, .int .i64 w, .int .i64 h].toArray), (55, .int .i64 (k : Int))] ∧ X = ⟨g5, 23, tab 6 m, 6⟩ :: M) 4 ?_ ?_
  · refine ⟨0, b0, by omega, ?_, ⟨rfl, rfl, rfl, rfl, rfl, rfl, rfl, rfl, rfl, rfl, rfl, rfl, rfl, trivial⟩, rfl⟩
    rcases hb0 with ⟨h1, h2, h3, h4⟩ | h1
    · exact .inl ⟨h1, h2, h3, h4, fun i hi => by omega⟩
    · exact .inr h1
  clear base hb0
  rintro z fr X ⟨k, bb, hk, he, hf, rfl⟩
  obtain ⟨base, rfl⟩ := hf.out
  clear hf
  by_cases hk4 : k < 4
  · have hgk := hg k hk4
    rcases he with ⟨rfl, h2⟩ | ⟨rfl, h2⟩
    · by_cases c1 : -32768 ≤ v k
      rotate_left
      · repeat (first | refine go_ ?_ | refine bx_ (fun _ => ?_))
        exact ⟨z - 1, by omega, k + 1, false, by omega, .inr ⟨rfl, fun hh => by have := hin.2 hh.2.1 k hk4; omega⟩, ⟨rfl, rfl, rfl, rfl, rfl, rfl, rfl, rfl, rfl, rfl, rfl, rfl, rfl, trivial⟩, rfl⟩
      by_cases c2 : v k ≤ 32768
      rotate_left
      · repeat (first | refine go_ ?_ | refine bx_ (fun _ => ?_))
        exact ⟨z - 1, by omega, k + 1, false, by omega, .inr ⟨rfl, fun hh => by have := hin.2 hh.2.1 k hk4; omega⟩, ⟨rfl, rfl, rfl, rfl, rfl, rfl, rfl, rfl, rfl, rfl, rfl, rfl, rfl, trivial⟩, rfl⟩
      · repeat (first | refine go_ ?_ | refine bx_ (fun _ => ?_))
        refine ⟨z - 1, by omega, k + 1, true, by omega, .inl ⟨rfl, h2.1, h2.2.1, h2.2.2.1, fun i hi => ?_⟩, ⟨rfl, rfl, rfl, rfl, rfl, rfl, rfl, rfl, rfl, rfl, rfl, rfl, rfl, trivial⟩, rfl⟩
        by_cases hik : i = k
        · subst hik; omega
        · exact h2.2.2.2 i (by omega)
    · repeat (first | refine go_ ?_ | refine bx_ (fun _ => ?_))
      exact ⟨z - 1, by omega, k + 1, false, by omega, .inr ⟨rfl, h2⟩, ⟨rfl, rfl, rfl, rfl, rfl, rfl, rfl, rfl, rfl, rfl, rfl, rfl, rfl, trivial⟩, rfl⟩
  rcases he with ⟨rfl, h2⟩ | ⟨rfl, h2⟩
  rotate_left
  · rcases hcase with ⟨h1, _⟩ | ⟨_, rfl, rfl, rfl, rfl, rfl⟩
    · exact absurd h1 h2
    repeat (first | refine go_ ?_ | refine bx_ (fun _ => ?_))
    exact fin1B rfl rfl rfl
  have h4' : In4 x y w h := hin.1 fun i hi => h2.2.2.2 i (by omega)
  have hok : BoxOk m x y w h := ⟨h2.1, h4', h2.2.1, h2.2.2.1⟩
  rcases hcase with ⟨_, rfl, rfl, rfl, rfl, rfl⟩ | ⟨h1, _⟩
  rotate_left
  · exact absurd hok h1
  repeat (first | refine go_ ?_ | refine bx_ (fun _ => ?_))
  refine hc_rounds 3 ?_
  repeat (first | refine go_ ?_ | refine bx_ (fun _ => ?_))
  obtain ⟨r1, r2⟩ := id h2.1
  obtain ⟨i1, i2, i3, i4⟩ := id h4'
  have hw0 := h2.2.1
  have hh0 := h2.2.2.1
  clear hg hin h2
  refine hc_loop (fun z fr X => ∃ (k : Nat) (s g : Int), k + z = 4 ∧ (0 < k → (∀ i, i < k → s ≤ cS (m 0) (m 1) (m 4) x y w h i) ∧ (∃ i, i < k ∧ s = cS (m 0) (m 1) (m 4) x y w h i) ∧ (∀ i, i < k → cS (m 0) (m 1) (m 4) x y w h i ≤ g) ∧ ∃ i, i < k ∧ g = cS (m 0) (m 1) (m 4) x y w h i) ∧
    Agr fr [(1, .int .i64 x), (2, .int .i64 y), (3, .int .i64 w), (4, .int .i64 h), (5, .pointer (some ⟨g5, 0, none⟩)), (11, .int .i64 (loZ (m 0) (m 1) (m 4) x y w h)), (12, .int .i64 (loZ (m 2) (m 3) (m 5) x y w h)), (13, .int .i64 (hiZ (m 0) (m 1) (m 4) x y w h - loZ (m 0) (m 1) (m 4) x y w h)), (14, .int .i64 (hiZ (m 2) (m 3) (m 5) x y w h - loZ (m 2) (m 3) (m 5) x y w h)), (15, .int .i64 0), (19, .int .i64 0), (20, .int .i64 (loZ (m 0) (m 1) (m 4) x y w h)), (21, .int .i64 (hiZ (m 0) (m 1) (m 4) x y w h - loZ (m 0) (m 1) (m 4) x y w h)), (22, .int .i64 s), (23, .int .i64 g), (24, .int .i64 (k : Int))] ∧ X = ⟨g5, 23, tab 6 m, 6⟩ :: M) 4 ?_ ?_
  · exact ⟨0, 0, 0, by omega, fun h => absurd h (by omega), ⟨rfl, rfl, rfl, rfl, rfl, rfl, rfl, rfl, rfl, rfl, rfl, rfl, rfl, rfl, rfl, rfl, trivial⟩, rfl⟩
  clear base
  rintro z fr X ⟨k, s, g, hk, he, hf, rfl⟩
  obtain ⟨base, rfl⟩ := hf.out
  clear hf
  by_cases hk4 : k < 4
  · have k1 : 0 ≤ (k : Int) % 2 ∧ (k : Int) % 2 ≤ 1 := by omega
    have k2 : 0 ≤ (k : Int) / 2 ∧ (k : Int) / 2 ≤ 1 := by omega
    have q1 := mul_bd (a := (k : Int) % 2) (b := w) (M := 1) (N := 32768) (by omega) (by omega)
    have q2 := mul_bd (a := (k : Int) / 2) (b := h) (M := 1) (N := 32768) (by omega) (by omega)
    have q3 := mul_bd (a := m 0) (b := x + (k : Int) % 2 * w) (M := 16777216) (N := 65536) (by have := r1 0 (by omega); omega) (by omega)
    have q4 := mul_bd (a := m 1) (b := y + (k : Int) / 2 * h) (M := 16777216) (N := 65536) (by have := r1 1 (by omega); omega) (by omega)
    have q5 := r2 4 (by omega) (by omega)
    obtain ⟨cv, hcv⟩ : ∃ cv, cv = m 0 * (x + (k : Int) % 2 * w) + m 1 * (y + (k : Int) / 2 * h) + m 4 := ⟨_, rfl⟩
    have hcv' : cS (m 0) (m 1) (m 4) x y w h k = cv := hcv.symm
    by_cases k0 : k = 0
    · subst k0
      repeat (first | refine go_ ?_ | refine bx_ (fun _ => ?_))
      refine hc_draw (by kernel_rfl) (by kernel_rfl) ?_
      repeat (first | rw [← hcv] | refine gd1_ ?_)
      repeat (first | rw [← hcv] | refine go1_ ?_ | refine bx_ (fun _ => ?_))
      refine ⟨z - 1, by omega, 1, cv, cv, by omega, fun _ => ⟨fun i hi => ?_, ⟨0, by omega, hcv'.symm⟩, fun i hi => ?_, ⟨0, by omega, hcv'.symm⟩⟩, ⟨rfl, rfl, rfl, rfl, rfl, rfl, rfl, rfl, rfl, rfl, rfl, rfl, rfl, rfl, rfl, rfl, trivial⟩, rfl⟩
      · obtain rfl : i = 0 := by omega
        omega
      · obtain rfl : i = 0 := by omega
        omega
    obtain ⟨e1, ⟨p, hp, hps⟩, e3, u, hu, hug⟩ := he (by omega)
    have hsg : s ≤ g := by have := e3 p hp; omega
    have ext1 : ∀ i, i < k + 1 → i = k ∨ i < k := fun i hi => by omega
    by_cases c1 : cv < s
    · repeat (first | refine go_ ?_ | refine bx_ (fun _ => ?_))
      refine hc_draw (by kernel_rfl) (by kernel_rfl) ?_
      repeat (first | rw [← hcv] | refine gd1_ ?_)
      repeat (first | rw [← hcv] | refine go1_ ?_ | refine bx_ (fun _ => ?_))
      refine ⟨z - 1, by omega, k + 1, cv, g, by omega, fun _ => ⟨fun i hi => ?_, ⟨k, by omega, hcv'.symm⟩, fun i hi => ?_, ⟨u, by omega, hug⟩⟩, ⟨rfl, rfl, rfl, rfl, rfl, rfl, rfl, rfl, rfl, rfl, rfl, rfl, rfl, rfl, rfl, rfl, trivial⟩, rfl⟩
      · rcases ext1 i hi with rfl | h
        · omega
        · have := e1 i h; omega
      · rcases ext1 i hi with rfl | h
        · omega
        · exact e3 i h
    by_cases c2 : g < cv
    · repeat (first | refine go_ ?_ | refine bx_ (fun _ => ?_))
      refine hc_draw (by kernel_rfl) (by kernel_rfl) ?_
      repeat (first | rw [← hcv] | refine gd1_ ?_)
      repeat (first | rw [← hcv] | refine go1_ ?_ | refine bx_ (fun _ => ?_))
      refine ⟨z - 1, by omega, k + 1, s, cv, by omega, fun _ => ⟨fun i hi => ?_, ⟨p, by omega, hps⟩, fun i hi => ?_, ⟨k, by omega, hcv'.symm⟩⟩, ⟨rfl, rfl, rfl, rfl, rfl, rfl, rfl, rfl, rfl, rfl, rfl, rfl, rfl, rfl, rfl, rfl, trivial⟩, rfl⟩
      · rcases ext1 i hi with rfl | h
        · omega
        · exact e1 i h
      · rcases ext1 i hi with rfl | h
        · omega
        · have := e3 i h; omega
    · repeat (first | refine go_ ?_ | refine bx_ (fun _ => ?_))
      refine hc_draw (by kernel_rfl) (by kernel_rfl) ?_
      repeat (first | rw [← hcv] | refine gd1_ ?_)
      repeat (first | rw [← hcv] | refine go1_ ?_ | refine bx_ (fun _ => ?_))
      refine ⟨z - 1, by omega, k + 1, s, g, by omega, fun _ => ⟨fun i hi => ?_, ⟨p, by omega, hps⟩, fun i hi => ?_, ⟨u, by omega, hug⟩⟩, ⟨rfl, rfl, rfl, rfl, rfl, rfl, rfl, rfl, rfl, rfl, rfl, rfl, rfl, rfl, rfl, rfl, trivial⟩, rfl⟩
      · rcases ext1 i hi with rfl | h
        · omega
        · exact e1 i h
      · rcases ext1 i hi with rfl | h
        · omega
        · exact e3 i h
  obtain rfl : k = 4 := by omega
  obtain ⟨e1, e2, e3, e4⟩ := he (by omega)
  obtain ⟨el, eh⟩ := ends e1 e2 e3 e4
  have hbs : ∀ i, i < 4 → -4398046511104 ≤ cS (m 0) (m 1) (m 4) x y w h i ∧ cS (m 0) (m 1) (m 4) x y w h i ≤ 4398046511104 := fun i hi => by
    have q1 := mul_bd (a := (i : Int) % 2) (b := w) (M := 1) (N := 32768) (by omega) (by omega)
    have q2 := mul_bd (a := (i : Int) / 2) (b := h) (M := 1) (N := 32768) (by omega) (by omega)
    have q3 := mul_bd (a := m 0) (b := x + (i : Int) % 2 * w) (M := 16777216) (N := 65536) (by have := r1 0 (by omega); omega) (by omega)
    have q4 := mul_bd (a := m 1) (b := y + (i : Int) / 2 * h) (M := 16777216) (N := 65536) (by have := r1 1 (by omega); omega) (by omega)
    have q5 := r2 4 (by omega) (by omega)
    unfold cS
    omega
  have hs : -4398046511104 ≤ s ∧ s ≤ 4398046511104 := by obtain ⟨i, hi, rfl⟩ := e2; exact hbs i hi
  have hgb : -4398046511104 ≤ g ∧ g ≤ 4398046511104 := by obtain ⟨i, hi, rfl⟩ := e4; exact hbs i hi
  clear e1 e2 e3 e4 hbs he hk
  repeat (first | refine go_ ?_ | refine bx_ (fun _ => ?_) | refine hl_callv rfl rfl (down_fn _ _ (by unfold Big; omega) (by omega)) ?_)
  refine hc_loop (fun z fr X => ∃ (k : Nat) (s g : Int), k + z = 4 ∧ (0 < k → (∀ i, i < k → s ≤ cS (m 2) (m 3) (m 5) x y w h i) ∧ (∃ i, i < k ∧ s = cS (m 2) (m 3) (m 5) x y w h i) ∧ (∀ i, i < k → cS (m 2) (m 3) (m 5) x y w h i ≤ g) ∧ ∃ i, i < k ∧ g = cS (m 2) (m 3) (m 5) x y w h i) ∧
    Agr fr [(1, .int .i64 x), (2, .int .i64 y), (3, .int .i64 w), (4, .int .i64 h), (5, .pointer (some ⟨g5, 0, none⟩)), (11, .int .i64 (loZ (m 0) (m 1) (m 4) x y w h)), (12, .int .i64 (loZ (m 2) (m 3) (m 5) x y w h)), (13, .int .i64 (hiZ (m 0) (m 1) (m 4) x y w h - loZ (m 0) (m 1) (m 4) x y w h)), (14, .int .i64 (hiZ (m 2) (m 3) (m 5) x y w h - loZ (m 2) (m 3) (m 5) x y w h)), (15, .int .i64 0), (19, .int .i64 1), (20, .int .i64 (loZ (m 2) (m 3) (m 5) x y w h)), (21, .int .i64 (hiZ (m 2) (m 3) (m 5) x y w h - loZ (m 2) (m 3) (m 5) x y w h)), (22, .int .i64 s), (23, .int .i64 g), (24, .int .i64 (k : Int))] ∧ X = ⟨g5, 23, tab 6 m, 6⟩ :: M) 4 ?_ ?_
  · exact ⟨0, 0, 0, by omega, fun h => absurd h (by omega), ⟨rfl, rfl, rfl, rfl, rfl, rfl, rfl, rfl, rfl, rfl, rfl, rfl, rfl, rfl, rfl, rfl, trivial⟩, rfl⟩
  clear base
  rintro z fr X ⟨k, s, g, hk, he, hf, rfl⟩
  obtain ⟨base, rfl⟩ := hf.out
  clear hf
  by_cases hk4 : k < 4
  · have k1 : 0 ≤ (k : Int) % 2 ∧ (k : Int) % 2 ≤ 1 := by omega
    have k2 : 0 ≤ (k : Int) / 2 ∧ (k : Int) / 2 ≤ 1 := by omega
    have q1 := mul_bd (a := (k : Int) % 2) (b := w) (M := 1) (N := 32768) (by omega) (by omega)
    have q2 := mul_bd (a := (k : Int) / 2) (b := h) (M := 1) (N := 32768) (by omega) (by omega)
    have q3 := mul_bd (a := m 2) (b := x + (k : Int) % 2 * w) (M := 16777216) (N := 65536) (by have := r1 2 (by omega); omega) (by omega)
    have q4 := mul_bd (a := m 3) (b := y + (k : Int) / 2 * h) (M := 16777216) (N := 65536) (by have := r1 3 (by omega); omega) (by omega)
    have q5 := r2 5 (by omega) (by omega)
    obtain ⟨cv, hcv⟩ : ∃ cv, cv = m 2 * (x + (k : Int) % 2 * w) + m 3 * (y + (k : Int) / 2 * h) + m 5 := ⟨_, rfl⟩
    have hcv' : cS (m 2) (m 3) (m 5) x y w h k = cv := hcv.symm
    by_cases k0 : k = 0
    · subst k0
      repeat (first | refine go_ ?_ | refine bx_ (fun _ => ?_))
      refine hc_draw (by kernel_rfl) (by kernel_rfl) ?_
      repeat (first | rw [← hcv] | refine gd1_ ?_)
      repeat (first | rw [← hcv] | refine go1_ ?_ | refine bx_ (fun _ => ?_))
      refine ⟨z - 1, by omega, 1, cv, cv, by omega, fun _ => ⟨fun i hi => ?_, ⟨0, by omega, hcv'.symm⟩, fun i hi => ?_, ⟨0, by omega, hcv'.symm⟩⟩, ⟨rfl, rfl, rfl, rfl, rfl, rfl, rfl, rfl, rfl, rfl, rfl, rfl, rfl, rfl, rfl, rfl, trivial⟩, rfl⟩
      · obtain rfl : i = 0 := by omega
        omega
      · obtain rfl : i = 0 := by omega
        omega
    obtain ⟨e1, ⟨p, hp, hps⟩, e3, u, hu, hug⟩ := he (by omega)
    have hsg : s ≤ g := by have := e3 p hp; omega
    have ext1 : ∀ i, i < k + 1 → i = k ∨ i < k := fun i hi => by omega
    by_cases c1 : cv < s
    · repeat (first | refine go_ ?_ | refine bx_ (fun _ => ?_))
      refine hc_draw (by kernel_rfl) (by kernel_rfl) ?_
      repeat (first | rw [← hcv] | refine gd1_ ?_)
      repeat (first | rw [← hcv] | refine go1_ ?_ | refine bx_ (fun _ => ?_))
      refine ⟨z - 1, by omega, k + 1, cv, g, by omega, fun _ => ⟨fun i hi => ?_, ⟨k, by omega, hcv'.symm⟩, fun i hi => ?_, ⟨u, by omega, hug⟩⟩, ⟨rfl, rfl, rfl, rfl, rfl, rfl, rfl, rfl, rfl, rfl, rfl, rfl, rfl, rfl, rfl, rfl, trivial⟩, rfl⟩
      · rcases ext1 i hi with rfl | h
        · omega
        · have := e1 i h; omega
      · rcases ext1 i hi with rfl | h
        · omega
        · exact e3 i h
    by_cases c2 : g < cv
    · repeat (first | refine go_ ?_ | refine bx_ (fun _ => ?_))
      refine hc_draw (by kernel_rfl) (by kernel_rfl) ?_
      repeat (first | rw [← hcv] | refine gd1_ ?_)
      repeat (first | rw [← hcv] | refine go1_ ?_ | refine bx_ (fun _ => ?_))
      refine ⟨z - 1, by omega, k + 1, s, cv, by omega, fun _ => ⟨fun i hi => ?_, ⟨p, by omega, hps⟩, fun i hi => ?_, ⟨k, by omega, hcv'.symm⟩⟩, ⟨rfl, rfl, rfl, rfl, rfl, rfl, rfl, rfl, rfl, rfl, rfl, rfl, rfl, rfl, rfl, rfl, trivial⟩, rfl⟩
      · rcases ext1 i hi with rfl | h
        · omega
        · exact e1 i h
      · rcases ext1 i hi with rfl | h
        · omega
        · have := e3 i h; omega
    · repeat (first | refine go_ ?_ | refine bx_ (fun _ => ?_))
      refine hc_draw (by kernel_rfl) (by kernel_rfl) ?_
      repeat (first | rw [← hcv] | refine gd1_ ?_)
      repeat (first | rw [← hcv] | refine go1_ ?_ | refine bx_ (fun _ => ?_))
      refine ⟨z - 1, by omega, k + 1, s, g, by omega, fun _ => ⟨fun i hi => ?_, ⟨p, by omega, hps⟩, fun i hi => ?_, ⟨u, by omega, hug⟩⟩, ⟨rfl, rfl, rfl, rfl, rfl, rfl, rfl, rfl, rfl, rfl, rfl, rfl, rfl, rfl, rfl, rfl, trivial⟩, rfl⟩
      · rcases ext1 i hi with rfl | h
        · omega
        · exact e1 i h
      · rcases ext1 i hi with rfl | h
        · omega
        · exact e3 i h
  obtain rfl : k = 4 := by omega
  obtain ⟨e1, e2, e3, e4⟩ := he (by omega)
  obtain ⟨el, eh⟩ := ends e1 e2 e3 e4
  have hbs : ∀ i, i < 4 → -4398046511104 ≤ cS (m 2) (m 3) (m 5) x y w h i ∧ cS (m 2) (m 3) (m 5) x y w h i ≤ 4398046511104 := fun i hi => by
    have q1 := mul_bd (a := (i : Int) % 2) (b := w) (M := 1) (N := 32768) (by omega) (by omega)
    have q2 := mul_bd (a := (i : Int) / 2) (b := h) (M := 1) (N := 32768) (by omega) (by omega)
    have q3 := mul_bd (a := m 2) (b := x + (i : Int) % 2 * w) (M := 16777216) (N := 65536) (by have := r1 2 (by omega); omega) (by omega)
    have q4 := mul_bd (a := m 3) (b := y + (i : Int) / 2 * h) (M := 16777216) (N := 65536) (by have := r1 3 (by omega); omega) (by omega)
    have q5 := r2 5 (by omega) (by omega)
    unfold cS
    omega
  have hs : -4398046511104 ≤ s ∧ s ≤ 4398046511104 := by obtain ⟨i, hi, rfl⟩ := e2; exact hbs i hi
  have hgb : -4398046511104 ≤ g ∧ g ≤ 4398046511104 := by obtain ⟨i, hi, rfl⟩ := e4; exact hbs i hi
  clear e1 e2 e3 e4 hbs he hk
  repeat (first | refine go_ ?_ | refine bx_ (fun _ => ?_) | refine hl_callv rfl rfl (down_fn _ _ (by unfold Big; omega) (by omega)) ?_)
  exact fin1B rfl rfl rfl
theorem walk (lm : List Int) (x y w h : Int) (wd : World) (hlm : lm.length = 6) (hbm : ∀ x ∈ lm, -9223372036854775808 ≤ x ∧ x ≤ 9223372036854775807) (_ : -9223372036854775808 ≤ x ∧ x ≤ 9223372036854775807) (_ : -9223372036854775808 ≤ y ∧ y ≤ 9223372036854775807)
    (_ : -9223372036854775808 ≤ w ∧ w ≤ 9223372036854775807) (_ : -9223372036854775808 ≤ h ∧ h ≤ 9223372036854775807) :
    Calls Try.prog 10 #[arrV lm, .int .i64 x, .int .i64 y, .int .i64 w, .int .i64 h] wd fun e w' => e = .returned (.bool true) ∧ Below wd.heap.size wd w' := by
  rw [map_of hlm]
  exact calls_of_fn (law _ (sm_of hlm hbm) x y w h) fun _ _ h => h

/-! The step to the statement (written by program). -/
open Go.ChangeShapes Go.WideShapes Go.ChangeAt
set_option maxRecDepth 100000 in
theorem lifted (os : Os) (started : os.Started) (H : Type) (enc : TypeId × Value → H) :
    ReturnsInHanded {} Try.checked os 10 .any (Rows.affineBoxesSpec.pre6 enc Try.prog Try.f10 Rows.affineBoxesRow.domain false) (Rows.affineBoxesSpec.post enc Try.prog Try.f10 false true false false) := by
  refine returnsInHanded_of_change (C := Try.checked) own started (by kernel_rfl) Try.func10
    (ChangeSpec.witness6 (enc := enc) (C := Try.checked) false ⟨#[], #[.agg #[.int .i64 0, .int .i64 0, .int .i64 0, .int .i64 0, .int .i64 0, .int .i64 0], .int .i64 0, .int .i64 0, .int .i64 0, .int .i64 0], []⟩ 8 (by kernel_rfl) (by kernel_rfl) (by kernel_rfl) (by kernel_rfl)) ?_
  intro W base args ds gs before hval0 hW hcnd _
  have hval : ∀ (j : Nat) t v, Try.f10.params[j]? = some t → args[j]? = some v → Value.okWide Try.prog W .any base t v := hval0
  have hW' := hW
  obtain ⟨p, q, hA0, hV, rfl, hfz, hnd⟩ := hW
  have hA : DataW.TrodAll enc Try.prog W 0 (fun _ => true) true Try.f10.params.toList args.toList ds p := hA0
  rw [Try.params10] at hA hval
  obtain ⟨v0, vs0, d0, ds0, p0, q0, hargs, rfl, rfl, h0, r0⟩ := trodAll_cons hA
  obtain ⟨v1, vs1, d1, ds1, p1, q1, rfl, rfl, rfl, h1, r1⟩ := trodAll_cons r0
  obtain ⟨v2, vs2, d2, ds2, p2, q2, rfl, rfl, rfl, h2, r2⟩ := trodAll_cons r1
  obtain ⟨v3, vs3, d3, ds3, p3, q3, rfl, rfl, rfl, h3, r3⟩ := trodAll_cons r2
  obtain ⟨v4, vs4, d4, ds4, p4, q4, rfl, rfl, rfl, h4, r4⟩ := trodAll_cons r3
  obtain ⟨rfl, rfl, rfl⟩ := trodAll_nil r4
  obtain rfl : args = #[v0, v1, v2, v3, v4] := by cases args; simp_all
  obtain ⟨rfl, rfl⟩ := trodVars_none hV
  have k0 := h0
  have lt0 : ∀ x ∈ p0, x.block < W.heap.size := by obtain ⟨m, hm⟩ := k0; exact DataW.trod_lt m _ _ _ hm
  obtain ⟨l0, rfl, n0, b0⟩ := open_array Try.underlying23 Try.underlying3 (by kernel_rfl) (by kernel_rfl) (hval 0 23 v0 rfl rfl) k0
  have k1 := h1
  have lt1 : ∀ x ∈ p1, x.block < W.heap.size := by obtain ⟨m, hm⟩ := k1; exact DataW.trod_lt m _ _ _ hm
  obtain ⟨a1, rfl, _, _, w1⟩ := open_int Try.underlying3 (hval 1 3 v1 rfl rfl) h1
  have w1 := wf_i64 w1
  have k2 := h2
  have lt2 : ∀ x ∈ p2, x.block < W.heap.size := by obtain ⟨m, hm⟩ := k2; exact DataW.trod_lt m _ _ _ hm
  obtain ⟨a2, rfl, _, _, w2⟩ := open_int Try.underlying3 (hval 2 3 v2 rfl rfl) h2
  have w2 := wf_i64 w2
  have k3 := h3
  have lt3 : ∀ x ∈ p3, x.block < W.heap.size := by obtain ⟨m, hm⟩ := k3; exact DataW.trod_lt m _ _ _ hm
  obtain ⟨a3, rfl, _, _, w3⟩ := open_int Try.underlying3 (hval 3 3 v3 rfl rfl) h3
  have w3 := wf_i64 w3
  have k4 := h4
  have lt4 : ∀ x ∈ p4, x.block < W.heap.size := by obtain ⟨m, hm⟩ := k4; exact DataW.trod_lt m _ _ _ hm
  obtain ⟨a4, rfl, _, _, w4⟩ := open_int Try.underlying3 (hval 4 3 v4 rfl rfl) h4
  have w4 := wf_i64 w4
  clear hA0 hval0
  refine (walk l0 a1 a2 a3 a4 W n0 b0 w1 w2 w3 w4).mono fun e W' ⟨he, bel⟩ => ?_
  subst he
  exact ⟨_, rfl, _, _, _, [], _, [], hW', trodAll_mk1 (shut_bool Try.underlying4 _), (trodAll_cons_mk (Below.trod laidOut (by kernel_rfl) (of_decide_eq_true (by kernel_rfl)) k0 bel lt0) (trodAll_cons_mk (Below.trod laidOut (by kernel_rfl) (of_decide_eq_true (by kernel_rfl)) k1 bel lt1) (trodAll_cons_mk (Below.trod laidOut (by kernel_rfl) (of_decide_eq_true (by kernel_rfl)) k2 bel lt2) (trodAll_cons_mk (Below.trod laidOut (by kernel_rfl) (of_decide_eq_true (by kernel_rfl)) k3 bel lt3) (trodAll_cons_mk (Below.trod laidOut (by kernel_rfl) (of_decide_eq_true (by kernel_rfl)) k4 bel lt4) trodAll_mk0))))), rfl, bel.frame _, fun h => by cases h⟩

theorem over : Rows.affineBoxesRow.holds Try.pinned (OpenSpec.ofChange Rows.affineBoxesSpec) :=
  OpenClaim.holds_of_wide 10 Try.f10 rfl rfl rfl rfl rfl rfl rfl ⟨rfl, rfl, rfl, rfl, rfl⟩ rfl rfl rfl rfl rfl (by kernel_rfl) Try.func10 (by kernel_rfl)
    (of_decide_eq_true (by kernel_rfl)) (by unfold Func.isWrapper; first | (rw [if_pos (by decide +kernel)]; kernel_rfl) | (rw [if_neg (by decide +kernel)]; exact ⟨rfl, rfl⟩))
    (fun os started H enc _ => lifted os started H enc)

/-- The statement. -/
theorem proved : Rows.AffineBoxesSaid := over
#print axioms proved
end Go.Proofs.Ytbgdligfdfhbkaa.affineBoxes
