/-
  The box of a rectangle. No condition.
-/
import Derived.Test.YtbgdligfdfhbkaaA10
import Derived.Test.YtbgdligfdfhbkaaHf
namespace Go.Proofs.Ytbgdligfdfhbkaa
open Go.RowKit

def cornZ (a b c x y w h : Int) (k : Nat) : Int := match k with
  | 0 => a * x + b * y + c
  | 1 => a * (x + w) + b * y + c
  | 2 => a * x + b * (y + h) + c
  | _ => a * (x + w) + b * (y + h) + c
def loZ (a b c x y w h : Int) : Int := (min (min (min (cornZ a b c x y w h 0) (cornZ a b c x y w h 1)) (cornZ a b c x y w h 2)) (cornZ a b c x y w h 3)) / 2 ^ 16
def hiZ (a b c x y w h : Int) : Int := (max (max (max (cornZ a b c x y w h 0) (cornZ a b c x y w h 1)) (cornZ a b c x y w h 2)) (cornZ a b c x y w h 3) + 65536 - 1) / 2 ^ 16
section
variable {w0 : World} {B : Nat} {M : List Ent}
set_option maxHeartbeats 8000000 in
theorem side_fn (a b c x y w h : Int) (ha : -16777216 ≤ a ∧ a ≤ 16777216) (hb : -16777216 ≤ b ∧ b ≤ 16777216) (hc : -68719476736 ≤ c ∧ c ≤ 68719476736) (hx : -32768 ≤ x ∧ x ≤ 32768) (hy : -32768 ≤ y ∧ y ≤ 32768) (hw : 0 ≤ w ∧ w ≤ 32768) (hh : 0 ≤ h ∧ h ≤ 32768) (gx gy gw gh : Nat) :
    Fn Try.prog w0 B 39 ([.int .i64 a, .int .i64 b, .int .i64 c] ++ [.pointer (some ⟨gx, 0, none⟩), .pointer (some ⟨gy, 0, none⟩), .pointer (some ⟨gw, 0, none⟩), .pointer (some ⟨gh, 0, none⟩)])
      (⟨gh, 3, [.int .i64 h], 1⟩ :: ⟨gw, 3, [.int .i64 w], 1⟩ :: ⟨gy, 3, [.int .i64 y], 1⟩ :: ⟨gx, 3, [.int .i64 x], 1⟩ :: M)
      (fun r M' => r = .tuple #[.int .i64 (loZ a b c x y w h), .int .i64 (hiZ a b c x y w h - loZ a b c x y w h)] ∧ M' = ⟨gh, 3, [.int .i64 h], 1⟩ :: ⟨gw, 3, [.int .i64 w], 1⟩ :: ⟨gy, 3, [.int .i64 y], 1⟩ :: ⟨gx, 3, [.int .i64 x], 1⟩ :: M) := by
  have p1 := mul_bd (a := a) (b := x) (M := 16777216) (N := 65536) (by omega) (by omega)
  have p2 := mul_bd (a := b) (b := y) (M := 16777216) (N := 65536) (by omega) (by omega)
  have p3 := mul_bd (a := a) (b := x + w) (M := 16777216) (N := 65536) (by omega) (by omega)
  have p4 := mul_bd (a := b) (b := y + h) (M := 16777216) (N := 65536) (by omega) (by omega)
  refine fn_intro Try.func39 rfl (by kernel_rfl) rfl ?_
  repeat (first | refine go_ ?_ | refine bx_ (fun _ => ?_))
  refine hc_draw (by kernel_rfl) (by kernel_rfl) ?_
  repeat (first | refine gd_ ?_ | refine hl_min4 rfl rfl rfl rfl rfl ?_ | refine hl_max4 rfl rfl rfl rfl rfl ?_)
  repeat (first | refine go_ ?_ | refine bx_ (fun _ => ?_))
  exact fin2II rfl rfl rfl ⟨rfl, rfl⟩
def In4 (x y w h : Int) : Prop := (-32768 ≤ x ∧ x ≤ 32768) ∧ (-32768 ≤ y ∧ y ≤ 32768) ∧ (-32768 ≤ w ∧ w ≤ 32768) ∧ (-32768 ≤ h ∧ h ≤ 32768)
def BoxOk (m : Nat → Int) (x y w h : Int) : Prop := Rt m ∧ In4 x y w h ∧ 0 ≤ w ∧ 0 ≤ h
def v4 (x y w h : Int) (k : Nat) : Int := ([x, y, w, h] : List Int).getD k 0
theorem v4_get (x y w h : Int) (k : Nat) (hk : k < 4) : ([.int .i64 x, .int .i64 y, .int .i64 w, .int .i64 h] : List Value)[k]? = some (.int .i64 (v4 x y w h k)) :=
  match k, hk with | 0, _ => rfl | 1, _ => rfl | 2, _ => rfl | 3, _ => rfl
theorem v4_in (x y w h : Int) : (∀ i, i < 4 → -32768 ≤ v4 x y w h i ∧ v4 x y w h i ≤ 32768) ↔ In4 x y w h :=
  ⟨fun h => ⟨h 0 (by omega), h 1 (by omega), h 2 (by omega), h 3 (by omega)⟩, fun ⟨h0, h1, h2, h3⟩ i hi => match i, hi with | 0, _ => h0 | 1, _ => h1 | 2, _ => h2 | 3, _ => h3⟩
theorem fin5I {P : Program} {fn : Func} {R : Value → List Ent → Prop} {fr : Fr} {H H2 : List Ent} {t1 t2 t3 t4 t5 : Nat} {a1 a2 a3 a4 a5 : Int} (hr : fn.results.toList = [.tmp t1, .tmp t2, .tmp t3, .tmp t4, .tmp t5]) (h1 : fr t1 = .int .i64 a1) (h2 : fr t2 = .int .i64 a2) (h3 : fr t3 = .int .i64 a3) (h4 : fr t4 = .int .i64 a4) (h5 : fr t5 = .int .i64 a5)
    (h : R (.tuple #[.int .i64 a1, .int .i64 a2, .int .i64 a3, .int .i64 a4, .int .i64 a5]) H2) (hi : Imp H H2) : Pfn P fn R .ret fr H :=
  ⟨.inr rfl, [fr t1, fr t2, fr t3, fr t4, fr t5], H2, by rw [hr]; exact .tmp (.tmp (.tmp (.tmp (.tmp .nil)))), hi, by rw [h1, h2, h3, h4, h5]; exact h⟩
set_option maxHeartbeats 8000000 in
theorem box_fn (m : Nat → Int) (hm : Sm m) (x y w h : Int) :
    Fn Try.prog w0 B 28 [mapV m, .int .i64 x, .int .i64 y, .int .i64 w, .int .i64 h] M
      (fun r M' => ((BoxOk m x y w h ∧ r = .tuple #[.int .i64 (loZ (m 0) (m 1) (m 4) x y w h), .int .i64 (loZ (m 2) (m 3) (m 5) x y w h), .int .i64 (hiZ (m 0) (m 1) (m 4) x y w h - loZ (m 0) (m 1) (m 4) x y w h), .int .i64 (hiZ (m 2) (m 3) (m 5) x y w h - loZ (m 2) (m 3) (m 5) x y w h), .int .i64 0]) ∨
        (¬ BoxOk m x y w h ∧ r = .tuple #[.int .i64 0, .int .i64 0, .int .i64 0, .int .i64 0, .int .i64 31])) ∧ M' = M) := by
  have hrt : ∀ E, Fn Try.prog w0 B 26 [.agg (tab 6 m).toArray] E (fun v H' => v = .bool (decide (Rt m)) ∧ H' = E) := fun E => right_fn m hm
  refine fn_intro Try.func28 rfl (by kernel_rfl) rfl ?_
  unfold mapV
  repeat (first | refine go_ ?_ | refine bx_ (fun _ => ?_))
  rename_i g5 gx gy gw gh
  have hg := v4_get x y w h
  have hin := v4_in x y w h
  generalize v4 x y w h = v at *
  refine hc_loop (fun z fr X => ∃ (k : Nat) (e : Int), k + z = 4 ∧ ((e = 0 ∧ ∀ i, i < k → -32768 ≤ v i ∧ v i ≤ 32768) ∨ (e = 31 ∧ ¬ In4 x y w h)) ∧ Agr fr [(5, .pointer (some ⟨g5, 0, none⟩)), (6, .pointer (some ⟨gx, 0, none⟩)), (7, .pointer (some ⟨gy, 0, none⟩)), (8, .pointer (some ⟨gw, 0, none⟩)), (9, .pointer (some ⟨gh, 0, none⟩)),
    (14, .int .i64 e), (22, .agg [.int .i64 x, .int .i64 y, .int .i64 w, .int .i64 h].toArray), (23, .int .i64 (k : Int))] ∧ X = ⟨gh, 3, [.int .i64 h], 1⟩ :: ⟨gw, 3, [.int .i64 w], 1⟩ :: ⟨gy, 3, [.int .i64 y], 1⟩ :: ⟨gx, 3, [.int .i64 x], 1⟩ :: ⟨g5, 23, tab 6 m, 6⟩ :: M) 4 ?_ ?_
  · exact ⟨0, 0, by omega, .inl ⟨rfl, fun i hi => by omega⟩, ⟨rfl, rfl, rfl, rfl, rfl, rfl, rfl, rfl, trivial⟩, rfl⟩
  rintro z fr X ⟨k, e, hk, he, hf, rfl⟩
  obtain ⟨base, rfl⟩ := hf.out
  clear hf
  by_cases hk4 : k < 4
  · have hgk := hg k hk4
    by_cases c1 : v k < -32768
    · repeat (first | refine go_ ?_ | refine bx_ (fun _ => ?_))
      exact ⟨z - 1, by omega, k + 1, 31, by omega, .inr ⟨rfl, fun hh => by have := hin.2 hh k hk4; omega⟩, ⟨rfl, rfl, rfl, rfl, rfl, rfl, rfl, rfl, trivial⟩, rfl⟩
    by_cases c2 : 32768 < v k
    · repeat (first | refine go_ ?_ | refine bx_ (fun _ => ?_))
      exact ⟨z - 1, by omega, k + 1, 31, by omega, .inr ⟨rfl, fun hh => by have := hin.2 hh k hk4; omega⟩, ⟨rfl, rfl, rfl, rfl, rfl, rfl, rfl, rfl, trivial⟩, rfl⟩
    · repeat (first | refine go_ ?_ | refine bx_ (fun _ => ?_))
      refine ⟨z - 1, by omega, k + 1, e, by omega, ?_, ⟨rfl, rfl, rfl, rfl, rfl, rfl, rfl, rfl, trivial⟩, rfl⟩
      rcases he with ⟨h1, h2⟩ | h1
      · refine .inl ⟨h1, fun i hi => ?_⟩
        by_cases hik : i = k
        · subst hik; omega
        · exact h2 i (by omega)
      · exact .inr h1
  by_cases hr : Rt m
  rotate_left
  · have hrt' : ∀ E, Fn Try.prog w0 B 26 [.agg (tab 6 m).toArray] E (fun v H' => v = .bool false ∧ H' = E) := fun E => by have := hrt E; rw [decide_eq_false hr] at this; exact this
    repeat (first | refine go_ ?_ | refine bx_ (fun _ => ?_) | refine hl_callv rfl rfl (hrt' _) ?_)
    exact fin5I rfl rfl rfl rfl rfl rfl ⟨.inr ⟨fun hb => hr hb.1, rfl⟩, rfl⟩ (Imp.drop (Imp.drop (Imp.drop (Imp.drop (Imp.drop (Imp.refl _))))))
  have hrt' : ∀ E, Fn Try.prog w0 B 26 [.agg (tab 6 m).toArray] E (fun v H' => v = .bool true ∧ H' = E) := fun E => by have := hrt E; rw [decide_eq_true hr] at this; exact this
  clear hrt
  by_cases hw : w < 0
  · repeat (first | refine go_ ?_ | refine bx_ (fun _ => ?_) | refine hl_callv rfl rfl (hrt' _) ?_)
    exact fin5I rfl rfl rfl rfl rfl rfl ⟨.inr ⟨fun hb => absurd hb.2.2.1 (by omega), rfl⟩, rfl⟩ (Imp.drop (Imp.drop (Imp.drop (Imp.drop (Imp.drop (Imp.refl _))))))
  by_cases hh : h < 0
  · repeat (first | refine go_ ?_ | refine bx_ (fun _ => ?_) | refine hl_callv rfl rfl (hrt' _) ?_)
    exact fin5I rfl rfl rfl rfl rfl rfl ⟨.inr ⟨fun hb => absurd hb.2.2.2 (by omega), rfl⟩, rfl⟩ (Imp.drop (Imp.drop (Imp.drop (Imp.drop (Imp.drop (Imp.refl _))))))
  rcases he with ⟨rfl, h4⟩ | ⟨rfl, h4⟩
  rotate_left
  · repeat (first | refine go_ ?_ | refine bx_ (fun _ => ?_) | refine hl_callv rfl rfl (hrt' _) ?_)
    exact fin5I rfl rfl rfl rfl rfl rfl ⟨.inr ⟨fun hb => h4 hb.2.1, rfl⟩, rfl⟩ (Imp.drop (Imp.drop (Imp.drop (Imp.drop (Imp.drop (Imp.refl _))))))
  have h4' : In4 x y w h := hin.1 fun i hi => h4 i (by omega)
  obtain ⟨i1, i2, i3, i4⟩ := id h4'
  obtain ⟨r1, r2⟩ := id hr
  repeat (first | refine go_ ?_ | refine bx_ (fun _ => ?_) | refine hl_callv rfl rfl (hrt' _) ?_ | refine hl_makeFunc (caps := [.pointer (some ⟨gx, 0, none⟩), .pointer (some ⟨gy, 0, none⟩), .pointer (some ⟨gw, 0, none⟩), .pointer (some ⟨gh, 0, none⟩)]) rfl rfl ?_ | refine hl_moveF rfl rfl ?_ | refine hl_assignF rfl rfl ?_)
  refine hl_callc (args := [.int .i64 (m 0), .int .i64 (m 1), .int .i64 (m 4)]) (caps := [.pointer (some ⟨gx, 0, none⟩), .pointer (some ⟨gy, 0, none⟩), .pointer (some ⟨gw, 0, none⟩), .pointer (some ⟨gh, 0, none⟩)]) rfl rfl rfl (side_fn (m 0) (m 1) (m 4) x y w h (r1 0 (by omega)) (r1 1 (by omega)) (r2 4 (by omega) (by omega)) i1 i2 (by omega) (by omega) gx gy gw gh) (fun r M' hr1 => ?_)
  obtain ⟨rfl, rfl⟩ := hr1
  repeat (first | refine go_ ?_ | refine bx_ (fun _ => ?_) | refine hl_moveF rfl rfl ?_)
  refine hl_callc (args := [.int .i64 (m 2), .int .i64 (m 3), .int .i64 (m 5)]) (caps := [.pointer (some ⟨gx, 0, none⟩), .pointer (some ⟨gy, 0, none⟩), .pointer (some ⟨gw, 0, none⟩), .pointer (some ⟨gh, 0, none⟩)]) rfl rfl rfl (side_fn (m 2) (m 3) (m 5) x y w h (r1 2 (by omega)) (r1 3 (by omega)) (r2 5 (by omega) (by omega)) i1 i2 (by omega) (by omega) gx gy gw gh) (fun r M' hr1 => ?_)
  obtain ⟨rfl, rfl⟩ := hr1
  repeat (first | refine go_ ?_ | refine bx_ (fun _ => ?_))
  exact fin5I rfl rfl rfl rfl rfl rfl ⟨.inl ⟨⟨hr, h4', by omega, by omega⟩, rfl⟩, rfl⟩ (Imp.drop (Imp.drop (Imp.drop (Imp.drop (Imp.drop (Imp.refl _))))))
end
end Go.Proofs.Ytbgdligfdfhbkaa
