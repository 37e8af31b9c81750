/-
  Lasso: the mask's contract. No condition.
-/
import Derived.Test.YtdofcjmnnmmecaaKF
namespace Go.Proofs.Ytdofcjmnnmmecaa
open Go.RowKit
def tabB (n : Nat) (f : Nat → Bool) : List Value := (List.range n).map fun k => .int .u8 (if f k then 255 else 0)
theorem length_tabB (n : Nat) (f : Nat → Bool) : (tabB n f).length = n := by simp [tabB]
theorem tabB_get {n k : Nat} {f : Nat → Bool} (h : k < n) : (tabB n f)[k]? = some (.int .u8 (if f k then 255 else 0)) := by simp [tabB, h]
theorem tabB_one {n : Nat} {f : Nat → Bool} : ∀ u ∈ tabB n f, u.oneCell' = true := by
  intro u hu
  obtain ⟨k, _, rfl⟩ := List.mem_map.1 hu
  rfl
theorem tabB_congr {n : Nat} {f g : Nat → Bool} (h : ∀ k, k < n → f k = g k) : tabB n f = tabB n g := by
  unfold tabB; refine List.map_congr_left fun k hk => ?_
  rw [h k (by simpa using hk)]
theorem tabB_set {n k : Nat} {f g : Nat → Bool} (h : ∀ j, j < n → g j = if j = k then true else f j) : (tabB n f).set k (.int .u8 255) = tabB n g := by
  apply List.ext_getElem?
  intro j
  rw [List.getElem?_set]
  by_cases hj : j < n
  · rw [tabB_get hj, tabB_get hj, h j hj]
    by_cases e : k = j
    · subst e; simp [length_tabB, hj]
    · have e' : ¬ j = k := fun h => e h.symm
      simp [e, e']
  · rw [List.getElem?_eq_none (by rw [length_tabB]; omega), List.getElem?_eq_none (by rw [length_tabB]; omega)]
    by_cases e : k = j
    · subst e; simp [length_tabB, hj]
    · rw [if_neg e]
theorem tabB_none (n : Nat) : tabB n (fun _ => false) = List.replicate n (.int .u8 0) := by simp [tabB, List.map_const']
def upto (f : Nat → Bool) (k : Nat) : Nat → Bool := fun j => decide (j < k) && f j
theorem upto_zero (f : Nat → Bool) : upto f 0 = fun _ => false := by funext j; simp [upto]
theorem upto_yes {f : Nat → Bool} {n k : Nat} (h : f k = true) : (tabB n (upto f k)).set k (.int .u8 255) = tabB n (upto f (k + 1)) := tabB_set fun j _ => by
  unfold upto
  by_cases e : j = k
  · subst e; simp [h]
  · rw [if_neg e, show decide (j < k + 1) = decide (j < k) from decide_eq_decide.2 (by omega)]
theorem upto_no {f : Nat → Bool} {n k : Nat} (h : f k = false) : tabB n (upto f k) = tabB n (upto f (k + 1)) := tabB_congr fun j _ => by
  unfold upto
  by_cases e : j = k
  · subst e; simp [h]
  · rw [show decide (j < k + 1) = decide (j < k) from decide_eq_decide.2 (by omega)]
theorem upto_end (f : Nat → Bool) (n : Nat) : tabB n (upto f n) = tabB n f := tabB_congr fun j hj => by simp [upto, hj]
/-- What lies in the shape, pixel by pixel. -/
def mkI (l : List Pt) (w : Int) (i : Nat) : Bool := inW l ((i : Int) % w) ((i : Int) / w)
def MskOk (w h : Int) : Prop := 0 ≤ w ∧ w ≤ 32768 ∧ 0 ≤ h ∧ h ≤ 32768 ∧ w * h ≤ 4194304
set_option maxHeartbeats 8000000
set_option maxRecDepth 100000
theorem maskN1_fn {w0 : World} {B : Nat} {H : List Ent} {a : Option Addr} {len cap : Nat} {l : List Pt} (hl : PtR w0 B H a len l) (h5 : len ≤ 9223372036854775806) (hok : okS l [] = false) (w h : Int) :
    Fn Try.prog w0 B 22 [.slice a len cap, .int .i64 w, .int .i64 h] H (fun v H' => v = .tuple #[.slice none 0 0, .int .i64 31] ∧ H' = H) := by
  refine fn_intro Try.func22 rfl (by kernel_rfl) rfl ?_
  have C := check_fn (cap := cap) (cap2 := 0) hl PtR.zero h5 (by decide)
  rw [hok, show errV false = 31 from rfl] at C
  repeat (first | refine go_ ?_ | refine bx_ (fun _ => ?_) | refine hl_callv rfl rfl (C) ?_)
  exact fin2SI rfl rfl rfl ⟨rfl, rfl⟩
theorem maskN2_fn {w0 : World} {B : Nat} {H : List Ent} {a : Option Addr} {len cap : Nat} {l : List Pt} (hl : PtR w0 B H a len l) (h5 : len ≤ 9223372036854775806) (hok : okS l [] = true) (w h : Int) (hm : ¬ MskOk w h) :
    Fn Try.prog w0 B 22 [.slice a len cap, .int .i64 w, .int .i64 h] H (fun v H' => v = .tuple #[.slice none 0 0, .int .i64 31] ∧ H' = H) := by
  refine fn_intro Try.func22 rfl (by kernel_rfl) rfl ?_
  have C := check_fn (cap := cap) (cap2 := 0) hl PtR.zero h5 (by decide)
  rw [hok, show errV true = 0 from rfl] at C
  unfold MskOk at hm
  by_cases h1 : w < 0
  · repeat (first | refine go_ ?_ | refine bx_ (fun _ => ?_) | refine hl_callv rfl rfl (C) ?_)
    exact fin2SI rfl rfl rfl ⟨rfl, rfl⟩
  by_cases h2 : h < 0
  · repeat (first | refine go_ ?_ | refine bx_ (fun _ => ?_) | refine hl_callv rfl rfl (C) ?_)
    exact fin2SI rfl rfl rfl ⟨rfl, rfl⟩
  by_cases h3 : 32768 < w
  · repeat (first | refine go_ ?_ | refine bx_ (fun _ => ?_) | refine hl_callv rfl rfl (C) ?_)
    exact fin2SI rfl rfl rfl ⟨rfl, rfl⟩
  by_cases h4 : 32768 < h
  · repeat (first | refine go_ ?_ | refine bx_ (fun _ => ?_) | refine hl_callv rfl rfl (C) ?_)
    exact fin2SI rfl rfl rfl ⟨rfl, rfl⟩
  have hb := mul_bd (a := w) (b := h) (M := 32768) (N := 32768) (by omega) (by omega)
  repeat (first | refine go_ ?_ | refine bx_ (fun _ => ?_) | refine hl_callv rfl rfl (C) ?_)
  exact fin2SI rfl rfl rfl ⟨rfl, rfl⟩
theorem maskY_fn {w0 : World} {B : Nat} {H : List Ent} {a : Option Addr} {len cap : Nat} {l : List Pt} (hl : PtR w0 B H a len l) (hok : okS l [] = true) (w h : Int) (hm : MskOk w h) {N : Nat} (hN : w * h = (N : Int)) :
    Fn Try.prog w0 B 22 [.slice a len cap, .int .i64 w, .int .i64 h] H (fun v H' => ∃ g, v = .tuple #[.slice (some ⟨g, 0, none⟩) N N, .int .i64 0] ∧ H' = ⟨g, 5, tabB N (mkI l w), N⟩ :: H) := by
  refine fn_intro Try.func22 rfl (by kernel_rfl) rfl ?_
  obtain ⟨hr, _, h3, h256⟩ := okS_right hok
  have e1 := hl.eq
  have C := check_fn (cap := cap) (cap2 := 0) hl PtR.zero (by omega) (by decide)
  rw [hok, show errV true = 0 from rfl] at C
  obtain ⟨m1, m2, m3, m4, m5⟩ := hm
  have hNb : N ≤ 4194304 := by omega
  have hb := mul_bd (a := w) (b := h) (M := 32768) (N := 32768) (by omega) (by omega)
  repeat (first | refine go_ ?_ | refine bx_ (fun _ => ?_) | refine hl_callv rfl rfl (C) ?_)
  refine hl_make1 (n := N) (by rw [← hN]; rfl) (by rw [← hN]; rfl) rfl (by omega) (by omega) rfl (fun g => ?_)
  rw [← tabB_none, ← upto_zero (mkI l w), Nat.mul_one]
  obtain ⟨F, hF⟩ : ∃ F, F = mkI l w := ⟨_, rfl⟩
  rw [← hF]
  repeat (first | refine go_ ?_ | refine bx_ (fun _ => ?_))
  refine hc_loopd (fun q fr M => ∃ k, k + q = N ∧ Agr fr [(0, .slice a len cap), (1, .int .i64 w), (2, .int .i64 h), (9, .slice (some ⟨g, 0, none⟩) N N), (40, .slice (some ⟨g, 0, none⟩) N N), (41, .int .i64 (N : Int)), (42, .int .i64 (k : Int))]
    ∧ M = ⟨g, 5, tabB N (upto F k), N⟩ :: H) N ?_ ?_
  · exact ⟨0, by omega, ⟨rfl, rfl, rfl, rfl, rfl, rfl, rfl, trivial⟩, rfl⟩
  rintro q fr M ⟨k, hk, hf, rfl⟩
  obtain ⟨base, rfl⟩ := hf.out
  clear hf
  have hlen := length_tabB N (upto F k)
  by_cases hlt : k < N
  · have hw0 : 0 < w := by
      rcases Int.lt_or_eq_of_le m1 with h0 | h0
      · exact h0
      · rw [← h0, Int.zero_mul] at hN; omega
    have r1 := Int.emod_nonneg (k : Int) (show w ≠ 0 by omega)
    have r2 := Int.emod_lt_of_pos (k : Int) hw0
    have r3 : 0 ≤ (k : Int) / w := Int.ediv_nonneg (by omega) (by omega)
    have r4 : (k : Int) / w < h := Int.ediv_lt_of_lt_mul hw0 (by rw [Int.mul_comm]; omega)
    have hlt2 : k < (tabB N (upto F k)).length := by omega
    have W := within_fn (cap := cap) (x := (k : Int) % w) (y := (k : Int) / w) (hl.imp (show Imp (⟨g, 5, tabB N (upto F k), N⟩ :: H) H from Imp.drop (Imp.refl _))) (by omega) (by omega) hr ⟨⟨by omega, by omega⟩, by omega, by omega⟩
    rw [show inW l ((k : Int) % w) ((k : Int) / w) = F k by rw [hF]; rfl] at W
    cases hFk : F k with
    | true =>
      rw [hFk] at W
      repeat (first | refine go_ ?_ | refine bx_ (fun _ => ?_))
      (refine hc_draw (by kernel_rfl) (by kernel_rfl) ?_; repeat (first | refine gd_ ?_ | refine hd_call rfl rfl (W) ?_))
      repeat (first | refine go_ ?_ | refine bx_ (fun _ => ?_))
      exact ⟨q - 1, by omega, _, Imp.refl _, k + 1, by omega, ⟨rfl, rfl, rfl, rfl, rfl, rfl, rfl, trivial⟩, by rw [upto_yes hFk]⟩
    | false =>
      rw [hFk] at W
      repeat (first | refine go_ ?_ | refine bx_ (fun _ => ?_))
      (refine hc_draw (by kernel_rfl) (by kernel_rfl) ?_; repeat (first | refine gd_ ?_ | refine hd_call rfl rfl (W) ?_))
      repeat (first | refine go_ ?_ | refine bx_ (fun _ => ?_))
      exact ⟨q - 1, by omega, _, Imp.refl _, k + 1, by omega, ⟨rfl, rfl, rfl, rfl, rfl, rfl, rfl, trivial⟩, by rw [upto_no hFk]⟩
  · obtain rfl : k = N := by omega
    rw [upto_end, hF]
    repeat (first | refine go_ ?_ | refine bx_ (fun _ => ?_))
    exact fin2SI rfl rfl rfl ⟨g, rfl, rfl⟩
end Go.Proofs.Ytdofcjmnnmmecaa
