/-
  Blocks as waves: there and back, as the program walks it and as the document's sums. No condition.
-/
import Derived.Test.YtkolkcgckckeeaaD2
namespace Go.Proofs.Ytkolkcgckckeeaa
open Go.RowKit

/-! What is computed -/
def cF (i x : Nat) : Int := cA (i % 8 * 8 + x)
def cG (i y : Nat) : Int := cA (i / 8 * 8 + y)
def dF (i u : Nat) : Int := cA (u * 8 + i % 8)
def dG (i v : Nat) : Int := cA (v * 8 + i / 8)
def half (c : Nat → Nat → Int) (s : Nat → Int) (i : Nat) (k : Nat) : Int := sumZ (fun x => s (i / 8 * 8 + x) * c i x) k
def full (c d : Nat → Nat → Int) (s : Nat → Int) (i : Nat) (k : Nat) : Int := sumZ (fun y => half c s (y * 8 + i % 8) 8 * d i y) k
def near26 (n : Int) : Int := (n + 33554432) / 67108864
def fwd (s : Nat → Int) (i : Nat) : Int := near26 (full cF cG s i 8)
def bck (s : Nat → Int) (i : Nat) : Int := near26 (full dF dG s i 8)
def Small (s : Nat → Int) : Prop := ∀ i, i < 64 → -16777216 ≤ s i ∧ s i ≤ 16777216

theorem mul_bd {a b : Int} {M N : Int} (ha : -M ≤ a ∧ a ≤ M) (hb : -N ≤ b ∧ b ≤ N) : -(M * N) ≤ a * b ∧ a * b ≤ M * N := by
  have h1 : 0 ≤ (M - a) * (N + b) := Int.mul_nonneg (by omega) (by omega)
  have h2 : 0 ≤ (M + a) * (N - b) := Int.mul_nonneg (by omega) (by omega)
  have h3 : 0 ≤ (M - a) * (N - b) := Int.mul_nonneg (by omega) (by omega)
  have h4 : 0 ≤ (M + a) * (N + b) := Int.mul_nonneg (by omega) (by omega)
  simp only [Int.sub_mul, Int.add_mul, Int.mul_add, Int.mul_sub] at h1 h2 h3 h4
  constructor <;> omega
theorem cA_bd {j : Nat} (hj : j < 64) : -4096 ≤ cA j ∧ cA j ≤ 4096 := by
  have := cz_bd (u := j / 8) (x := j % 8) (by omega) (by omega)
  unfold cA; omega
def Cof (c : Nat → Nat → Int) : Prop := ∀ i x, i < 64 → x < 8 → -4096 ≤ c i x ∧ c i x ≤ 4096
theorem cofF : Cof cF := fun i x _ _ => cA_bd (by omega)
theorem cofG : Cof cG := fun i x _ _ => cA_bd (by omega)
theorem cdfF : Cof dF := fun i x _ _ => cA_bd (by omega)
theorem cdfG : Cof dG := fun i x _ _ => cA_bd (by omega)
theorem half_bd {c : Nat → Nat → Int} {s : Nat → Int} {i k : Nat} (hc : Cof c) (hs : Small s) (hi : i < 64) (hk : k ≤ 8) : -549755813888 ≤ half c s i k ∧ half c s i k ≤ 549755813888 := by
  have := sumZ_bd (f := fun x => s (i / 8 * 8 + x) * c i x) (M := 16777216 * 4096) (by decide) k (fun x hx => mul_bd (hs _ (by omega)) (hc i x hi (by omega)))
  unfold half
  omega
theorem full_bd {c d : Nat → Nat → Int} {s : Nat → Int} {i k : Nat} (hc : Cof c) (hd : Cof d) (hs : Small s) (hi : i < 64) (hk : k ≤ 8) : -18014398509481984 ≤ full c d s i k ∧ full c d s i k ≤ 18014398509481984 := by
  have := sumZ_bd (f := fun y => half c s (y * 8 + i % 8) 8 * d i y) (M := 549755813888 * 4096) (by decide) k (fun y hy => mul_bd (half_bd hc hs (by omega) (by omega)) (hd i y hi (by omega)))
  unfold full
  omega
/-- Rows done, one begun. -/
def hsel (h : Nat → Nat → Int) (i k j : Nat) : Int := if j < i then h j 8 else if j = i then h i k else 0
theorem hsel_at (h : Nat → Nat → Int) (i k : Nat) : hsel h i k i = h i k := by unfold hsel; rw [if_neg (Nat.lt_irrefl i), if_pos rfl]
theorem hsel_set (h : Nat → Nat → Int) (n i k : Nat) : (tab n (hsel h i k)).set i (.int .i64 (h i (k + 1))) = tab n (hsel h i (k + 1)) := tab_set fun j _ => by
  unfold hsel
  by_cases e : j = i
  · subst e; simp
  · simp [e]
theorem hsel_next (h : Nat → Nat → Int) (n i : Nat) (h0 : ∀ j, h j 0 = 0) : tab n (hsel h i 8) = tab n (hsel h (i + 1) 0) := tab_congr fun j _ => by
  unfold hsel
  by_cases e : j = i
  · subst e; simp
  · by_cases h1 : j < i
    · rw [if_pos h1, if_pos (by omega)]
    · rw [if_neg h1, if_neg e, if_neg (by omega)]
      split <;> simp [h0]
theorem hsel_end (h : Nat → Nat → Int) (n : Nat) : tab n (hsel h n 0) = tab n (fun j => h j 8) := tab_congr fun j hj => by unfold hsel; rw [if_pos hj]
/-- Done up to here. -/
def dsel (h : Nat → Int) (i j : Nat) : Int := if j < i then h j else 0
theorem dsel_set (h : Nat → Int) (n i : Nat) : (tab n (dsel h i)).set i (.int .i64 (h i)) = tab n (dsel h (i + 1)) := tab_set fun j _ => by
  unfold dsel
  by_cases e : j = i
  · subst e; simp
  · by_cases h1 : j < i
    · rw [if_neg e, if_pos h1, if_pos (by omega)]
    · rw [if_neg e, if_neg h1, if_neg (by omega)]
theorem dsel_end (h : Nat → Int) (n : Nat) : tab n (dsel h n) = tab n h := tab_congr fun j hj => by unfold dsel; rw [if_pos hj]

section
variable {w0 : World} {B : Nat} {H : List Ent}
set_option maxHeartbeats 8000000 in
set_option maxRecDepth 100000 in
theorem forward_fn (s : Nat → Int) (hs : Small s) : Fn Try.prog w0 B 16 [.agg (tab 64 s).toArray] H (fun v H' => v = .agg (tab 64 (fwd s)).toArray ∧ H' = H) := by
  refine fn_intro Try.func16 rfl (by kernel_rfl) rfl ?_
  repeat (first | refine go_ ?_ | refine bx_ (fun _ => ?_) | refine hl_callv rfl rfl (rows_fn) ?_)
  rename_i g1 g2 g3 g4 g5
  refine hc_loop (fun m fr M => ∃ i, i + m = 64 ∧ Agr fr [(1, .pointer (some ⟨g1, 0, none⟩)), (2, .pointer (some ⟨g2, 0, none⟩)), (3, .pointer (some ⟨g3, 0, none⟩)), (4, .pointer (some ⟨g4, 0, none⟩)), (5, .pointer (some ⟨g5, 0, none⟩)), (12, .int .i64 (i : Int))] ∧ M.Perm (⟨g4, 27, tab 64 (hsel (half cF s) i 0), 64⟩ :: ⟨g5, 27, tab 64 (fun _ => 0), 64⟩ :: ⟨g3, 38, tab 64 cA, 64⟩ :: ⟨g2, 27, tab 64 (fun _ => 0), 64⟩ :: ⟨g1, 27, tab 64 s, 64⟩ :: H)) 64 ?_ ?_
  · exact ⟨0, by omega, ⟨rfl, rfl, rfl, rfl, rfl, rfl, trivial⟩, List.Perm.swap _ _ _⟩
  rintro m fr M ⟨i, hi, hf, hp⟩
  obtain ⟨base, rfl⟩ := hf.out
  refine HC.perm ?_ hp
  clear hp hf
  by_cases hlt : i < 64
  · repeat (first | refine go_ ?_ | refine bx_ (fun _ => ?_))
    refine hc_loop (fun m fr M => ∃ k, k + m = 8 ∧ Agr fr [(1, .pointer (some ⟨g1, 0, none⟩)), (2, .pointer (some ⟨g2, 0, none⟩)), (3, .pointer (some ⟨g3, 0, none⟩)), (4, .pointer (some ⟨g4, 0, none⟩)), (5, .pointer (some ⟨g5, 0, none⟩)), (12, .int .i64 (i : Int)), (6, .int .i64 (i : Int)), (15, .int .i64 (k : Int))] ∧ M = (⟨g4, 27, tab 64 (hsel (half cF s) i k), 64⟩ :: ⟨g5, 27, tab 64 (fun _ => 0), 64⟩ :: ⟨g3, 38, tab 64 cA, 64⟩ :: ⟨g2, 27, tab 64 (fun _ => 0), 64⟩ :: ⟨g1, 27, tab 64 s, 64⟩ :: H)) 8 ?_ ?_
    · exact ⟨0, by omega, ⟨rfl, rfl, rfl, rfl, rfl, rfl, rfl, rfl, trivial⟩, rfl⟩
    clear base
    rintro m2 fr M ⟨k, hk, hf, rfl⟩
    obtain ⟨base, rfl⟩ := hf.out
    clear hf
    by_cases hlk : k < 8
    · have b1 := hs (i / 8 * 8 + k) (by omega)
      have b2 := cofF i k hlt hlk
      have b3 := half_bd cofF hs hlt (show k ≤ 8 by omega)
      have b4 := half_bd cofF hs hlt (show k + 1 ≤ 8 by omega)
      have b5 := mul_bd b1 b2
      have hset := hsel_set (half cF s) 64 i k
      have e1 : half cF s i k + s (i / 8 * 8 + k) * cF i k = half cF s i (k + 1) := rfl
      have hv1 : (tab 64 (hsel (half cF s) i k))[i]? = some (.int .i64 (half cF s i k)) := by rw [tab_get hlt, hsel_at]
      have hv2 : (tab 64 cA)[i % 8 * 8 + k]? = some (.int .i64 (cF i k)) := by rw [tab_get (by omega)]; rfl
      repeat (first | refine go_ ?_ | refine bx_ (fun _ => ?_))
      refine hc_drawS (by kernel_rfl) (by kernel_rfl) ?_
      repeat (first | rw [show (i : Int) / 8 * 8 + (k : Int) = ((i / 8 * 8 + k : Nat) : Int) by omega] | rw [e1] | rw [show (i : Int) % 8 = ((i % 8 : Nat) : Int) by omega] | refine gd1_ ?_)
      repeat (first | rw [hset] | refine go1_ ?_ | refine bx_ (fun _ => ?_))
      exact ⟨m2 - 1, by omega, k + 1, by omega, ⟨rfl, rfl, rfl, rfl, rfl, rfl, rfl, rfl, trivial⟩, rfl⟩
    · obtain rfl : k = 8 := by omega
      repeat (first | refine go_ ?_ | refine bx_ (fun _ => ?_))
      refine ⟨m - 1, by omega, i + 1, by omega, ⟨rfl, rfl, rfl, rfl, rfl, rfl, trivial⟩, ?_⟩
      rw [← hsel_next (half cF s) 64 i (fun _ => rfl)]
  · obtain rfl : i = 64 := by omega
    rw [hsel_end]
    repeat (first | refine go_ ?_ | refine bx_ (fun _ => ?_))
    refine hc_loop (fun m fr M => ∃ i, i + m = 64 ∧ Agr fr [(1, .pointer (some ⟨g1, 0, none⟩)), (2, .pointer (some ⟨g2, 0, none⟩)), (3, .pointer (some ⟨g3, 0, none⟩)), (4, .pointer (some ⟨g4, 0, none⟩)), (5, .pointer (some ⟨g5, 0, none⟩)), (39, .int .i64 (i : Int))] ∧ M.Perm (⟨g5, 27, tab 64 (dsel (fwd s) i), 64⟩ :: ⟨g4, 27, tab 64 (fun j => half cF s j 8), 64⟩ :: ⟨g3, 38, tab 64 cA, 64⟩ :: ⟨g2, 27, tab 64 (fun _ => 0), 64⟩ :: ⟨g1, 27, tab 64 s, 64⟩ :: H)) 64 ?_ ?_
    · exact ⟨0, by omega, ⟨rfl, rfl, rfl, rfl, rfl, rfl, trivial⟩, List.Perm.swap _ _ _⟩
    clear base hlt hi
    rintro m fr M ⟨i, hi, hf, hp⟩
    obtain ⟨base, rfl⟩ := hf.out
    refine HC.perm ?_ hp
    clear hp hf
    by_cases hlt : i < 64
    · repeat (first | refine go_ ?_ | refine bx_ (fun _ => ?_))
      refine hc_loop (fun m fr M => ∃ k, k + m = 8 ∧ Agr fr [(1, .pointer (some ⟨g1, 0, none⟩)), (2, .pointer (some ⟨g2, 0, none⟩)), (3, .pointer (some ⟨g3, 0, none⟩)), (4, .pointer (some ⟨g4, 0, none⟩)), (5, .pointer (some ⟨g5, 0, none⟩)), (39, .int .i64 (i : Int)), (8, .int .i64 (i : Int)), (9, .int .i64 (full cF cG s i k)), (42, .int .i64 (k : Int))] ∧ M = (⟨g5, 27, tab 64 (dsel (fwd s) i), 64⟩ :: ⟨g4, 27, tab 64 (fun j => half cF s j 8), 64⟩ :: ⟨g3, 38, tab 64 cA, 64⟩ :: ⟨g2, 27, tab 64 (fun _ => 0), 64⟩ :: ⟨g1, 27, tab 64 s, 64⟩ :: H)) 8 ?_ ?_
      · exact ⟨0, by omega, ⟨rfl, rfl, rfl, rfl, rfl, rfl, rfl, rfl, rfl, trivial⟩, rfl⟩
      clear base
      rintro m2 fr M ⟨k, hk, hf, rfl⟩
      obtain ⟨base, rfl⟩ := hf.out
      clear hf
      by_cases hlk : k < 8
      · have b1 := half_bd cofF hs (show k * 8 + i % 8 < 64 by omega) (show 8 ≤ 8 by omega)
        have b2 := cofG i k hlt hlk
        have b3 := full_bd cofF cofG hs hlt (show k ≤ 8 by omega)
        have b4 := full_bd cofF cofG hs hlt (show k + 1 ≤ 8 by omega)
        have b5 := mul_bd b1 b2
        have e1 : full cF cG s i k + half cF s (k * 8 + i % 8) 8 * cG i k = full cF cG s i (k + 1) := rfl
        have hv2 : (tab 64 cA)[i / 8 * 8 + k]? = some (.int .i64 (cG i k)) := by rw [tab_get (by omega)]; rfl
        repeat (first | refine go_ ?_ | refine bx_ (fun _ => ?_))
        refine hc_draw (by kernel_rfl) (by kernel_rfl) ?_
        repeat (first | rw [show (k : Int) * 8 + (i : Int) % 8 = ((k * 8 + i % 8 : Nat) : Int) by omega] | rw [e1] | rw [show (i : Int) / 8 = ((i / 8 : Nat) : Int) by omega] | refine gd1_ ?_)
        repeat (first | refine go_ ?_ | refine bx_ (fun _ => ?_))
        exact ⟨m2 - 1, by omega, k + 1, by omega, ⟨rfl, rfl, rfl, rfl, rfl, rfl, rfl, rfl, rfl, trivial⟩, rfl⟩
      · obtain rfl : k = 8 := by omega
        have b3 := full_bd cofF cofG hs hlt (show 8 ≤ 8 by omega)
        have hset : (tab 64 (dsel (fwd s) i)).set i (.int .i64 ((full cF cG s i 8 + 33554432) / 67108864)) = tab 64 (dsel (fwd s) (i + 1)) := dsel_set (fwd s) 64 i
        repeat (first | rw [hset] | refine go1_ ?_ | refine bx_ (fun _ => ?_) | refine hl_callv rfl rfl (near_fn _ (by omega)) ?_)
        exact ⟨m - 1, by omega, i + 1, by omega, ⟨rfl, rfl, rfl, rfl, rfl, rfl, trivial⟩, List.Perm.refl _⟩
    · obtain rfl : i = 64 := by omega
      rw [dsel_end]
      repeat (first | refine go_ ?_ | refine bx_ (fun _ => ?_))
      exact finC rfl rfl .here (length_tab _ _) ⟨rfl, rfl⟩
set_option maxHeartbeats 8000000 in
set_option maxRecDepth 100000 in
theorem back_fn (s : Nat → Int) (hs : Small s) : Fn Try.prog w0 B 18 [.agg (tab 64 s).toArray] H (fun v H' => v = .agg (tab 64 (bck s)).toArray ∧ H' = H) := by
  refine fn_intro Try.func18 rfl (by kernel_rfl) rfl ?_
  repeat (first | refine go_ ?_ | refine bx_ (fun _ => ?_) | refine hl_callv rfl rfl (rows_fn) ?_)
  rename_i g1 g2 g3 g4 g5
  refine hc_loop (fun m fr M => ∃ i, i + m = 64 ∧ Agr fr [(1, .pointer (some ⟨g1, 0, none⟩)), (2, .pointer (some ⟨g2, 0, none⟩)), (3, .pointer (some ⟨g3, 0, none⟩)), (4, .pointer (some ⟨g4, 0, none⟩)), (5, .pointer (some ⟨g5, 0, none⟩)), (12, .int .i64 (i : Int))] ∧ M.Perm (⟨g4, 27, tab 64 (hsel (half dF s) i 0), 64⟩ :: ⟨g5, 27, tab 64 (fun _ => 0), 64⟩ :: ⟨g3, 38, tab 64 cA, 64⟩ :: ⟨g2, 27, tab 64 (fun _ => 0), 64⟩ :: ⟨g1, 27, tab 64 s, 64⟩ :: H)) 64 ?_ ?_
  · exact ⟨0, by omega, ⟨rfl, rfl, rfl, rfl, rfl, rfl, trivial⟩, List.Perm.swap _ _ _⟩
  rintro m fr M ⟨i, hi, hf, hp⟩
  obtain ⟨base, rfl⟩ := hf.out
  refine HC.perm ?_ hp
  clear hp hf
  by_cases hlt : i < 64
  · repeat (first | refine go_ ?_ | refine bx_ (fun _ => ?_))
    refine hc_loop (fun m fr M => ∃ k, k + m = 8 ∧ Agr fr [(1, .pointer (some ⟨g1, 0, none⟩)), (2, .pointer (some ⟨g2, 0, none⟩)), (3, .pointer (some ⟨g3, 0, none⟩)), (4, .pointer (some ⟨g4, 0, none⟩)), (5, .pointer (some ⟨g5, 0, none⟩)), (12, .int .i64 (i : Int)), (6, .int .i64 (i : Int)), (15, .int .i64 (k : Int))] ∧ M = (⟨g4, 27, tab 64 (hsel (half dF s) i k), 64⟩ :: ⟨g5, 27, tab 64 (fun _ => 0), 64⟩ :: ⟨g3, 38, tab 64 cA, 64⟩ :: ⟨g2, 27, tab 64 (fun _ => 0), 64⟩ :: ⟨g1, 27, tab 64 s, 64⟩ :: H)) 8 ?_ ?_
    · exact ⟨0, by omega, ⟨rfl, rfl, rfl, rfl, rfl, rfl, rfl, rfl, trivial⟩, rfl⟩
    clear base
    rintro m2 fr M ⟨k, hk, hf, rfl⟩
    obtain ⟨base, rfl⟩ := hf.out
    clear hf
    by_cases hlk : k < 8
    · have b1 := hs (i / 8 * 8 + k) (by omega)
      have b2 := cdfF i k hlt hlk
      have b3 := half_bd cdfF hs hlt (show k ≤ 8 by omega)
      have b4 := half_bd cdfF hs hlt (show k + 1 ≤ 8 by omega)
      have b5 := mul_bd b1 b2
      have hset := hsel_set (half dF s) 64 i k
      have e1 : half dF s i k + s (i / 8 * 8 + k) * dF i k = half dF s i (k + 1) := rfl
      have hv1 : (tab 64 (hsel (half dF s) i k))[i]? = some (.int .i64 (half dF s i k)) := by rw [tab_get hlt, hsel_at]
      have hv2 : (tab 64 cA)[k * 8 + i % 8]? = some (.int .i64 (dF i k)) := by rw [tab_get (by omega)]; rfl
      repeat (first | refine go_ ?_ | refine bx_ (fun _ => ?_))
      refine hc_drawS (by kernel_rfl) (by kernel_rfl) ?_
      repeat (first | rw [show (i : Int) / 8 * 8 + (k : Int) = ((i / 8 * 8 + k : Nat) : Int) by omega] | rw [e1] | rw [show (i : Int) % 8 = ((i % 8 : Nat) : Int) by omega] | refine gd1_ ?_)
      repeat (first | rw [hset] | refine go1_ ?_ | refine bx_ (fun _ => ?_))
      exact ⟨m2 - 1, by omega, k + 1, by omega, ⟨rfl, rfl, rfl, rfl, rfl, rfl, rfl, rfl, trivial⟩, rfl⟩
    · obtain rfl : k = 8 := by omega
      repeat (first | refine go_ ?_ | refine bx_ (fun _ => ?_))
      refine ⟨m - 1, by omega, i + 1, by omega, ⟨rfl, rfl, rfl, rfl, rfl, rfl, trivial⟩, ?_⟩
      rw [← hsel_next (half dF s) 64 i (fun _ => rfl)]
  · obtain rfl : i = 64 := by omega
    rw [hsel_end]
    repeat (first | refine go_ ?_ | refine bx_ (fun _ => ?_))
    refine hc_loop (fun m fr M => ∃ i, i + m = 64 ∧ Agr fr [(1, .pointer (some ⟨g1, 0, none⟩)), (2, .pointer (some ⟨g2, 0, none⟩)), (3, .pointer (some ⟨g3, 0, none⟩)), (4, .pointer (some ⟨g4, 0, none⟩)), (5, .pointer (some ⟨g5, 0, none⟩)), (39, .int .i64 (i : Int))] ∧ M.Perm (⟨g5, 27, tab 64 (dsel (bck s) i), 64⟩ :: ⟨g4, 27, tab 64 (fun j => half dF s j 8), 64⟩ :: ⟨g3, 38, tab 64 cA, 64⟩ :: ⟨g2, 27, tab 64 (fun _ => 0), 64⟩ :: ⟨g1, 27, tab 64 s, 64⟩ :: H)) 64 ?_ ?_
    · exact ⟨0, by omega, ⟨rfl, rfl, rfl, rfl, rfl, rfl, trivial⟩, List.Perm.swap _ _ _⟩
    clear base hlt hi
    rintro m fr M ⟨i, hi, hf, hp⟩
    obtain ⟨base, rfl⟩ := hf.out
    refine HC.perm ?_ hp
    clear hp hf
    by_cases hlt : i < 64
    · repeat (first | refine go_ ?_ | refine bx_ (fun _ => ?_))
      refine hc_loop (fun m fr M => ∃ k, k + m = 8 ∧ Agr fr [(1, .pointer (some ⟨g1, 0, none⟩)), (2, .pointer (some ⟨g2, 0, none⟩)), (3, .pointer (some ⟨g3, 0, none⟩)), (4, .pointer (some ⟨g4, 0, none⟩)), (5, .pointer (some ⟨g5, 0, none⟩)), (39, .int .i64 (i : Int)), (8, .int .i64 (i : Int)), (9, .int .i64 (full dF dG s i k)), (42, .int .i64 (k : Int))] ∧ M = (⟨g5, 27, tab 64 (dsel (bck s) i), 64⟩ :: ⟨g4, 27, tab 64 (fun j => half dF s j 8), 64⟩ :: ⟨g3, 38, tab 64 cA, 64⟩ :: ⟨g2, 27, tab 64 (fun _ => 0), 64⟩ :: ⟨g1, 27, tab 64 s, 64⟩ :: H)) 8 ?_ ?_
      · exact ⟨0, by omega, ⟨rfl, rfl, rfl, rfl, rfl, rfl, rfl, rfl, rfl, trivial⟩, rfl⟩
      clear base
      rintro m2 fr M ⟨k, hk, hf, rfl⟩
      obtain ⟨base, rfl⟩ := hf.out
      clear hf
      by_cases hlk : k < 8
      · have b1 := half_bd cdfF hs (show k * 8 + i % 8 < 64 by omega) (show 8 ≤ 8 by omega)
        have b2 := cdfG i k hlt hlk
        have b3 := full_bd cdfF cdfG hs hlt (show k ≤ 8 by omega)
        have b4 := full_bd cdfF cdfG hs hlt (show k + 1 ≤ 8 by omega)
        have b5 := mul_bd b1 b2
        have e1 : full dF dG s i k + half dF s (k * 8 + i % 8) 8 * dG i k = full dF dG s i (k + 1) := rfl
        have hv2 : (tab 64 cA)[k * 8 + i / 8]? = some (.int .i64 (dG i k)) := by rw [tab_get (by omega)]; rfl
        repeat (first | refine go_ ?_ | refine bx_ (fun _ => ?_))
        refine hc_draw (by kernel_rfl) (by kernel_rfl) ?_
        repeat (first | rw [show (k : Int) * 8 + (i : Int) % 8 = ((k * 8 + i % 8 : Nat) : Int) by omega] | rw [e1] | rw [show (i : Int) / 8 = ((i / 8 : Nat) : Int) by omega] | refine gd1_ ?_)
        repeat (first | refine go_ ?_ | refine bx_ (fun _ => ?_))
        exact ⟨m2 - 1, by omega, k + 1, by omega, ⟨rfl, rfl, rfl, rfl, rfl, rfl, rfl, rfl, rfl, trivial⟩, rfl⟩
      · obtain rfl : k = 8 := by omega
        have b3 := full_bd cdfF cdfG hs hlt (show 8 ≤ 8 by omega)
        have hset : (tab 64 (dsel (bck s) i)).set i (.int .i64 ((full dF dG s i 8 + 33554432) / 67108864)) = tab 64 (dsel (bck s) (i + 1)) := dsel_set (bck s) 64 i
        repeat (first | rw [hset] | refine go1_ ?_ | refine bx_ (fun _ => ?_) | refine hl_callv rfl rfl (near_fn _ (by omega)) ?_)
        exact ⟨m - 1, by omega, i + 1, by omega, ⟨rfl, rfl, rfl, rfl, rfl, rfl, trivial⟩, List.Perm.refl _⟩
    · obtain rfl : i = 64 := by omega
      rw [dsel_end]
      repeat (first | refine go_ ?_ | refine bx_ (fun _ => ?_))
      exact finC rfl rfl .here (length_tab _ _) ⟨rfl, rfl⟩
end
end Go.Proofs.Ytkolkcgckckeeaa
