/-
  Blocks as waves: the tables of the numbers C, rounding. No condition.
-/
import Derived.Test.YtkolkcgckckeeaaD1
namespace Go.Proofs.Ytkolkcgckckeeaa
open Go.RowKit
section
variable {w0 : World} {B : Nat} {H : List Ent}
theorem row_fn (u : Nat) (a : Int) (ha : a = u) (hu : u < 8) : Fn Try.prog w0 B 31 [.int .i64 a] H (fun v H' => v = .agg (tab 8 (fun x => cz u x)).toArray ∧ H' = H) := by
  subst ha
  refine fn_intro Try.func31 rfl (by kernel_rfl) rfl ?_
  repeat (first | refine go_ ?_ | refine bx_ (fun _ => ?_))
  rename_i g
  refine hc_loop (fun m fr M => ∃ k, k + m = 8 ∧ Agr fr [(0, .int .i64 (u : Int)), (2, .pointer (some ⟨g, 0, none⟩)), (4, .int .i64 (k : Int))] ∧ M = ⟨g, 37, tab 8 (fun x => if x < k then cz u x else 0), 8⟩ :: H) 8 ?_ ?_
  · exact ⟨0, by omega, ⟨rfl, rfl, rfl, trivial⟩, rfl⟩
  rintro m fr M ⟨k, hk, hf, rfl⟩
  obtain ⟨base, rfl⟩ := hf.out
  by_cases hlt : k < 8
  · have hset : (tab 8 (fun x => if x < k then cz u x else 0)).set k (.int .i64 (cz u k)) = tab 8 (fun x => if x < k + 1 then cz u x else 0) := tab_set fun j hj => by
      by_cases e : j = k
      · subst e; simp
      · rw [if_neg e]; by_cases h : j < k
        · rw [if_pos h, if_pos (by omega)]
        · rw [if_neg h, if_neg (by omega)]
    by_cases h0 : u = 0
    · subst h0
      have hset : (tab 8 (fun x => if x < k then cz 0 x else 0)).set k (.int .i64 2896) = tab 8 (fun x => if x < k + 1 then cz 0 x else 0) := hset
      repeat (first | rw [hset] | refine go1_ ?_ | refine bx_ (fun _ => ?_))
      exact ⟨m - 1, by omega, k + 1, by omega, ⟨rfl, rfl, rfl, trivial⟩, rfl⟩
    · have hbd : (2 * k + 1) * u ≤ 15 * 7 := Nat.mul_le_mul (by omega) (by omega)
      have hk1 : (2 * (k : Int) + 1) * (u : Int) = (((2 * k + 1) * u : Nat) : Int) := by simp
      have hcz : cz u k = cw ((2 * k + 1) * u) := by unfold cz; rw [if_neg h0]
      generalize (2 * k + 1) * u = p at *
      rw [hcz] at hset
      repeat (first | rw [hset] | refine go1_ ?_ | refine bx_ (fun _ => ?_) | refine hl_callv rfl rfl (wave_fn p _ hk1 (by omega)) ?_)
      exact ⟨m - 1, by omega, k + 1, by omega, ⟨rfl, rfl, rfl, trivial⟩, rfl⟩
  · obtain rfl : k = 8 := by omega
    repeat (first | refine go_ ?_ | refine bx_ (fun _ => ?_))
    exact finC rfl rfl .here (length_tab _ _) ⟨by rfl, rfl⟩
/-- All C, one row behind the other. -/
def cA (j : Nat) : Int := cz (j / 8) (j % 8)
theorem rows_fn : Fn Try.prog w0 B 26 [] H (fun v H' => v = .agg (tab 64 cA).toArray ∧ H' = H) := by
  refine fn_intro Try.func26 rfl (by kernel_rfl) rfl ?_
  repeat (first | refine go_ ?_ | refine bx_ (fun _ => ?_))
  rename_i g
  refine hc_loop (fun m fr M => ∃ k, k + m = 8 ∧ Agr fr [(0, .pointer (some ⟨g, 0, none⟩)), (2, .int .i64 (k : Int))] ∧ M = ⟨g, 38, tab 64 (fun j => if j < 8 * k then cA j else 0), 64⟩ :: H) 8 ?_ ?_
  · exact ⟨0, by omega, ⟨rfl, rfl, trivial⟩, rfl⟩
  rintro m fr M ⟨k, hk, hf, rfl⟩
  obtain ⟨base, rfl⟩ := hf.out
  by_cases hlt : k < 8
  · repeat (first | refine go_ ?_ | refine bx_ (fun _ => ?_) | refine hl_callv rfl rfl (row_fn k _ rfl hlt) ?_)
    refine hl_storeN (n := 8) (vs := tab 8 fun x => cz k x) rfl rfl (length_tab _ _) tab_one .here (by rw [length_tab]; omega) rfl ?_
    rw [tab_splice (n := 64) (h := fun j => if j < 8 * (k + 1) then cA j else 0) (by omega) (fun j hj => by
      by_cases h1 : k * 8 ≤ j ∧ j < k * 8 + 8
      · rw [if_pos h1, if_pos (by omega)]; unfold cA; congr 1 <;> omega
      · rw [if_neg h1]
        by_cases h2 : j < 8 * k
        · rw [if_pos h2, if_pos (by omega)]
        · rw [if_neg h2, if_neg (by omega)])]
    repeat (first | refine go_ ?_ | refine bx_ (fun _ => ?_))
    exact ⟨m - 1, by omega, k + 1, by omega, ⟨rfl, rfl, trivial⟩, rfl⟩
  · obtain rfl : k = 8 := by omega
    rw [show (tab 64 (fun j => if j < 8 * 8 then cA j else 0)) = tab 64 cA from tab_congr fun j hj => if_pos (by omega)]
    repeat (first | refine go_ ?_ | refine bx_ (fun _ => ?_))
    exact finC rfl rfl .here (length_tab _ _) ⟨by rfl, rfl⟩
theorem All_fn : Fn Try.prog w0 B 28 [] H (fun v H' => v = .agg (tab 64 cA).toArray ∧ H' = H) := by
  refine fn_intro Try.func28 rfl (by kernel_rfl) rfl ?_
  repeat (first | refine go_ ?_ | refine bx_ (fun _ => ?_))
  rename_i g0 g
  refine hc_loop (fun m fr M => ∃ k, k + m = 8 ∧ Agr fr [(0, .pointer (some ⟨g0, 0, none⟩)), (1, .pointer (some ⟨g, 0, none⟩)), (2, .int .i64 (k : Int))] ∧ M = ⟨g, 27, tab 64 (fun j => if j < 8 * k then cA j else 0), 64⟩ :: ⟨g0, 27, tab 64 (fun _ => 0), 64⟩ :: H) 8 ?_ ?_
  · exact ⟨0, by omega, ⟨rfl, rfl, rfl, trivial⟩, rfl⟩
  rintro m fr M ⟨k, hk, hf, rfl⟩
  obtain ⟨base, rfl⟩ := hf.out
  by_cases hlt : k < 8
  · repeat (first | refine go_ ?_ | refine bx_ (fun _ => ?_))
    refine hc_loop (fun m fr M => ∃ i, i + m = 8 ∧ Agr fr [(0, .pointer (some ⟨g0, 0, none⟩)), (1, .pointer (some ⟨g, 0, none⟩)), (2, .int .i64 (k : Int)), (3, .int .i64 (i : Int))] ∧ M = ⟨g, 27, tab 64 (fun j => if j < 8 * k + i then cA j else 0), 64⟩ :: ⟨g0, 27, tab 64 (fun _ => 0), 64⟩ :: H) 8 ?_ ?_
    · exact ⟨0, by omega, ⟨rfl, rfl, rfl, rfl, trivial⟩, rfl⟩
    clear hf base
    rintro m2 fr M ⟨i, hi, hf, rfl⟩
    obtain ⟨base, rfl⟩ := hf.out
    by_cases hil : i < 8
    · have hset : (tab 64 (fun j => if j < 8 * k + i then cA j else 0)).set (8 * k + i) (.int .i64 (cz k i)) = tab 64 (fun j => if j < 8 * k + (i + 1) then cA j else 0) := tab_set fun j hj => by
        by_cases e : j = 8 * k + i
        · rw [if_pos e, if_pos (by omega)]; unfold cA; congr 1 <;> omega
        · rw [if_neg e]; by_cases h : j < 8 * k + i
          · rw [if_pos h, if_pos (by omega)]
          · rw [if_neg h, if_neg (by omega)]
      repeat (first | rw [hset] | rw [show (8 : Int) * (k : Int) + (i : Int) = ((8 * k + i : Nat) : Int) by omega] | refine go1_ ?_ | refine bx_ (fun _ => ?_) | refine hl_callv rfl rfl (C_fn k i _ _ rfl rfl hlt hil) ?_)
      exact ⟨m2 - 1, by omega, i + 1, by omega, ⟨rfl, rfl, rfl, rfl, trivial⟩, rfl⟩
    · obtain rfl : i = 8 := by omega
      repeat (first | refine go_ ?_ | refine bx_ (fun _ => ?_))
      exact ⟨m - 1, by omega, k + 1, by omega, ⟨rfl, rfl, rfl, trivial⟩, rfl⟩
  · obtain rfl : k = 8 := by omega
    rw [show (tab 64 (fun j => if j < 8 * 8 then cA j else 0)) = tab 64 cA from tab_congr fun j hj => if_pos (by omega)]
    repeat (first | refine go_ ?_ | refine bx_ (fun _ => ?_))
    exact finC rfl rfl .here (length_tab _ _) ⟨by rfl, rfl⟩
theorem down_fn (n m : Int) (hn : -4611686018427387904 ≤ n ∧ n ≤ 4611686018427387904) (hm : 0 < m ∧ m ≤ 4611686018427387904) : Fn Try.prog w0 B 29 [.int .i64 n, .int .i64 m] H (fun v H' => v = .int .i64 (n / m) ∧ H' = H) := by
  refine fn_intro Try.func29 rfl (by kernel_rfl) rfl ?_
  have h1 := Int.emod_nonneg n (show m ≠ 0 by omega)
  have h2 := Int.emod_lt_of_pos n hm.1
  have h3 := Int.mul_ediv_add_emod n m
  have ht : n.tmod m = if 0 ≤ n ∨ n % m = 0 then n % m else n % m - m := by
    rw [Int.tmod_eq_emod]
    have hd : m ∣ n ↔ n % m = 0 := Int.dvd_iff_emod_eq_zero ..
    simp only [hd]
    split <;> omega
  have hq : n - n % m = m * (n / m) := by omega
  have htd : (n - n % m).tdiv m = n / m := by rw [hq, Int.mul_tdiv_cancel_left _ (by omega)]
  have hw : IntKind.i64.wrap (n / m) = n / m := by
    refine IntWalk.i64_in _ ?_
    have ha : -4611686018427387904 ≤ n / m := by
      rw [Int.le_ediv_iff_mul_le hm.1]
      have : (-4611686018427387904 : Int) * m ≤ -4611686018427387904 * 1 := Int.mul_le_mul_of_nonpos_left (by omega) (by omega)
      omega
    have hb : n / m ≤ 4611686018427387904 := by
      refine Int.ediv_le_of_le_mul hm.1 ?_
      have : (4611686018427387904 : Int) * 1 ≤ 4611686018427387904 * m := Int.mul_le_mul_of_nonneg_left (by omega) (by omega)
      omega
    omega
  have hde : (n - n % m) / m = n / m := by rw [hq, Int.mul_ediv_cancel_left _ (by omega)]
  by_cases hc : 0 ≤ n ∨ n % m = 0
  · rw [if_pos hc] at ht
    repeat (first | rw [ht] | rw [htd, hw] | rw [hde] | refine go1_ ?_ | refine bx_ (fun _ => ?_))
    exact fin1I rfl rfl ⟨rfl, rfl⟩
  · rw [if_neg hc] at ht
    repeat (first | rw [ht] | rw [htd, hw] | rw [hde] | rw [show n % m - m + m = n % m by omega] | refine go1_ ?_ | refine bx_ (fun _ => ?_))
    exact fin1I rfl rfl ⟨rfl, rfl⟩
theorem near_fn (n : Int) (hn : -4611686018427387904 ≤ n ∧ n ≤ 4611686018427387904) : Fn Try.prog w0 B 27 [.int .i64 n] H (fun v H' => v = .int .i64 ((n + 33554432) / 67108864) ∧ H' = H) := by
  refine fn_intro Try.func27 rfl (by kernel_rfl) rfl ?_
  repeat (first | refine go_ ?_ | refine bx_ (fun _ => ?_))
  exact fin1I rfl rfl ⟨rfl, rfl⟩
end
end Go.Proofs.Ytkolkcgckckeeaa
