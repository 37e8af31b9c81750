/-
  Maps of the plane: rounding, what is right, the back map, the product. No condition.
-/
import Derived.Test.YtbgdligfdfhbkaaTy
namespace Go.Proofs.Ytbgdligfdfhbkaa
open Go.RowKit

def mapV (m : Nat → Int) : Value := .agg (tab 6 m).toArray
def Rt (m : Nat → Int) : Prop := (∀ i, i < 4 → -16777216 ≤ m i ∧ m i ≤ 16777216) ∧ (∀ i, i < 6 → 4 ≤ i → -68719476736 ≤ m i ∧ m i ≤ 68719476736)
instance (m : Nat → Int) : Decidable (Rt m) := by unfold Rt; exact inferInstance
def Sm (m : Nat → Int) : Prop := ∀ i, i < 6 → -9223372036854775808 ≤ m i ∧ m i ≤ 9223372036854775807
def near16 (n : Int) : Int := (n + 32768) / 2 ^ 16
def rndZ (n d : Int) : Int := if d < 0 then (-2 * n - d) / (-2 * d) else (2 * n + d) / (2 * d)
section
variable {w0 : World} {B : Nat} {H : List Ent}
set_option maxHeartbeats 4000000 in
theorem right_fn (m : Nat → Int) (hs : Sm m) : Fn Try.prog w0 B 26 [mapV m] H (fun v H' => v = .bool (decide (Rt m)) ∧ H' = H) := by
  refine Fn.mono (R := fun v H' => ((v = .bool true ∧ Rt m) ∨ (v = .bool false ∧ ¬ Rt m)) ∧ H' = H) ?_ (fun v H' ⟨h, e⟩ => ⟨by rcases h with ⟨h, k⟩ | ⟨h, k⟩ <;> simp [h, k], e⟩)
  unfold mapV
  refine fn_intro Try.func26 rfl (by kernel_rfl) rfl ?_
  repeat (first | refine go_ ?_ | refine bx_ (fun _ => ?_))
  rename_i g
  refine hc_loop (fun z fr M => ∃ k, k + z = 6 ∧ Agr fr [(6, .agg (tab 6 m).toArray), (7, .int .i64 (k : Int))] ∧ M = ⟨g, 23, tab 6 m, 6⟩ :: H ∧ ∀ i, i < k → (i < 4 → -16777216 ≤ m i ∧ m i ≤ 16777216) ∧ (4 ≤ i → -68719476736 ≤ m i ∧ m i ≤ 68719476736)) 6 ?_ ?_
  · exact ⟨0, by omega, ⟨rfl, rfl, trivial⟩, rfl, fun i hi => by omega⟩
  rintro z fr M ⟨k, hk, hf, rfl, hall⟩
  obtain ⟨base, rfl⟩ := hf.out
  clear hf
  by_cases hlt : k < 6
  · have hb := hs k hlt
    have hnext : (k < 4 → -16777216 ≤ m k ∧ m k ≤ 16777216) → (4 ≤ k → -68719476736 ≤ m k ∧ m k ≤ 68719476736) → ∀ i, i < k + 1 → (i < 4 → -16777216 ≤ m i ∧ m i ≤ 16777216) ∧ (4 ≤ i → -68719476736 ≤ m i ∧ m i ≤ 68719476736) := fun h1 h2 i hi => by
      by_cases e : i = k
      · subst e; exact ⟨h1, h2⟩
      · exact hall i (by omega)
    by_cases h4 : 4 ≤ k
    · by_cases h1 : m k < -68719476736
      · repeat (first | refine go_ ?_ | refine bx_ (fun _ => ?_))
        exact fin1B rfl rfl ⟨.inr ⟨rfl, fun h => by have := h.2 k hlt h4; omega⟩, rfl⟩
      by_cases h2 : 68719476736 < m k
      · repeat (first | refine go_ ?_ | refine bx_ (fun _ => ?_))
        exact fin1B rfl rfl ⟨.inr ⟨rfl, fun h => by have := h.2 k hlt h4; omega⟩, rfl⟩
      repeat (first | refine go_ ?_ | refine bx_ (fun _ => ?_))
      exact ⟨z - 1, by omega, k + 1, by omega, ⟨rfl, rfl, trivial⟩, rfl, hnext (fun h => by omega) (fun h => by omega)⟩
    · by_cases h1 : m k < -16777216
      · repeat (first | refine go_ ?_ | refine bx_ (fun _ => ?_))
        exact fin1B rfl rfl ⟨.inr ⟨rfl, fun h => by have := h.1 k (by omega); omega⟩, rfl⟩
      by_cases h2 : 16777216 < m k
      · repeat (first | refine go_ ?_ | refine bx_ (fun _ => ?_))
        exact fin1B rfl rfl ⟨.inr ⟨rfl, fun h => by have := h.1 k (by omega); omega⟩, rfl⟩
      repeat (first | refine go_ ?_ | refine bx_ (fun _ => ?_))
      exact ⟨z - 1, by omega, k + 1, by omega, ⟨rfl, rfl, trivial⟩, rfl, hnext (fun h => by omega) (fun h => by omega)⟩
  · repeat (first | refine go_ ?_ | refine bx_ (fun _ => ?_))
    exact fin1B rfl rfl ⟨.inl ⟨rfl, fun i hi => (hall i (by omega)).1 hi, fun i hi h => (hall i (by omega)).2 h⟩, rfl⟩
set_option maxHeartbeats 4000000 in
theorem rright_fn (m : Nat → Int) (hs : Sm m) : Fn Try.prog w0 B 27 [mapV m] H (fun v H' => v = .bool (decide (Rt m)) ∧ H' = H) := by
  refine Fn.mono (R := fun v H' => ((v = .bool true ∧ Rt m) ∨ (v = .bool false ∧ ¬ Rt m)) ∧ H' = H) ?_ (fun v H' ⟨h, e⟩ => ⟨by rcases h with ⟨h, k⟩ | ⟨h, k⟩ <;> simp [h, k], e⟩)
  unfold mapV
  refine fn_intro Try.func27 rfl (by kernel_rfl) rfl ?_
  repeat (first | refine go_ ?_ | refine bx_ (fun _ => ?_))
  rename_i g
  refine hc_loop (fun z fr M => ∃ k, k + z = 4 ∧ Agr fr [(1, .pointer (some ⟨g, 0, none⟩)), (3, .int .i64 (k : Int))] ∧ M = ⟨g, 28, tab 6 m, 6⟩ :: H ∧ ∀ i, i < k → -16777216 ≤ m i ∧ m i ≤ 16777216) 4 ?_ ?_
  · exact ⟨0, by omega, ⟨rfl, rfl, trivial⟩, rfl, fun i hi => by omega⟩
  rintro z fr M ⟨k, hk, hf, rfl, hall⟩
  obtain ⟨base, rfl⟩ := hf.out
  clear hf
  by_cases hlt : k < 4
  · by_cases h1 : m k < -16777216
    · repeat (first | refine go_ ?_ | refine bx_ (fun _ => ?_))
      exact fin1B rfl rfl ⟨.inr ⟨rfl, fun h => by have := h.1 k (by omega); omega⟩, rfl⟩
    by_cases h2 : 16777216 < m k
    · repeat (first | refine go_ ?_ | refine bx_ (fun _ => ?_))
      exact fin1B rfl rfl ⟨.inr ⟨rfl, fun h => by have := h.1 k (by omega); omega⟩, rfl⟩
    repeat (first | refine go_ ?_ | refine bx_ (fun _ => ?_))
    refine ⟨z - 1, by omega, k + 1, by omega, ⟨rfl, rfl, trivial⟩, rfl, fun i hi => ?_⟩
    by_cases e : i = k
    · subst e; omega
    · exact hall i (by omega)
  obtain rfl : k = 4 := by omega
  clear hlt hk
  repeat (first | refine go_ ?_ | refine bx_ (fun _ => ?_))
  refine hc_loop (fun z fr M => ∃ k, k + z = 6 ∧ 4 ≤ k ∧ Agr fr [(1, .pointer (some ⟨g, 0, none⟩)), (4, .int .i64 (k : Int))] ∧ M = ⟨g, 28, tab 6 m, 6⟩ :: H ∧ ∀ i, i < k → 4 ≤ i → -68719476736 ≤ m i ∧ m i ≤ 68719476736) 2 ?_ ?_
  · exact ⟨4, by omega, by omega, ⟨rfl, rfl, trivial⟩, rfl, fun i hi => by omega⟩
  clear base
  rintro z fr M ⟨k, hk, h4, hf, rfl, hall2⟩
  obtain ⟨base, rfl⟩ := hf.out
  clear hf
  by_cases hlt : k < 6
  · by_cases h1 : m k < -68719476736
    · repeat (first | refine go_ ?_ | refine bx_ (fun _ => ?_))
      exact fin1B rfl rfl ⟨.inr ⟨rfl, fun h => by have := h.2 k hlt h4; omega⟩, rfl⟩
    by_cases h2 : 68719476736 < m k
    · repeat (first | refine go_ ?_ | refine bx_ (fun _ => ?_))
      exact fin1B rfl rfl ⟨.inr ⟨rfl, fun h => by have := h.2 k hlt h4; omega⟩, rfl⟩
    repeat (first | refine go_ ?_ | refine bx_ (fun _ => ?_))
    refine ⟨z - 1, by omega, k + 1, by omega, by omega, ⟨rfl, rfl, trivial⟩, rfl, fun i hi hi2 => ?_⟩
    by_cases e : i = k
    · subst e; omega
    · exact hall2 i (by omega) hi2
  · repeat (first | refine go_ ?_ | refine bx_ (fun _ => ?_))
    exact fin1B rfl rfl ⟨.inl ⟨rfl, hall, fun i hi h => hall2 i (by omega) h⟩, rfl⟩
theorem tdiv_floor (n m : Int) (hm : 0 < m) : n.tdiv m = if 0 ≤ n ∨ n % m = 0 then n / m else n / m + 1 := by
  rw [Int.tdiv_eq_ediv]
  have hd : m ∣ n ↔ n % m = 0 := Int.dvd_iff_emod_eq_zero ..
  simp only [hd]
  have hs : m.sign = 1 := Int.sign_eq_one_of_pos hm
  rw [hs]
  split <;> omega
theorem tmod_zero (n m : Int) : n.tmod m = 0 ↔ n % m = 0 := by rw [← Int.dvd_iff_emod_eq_zero, Int.dvd_iff_tmod_eq_zero]
def Big (n : Int) : Prop := -4611686018427387904 ≤ n ∧ n ≤ 4611686018427387904
theorem ediv_big {n m : Int} (hn : Big n) (hm : 0 < m) : Big (n / m) := by
  unfold Big at *
  constructor
  · rw [Int.le_ediv_iff_mul_le hm]
    have : (-4611686018427387904 : Int) * m ≤ -4611686018427387904 * 1 := Int.mul_le_mul_of_nonpos_left (by omega) (by omega)
    omega
  · refine Int.ediv_le_of_le_mul hm ?_
    have : (4611686018427387904 : Int) * 1 ≤ 4611686018427387904 * m := Int.mul_le_mul_of_nonneg_left (by omega) (by omega)
    omega
theorem floor_fn (n m : Int) (hn : Big n) (hm : 0 < m ∧ m ≤ 1152921504606846976) : Fn Try.prog w0 B 40 [.int .i64 n, .int .i64 m] H (fun v H' => v = .int .i64 (n / m) ∧ H' = H) := by
  refine fn_intro Try.func40 rfl (by kernel_rfl) rfl ?_
  have ht := tdiv_floor n m hm.1
  have hz := tmod_zero n m
  have hb := ediv_big hn hm.1
  unfold Big at hn hb
  by_cases h0 : 0 ≤ n
  · by_cases h1 : n % m = 0
    · repeat (first | refine go_ ?_ | refine bx_ (fun _ => ?_))
      exact fin1I rfl rfl ⟨rfl, rfl⟩
    · repeat (first | refine go_ ?_ | refine bx_ (fun _ => ?_))
      exact fin1I rfl rfl ⟨rfl, rfl⟩
  · by_cases h1 : n % m = 0
    · rw [if_pos (.inr h1)] at ht
      have h2 := hz.2 h1
      have hw : IntKind.i64.wrap (n / m) = n / m := IntWalk.i64_in _ (by omega)
      repeat (first | rw [ht, hw] | rw [h2] | refine go1_ ?_ | refine bx_ (fun _ => ?_))
      exact fin1I rfl rfl ⟨rfl, rfl⟩
    · rw [if_neg (by omega)] at ht
      have h2 : ¬ n.tmod m = 0 := fun h => h1 (hz.1 h)
      have hw : IntKind.i64.wrap (n / m + 1) = n / m + 1 := IntWalk.i64_in _ (by omega)
      repeat (first | rw [ht, hw] | refine go1_ ?_ | refine bx_ (fun _ => ?_))
      exact fin1I rfl rfl ⟨by rw [show n / m + 1 - 1 = n / m by omega], rfl⟩
theorem down_fn (n m : Int) (hn : Big n) (hm : 0 < m ∧ m ≤ 1152921504606846976) : Fn Try.prog w0 B 29 [.int .i64 n, .int .i64 m] H (fun v H' => v = .int .i64 (n / m) ∧ H' = H) := by
  refine fn_intro Try.func29 rfl (by kernel_rfl) rfl ?_
  have h1 := Int.emod_nonneg n (show m ≠ 0 by omega)
  have h2 := Int.emod_lt_of_pos n hm.1
  have h3 := Int.mul_ediv_add_emod n m
  have hb := ediv_big hn hm.1
  unfold Big at hn hb
  have ht : n.tmod m = if 0 ≤ n ∨ n % m = 0 then n % m else n % m - m := by
    rw [Int.tmod_eq_emod]
    have hd : m ∣ n ↔ n % m = 0 := Int.dvd_iff_emod_eq_zero ..
    simp only [hd]
    split <;> omega
  have hq : n - n % m = m * (n / m) := by omega
  have htd : (n - n % m).tdiv m = n / m := by rw [hq, Int.mul_tdiv_cancel_left _ (by omega)]
  have hw : IntKind.i64.wrap (n / m) = n / m := IntWalk.i64_in _ (by omega)
  have hde : (n - n % m) / m = n / m := by rw [hq, Int.mul_ediv_cancel_left _ (by omega)]
  by_cases hc : 0 ≤ n ∨ n % m = 0
  · rw [if_pos hc] at ht
    repeat (first | rw [ht] | rw [htd, hw] | rw [hde] | refine go1_ ?_ | refine bx_ (fun _ => ?_))
    exact fin1I rfl rfl ⟨rfl, rfl⟩
  · rw [if_neg hc] at ht
    repeat (first | rw [ht] | rw [htd, hw] | rw [hde] | rw [show n % m - m + m = n % m by omega] | refine go1_ ?_ | refine bx_ (fun _ => ?_))
    exact fin1I rfl rfl ⟨rfl, rfl⟩
def Mid (n : Int) : Prop := -144115188075855872 ≤ n ∧ n ≤ 144115188075855872
theorem round_fn (n d : Int) (hn : Mid n) (hd : Mid d) (h0 : d ≠ 0) : Fn Try.prog w0 B 30 [.int .i64 n, .int .i64 d] H (fun v H' => v = .int .i64 (rndZ n d) ∧ H' = H) := by
  refine fn_intro Try.func30 rfl (by kernel_rfl) rfl ?_
  unfold Mid at hn hd
  by_cases h1 : d < 0
  · repeat (first | refine go_ ?_ | refine bx_ (fun _ => ?_) | refine hl_callv rfl rfl (floor_fn _ _ (by unfold Big; omega) (by omega)) ?_)
    exact fin1I rfl rfl ⟨by unfold rndZ; rw [if_pos h1, show -2 * n - d = 2 * -n + -d by omega, show -2 * d = 2 * -d by omega], rfl⟩
  · repeat (first | refine go_ ?_ | refine bx_ (fun _ => ?_) | refine hl_callv rfl rfl (floor_fn _ _ (by unfold Big; omega) (by omega)) ?_)
    exact fin1I rfl rfl ⟨by unfold rndZ; rw [if_neg h1], rfl⟩
theorem rround_fn (n d : Int) (hn : Mid n) (hd : Mid d) (h0 : d ≠ 0) : Fn Try.prog w0 B 32 [.int .i64 n, .int .i64 d] H (fun v H' => v = .int .i64 (rndZ n d) ∧ H' = H) := by
  refine fn_intro Try.func32 rfl (by kernel_rfl) rfl ?_
  unfold Mid at hn hd
  by_cases h1 : d < 0
  · repeat (first | refine go_ ?_ | refine bx_ (fun _ => ?_) | refine hl_callv rfl rfl (down_fn _ _ (by unfold Big; omega) (by omega)) ?_)
    exact fin1I rfl rfl ⟨by unfold rndZ; rw [if_pos h1], rfl⟩
  · repeat (first | refine go_ ?_ | refine bx_ (fun _ => ?_) | refine hl_callv rfl rfl (down_fn _ _ (by unfold Big; omega) (by omega)) ?_)
    exact fin1I rfl rfl ⟨by unfold rndZ; rw [if_neg h1], rfl⟩
def Near (n : Int) : Prop := -2323857407723175936 ≤ n ∧ n ≤ 2323857407723175936
theorem near_fn (n : Int) (hn : Near n) : Fn Try.prog w0 B 31 [.int .i64 n] H (fun v H' => v = .int .i64 (near16 n) ∧ H' = H) := by
  refine fn_intro Try.func31 rfl (by kernel_rfl) rfl ?_
  unfold Near at hn
  repeat (first | refine go_ ?_ | refine bx_ (fun _ => ?_))
  exact fin1I rfl rfl ⟨rfl, rfl⟩
theorem rnear_fn (n : Int) (hn : Near n) : Fn Try.prog w0 B 33 [.int .i64 n] H (fun v H' => v = .int .i64 (near16 n) ∧ H' = H) := by
  refine fn_intro Try.func33 rfl (by kernel_rfl) rfl ?_
  unfold Near at hn
  repeat (first | refine go_ ?_ | refine bx_ (fun _ => ?_) | refine hl_callv rfl rfl (down_fn _ _ (by unfold Big; omega) (by omega)) ?_)
  exact fin1I rfl rfl ⟨rfl, rfl⟩
theorem rightY (m : Nat → Int) (hs : Sm m) (h : Rt m) : Fn Try.prog w0 B 26 [mapV m] H (fun v H' => v = .bool true ∧ H' = H) := by
  have := right_fn (w0 := w0) (B := B) (H := H) m hs
  rwa [decide_eq_true h] at this
theorem rightN (m : Nat → Int) (hs : Sm m) (h : ¬ Rt m) : Fn Try.prog w0 B 26 [mapV m] H (fun v H' => v = .bool false ∧ H' = H) := by
  have := right_fn (w0 := w0) (B := B) (H := H) m hs
  rwa [decide_eq_false h] at this
theorem rrightY (m : Nat → Int) (hs : Sm m) (h : Rt m) : Fn Try.prog w0 B 27 [mapV m] H (fun v H' => v = .bool true ∧ H' = H) := by
  have := rright_fn (w0 := w0) (B := B) (H := H) m hs
  rwa [decide_eq_true h] at this
theorem rrightN (m : Nat → Int) (hs : Sm m) (h : ¬ Rt m) : Fn Try.prog w0 B 27 [mapV m] H (fun v H' => v = .bool false ∧ H' = H) := by
  have := rright_fn (w0 := w0) (B := B) (H := H) m hs
  rwa [decide_eq_false h] at this
end
end Go.Proofs.Ytbgdligfdfhbkaa
