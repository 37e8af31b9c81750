/-
  The plain part of blocks as waves: sums, tables, the numbers C. No condition.
-/
import Derived.Test.YtkolkcgckckeeaaTy
namespace Go.Proofs.Ytkolkcgckckeeaa
open Go.RowKit

/-! Sums -/
def sumZ (f : Nat → Int) : Nat → Int
  | 0 => 0
  | n + 1 => sumZ f n + f n
theorem sumZ_congr {f g : Nat → Int} : ∀ (n : Nat), (∀ k, k < n → f k = g k) → sumZ f n = sumZ g n
  | 0, _ => rfl
  | n + 1, h => by rw [sumZ, sumZ, sumZ_congr n (fun k hk => h k (by omega)), h n (by omega)]
theorem sumZ_bd {f : Nat → Int} {M : Int} (hM : 0 ≤ M) : ∀ (n : Nat), (∀ k, k < n → -M ≤ f k ∧ f k ≤ M) → -((n : Int) * M) ≤ sumZ f n ∧ sumZ f n ≤ (n : Int) * M
  | 0, _ => by simp [sumZ]
  | n + 1, h => by
    have h1 := sumZ_bd hM n (fun k hk => h k (by omega))
    have h2 := h n (by omega)
    have e : ((n + 1 : Nat) : Int) * M = (n : Int) * M + M := by rw [Int.natCast_add, Int.add_mul]; simp
    rw [e, sumZ]
    omega
theorem sumZ_add (f g : Nat → Int) : ∀ n, sumZ (fun k => f k + g k) n = sumZ f n + sumZ g n
  | 0 => rfl
  | n + 1 => by rw [sumZ, sumZ, sumZ, sumZ_add f g n]; omega
theorem sumZ_mul (c : Int) (f : Nat → Int) : ∀ n, sumZ (fun k => c * f k) n = c * sumZ f n
  | 0 => by simp [sumZ]
  | n + 1 => by rw [sumZ, sumZ, sumZ_mul c f n, Int.mul_add]
theorem sumZ_mulr (c : Int) (f : Nat → Int) (n : Nat) : sumZ (fun k => f k * c) n = sumZ f n * c := by
  rw [Int.mul_comm, ← sumZ_mul]; exact sumZ_congr n fun k _ => Int.mul_comm _ _
theorem sumZ_zero : ∀ n, sumZ (fun _ => 0) n = 0
  | 0 => rfl
  | n + 1 => by rw [sumZ, sumZ_zero n]; rfl
theorem sumZ_comm (f : Nat → Nat → Int) (m : Nat) : ∀ n, sumZ (fun i => sumZ (fun j => f i j) m) n = sumZ (fun j => sumZ (fun i => f i j) n) m
  | 0 => by simp [sumZ, sumZ_zero]
  | n + 1 => by
    rw [sumZ, sumZ_comm f m n, ← sumZ_add]
    rfl
/-- Of rows: one sum. -/
theorem sumZ_split (f : Nat → Int) (m : Nat) : ∀ n, sumZ f (n * m) = sumZ (fun y => sumZ (fun x => f (y * m + x)) m) n
  | 0 => by simp [sumZ]
  | n + 1 => by
    have h : ∀ a b, sumZ f (a + b) = sumZ f a + sumZ (fun x => f (a + x)) b := by
      intro a b
      induction b with
      | zero => simp [sumZ]
      | succ b ih => rw [← Nat.add_assoc, sumZ, ih, sumZ]; omega
    rw [Nat.succ_mul, h, sumZ_split f m n, sumZ]

/-! The numbers C -/
def tbl (k : Nat) : Int := [4096, 4017, 3784, 3406, 2896, 2276, 1567, 799, 0].getD k 0
def cw (k : Nat) : Int :=
  let m := k % 32
  if m ≤ 8 then tbl m else if m ≤ 16 then -tbl (16 - m) else if 32 - m ≤ 8 then tbl (32 - m) else -tbl (16 - (32 - m))
def cz (u x : Nat) : Int := if u = 0 then 2896 else cw ((2 * x + 1) * u)
theorem cz_bd {u x : Nat} (hu : u < 8) (hx : x < 8) : -2896 - 1200 ≤ cz u x ∧ cz u x ≤ 4096 := by
  have h : ∀ (u x : Fin 8), -4096 ≤ cz u.val x.val ∧ cz u.val x.val ≤ 4096 := by decide
  exact h ⟨u, hu⟩ ⟨x, hx⟩

section
variable {w0 : World} {B : Nat} {H : List Ent}
def nineL : List Value := [.int .i64 4096, .int .i64 4017, .int .i64 3784, .int .i64 3406, .int .i64 2896, .int .i64 2276, .int .i64 1567, .int .i64 799, .int .i64 0]
theorem nine_get {m : Nat} (h : m ≤ 8) : nineL[m]? = some (.int .i64 (tbl m)) := by
  match m, h with
  | 0, _ | 1, _ | 2, _ | 3, _ | 4, _ | 5, _ | 6, _ | 7, _ | 8, _ => rfl
theorem wave8 (m : Nat) (n : Int) (hn : n = m) (hm : m ≤ 8) : Fn Try.prog w0 B 33 [.int .i64 n] H (fun v H' => v = .int .i64 (tbl m) ∧ H' = H) := by
  subst hn
  refine fn_intro Try.func33 rfl (by kernel_rfl) rfl ?_
  have e : (m : Int) % 32 = (m : Int) := by omega
  repeat (first | rw [e] | refine go1_ ?_ | refine bx_ (fun _ => ?_))
  refine hl_index (v := .int .i64 (tbl m)) (m := m) rfl rfl rfl (by omega) (nine_get hm) rfl ?_
  repeat (first | refine go_ ?_ | refine bx_ (fun _ => ?_))
  exact fin1I rfl rfl ⟨rfl, rfl⟩
theorem wave16 (m : Nat) (n : Int) (hn : n = m) (hm : m ≤ 16) : Fn Try.prog w0 B 33 [.int .i64 n] H (fun v H' => v = .int .i64 (if m ≤ 8 then tbl m else -tbl (16 - m)) ∧ H' = H) := by
  by_cases h8 : m ≤ 8
  · rw [if_pos h8]; exact wave8 m n hn h8
  rw [if_neg h8]
  subst hn
  refine fn_intro Try.func33 rfl (by kernel_rfl) rfl ?_
  have e : (m : Int) % 32 = (m : Int) := by omega
  have hb : ∀ k ≤ 8, 0 ≤ tbl k ∧ tbl k ≤ 4096 := by decide
  have := hb (16 - m) (by omega)
  repeat (first | rw [e] | refine go1_ ?_ | refine bx_ (fun _ => ?_) | refine hl_callv rfl rfl (wave8 (16 - m) _ (by omega) (by omega)) ?_)
  exact fin1I rfl rfl ⟨rfl, rfl⟩
theorem wave_fn (k : Nat) (n : Int) (hn : n = k) (hk : k ≤ 100000) : Fn Try.prog w0 B 33 [.int .i64 n] H (fun v H' => v = .int .i64 (cw k) ∧ H' = H) := by
  subst hn
  obtain ⟨m, hm⟩ : ∃ m, m = k % 32 := ⟨_, rfl⟩
  have e : (k : Int) % 32 = (m : Int) := by omega
  have hcw : cw k = if m ≤ 8 then tbl m else if m ≤ 16 then -tbl (16 - m) else if 32 - m ≤ 8 then tbl (32 - m) else -tbl (16 - (32 - m)) := by unfold cw; rw [← hm]
  have hb : ∀ k ≤ 8, 0 ≤ tbl k ∧ tbl k ≤ 4096 := by decide
  have hm32 : m < 32 := by omega
  refine fn_intro Try.func33 rfl (by kernel_rfl) rfl ?_
  by_cases h8 : m ≤ 8
  · repeat (first | rw [e] | refine go1_ ?_ | refine bx_ (fun _ => ?_))
    refine hl_index (v := .int .i64 (tbl m)) (m := m) rfl rfl rfl (by omega) (nine_get h8) rfl ?_
    repeat (first | refine go_ ?_ | refine bx_ (fun _ => ?_))
    exact fin1I rfl rfl ⟨by rw [hcw, if_pos h8], rfl⟩
  by_cases h16 : m ≤ 16
  · have := hb (16 - m) (by omega)
    repeat (first | rw [e] | refine go1_ ?_ | refine bx_ (fun _ => ?_) | refine hl_callv rfl rfl (wave8 (16 - m) _ (by omega) (by omega)) ?_)
    exact fin1I rfl rfl ⟨by rw [hcw, if_neg h8, if_pos h16], rfl⟩
  · repeat (first | rw [e] | refine go1_ ?_ | refine bx_ (fun _ => ?_) | refine hl_callv rfl rfl (wave16 (32 - m) _ (by omega) (by omega)) ?_)
    exact fin1I rfl rfl ⟨by rw [hcw, if_neg h8, if_neg h16], rfl⟩
theorem C_fn (u x : Nat) (a b : Int) (ha : a = u) (hb : b = x) (hu : u < 8) (hx : x < 8) : Fn Try.prog w0 B 32 [.int .i64 a, .int .i64 b] H (fun v H' => v = .int .i64 (cz u x) ∧ H' = H) := by
  subst ha hb
  refine fn_intro Try.func32 rfl (by kernel_rfl) rfl ?_
  by_cases h0 : u = 0
  · repeat (first | refine go_ ?_ | refine bx_ (fun _ => ?_))
    exact fin1I rfl rfl ⟨by unfold cz; rw [if_pos h0], rfl⟩
  have hbd : (2 * x + 1) * u ≤ 15 * 7 := Nat.mul_le_mul (by omega) (by omega)
  obtain ⟨k, hk⟩ : ∃ k, k = (2 * x + 1) * u := ⟨_, rfl⟩
  have hk1 : (2 * (x : Int) + 1) * (u : Int) = (k : Int) := by rw [hk]; simp
  rw [← hk] at hbd
  obtain ⟨m, hm⟩ : ∃ m, m = k % 32 := ⟨_, rfl⟩
  have e : (k : Int) % 32 = (m : Int) := by omega
  have hcw : cz u x = if m ≤ 8 then tbl m else if m ≤ 16 then -tbl (16 - m) else if 32 - m ≤ 8 then tbl (32 - m) else -tbl (16 - (32 - m)) := by unfold cz cw; rw [if_neg h0, ← hk, ← hm]
  have hb : ∀ k ≤ 8, 0 ≤ tbl k ∧ tbl k ≤ 4096 := by decide
  have hm32 : m < 32 := by omega
  have hkk : (2 * (x : Int) + 1) * (u : Int) ≤ 105 := by omega
  have hk0 : 0 ≤ (2 * (x : Int) + 1) * (u : Int) := by omega
  by_cases h8 : m ≤ 8
  · repeat (first | rw [hk1, e] | refine go1_ ?_ | refine bx_ (fun _ => ?_))
    refine hl_load1 (v := .int .i64 (tbl m)) rfl .here (nine_get h8) rfl ?_
    repeat (first | refine go_ ?_ | refine bx_ (fun _ => ?_))
    exact fin1I rfl rfl ⟨by rw [hcw, if_pos h8], rfl⟩
  by_cases h16 : m ≤ 16
  · have := hb (16 - m) (by omega)
    repeat (first | rw [hk1, e] | rw [show (16 : Int) - (m : Int) = ((16 - m : Nat) : Int) by omega] | refine go1_ ?_ | refine bx_ (fun _ => ?_))
    refine hl_load1 (v := .int .i64 (tbl (16 - m))) rfl .here (nine_get (by omega)) rfl ?_
    repeat (first | refine go_ ?_ | refine bx_ (fun _ => ?_))
    exact fin1I rfl rfl ⟨by rw [hcw, if_neg h8, if_pos h16], rfl⟩
  by_cases h24 : 32 - m ≤ 8
  · repeat (first | rw [hk1, e] | rw [show (32 : Int) - (m : Int) = ((32 - m : Nat) : Int) by omega] | refine go1_ ?_ | refine bx_ (fun _ => ?_))
    refine hl_load1 (v := .int .i64 (tbl (32 - m))) rfl .here (nine_get (by omega)) rfl ?_
    repeat (first | refine go_ ?_ | refine bx_ (fun _ => ?_))
    exact fin1I rfl rfl ⟨by rw [hcw, if_neg h8, if_neg h16, if_pos h24], rfl⟩
  · have := hb (16 - (32 - m)) (by omega)
    repeat (first | rw [hk1, e] | rw [show (32 : Int) - (m : Int) = ((32 - m : Nat) : Int) by omega] | rw [show (16 : Int) - ((32 - m : Nat) : Int) = ((16 - (32 - m) : Nat) : Int) by omega] | refine go1_ ?_ | refine bx_ (fun _ => ?_))
    refine hl_load1 (v := .int .i64 (tbl (16 - (32 - m)))) rfl .here (nine_get (by omega)) rfl ?_
    repeat (first | refine go_ ?_ | refine bx_ (fun _ => ?_))
    exact fin1I rfl rfl ⟨by rw [hcw, if_neg h8, if_neg h16, if_neg h24], rfl⟩
end
end Go.Proofs.Ytkolkcgckckeeaa
