/-
  Lasso: points and their numbers. No condition.
-/
import Derived.Test.YtdofcjmnnmmecaaOpenS
import Derived.Test.YtdofcjmnnmmecaaF1
namespace Go.Proofs.Ytdofcjmnnmmecaa
open Go.RowKit
instance : TFlt Try.prog 56 := ⟨by kernel_rfl⟩
structure Pt where
  x : Int
  y : Int
abbrev ptV (p : Pt) : List Value := [.int .i64 p.x, .int .i64 p.y]
abbrev Pt.wf (p : Pt) : Prop := (-9223372036854775808 ≤ p.x ∧ p.x ≤ 9223372036854775807) ∧ (-9223372036854775808 ≤ p.y ∧ p.y ≤ 9223372036854775807)
abbrev Pt.right (p : Pt) : Prop := ((-1048576 ≤ p.x ∧ p.x ≤ 1048576) ∧ -1048576 ≤ p.y) ∧ p.y ≤ 1048576
def numV (p : Pt) : Value := .complex .f64 (fi p.x) (fi p.y)

set_option maxHeartbeats 8000000
set_option maxRecDepth 100000
theorem number_fn {w0 : World} {B : Nat} {H : List Ent} (p : Pt) : Fn Try.prog w0 B 27 [.agg #[.int .i64 p.x, .int .i64 p.y]] H (fun v H' => v = numV p ∧ H' = H) := by
  refine fn_intro Try.func27 rfl (by kernel_rfl) rfl ?_
  repeat (first | refine go_ ?_ | refine bx_ (fun _ => ?_) | refine hl_moveX rfl rfl ?_ | refine hl_moveZ rfl rfl ?_ | refine hl_assignX rfl rfl ?_ | refine hl_assignZ rfl rfl ?_ | refine hl_toFlt rfl rfl ?_ | refine hl_complex rfl rfl rfl ?_ | refine hl_real rfl rfl ?_ | refine hl_imag rfl rfl ?_ | refine hl_fneg rfl rfl ?_ | refine hl_ofFlt rfl (by assumption) (by omega) (by omega) rfl ?_ | refine hl_fadd rfl rfl (by assumption) rfl ?_ | refine hl_cadd rfl rfl (by assumption) (by assumption) rfl ?_ | refine hl_csub rfl rfl (by assumption) (by assumption) rfl ?_ | refine hl_cmul rfl rfl (by assumption) rfl ?_ | refine hl_fgtrT rfl rfl (by assumption) (by assumption) (by omega) rfl ?_ | refine hl_fgtrF rfl rfl (by assumption) (by assumption) (by omega) rfl ?_)
  exact fin1 rfl (v := numV p) rfl ⟨rfl, rfl⟩
theorem lright_fn {w0 : World} {B : Nat} {H : List Ent} (p : Pt) : Fn Try.prog w0 B 28 [.agg (ptV p).toArray] H (fun v H' => v = .bool (decide p.right) ∧ H' = H) := by
  refine fn_intro Try.func28 rfl (by kernel_rfl) rfl ?_
  unfold Pt.right
  by_cases h1 : -1048576 ≤ p.x
  · by_cases h2 : p.x ≤ 1048576
    · by_cases h3 : -1048576 ≤ p.y
      · by_cases h4 : p.y ≤ 1048576
        · repeat (first | refine go_ ?_ | refine bx_ (fun _ => ?_))
          exact fin1B rfl rfl ⟨by simp [h1, h2, h3, h4], rfl⟩
        · repeat (first | refine go_ ?_ | refine bx_ (fun _ => ?_))
          exact fin1B rfl rfl ⟨by simp [h1, h2, h3, h4], rfl⟩
      · repeat (first | refine go_ ?_ | refine bx_ (fun _ => ?_))
        exact fin1B rfl rfl ⟨by simp [h1, h2, h3], rfl⟩
    · repeat (first | refine go_ ?_ | refine bx_ (fun _ => ?_))
      exact fin1B rfl rfl ⟨by simp [h1, h2], rfl⟩
  · repeat (first | refine go_ ?_ | refine bx_ (fun _ => ?_))
    exact fin1B rfl rfl ⟨by simp [h1], rfl⟩
theorem rright_fn {w0 : World} {B : Nat} {H : List Ent} (p : Pt) : Fn Try.prog w0 B 15 [.agg (ptV p).toArray] H (fun v H' => v = .bool (decide p.right) ∧ H' = H) := by
  refine fn_intro Try.func15 rfl (by kernel_rfl) rfl ?_
  unfold Pt.right
  by_cases h1 : -1048576 ≤ p.x
  · by_cases h2 : p.x ≤ 1048576
    · by_cases h3 : -1048576 ≤ p.y
      · by_cases h4 : p.y ≤ 1048576
        · repeat (first | refine go_ ?_ | refine bx_ (fun _ => ?_))
          exact fin1B rfl rfl ⟨by simp [h1, h2, h3, h4], rfl⟩
        · repeat (first | refine go_ ?_ | refine bx_ (fun _ => ?_))
          exact fin1B rfl rfl ⟨by simp [h1, h2, h3, h4], rfl⟩
      · repeat (first | refine go_ ?_ | refine bx_ (fun _ => ?_))
        exact fin1B rfl rfl ⟨by simp [h1, h2, h3], rfl⟩
    · repeat (first | refine go_ ?_ | refine bx_ (fun _ => ?_))
      exact fin1B rfl rfl ⟨by simp [h1, h2], rfl⟩
  · repeat (first | refine go_ ?_ | refine bx_ (fun _ => ?_))
    exact fin1B rfl rfl ⟨by simp [h1], rfl⟩
theorem point_fn {w0 : World} {B : Nat} {H : List Ent} {a b : Nat} {p : Pt} (ha : Rp a p.x) (hb : Rp b p.y) (hp : p.wf) : Fn Try.prog w0 B 26 [.complex .f64 a b] H (fun v H' => v = .agg (ptV p).toArray ∧ H' = H) := by
  refine fn_intro Try.func26 rfl (by kernel_rfl) rfl ?_
  obtain ⟨h1, h2⟩ := hp
  repeat (first | refine go_ ?_ | refine bx_ (fun _ => ?_) | refine hl_moveX rfl rfl ?_ | refine hl_moveZ rfl rfl ?_ | refine hl_assignX rfl rfl ?_ | refine hl_assignZ rfl rfl ?_ | refine hl_toFlt rfl rfl ?_ | refine hl_complex rfl rfl rfl ?_ | refine hl_real rfl rfl ?_ | refine hl_imag rfl rfl ?_ | refine hl_fneg rfl rfl ?_ | refine hl_ofFlt rfl (by assumption) (by omega) (by omega) rfl ?_ | refine hl_fadd rfl rfl (by assumption) rfl ?_ | refine hl_cadd rfl rfl (by assumption) (by assumption) rfl ?_ | refine hl_csub rfl rfl (by assumption) (by assumption) rfl ?_ | refine hl_cmul rfl rfl (by assumption) rfl ?_ | refine hl_fgtrT rfl rfl (by assumption) (by assumption) (by omega) rfl ?_ | refine hl_fgtrF rfl rfl (by assumption) (by assumption) (by omega) rfl ?_)
  exact finC rfl rfl .here rfl ⟨rfl, rfl⟩
theorem cross_fn {w0 : World} {B : Nat} {H : List Ent} {a b c d : Nat} (hm : CMul a (fneg b) c d) : Fn Try.prog w0 B 29 [.complex .f64 a b, .complex .f64 c d] H (fun v H' => v = .float .f64 (cmi a (fneg b) c d) ∧ H' = H) := by
  refine fn_intro Try.func29 rfl (by kernel_rfl) rfl ?_
  repeat (first | refine go_ ?_ | refine bx_ (fun _ => ?_) | refine hl_moveX rfl rfl ?_ | refine hl_moveZ rfl rfl ?_ | refine hl_assignX rfl rfl ?_ | refine hl_assignZ rfl rfl ?_ | refine hl_toFlt rfl rfl ?_ | refine hl_complex rfl rfl rfl ?_ | refine hl_real rfl rfl ?_ | refine hl_imag rfl rfl ?_ | refine hl_fneg rfl rfl ?_ | refine hl_ofFlt rfl (by assumption) (by omega) (by omega) rfl ?_ | refine hl_fadd rfl rfl (by assumption) rfl ?_ | refine hl_cadd rfl rfl (by assumption) (by assumption) rfl ?_ | refine hl_csub rfl rfl (by assumption) (by assumption) rfl ?_ | refine hl_cmul rfl rfl (by assumption) rfl ?_ | refine hl_fgtrT rfl rfl (by assumption) (by assumption) (by omega) rfl ?_ | refine hl_fgtrF rfl rfl (by assumption) (by assumption) (by omega) rfl ?_)
  exact fin1 rfl (v := .float .f64 (cmi a (fneg b) c d)) rfl ⟨rfl, rfl⟩
theorem sm_of {n : Int} (h1 : -9007199254740992 < n) (h2 : n < 9007199254740992) : Sm n := by unfold Sm; omega
theorem mul_bd2 {a b M N : Int} (ha : -M ≤ a ∧ a ≤ M) (hb : -N ≤ b ∧ b ≤ N) : -(M * N) ≤ a * b ∧ a * b ≤ M * N := by
  have h1 : (a * b).natAbs ≤ (M * N).natAbs := by
    rw [Int.natAbs_mul, Int.natAbs_mul]
    exact Nat.mul_le_mul (by omega) (by omega)
  have h2 : 0 ≤ M * N := Int.mul_nonneg (by omega) (by omega)
  omega
theorem rp_cross {a b c d : Nat} {p q r s : Int} (ha : Rp a p) (hb : Rp b q) (hc : Rp c r) (hd : Rp d s) (h1 : -16777216 ≤ p ∧ p ≤ 16777216) (h2 : -16777216 ≤ q ∧ q ≤ 16777216) (h3 : -16777216 ≤ r ∧ r ≤ 16777216) (h4 : -16777216 ≤ s ∧ s ≤ 16777216) :
    CMul a (fneg b) c d ∧ Rp (cmi a (fneg b) c d) (p * s - q * r) := by
  have m1 := mul_bd2 h1 h3
  have m2 := mul_bd2 h2 h4
  have m3 := mul_bd2 h1 h4
  have m4 := mul_bd2 h2 h3
  have e1 : -q * s = -(q * s) := Int.neg_mul ..
  have e2 : -q * r = -(q * r) := Int.neg_mul ..
  have := rp_cmul ha (rp_neg hb) hc hd (sm_of (by omega) (by omega)) (sm_of (by omega) (by omega)) (sm_of (by omega) (by omega)) (sm_of (by omega) (by omega)) (sm_of (by omega) (by omega)) (sm_of (by omega) (by omega))
  refine ⟨this.1, ?_⟩
  have h := this.2.2
  rwa [show p * s + -q * r = p * s - q * r by omega] at h
end Go.Proofs.Ytdofcjmnnmmecaa
