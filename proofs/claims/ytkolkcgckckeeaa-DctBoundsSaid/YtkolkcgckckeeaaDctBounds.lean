/-
  The statement DctBounds holds, whatever the block.
-/
import Derived.Test.YtkolkcgckckeeaaD5
import Derived.Test.YtkolkcgckckeeaaOpenArr
namespace Go.Proofs.Ytkolkcgckckeeaa.dctBounds
open Go.RowKit

/-! One sum -/
def ww (i j : Nat) : Int := cA (i % 8 * 8 + j % 8) * cA (i / 8 * 8 + j / 8)
theorem full_ww (s : Nat → Int) (i : Nat) : full cF cG s i 8 = sumZ (fun j => s j * ww i j) 64 := by
  have h := rows_sum s (fun x => cA (i % 8 * 8 + x)) (fun y => cA (i / 8 * 8 + y))
  have e : sumZ (fun j => s j * ww i j) 64 = sumZ (fun j => s j * cA (i % 8 * 8 + j % 8) * cA (i / 8 * 8 + j / 8)) 64 := sumZ_congr 64 fun j _ => by unfold ww; rw [Int.mul_assoc]
  rw [e, h]
  unfold full
  refine sumZ_congr 8 fun y hy => ?_
  congr 1
  unfold half
  refine sumZ_congr 8 fun x hx => ?_
  congr 1
  · congr 1; omega
  · unfold cF; congr 1; omega
theorem back_ww (f : Nat → Int) (p : Nat) : full dF dG f p 8 = sumZ (fun i => f i * ww i p) 64 := by
  have h := rows_sum f (fun x => cA (x * 8 + p % 8)) (fun y => cA (y * 8 + p / 8))
  have e : sumZ (fun i => f i * ww i p) 64 = sumZ (fun i => f i * cA (i % 8 * 8 + p % 8) * cA (i / 8 * 8 + p / 8)) 64 := sumZ_congr 64 fun j _ => by unfold ww; rw [Int.mul_assoc]
  rw [e, h]
  unfold full
  refine sumZ_congr 8 fun y hy => ?_
  congr 1
  unfold half
  refine sumZ_congr 8 fun x hx => ?_
  congr 1
  · congr 1; omega
  · unfold dF; congr 1; omega
def ab (x : Int) : Int := (x.natAbs : Int)
theorem lin_bd (a w : Nat → Int) (M : Int) : ∀ n, (∀ j, j < n → -M ≤ a j ∧ a j ≤ M) → -(M * sumZ (fun j => ab (w j)) n) ≤ sumZ (fun j => a j * w j) n ∧ sumZ (fun j => a j * w j) n ≤ M * sumZ (fun j => ab (w j)) n
  | 0, _ => by simp [sumZ]
  | n + 1, h => by
    have h1 := lin_bd a w M n (fun j hj => h j (by omega))
    have h2 := mul_bd (h n (by omega)) (show -(ab (w n)) ≤ w n ∧ w n ≤ ab (w n) by unfold ab; omega)
    rw [sumZ, sumZ, Int.mul_add]
    omega

/-! The numbers -/
def cL : List Int := [2896, 2896, 2896, 2896, 2896, 2896, 2896, 2896, 4017, 3406, 2276, 799, -799, -2276, -3406, -4017, 3784, 1567, -1567, -3784, -3784, -1567, 1567, 3784, 3406, -799, -4017, -2276, 2276, 4017, 799, -3406,
  2896, -2896, -2896, 2896, 2896, -2896, -2896, 2896, 2276, -4017, 799, 3406, -3406, -799, 4017, -2276, 1567, -3784, 3784, -1567, -1567, 3784, -3784, 1567, 799, -2276, 3406, -4017, 4017, -3406, 2276, -799]
theorem cA_L : ∀ j : Fin 64, cA j.val = cL.getD j.val 0 := by decide +kernel
def wL (i j : Nat) : Int := cL.getD (i % 8 * 8 + j % 8) 0 * cL.getD (i / 8 * 8 + j / 8) 0
theorem ww_L {i j : Nat} (hi : i < 64) (hj : j < 64) : ww i j = wL i j := by
  unfold ww wL
  have h1 := cA_L ⟨i % 8 * 8 + j % 8, by omega⟩
  have h2 := cA_L ⟨i / 8 * 8 + j / 8, by omega⟩
  dsimp only at h1 h2
  rw [h1, h2]
theorem w_abs : ∀ i : Fin 64, sumZ (fun j => ab (wL i.val j)) 64 ≤ 536756224 := by decide +kernel
theorem w_zero : ∀ i : Fin 64, i.val = 0 ∨ sumZ (fun j => wL i.val j) 64 = 0 := by decide +kernel
def d1 (x y : Nat) : Int := sumZ (fun u => cL.getD (u * 8 + x) 0 * cL.getD (u * 8 + y) 0) 8
def dL : List Int := (List.range 64).map fun k => d1 (k / 8) (k % 8)
def dd (j p : Nat) : Int := d1 (j % 8) (p % 8) * d1 (j / 8) (p / 8)
def off (j p : Nat) : Int := dd j p - (if j = p then 4503599627370496 else 0)
theorem back_abs : ∀ p : Fin 64, 128 * sumZ (fun j => ab (off j p.val)) 64 + 33554432 * sumZ (fun i => ab (wL i p.val)) 64 ≤ 22517998136852480 - 4503599627370496 := by decide +kernel

/-! There -/
def Eight (s : Nat → Int) : Prop := ∀ i, i < 64 → -128 ≤ s i ∧ s i ≤ 127
theorem full_wL (s : Nat → Int) {i : Nat} (hi : i < 64) : full cF cG s i 8 = sumZ (fun j => s j * wL i j) 64 := by
  rw [full_ww]; exact sumZ_congr 64 fun j hj => by rw [ww_L hi hj]
theorem fwd_bd {s : Nat → Int} (hs : Eight s) {i : Nat} (hi : i < 64) : -1024 ≤ fwd s i ∧ fwd s i ≤ 1024 ∧ (0 < i → -1023 ≤ fwd s i ∧ fwd s i ≤ 1023) := by
  have hw := w_abs ⟨i, hi⟩
  have h1 := lin_bd s (wL i) 128 64 (fun j hj => by have := hs j hj; omega)
  have h2 : 2 * sumZ (fun j => s j * wL i j) 64 + sumZ (wL i) 64 = sumZ (fun j => (2 * s j + 1) * wL i j) 64 := by
    rw [← sumZ_mul, ← sumZ_add]
    exact sumZ_congr 64 fun j _ => by rw [Int.add_mul, Int.one_mul, Int.mul_assoc]
  have h3 := lin_bd (fun j => 2 * s j + 1) (wL i) 255 64 (fun j hj => by have := hs j hj; omega)
  have h0 := w_zero ⟨i, hi⟩
  have e : sumZ (fun j => wL i j) 64 = sumZ (wL i) 64 := rfl
  dsimp only at hw h0 h3
  unfold fwd near26
  rw [full_wL s hi]
  rw [← h2] at h3
  rw [e] at h0
  generalize sumZ (fun j => s j * wL i j) 64 = F at *
  generalize sumZ (fun j => ab (wL i j)) 64 = W at *
  generalize sumZ (wL i) 64 = Z at *
  refine ⟨by omega, by omega, fun h => ?_⟩
  have hz : Z = 0 := by rcases h0 with h0 | h0 <;> omega
  omega
theorem dd_sum (j p : Nat) : sumZ (fun i => wL i j * wL i p) 64 = dd j p := by
  have h := rows_sum (fun _ => 1) (fun x => cL.getD (x * 8 + j % 8) 0 * cL.getD (x * 8 + p % 8) 0) (fun y => cL.getD (y * 8 + j / 8) 0 * cL.getD (y * 8 + p / 8) 0)
  have e : sumZ (fun i => wL i j * wL i p) 64 = sumZ (fun i => 1 * (cL.getD (i % 8 * 8 + j % 8) 0 * cL.getD (i % 8 * 8 + p % 8) 0) * (cL.getD (i / 8 * 8 + j / 8) 0 * cL.getD (i / 8 * 8 + p / 8) 0)) 64 := sumZ_congr 64 fun i _ => by
    unfold wL
    generalize cL.getD (i % 8 * 8 + j % 8) 0 = a
    generalize cL.getD (i / 8 * 8 + j / 8) 0 = b
    generalize cL.getD (i % 8 * 8 + p % 8) 0 = c
    generalize cL.getD (i / 8 * 8 + p / 8) 0 = d
    rw [Int.one_mul, Int.mul_assoc a b, Int.mul_left_comm b c, Int.mul_assoc a c]
  refine e.trans (h.trans ?_)
  simp only [Int.one_mul]
  rw [sumZ_mul]
  rfl
theorem delta_sum (s : Nat → Int) (p : Nat) (c : Int) : ∀ n, sumZ (fun j => s j * (if j = p then c else 0)) n = if p < n then s p * c else 0
  | 0 => by simp [sumZ]
  | n + 1 => by
    rw [sumZ, delta_sum s p c n]
    by_cases h : n = p
    · subst h; rw [if_neg (Nat.lt_irrefl n), if_pos rfl, if_pos (by omega)]; omega
    · rw [if_neg h, Int.mul_zero]
      by_cases h2 : p < n
      · rw [if_pos h2, if_pos (by omega)]; omega
      · rw [if_neg h2, if_neg (by omega)]; rfl
theorem bck_bd {s f : Nat → Int} (hs : Eight s) (hf : ∀ i, i < 64 → f i = fwd s i) {p : Nat} (hp : p < 64) : bck f p - s p ≤ 5 ∧ s p - bck f p ≤ 5 := by
  have hb := back_abs ⟨p, hp⟩
  have e0 : full dF dG f p 8 = sumZ (fun i => f i * wL i p) 64 := by rw [back_ww]; exact sumZ_congr 64 fun i hi => by rw [ww_L hi hp]
  have e1 : 67108864 * sumZ (fun i => f i * wL i p) 64 = sumZ (fun i => full cF cG s i 8 * wL i p) 64 + sumZ (fun i => (67108864 * f i - full cF cG s i 8) * wL i p) 64 := by
    rw [← sumZ_mul, ← sumZ_add]
    exact sumZ_congr 64 fun i _ => by rw [← Int.add_mul, ← Int.mul_assoc]; congr 1; omega
  have e2 : sumZ (fun i => full cF cG s i 8 * wL i p) 64 = sumZ (fun j => s j * dd j p) 64 := by
    have h1 : sumZ (fun i => full cF cG s i 8 * wL i p) 64 = sumZ (fun i => sumZ (fun j => s j * (wL i j * wL i p)) 64) 64 := sumZ_congr 64 fun i hi => by
      rw [full_wL s hi, ← sumZ_mulr]; exact sumZ_congr 64 fun j _ => Int.mul_assoc _ _ _
    rw [h1, sumZ_comm]
    exact sumZ_congr 64 fun j _ => by rw [sumZ_mul, dd_sum]
  have e3 : sumZ (fun j => s j * dd j p) 64 = sumZ (fun j => s j * off j p) 64 + s p * 4503599627370496 := by
    have h1 := delta_sum s p 4503599627370496 64
    rw [if_pos hp] at h1
    rw [← h1, ← sumZ_add]
    exact sumZ_congr 64 fun j _ => by rw [← Int.mul_add, show off j p + (if j = p then 4503599627370496 else 0) = dd j p from Int.sub_add_cancel _ _]
  have b1 := lin_bd s (fun j => off j p) 128 64 (fun j hj => by have := hs j hj; omega)
  have b2 := lin_bd (fun i => 67108864 * f i - full cF cG s i 8) (fun i => wL i p) 33554432 64 (fun i hi => by
    have h1 := hf i hi
    unfold fwd near26 at h1
    omega)
  dsimp only at hb b1 b2
  unfold bck near26
  rw [e0]
  rw [e2, e3] at e1
  generalize sumZ (fun i => f i * wL i p) 64 = G at *
  generalize sumZ (fun j => s j * off j p) 64 = A at *
  generalize sumZ (fun i => (67108864 * f i - full cF cG s i 8) * wL i p) 64 = E at *
  generalize sumZ (fun j => ab (off j p)) 64 = U at *
  generalize sumZ (fun i => ab (wL i p)) 64 = V at *
  omega

set_option maxHeartbeats 8000000 in
set_option maxRecDepth 100000 in
theorem law {w0 : World} {B : Nat} {H : List Ent} (s : Nat → Int) : Fn Try.prog w0 B 5 [.agg (tab 64 s).toArray] H (fun u _ => u = .bool true) := by
  refine fn_intro Try.func5 rfl (by kernel_rfl) rfl ?_
  repeat (first | refine go_ ?_ | refine bx_ (fun _ => ?_) | refine hl_callv rfl rfl (anchor_fn) ?_)
  rename_i g1
  refine hc_loop (fun z fr M => ∃ k, k + z = 64 ∧ Agr fr [(1, .pointer (some ⟨g1, 0, none⟩)), (13, .agg (tab 64 s).toArray), (14, .int .i64 (k : Int))] ∧ M = ⟨g1, 27, tab 64 s, 64⟩ :: H ∧ ∀ i, i < k → -128 ≤ s i ∧ s i ≤ 127) 64 ?_ ?_
  · exact ⟨0, by omega, ⟨rfl, rfl, rfl, trivial⟩, rfl, fun i hi => by omega⟩
  rintro z fr M ⟨k, hk, hf, rfl, hall⟩
  obtain ⟨base, rfl⟩ := hf.out
  clear hf
  by_cases hlt : k < 64
  · by_cases h1 : s k < -128
    · repeat (first | refine go_ ?_ | refine bx_ (fun _ => ?_))
      exact fin1B rfl rfl rfl
    by_cases h2 : 127 < s k
    · repeat (first | refine go_ ?_ | refine bx_ (fun _ => ?_))
      exact fin1B rfl rfl rfl
    repeat (first | refine go_ ?_ | refine bx_ (fun _ => ?_))
    refine ⟨z - 1, by omega, k + 1, by omega, ⟨rfl, rfl, rfl, trivial⟩, rfl, fun i hi => ?_⟩
    by_cases e : i = k
    · subst e; omega
    · exact hall i (by omega)
  obtain rfl : k = 64 := by omega
  have hs : Eight s := hall
  clear hall hlt hk
  have hs1 : Small s := fun i hi => by have := hs i hi; omega
  repeat (first | refine go_ ?_ | refine bx_ (fun _ => ?_) | refine hl_callv rfl rfl (forward_fn s hs1) ?_)
  rename_i g5
  obtain ⟨f, hfe⟩ : ∃ f, f = fwd s := ⟨_, rfl⟩
  have hfb : ∀ i, i < 64 → -1024 ≤ f i ∧ f i ≤ 1024 ∧ (0 < i → -1023 ≤ f i ∧ f i ≤ 1023) := fun i hi => by rw [hfe]; exact fwd_bd hs hi
  rw [← hfe]
  refine hc_loop (fun z fr M => ∃ k, k + z = 64 ∧ Agr fr [(1, .pointer (some ⟨g1, 0, none⟩)), (5, .pointer (some ⟨g5, 0, none⟩)), (26, .agg (tab 64 f).toArray), (27, .int .i64 (k : Int))] ∧ M = ⟨g5, 27, tab 64 f, 64⟩ :: ⟨g1, 27, tab 64 s, 64⟩ :: H) 64 ?_ ?_
  · exact ⟨0, by omega, ⟨rfl, rfl, rfl, rfl, trivial⟩, rfl⟩
  clear base
  rintro z fr M ⟨k, hk, hf, rfl⟩
  obtain ⟨base, rfl⟩ := hf.out
  clear hf
  by_cases hlt : k < 64
  · obtain ⟨b1, b2, b3⟩ := hfb k hlt
    by_cases h0 : k = 0
    · subst h0
      repeat (first | refine go_ ?_ | refine bx_ (fun _ => ?_))
      exact ⟨z - 1, by omega, 0 + 1, by omega, ⟨rfl, rfl, rfl, rfl, trivial⟩, rfl⟩
    · have b4 := b3 (by omega)
      repeat (first | refine go_ ?_ | refine bx_ (fun _ => ?_))
      exact ⟨z - 1, by omega, k + 1, by omega, ⟨rfl, rfl, rfl, rfl, trivial⟩, rfl⟩
  have hfs : Small f := fun i hi => by have := hfb i hi; omega
  have hbb : ∀ p, p < 64 → bck f p - s p ≤ 5 ∧ s p - bck f p ≤ 5 := fun p hp => bck_bd hs (fun i _ => by rw [hfe]) hp
  repeat (first | refine go_ ?_ | refine bx_ (fun _ => ?_) | refine hl_callv rfl rfl (back_fn f hfs) ?_)
  rename_i g8
  generalize bck f = b at *
  refine hc_loop (fun z fr M => ∃ k, k + z = 64 ∧ Agr fr [(1, .pointer (some ⟨g1, 0, none⟩)), (56, .agg (tab 64 b).toArray), (57, .int .i64 (k : Int))] ∧ M = ⟨g8, 27, tab 64 b, 64⟩ :: ⟨g5, 27, tab 64 f, 64⟩ :: ⟨g1, 27, tab 64 s, 64⟩ :: H) 64 ?_ ?_
  · exact ⟨0, by omega, ⟨rfl, rfl, rfl, trivial⟩, rfl⟩
  clear base hlt hk
  rintro z fr M ⟨k, hk, hf, rfl⟩
  obtain ⟨base, rfl⟩ := hf.out
  clear hf
  by_cases hlt : k < 64
  · obtain ⟨b1, b2⟩ := hbb k hlt
    have b3 := hs k hlt
    repeat (first | refine go_ ?_ | refine bx_ (fun _ => ?_))
    exact ⟨z - 1, by omega, k + 1, by omega, ⟨rfl, rfl, rfl, trivial⟩, rfl⟩
  repeat (first | refine go_ ?_ | refine bx_ (fun _ => ?_))
  exact fin1B rfl rfl rfl
theorem walk (l : List Int) (w : World) (hl : l.length = 64) (_ : ∀ x ∈ l, -9223372036854775808 ≤ x ∧ x ≤ 9223372036854775807) :
    Calls Try.prog 5 #[arrV l] w fun e w' => e = .returned (.bool true) ∧ Below w.heap.size w w' := by
  have e : arrV l = .agg (tab 64 (fun k => l.getD k 0)).toArray := by unfold arrV; rw [map_tab, hl]
  rw [e]
  exact calls_of_fn (law _) fun _ _ h => h

/-! The step to the statement (written by program). -/
open Go.ChangeShapes Go.WideShapes Go.ChangeAt
set_option maxRecDepth 100000 in
theorem lifted (os : Os) (started : os.Started) (H : Type) (enc : TypeId × Value → H) :
    ReturnsInHanded {} Try.checked os 5 .any (Rows.dctBoundsSpec.pre6 enc Try.prog Try.f5 Rows.dctBoundsRow.domain false) (Rows.dctBoundsSpec.post enc Try.prog Try.f5 false true false false) := by
  refine returnsInHanded_of_change (C := Try.checked) own started (by kernel_rfl) Try.func5
    (ChangeSpec.witness6 (enc := enc) (C := Try.checked) false ⟨#[], #[.agg #[.int .i64 0, .int .i64 0, .int .i64 0, .int .i64 0, .int .i64 0, .int .i64 0, .int .i64 0, .int .i64 0, .int .i64 0, .int .i64 0, .int .i64 0, .int .i64 0, .int .i64 0, .int .i64 0, .int .i64 0, .int .i64 0, .int .i64 0, .int .i64 0, .int .i64 0, .int .i64 0, .int .i64 0, .int .i64 0, .int .i64 0, .int .i64 0, .int .i64 0, .int .i64 0, .int .i64 0, .int .i64 0, .int .i64 0, .int .i64 0, .int .i64 0, .int .i64 0, .int .i64 0, .int .i64 0, .int .i64 0, .int .i64 0, .int .i64 0, .int .i64 0, .int .i64 0, .int .i64 0, .int .i64 0, .int .i64 0, .int .i64 0, .int .i64 0, .int .i64 0, .int .i64 0, .int .i64 0, .int .i64 0, .int .i64 0, .int .i64 0, .int .i64 0, .int .i64 0, .int .i64 0, .int .i64 0, .int .i64 0, .int .i64 0, .int .i64 0, .int .i64 0, .int .i64 0, .int .i64 0, .int .i64 0, .int .i64 0, .int .i64 0, .int .i64 0]], []⟩ 8 (by kernel_rfl) (by kernel_rfl) (by kernel_rfl) (by kernel_rfl)) ?_
  intro W base args ds gs before hval0 hW hcnd _
  have hval : ∀ (j : Nat) t v, Try.f5.params[j]? = some t → args[j]? = some v → Value.okWide Try.prog W .any base t v := hval0
  have hW' := hW
  obtain ⟨p, q, hA0, hV, rfl, hfz, hnd⟩ := hW
  have hA : DataW.TrodAll enc Try.prog W 0 (fun _ => true) true Try.f5.params.toList args.toList ds p := hA0
  rw [Try.params5] at hA hval
  obtain ⟨v0, vs0, d0, ds0, p0, q0, hargs, rfl, rfl, h0, r0⟩ := trodAll_cons hA
  obtain ⟨rfl, rfl, rfl⟩ := trodAll_nil r0
  obtain rfl : args = #[v0] := by cases args; simp_all
  obtain ⟨rfl, rfl⟩ := trodVars_none hV
  have k0 := h0
  have lt0 : ∀ x ∈ p0, x.block < W.heap.size := by obtain ⟨m, hm⟩ := k0; exact DataW.trod_lt m _ _ _ hm
  obtain ⟨l0, rfl, n0, b0⟩ := open_array Try.underlying27 Try.underlying3 (by kernel_rfl) (by kernel_rfl) (hval 0 27 v0 rfl rfl) k0
  clear hA0 hval0
  refine (walk l0 W n0 b0).mono fun e W' ⟨he, bel⟩ => ?_
  subst he
  exact ⟨_, rfl, _, _, _, [], _, [], hW', trodAll_mk1 (shut_bool Try.underlying4 _), (trodAll_cons_mk (Below.trod laidOut (by kernel_rfl) (of_decide_eq_true (by kernel_rfl)) k0 bel lt0) trodAll_mk0), rfl, bel.frame _, fun h => by cases h⟩

theorem over : Rows.dctBoundsRow.holds Try.pinned (OpenSpec.ofChange Rows.dctBoundsSpec) :=
  OpenClaim.holds_of_wide 5 Try.f5 rfl rfl rfl rfl rfl rfl rfl ⟨rfl, rfl, rfl, rfl, rfl⟩ rfl rfl rfl rfl rfl (by kernel_rfl) Try.func5 (by kernel_rfl)
    (of_decide_eq_true (by kernel_rfl)) (by unfold Func.isWrapper; first | (rw [if_pos (by decide +kernel)]; kernel_rfl) | (rw [if_neg (by decide +kernel)]; exact ⟨rfl, rfl⟩))
    (fun os started H enc _ => lifted os started H enc)

/-- The statement. -/
theorem proved : Rows.DctBoundsSaid := over
#print axioms proved
end Go.Proofs.Ytkolkcgckckeeaa.dctBounds
