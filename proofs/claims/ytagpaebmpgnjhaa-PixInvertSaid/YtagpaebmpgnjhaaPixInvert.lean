/-
  The statement PixInvert holds, whatever the pixel and the threshold.
-/
import Derived.Test.YtagpaebmpgnjhaaPixTab
import Derived.Test.YtagpaebmpgnjhaaOpenArr
namespace Go.Proofs.Ytagpaebmpgnjhaa.pixInvert
open Go.RowKit
section
variable {w0 : World} {B : Nat} {H F : List Ent}
theorem bytefulY_fn (a : Int) (h : Byte a) : Fn Try.prog w0 B 16 [.int .i64 a] H (fun u H' => u = .bool true ∧ H' = H) :=
  fn_of_same Try.func16 (by kernel_rfl) rfl (byteful_yes a h)
theorem bytefulN_fn (a : Int) (h : ¬ Byte a) : Fn Try.prog w0 B 16 [.int .i64 a] H (fun u H' => u = .bool false ∧ H' = H) :=
  fn_of_same Try.func16 (by kernel_rfl) rfl (byteful_no a h)
set_option maxHeartbeats 8000000 in
theorem right3_fn (gb : Nat) (t : Int) (ht : Byte t) : Fn Try.prog w0 B 34 [.int .i64 3, .slice (some ⟨gb, 0, none⟩) 1 1] (⟨gb, 3, [.int .i64 t], 1⟩ :: F) (fun v H' => v = .bool true ∧ H' = ⟨gb, 3, [.int .i64 t], 1⟩ :: F) := by
  unfold Byte at ht
  refine fn_intro Try.func34 rfl (by kernel_rfl) rfl ?_
  repeat (first | refine go_ ?_ | refine bx_ (fun _ => ?_))
  refine hc_rounds 2 ?_
  repeat (first | refine go_ ?_ | refine bx_ (fun _ => ?_))
  exact fin1B rfl rfl ⟨rfl, rfl⟩
def th (t v : Int) : Int := if t ≤ v then 255 else 0
set_option maxHeartbeats 8000000 in
set_option maxRecDepth 100000 in
theorem table3_fn (gb : Nat) (t : Int) (ht : Byte t) : Fn Try.prog w0 B 28 [.int .i64 3, .slice (some ⟨gb, 0, none⟩) 1 1] (⟨gb, 3, [.int .i64 t], 1⟩ :: F) (fun r H' => ∃ g, r = .tuple #[.slice (some ⟨g, 0, none⟩) 256 256, .bool true] ∧ H' = ⟨g, 3, tab 256 (fun v => th t v), 256⟩ :: ⟨gb, 3, [.int .i64 t], 1⟩ :: F) := by
  refine fn_intro Try.func28 rfl (by kernel_rfl) rfl ?_
  repeat (first | refine go_ ?_ | refine bx_ (fun _ => ?_) | refine hl_callv rfl rfl (right3_fn gb t ht) ?_)
  refine hl_make1 (n := 256) rfl rfl rfl (by decide) (by decide) rfl (fun g => ?_)
  rw [rep_psel (th t)]
  repeat (first | refine go_ ?_ | refine bx_ (fun _ => ?_))
  refine hc_loop (fun m fr M => ∃ k, k + m = 256 ∧ Agr fr [(0, .int .i64 3), (1, .slice (some ⟨gb, 0, none⟩) 1 1), (6, .slice (some ⟨g, 0, none⟩) 256 256), (19, .int .i64 256), (20, .int .i64 (k : Int))] ∧ M = ⟨g, 3, tab 256 (psel (th t) k), 256⟩ :: ⟨gb, 3, [.int .i64 t], 1⟩ :: F) 256 ?_ ?_
  · exact ⟨0, by omega, ⟨rfl, rfl, rfl, rfl, rfl, trivial⟩, rfl⟩
  rintro m fr M ⟨k, hk, hf, rfl⟩
  obtain ⟨base, rfl⟩ := hf.out
  clear hf
  by_cases hlt : k < 256
  · have hset := psel_set (th t) 256 k
    have hz := psel_zero (th t) k
    by_cases h1 : t ≤ k
    · have hv : th t k = 255 := if_pos h1
      rw [hv] at hset
      repeat (first | rw [hset] | refine go1_ ?_ | refine bx_ (fun _ => ?_))
      exact ⟨m - 1, by omega, k + 1, by omega, ⟨rfl, rfl, rfl, rfl, rfl, trivial⟩, rfl⟩
    · have hv : th t k = 0 := if_neg h1
      repeat (first | refine go_ ?_ | refine bx_ (fun _ => ?_))
      exact ⟨m - 1, by omega, k + 1, by omega, ⟨rfl, rfl, rfl, rfl, rfl, trivial⟩, by rw [hz hv]⟩
  · obtain rfl : k = 256 := by omega
    rw [psel_end]
    repeat (first | refine go_ ?_ | refine bx_ (fun _ => ?_))
    exact fin2SB rfl rfl rfl ⟨g, rfl, rfl⟩
theorem bare_full {x : Int} (h : Byte x) : bareZ x 255 = x := by unfold bareZ Byte at *; rw [if_neg (by decide)]; omega
theorem mul_full {x : Int} (h : Byte x) : mulZ x 255 = x := by unfold mulZ Byte at *; omega
theorem th_bd (t v : Int) : 0 ≤ th t v ∧ th t v ≤ 255 := by unfold th; split <;> omega
theorem mp_th {t c : Int} (h : Byte c) : mp (th t) 255 c = if t ≤ c then 255 else 0 := by
  unfold mp
  rw [bare_full h]
  have := th_bd t c
  rw [mul_full (by unfold Byte; omega)]
  rfl
theorem mp_inv {c : Int} (h : Byte c) : mp (fun v => 255 - v) 255 c = 255 - c := by
  unfold mp
  rw [bare_full h, mul_full (by unfold Byte at *; dsimp only; omega)]
set_option maxHeartbeats 8000000 in
set_option maxRecDepth 100000 in
theorem law (p : List Int) (hp : p.length = 4) (wp : ∀ x ∈ p, -9223372036854775808 ≤ x ∧ x ≤ 9223372036854775807) (t : Int) :
    Fn Try.prog w0 B 11 [arrV p, .int .i64 t] H (fun u _ => u = .bool true) := by
  match p, hp with
  | [c0, c1, c2, al], _ =>
  have wp' : ∀ x ∈ [c0, c1, c2, 255], -9223372036854775808 ≤ x ∧ x ≤ 9223372036854775807 := by
    intro x hx
    simp only [List.mem_cons, List.not_mem_nil, or_false] at hx
    rcases hx with rfl | rfl | rfl | rfl
    · exact wp _ (by simp)
    · exact wp _ (by simp)
    · exact wp _ (by simp)
    · omega
  refine fn_intro Try.func11 rfl (by kernel_rfl) rfl ?_
  change HC _ _ _ (argFr [.agg [.int .i64 c0, .int .i64 c1, .int .i64 c2, .int .i64 al].toArray, _]) _
  by_cases hok : ¬ PixOk [c0, c1, c2, 255]
  · repeat (first | refine go_ ?_ | refine bx_ (fun _ => ?_) | refine hl_callv rfl rfl (anchor_fn) ?_ | refine hl_callv rfl rfl (pixelN_fn [c0, c1, c2, 255] rfl wp' hok) ?_)
    exact fin1B rfl rfl rfl
  replace hok := Classical.not_not.1 hok
  by_cases ht : ¬ Byte t
  · repeat (first | refine go_ ?_ | refine bx_ (fun _ => ?_) | refine hl_callv rfl rfl (anchor_fn) ?_ | refine hl_callv rfl rfl (pixelY_fn [c0, c1, c2, 255] rfl hok) ?_ | refine hl_callv rfl rfl (bytefulN_fn t ht) ?_)
    exact fin1B rfl rfl rfl
  replace ht := Classical.not_not.1 ht
  obtain ⟨⟨a0, m0⟩, ⟨a1, m1⟩, ⟨a2, m2⟩, a3⟩ : (Byte c0 ∧ c0 ≤ 255) ∧ (Byte c1 ∧ c1 ≤ 255) ∧ (Byte c2 ∧ c2 ≤ 255) ∧ Byte 255 := ⟨hok 0 (by simp), hok 1 (by simp), hok 2 (by simp), (hok 3 (by simp)).1⟩
  have hpar : Par w0 B none 0 0 (fun _ => 0) := ⟨fun h => by omega, fun i hi => by omega, by omega⟩
  repeat (first | refine go_ ?_ | refine bx_ (fun _ => ?_) | refine hl_callv rfl rfl (anchor_fn) ?_ | refine hl_callv rfl rfl (pixelY_fn [c0, c1, c2, 255] rfl hok) ?_ | refine hl_callv rfl rfl (bytefulY_fn t ht) ?_)
  refine hl_call rfl rfl (table_fn 2 hpar) (fun r H1 hr => ?_)
  rcases hr with ⟨hR, ga, rfl, rfl⟩ | ⟨hR, _⟩
  rotate_left
  · exact absurd ⟨fun i hi => by omega, by omega⟩ hR
  have htb : (fun v : Nat => tblZ 2 0 (fun _ => 0) v) = (fun v : Nat => (fun x : Int => 255 - x) v) := by funext v; unfold tblZ; rw [if_neg (by decide), if_neg (by decide), if_pos rfl]
  rw [htb]
  clear htb hR
  repeat (first | refine go_ ?_ | refine bx_ (fun _ => ?_))
  refine hl_call rfl rfl (table3_fn _ t ht) (fun r H1 hr => ?_)
  obtain ⟨gb, rfl, rfl⟩ := hr
  have hm1 : ∀ F, Fn Try.prog w0 B 22 [.slice (some ⟨gb, 0, none⟩) 256 256, .agg [.int .i64 c0, .int .i64 c1, .int .i64 c2, .int .i64 255].toArray] (⟨gb, 3, tab 256 (fun v => th t v), 256⟩ :: F) (fun r H' => r = .agg [.int .i64 (if t ≤ c0 then 255 else 0), .int .i64 (if t ≤ c1 then 255 else 0), .int .i64 (if t ≤ c2 then 255 else 0), .int .i64 255].toArray ∧ H' = ⟨gb, 3, tab 256 (fun v => th t v), 256⟩ :: F) := fun F => by
    have hm := map_fn (w0 := w0) (B := B) (F := F) (th t) (fun v _ => th_bd t v) gb c0 c1 c2 255 a0 a1 a2 a3
    rw [mp_th a0, mp_th a1, mp_th a2] at hm
    exact hm
  have hm2 : ∀ c0 c1 c2, Byte c0 → Byte c1 → Byte c2 → ∀ F, Fn Try.prog w0 B 22 [.slice (some ⟨ga, 0, none⟩) 256 256, .agg [.int .i64 c0, .int .i64 c1, .int .i64 c2, .int .i64 255].toArray] (⟨ga, 3, tab 256 (fun v => (fun x : Int => 255 - x) v), 256⟩ :: F) (fun r H' => r = .agg [.int .i64 (255 - c0), .int .i64 (255 - c1), .int .i64 (255 - c2), .int .i64 255].toArray ∧ H' = ⟨ga, 3, tab 256 (fun v => (fun x : Int => 255 - x) v), 256⟩ :: F) := fun c0 c1 c2 a0 a1 a2 F => by
    have hm := map_fn (w0 := w0) (B := B) (F := F) (fun x => 255 - x) (fun v hv => by omega) ga c0 c1 c2 255 a0 a1 a2 a3
    rw [mp_inv a0, mp_inv a1, mp_inv a2] at hm
    exact hm
  repeat (first | refine go_ ?_ | refine bx_ (fun _ => ?_) | refine hl_callv rfl rfl (hm1 _) ?_)
  have b0 := a0
  have b1 := a1
  have b2 := a2
  unfold Byte at b0 b1 b2
  have n0 : Byte (255 - c0) := by unfold Byte; omega
  have n1 : Byte (255 - c1) := by unfold Byte; omega
  have n2 : Byte (255 - c2) := by unfold Byte; omega
  have hback : [255 - (255 - c0), 255 - (255 - c1), 255 - (255 - c2), (255 : Int)] = [c0, c1, c2, 255] := by
    rw [show 255 - (255 - c0) = c0 by omega, show 255 - (255 - c1) = c1 by omega, show 255 - (255 - c2) = c2 by omega]
  by_cases h0 : t ≤ c0 <;> by_cases h1 : t ≤ c1 <;> by_cases h2 : t ≤ c2
  all_goals
    simp only [h0, h1, h2, if_true, if_false]
    refine hc_rounds 4 ?_
    repeat (first | refine go_ ?_ | refine bx_ (fun _ => ?_))
    refine hc_draw (by kernel_rfl) (by kernel_rfl) ?_
    repeat (first | refine gd_ ?_ | refine hd_call rfl rfl (Fn.take (by first | exact .here | exact (.there .here) | exact (.there (.there .here)) | exact (.there (.there (.there .here))) | exact (.there (.there (.there (.there .here)))) | exact (.there (.there (.there (.there (.there .here))))) | exact (.there (.there (.there (.there (.there (.there .here)))))) | exact (.there (.there (.there (.there (.there (.there (.there .here))))))) | exact (.there (.there (.there (.there (.there (.there (.there (.there .here))))))))) (hm2 c0 c1 c2 a0 a1 a2 _)) ?_ | refine hd_call rfl rfl (Fn.take (by first | exact .here | exact (.there .here) | exact (.there (.there .here)) | exact (.there (.there (.there .here))) | exact (.there (.there (.there (.there .here)))) | exact (.there (.there (.there (.there (.there .here))))) | exact (.there (.there (.there (.there (.there (.there .here)))))) | exact (.there (.there (.there (.there (.there (.there (.there .here))))))) | exact (.there (.there (.there (.there (.there (.there (.there (.there .here))))))))) (hm2 _ _ _ n0 n1 n2 _)) ?_)
    refine hl_eqArrT (l := [255 - (255 - c0), 255 - (255 - c1), 255 - (255 - c2), 255]) (m := [c0, c1, c2, 255]) rfl rfl rfl hback rfl ?_
    repeat (first | refine gd_ ?_)
    repeat (first | refine go_ ?_ | refine bx_ (fun _ => ?_))
    exact fin1B rfl rfl rfl
end
theorem walk (p : List Int) (t : Int) (w : World) (hp : p.length = 4) (wp : ∀ x ∈ p, -9223372036854775808 ≤ x ∧ x ≤ 9223372036854775807) (_ : -9223372036854775808 ≤ t ∧ t ≤ 9223372036854775807) :
    Calls Try.prog 11 #[arrV p, .int .i64 t] w fun e w' => e = .returned (.bool true) ∧ Below w.heap.size w w' :=
  calls_of_fn (law p hp wp t) fun _ _ h => h

/-! The step to the statement (written by program). -/
open Go.ChangeShapes Go.WideShapes Go.ChangeAt
set_option maxRecDepth 100000 in
theorem lifted (os : Os) (started : os.Started) (H : Type) (enc : TypeId × Value → H) :
    ReturnsInHanded {} Try.checked os 11 .any (Rows.pixInvertSpec.pre6 enc Try.prog Try.f11 Rows.pixInvertRow.domain false) (Rows.pixInvertSpec.post enc Try.prog Try.f11 false true false false) := by
  refine returnsInHanded_of_change (C := Try.checked) own started (by kernel_rfl) Try.func11
    (ChangeSpec.witness6 (enc := enc) (C := Try.checked) false ⟨#[], #[.agg #[.int .i64 0, .int .i64 0, .int .i64 0, .int .i64 0], .int .i64 0], []⟩ 8 (by kernel_rfl) (by kernel_rfl) (by kernel_rfl) (by kernel_rfl)) ?_
  intro W base args ds gs before hval0 hW hcnd _
  have hval : ∀ (j : Nat) t v, Try.f11.params[j]? = some t → args[j]? = some v → Value.okWide Try.prog W .any base t v := hval0
  have hW' := hW
  obtain ⟨p, q, hA0, hV, rfl, hfz, hnd⟩ := hW
  have hA : DataW.TrodAll enc Try.prog W 0 (fun _ => true) true Try.f11.params.toList args.toList ds p := hA0
  rw [Try.params11] at hA hval
  obtain ⟨v0, vs0, d0, ds0, p0, q0, hargs, rfl, rfl, h0, r0⟩ := trodAll_cons hA
  obtain ⟨v1, vs1, d1, ds1, p1, q1, rfl, rfl, rfl, h1, r1⟩ := trodAll_cons r0
  obtain ⟨rfl, rfl, rfl⟩ := trodAll_nil r1
  obtain rfl : args = #[v0, v1] := by cases args; simp_all
  obtain ⟨rfl, rfl⟩ := trodVars_none hV
  have k0 := h0
  have lt0 : ∀ x ∈ p0, x.block < W.heap.size := by obtain ⟨m, hm⟩ := k0; exact DataW.trod_lt m _ _ _ hm
  obtain ⟨l0, rfl, n0, b0⟩ := open_array Try.underlying22 Try.underlying3 (by kernel_rfl) (by kernel_rfl) (hval 0 22 v0 rfl rfl) k0
  have k1 := h1
  have lt1 : ∀ x ∈ p1, x.block < W.heap.size := by obtain ⟨m, hm⟩ := k1; exact DataW.trod_lt m _ _ _ hm
  obtain ⟨a1, rfl, _, _, w1⟩ := open_int Try.underlying3 (hval 1 3 v1 rfl rfl) h1
  have w1 := wf_i64 w1
  clear hA0 hval0
  refine (walk l0 a1 W n0 b0 w1).mono fun e W' ⟨he, bel⟩ => ?_
  subst he
  exact ⟨_, rfl, _, _, _, [], _, [], hW', trodAll_mk1 (shut_bool Try.underlying4 _), (trodAll_cons_mk (Below.trod laidOut (by kernel_rfl) (of_decide_eq_true (by kernel_rfl)) k0 bel lt0) (trodAll_cons_mk (Below.trod laidOut (by kernel_rfl) (of_decide_eq_true (by kernel_rfl)) k1 bel lt1) trodAll_mk0)), rfl, bel.frame _, fun h => by cases h⟩

theorem over : Rows.pixInvertRow.holds Try.pinned (OpenSpec.ofChange Rows.pixInvertSpec) :=
  OpenClaim.holds_of_wide 11 Try.f11 rfl rfl rfl rfl rfl rfl rfl ⟨rfl, rfl, rfl, rfl, rfl⟩ rfl rfl rfl rfl rfl (by kernel_rfl) Try.func11 (by kernel_rfl)
    (of_decide_eq_true (by kernel_rfl)) (by unfold Func.isWrapper; first | (rw [if_pos (by decide +kernel)]; kernel_rfl) | (rw [if_neg (by decide +kernel)]; exact ⟨rfl, rfl⟩))
    (fun os started H enc _ => lifted os started H enc)

/-- The statement. -/
theorem proved : Rows.PixInvertSaid := over
#print axioms proved
end Go.Proofs.Ytagpaebmpgnjhaa.pixInvert
