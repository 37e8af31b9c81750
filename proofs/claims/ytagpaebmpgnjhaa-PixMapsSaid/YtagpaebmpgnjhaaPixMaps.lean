/-
  The statement PixMaps holds, whatever the kind, the params and the pixel.
-/
import Derived.Test.YtagpaebmpgnjhaaPixTab
import Derived.Test.YtagpaebmpgnjhaaOpenArr
namespace Go.Proofs.Ytagpaebmpgnjhaa.pixMaps
open Go.RowKit


set_option maxHeartbeats 8000000 in
set_option maxRecDepth 100000 in
theorem law {w0 : World} {B : Nat} {H : List Ent} (hB : w0.heap.size ≤ B) (kind : Int) {a : Option Addr} {len cap : Nat} {l : List Int} (hl : Sl intV w0 a len cap l) (hx : ∀ x ∈ l, -9223372036854775808 ≤ x ∧ x ≤ 9223372036854775807) (p : List Int) (hp : p.length = 4) (wp : ∀ x ∈ p, -9223372036854775808 ≤ x ∧ x ≤ 9223372036854775807) :
    Fn Try.prog w0 B 6 [.int .i64 kind, .slice a len cap, arrV p] H (fun u _ => u = .bool true) := by
  refine fn_intro Try.func6 rfl (by kernel_rfl) rfl ?_
  have hsm := hl.small
  have hle := hl.le
  by_cases h100 : 100 < len
  · repeat (first | refine go_ ?_ | refine bx_ (fun _ => ?_) | refine hl_callv rfl rfl (anchor_fn) ?_)
    exact fin1B rfl rfl rfl
  by_cases hok : ¬ PixOk p
  · repeat (first | refine go_ ?_ | refine bx_ (fun _ => ?_) | refine hl_callv rfl rfl (anchor_fn) ?_ | refine hl_callv rfl rfl (pixelN_fn p hp wp hok) ?_)
    exact fin1B rfl rfl rfl
  replace hok := Classical.not_not.1 hok
  have hpar := par_of hB hl hx (by omega)
  generalize (fun j => l.getD j 0) = f at hpar
  match p, hp with
  | [c0, c1, c2, al], _ =>
  obtain ⟨⟨a0, m0⟩, ⟨a1, m1⟩, ⟨a2, m2⟩, a3⟩ : (Byte c0 ∧ c0 ≤ al) ∧ (Byte c1 ∧ c1 ≤ al) ∧ (Byte c2 ∧ c2 ≤ al) ∧ Byte al := ⟨hok 0 (by simp), hok 1 (by simp), hok 2 (by simp), (hok 3 (by simp)).1⟩
  repeat (first | refine go_ ?_ | refine bx_ (fun _ => ?_) | refine hl_callv rfl rfl (anchor_fn) ?_ | refine hl_callv rfl rfl (pixelY_fn [c0, c1, c2, al] rfl hok) ?_)
  refine hl_call rfl rfl (rtable_fn kind hpar) (fun r H1 hr => ?_)
  rcases hr with ⟨hR, g, rfl, rfl⟩ | ⟨hR, ⟨_, _, _, rfl⟩, rfl⟩
  rotate_left
  · repeat (first | refine go_ ?_ | refine bx_ (fun _ => ?_))
    exact fin1B rfl rfl rfl
  have hT : ∀ v : Int, 0 ≤ v ∧ v ≤ 255 → 0 ≤ tblZ kind len f v ∧ tblZ kind len f v ≤ 255 := fun v hv => tbl_bd hR hv
  generalize tblZ kind len f = T at *
  obtain ⟨n0, e0, l0⟩ := bare_nat a0 a3
  obtain ⟨n1, e1, l1⟩ := bare_nat a1 a3
  obtain ⟨n2, e2, l2⟩ := bare_nat a2 a3
  have t0 := hT n0 (by omega)
  have t1 := hT n1 (by omega)
  have t2 := hT n2 (by omega)
  have hq : PixOk [mulZ (T n0) al, mulZ (T n1) al, mulZ (T n2) al, al] := by
    have g0 := mulZ_le (x := T n0) (y := al) t0 a3
    have g1 := mulZ_le (x := T n1) (y := al) t1 a3
    have g2 := mulZ_le (x := T n2) (y := al) t2 a3
    unfold Byte at a3
    intro i hi
    match i, hi with
    | 0, _ => exact ⟨⟨by show 0 ≤ mulZ (T n0) al; omega, by show mulZ (T n0) al ≤ 255; omega⟩, by show mulZ (T n0) al ≤ al; omega⟩
    | 1, _ => exact ⟨⟨by show 0 ≤ mulZ (T n1) al; omega, by show mulZ (T n1) al ≤ 255; omega⟩, by show mulZ (T n1) al ≤ al; omega⟩
    | 2, _ => exact ⟨⟨by show 0 ≤ mulZ (T n2) al; omega, by show mulZ (T n2) al ≤ 255; omega⟩, by show mulZ (T n2) al ≤ al; omega⟩
    | 3, _ => exact ⟨a3, Int.le_refl _⟩
  have hm : ∀ F, Fn Try.prog w0 B 22 [.slice (some ⟨g, 0, none⟩) 256 256, .agg [.int .i64 c0, .int .i64 c1, .int .i64 c2, .int .i64 al].toArray] (⟨g, 3, tab 256 (fun v => T v), 256⟩ :: F) (fun r H' => r = .agg [.int .i64 (mulZ (T n0) al), .int .i64 (mulZ (T n1) al), .int .i64 (mulZ (T n2) al), .int .i64 al].toArray ∧ H' = ⟨g, 3, tab 256 (fun v => T v), 256⟩ :: F) := fun F => by
    have hm := map_fn (w0 := w0) (B := B) (F := F) T hT g c0 c1 c2 al a0 a1 a2 a3
    unfold mp at hm
    rw [e0, e1, e2] at hm
    exact hm
  unfold Byte at a0 a1 a2 a3
  repeat (first | refine go_ ?_ | refine bx_ (fun _ => ?_) | refine hl_callv rfl rfl (hm _) ?_)
  refine hc_rounds 4 ?_
  repeat (first | refine go_ ?_ | refine bx_ (fun _ => ?_))
  (refine hc_draw (by kernel_rfl) (by kernel_rfl) ?_; repeat (first | rw [e0] | refine gd1_ ?_ | refine hd_call rfl rfl (refBare_fn _ _ (by omega) (by omega) (by omega) (by omega)) ?_ | refine hd_call rfl rfl (refMul_fn _ _ (by omega) (by omega) (by omega) (by omega)) ?_))
  repeat (first | refine go_ ?_ | refine bx_ (fun _ => ?_))
  (refine hc_draw (by kernel_rfl) (by kernel_rfl) ?_; repeat (first | rw [e1] | refine gd1_ ?_ | refine hd_call rfl rfl (refBare_fn _ _ (by omega) (by omega) (by omega) (by omega)) ?_ | refine hd_call rfl rfl (refMul_fn _ _ (by omega) (by omega) (by omega) (by omega)) ?_))
  repeat (first | refine go_ ?_ | refine bx_ (fun _ => ?_))
  (refine hc_draw (by kernel_rfl) (by kernel_rfl) ?_; repeat (first | rw [e2] | refine gd1_ ?_ | refine hd_call rfl rfl (refBare_fn _ _ (by omega) (by omega) (by omega) (by omega)) ?_ | refine hd_call rfl rfl (refMul_fn _ _ (by omega) (by omega) (by omega) (by omega)) ?_))
  repeat (first | refine go_ ?_ | refine bx_ (fun _ => ?_) | refine hl_callv rfl rfl (pixelY_fn [mulZ (T n0) al, mulZ (T n1) al, mulZ (T n2) al, al] rfl hq) ?_)
  exact fin1B rfl rfl rfl
theorem walk (kind : Int) (a : Option Addr) (len cap : Nat) (l : List Int) (p : List Int) (w : World) (_ : -9223372036854775808 ≤ kind ∧ kind ≤ 9223372036854775807) (hl : Sl intV w a len cap l) (hx : ∀ x ∈ l, -9223372036854775808 ≤ x ∧ x ≤ 9223372036854775807)
    (hp : p.length = 4) (wp : ∀ x ∈ p, -9223372036854775808 ≤ x ∧ x ≤ 9223372036854775807) :
    Calls Try.prog 6 #[.int .i64 kind, .slice a len cap, arrV p] w fun e w' => e = .returned (.bool true) ∧ Below w.heap.size w w' :=
  calls_of_fn (law (Nat.le_refl _) kind hl hx p hp wp) fun _ _ h => h

/-! The step to the statement (written by program). -/
open Go.ChangeShapes Go.WideShapes Go.ChangeAt
set_option maxRecDepth 100000 in
theorem lifted (os : Os) (started : os.Started) (H : Type) (enc : TypeId × Value → H) :
    ReturnsInHanded {} Try.checked os 6 .any (Rows.pixMapsSpec.pre6 enc Try.prog Try.f6 Rows.pixMapsRow.domain false) (Rows.pixMapsSpec.post enc Try.prog Try.f6 false true false false) := by
  refine returnsInHanded_of_change (C := Try.checked) own started (by kernel_rfl) Try.func6
    (ChangeSpec.witness6 (enc := enc) (C := Try.checked) false ⟨#[], #[.int .i64 0, .slice none 0 0, .agg #[.int .i64 0, .int .i64 0, .int .i64 0, .int .i64 0]], []⟩ 8 (by kernel_rfl) (by kernel_rfl) (by kernel_rfl) (by kernel_rfl)) ?_
  intro W base args ds gs before hval0 hW hcnd _
  have hval : ∀ (j : Nat) t v, Try.f6.params[j]? = some t → args[j]? = some v → Value.okWide Try.prog W .any base t v := hval0
  have hW' := hW
  obtain ⟨p, q, hA0, hV, rfl, hfz, hnd⟩ := hW
  have hA : DataW.TrodAll enc Try.prog W 0 (fun _ => true) true Try.f6.params.toList args.toList ds p := hA0
  rw [Try.params6] at hA hval
  obtain ⟨v0, vs0, d0, ds0, p0, q0, hargs, rfl, rfl, h0, r0⟩ := trodAll_cons hA
  obtain ⟨v1, vs1, d1, ds1, p1, q1, rfl, rfl, rfl, h1, r1⟩ := trodAll_cons r0
  obtain ⟨v2, vs2, d2, ds2, p2, q2, rfl, rfl, rfl, h2, r2⟩ := trodAll_cons r1
  obtain ⟨rfl, rfl, rfl⟩ := trodAll_nil r2
  obtain rfl : args = #[v0, v1, v2] := by cases args; simp_all
  obtain ⟨rfl, rfl⟩ := trodVars_none hV
  have k0 := h0
  have lt0 : ∀ x ∈ p0, x.block < W.heap.size := by obtain ⟨m, hm⟩ := k0; exact DataW.trod_lt m _ _ _ hm
  obtain ⟨a0, rfl, _, _, w0⟩ := open_int Try.underlying3 (hval 0 3 v0 rfl rfl) h0
  have w0 := wf_i64 w0
  have k1 := h1
  have lt1 : ∀ x ∈ p1, x.block < W.heap.size := by obtain ⟨m, hm⟩ := k1; exact DataW.trod_lt m _ _ _ hm
  obtain ⟨a1, len1, cap1, e1⟩ := okWide_slice Try.underlying32 (hval 1 32 v1 rfl rfl)
  obtain ⟨l1, w1, b1⟩ := open_nums Try.underlying32 Try.underlying3 (by kernel_rfl) e1 k1
  subst e1
  have k2 := h2
  have lt2 : ∀ x ∈ p2, x.block < W.heap.size := by obtain ⟨m, hm⟩ := k2; exact DataW.trod_lt m _ _ _ hm
  obtain ⟨l2, rfl, n2, b2⟩ := open_array Try.underlying22 Try.underlying3 (by kernel_rfl) (by kernel_rfl) (hval 2 22 v2 rfl rfl) k2
  clear hA0 hval0
  refine (walk a0 a1 len1 cap1 l1 l2 W w0 w1 b1 n2 b2).mono fun e W' ⟨he, bel⟩ => ?_
  subst he
  exact ⟨_, rfl, _, _, _, [], _, [], hW', trodAll_mk1 (shut_bool Try.underlying4 _), (trodAll_cons_mk (Below.trod laidOut (by kernel_rfl) (of_decide_eq_true (by kernel_rfl)) k0 bel lt0) (trodAll_cons_mk (Below.trod laidOut (by kernel_rfl) (of_decide_eq_true (by kernel_rfl)) k1 bel lt1) (trodAll_cons_mk (Below.trod laidOut (by kernel_rfl) (of_decide_eq_true (by kernel_rfl)) k2 bel lt2) trodAll_mk0))), rfl, bel.frame _, fun h => by cases h⟩

theorem over : Rows.pixMapsRow.holds Try.pinned (OpenSpec.ofChange Rows.pixMapsSpec) :=
  OpenClaim.holds_of_wide 6 Try.f6 rfl rfl rfl rfl rfl rfl rfl ⟨rfl, rfl, rfl, rfl, rfl⟩ rfl rfl rfl rfl rfl (by kernel_rfl) Try.func6 (by kernel_rfl)
    (of_decide_eq_true (by kernel_rfl)) (by unfold Func.isWrapper; first | (rw [if_pos (by decide +kernel)]; kernel_rfl) | (rw [if_neg (by decide +kernel)]; exact ⟨rfl, rfl⟩))
    (fun os started H enc _ => lifted os started H enc)

/-- The statement. -/
theorem proved : Rows.PixMapsSaid := over
#print axioms proved
end Go.Proofs.Ytagpaebmpgnjhaa.pixMaps
