/-
  The statement PixTables holds, whatever the kind and the params.
-/
import Derived.Test.YtagpaebmpgnjhaaPixTab
import Derived.Test.YtagpaebmpgnjhaaOpenArr
namespace Go.Proofs.Ytagpaebmpgnjhaa.pixTables
open Go.RowKit

theorem par_of {w0 : World} {B : Nat} (hB : w0.heap.size ≤ B) {a : Option Addr} {len cap : Nat} {l : List Int} (h : Sl intV w0 a len cap l) (hx : ∀ x ∈ l, -9223372036854775808 ≤ x ∧ x ≤ 9223372036854775807) (hs : len ≤ 1000) : Par w0 B a len cap (fun j => l.getD j 0) :=
  ⟨fun h0 => h.prm (fun _ => rfl) hB h0, fun i hi => by
    have hl := h.size_eq
    rw [List.getD_eq_getElem?_getD, List.getElem?_eq_getElem (by omega)]
    exact hx _ (List.getElem_mem _), hs⟩
set_option maxHeartbeats 8000000 in
set_option maxRecDepth 100000 in
theorem law {w0 : World} {B : Nat} {H : List Ent} (hB : w0.heap.size ≤ B) (kind : Int) {a : Option Addr} {len cap : Nat} {l : List Int} (hl : Sl intV w0 a len cap l) (hx : ∀ x ∈ l, -9223372036854775808 ≤ x ∧ x ≤ 9223372036854775807) :
    Fn Try.prog w0 B 10 [.int .i64 kind, .slice a len cap] H (fun u _ => u = .bool true) := by
  refine fn_intro Try.func10 rfl (by kernel_rfl) rfl ?_
  have hsm := hl.small
  have hle := hl.le
  by_cases h100 : 100 < len
  · repeat (first | refine go_ ?_ | refine bx_ (fun _ => ?_) | refine hl_callv rfl rfl (anchor_fn) ?_)
    exact fin1B rfl rfl rfl
  have hp := par_of hB hl hx (by omega)
  generalize (fun j => l.getD j 0) = f at hp
  repeat (first | refine go_ ?_ | refine bx_ (fun _ => ?_) | refine hl_callv rfl rfl (anchor_fn) ?_)
  refine hl_call rfl rfl (table_fn kind hp) (fun r H1 hr => ?_)
  rcases hr with ⟨hR, g, rfl, rfl⟩ | ⟨hR, rfl, rfl⟩
  · repeat (first | refine go_ ?_ | refine bx_ (fun _ => ?_))
    refine hl_call rfl rfl (rtable_fn kind hp) (fun r H2 hr => ?_)
    rcases hr with ⟨_, g2, rfl, rfl⟩ | ⟨hR2, _, _⟩
    · repeat (first | refine go_ ?_ | refine bx_ (fun _ => ?_))
      refine hc_loop (fun m fr X => ∃ k, k + m = 256 ∧ Agr fr [(7, .slice (some ⟨g2, 0, none⟩) 256 256), (39, .slice (some ⟨g, 0, none⟩) 256 256), (40, .int .i64 256), (41, .int .i64 (k : Int))] ∧ X = ⟨g2, 3, tab 256 (fun v => tblZ kind len f v), 256⟩ :: ⟨g, 3, tab 256 (fun v => tblZ kind len f v), 256⟩ :: H) 256 ?_ ?_
      · exact ⟨0, by omega, ⟨rfl, rfl, rfl, rfl, trivial⟩, rfl⟩
      rintro m fr X ⟨k, hk, hf, rfl⟩
      obtain ⟨base, rfl⟩ := hf.out
      clear hf
      by_cases hlt : k < 256
      · repeat (first | refine go_ ?_ | refine bx_ (fun _ => ?_))
        exact ⟨m - 1, by omega, k + 1, by omega, ⟨rfl, rfl, rfl, rfl, trivial⟩, rfl⟩
      · repeat (first | refine go_ ?_ | refine bx_ (fun _ => ?_))
        exact fin1B rfl rfl rfl
    · exact absurd hR hR2
  · repeat (first | refine go_ ?_ | refine bx_ (fun _ => ?_))
    refine hl_call rfl rfl (rtable_fn kind hp) (fun r H2 hr => ?_)
    rcases hr with ⟨hR2, _⟩ | ⟨hR2, ⟨a2, m2, c2, rfl⟩, rfl⟩
    · exact absurd hR2 hR
    · repeat (first | refine go_ ?_ | refine bx_ (fun _ => ?_))
      exact fin1B rfl rfl rfl
theorem walk (kind : Int) (a : Option Addr) (len cap : Nat) (l : List Int) (w : World) (_ : -9223372036854775808 ≤ kind ∧ kind ≤ 9223372036854775807) (hl : Sl intV w a len cap l) (hx : ∀ x ∈ l, -9223372036854775808 ≤ x ∧ x ≤ 9223372036854775807) :
    Calls Try.prog 10 #[.int .i64 kind, .slice a len cap] w fun e w' => e = .returned (.bool true) ∧ Below w.heap.size w w' :=
  calls_of_fn (law (Nat.le_refl _) kind hl hx) fun _ _ h => h

/-! The step to the statement (written by program). -/
open Go.ChangeShapes Go.WideShapes Go.ChangeAt
set_option maxRecDepth 100000 in
theorem lifted (os : Os) (started : os.Started) (H : Type) (enc : TypeId × Value → H) :
    ReturnsInHanded {} Try.checked os 10 .any (Rows.pixTablesSpec.pre6 enc Try.prog Try.f10 Rows.pixTablesRow.domain false) (Rows.pixTablesSpec.post enc Try.prog Try.f10 false true false false) := by
  refine returnsInHanded_of_change (C := Try.checked) own started (by kernel_rfl) Try.func10
    (ChangeSpec.witness6 (enc := enc) (C := Try.checked) false ⟨#[], #[.int .i64 0, .slice none 0 0], []⟩ 8 (by kernel_rfl) (by kernel_rfl) (by kernel_rfl) (by kernel_rfl)) ?_
  intro W base args ds gs before hval0 hW hcnd _
  have hval : ∀ (j : Nat) t v, Try.f10.params[j]? = some t → args[j]? = some v → Value.okWide Try.prog W .any base t v := hval0
  have hW' := hW
  obtain ⟨p, q, hA0, hV, rfl, hfz, hnd⟩ := hW
  have hA : DataW.TrodAll enc Try.prog W 0 (fun _ => true) true Try.f10.params.toList args.toList ds p := hA0
  rw [Try.params10] at hA hval
  obtain ⟨v0, vs0, d0, ds0, p0, q0, hargs, rfl, rfl, h0, r0⟩ := trodAll_cons hA
  obtain ⟨v1, vs1, d1, ds1, p1, q1, rfl, rfl, rfl, h1, r1⟩ := trodAll_cons r0
  obtain ⟨rfl, rfl, rfl⟩ := trodAll_nil r1
  obtain rfl : args = #[v0, v1] := by cases args; simp_all
  obtain ⟨rfl, rfl⟩ := trodVars_none hV
  have k0 := h0
  have lt0 : ∀ x ∈ p0, x.block < W.heap.size := by obtain ⟨m, hm⟩ := k0; exact DataW.trod_lt m _ _ _ hm
  obtain ⟨a0, rfl, _, _, w0⟩ := open_int Try.underlying3 (hval 0 3 v0 rfl rfl) h0
  have w0 := wf_i64 w0
  have k1 := h1
  have lt1 : ∀ x ∈ p1, x.block < W.heap.size := by obtain ⟨m, hm⟩ := k1; exact DataW.trod_lt m _ _ _ hm
  obtain ⟨a1, len1, cap1, e1⟩ := okWide_slice Try.underlying32 (hval 1 32 v1 rfl rfl)
  obtain ⟨l1, w1, b1⟩ := open_nums Try.underlying32 Try.underlying3 (by kernel_rfl) e1 k1
  subst e1
  clear hA0 hval0
  refine (walk a0 a1 len1 cap1 l1 W w0 w1 b1).mono fun e W' ⟨he, bel⟩ => ?_
  subst he
  exact ⟨_, rfl, _, _, _, [], _, [], hW', trodAll_mk1 (shut_bool Try.underlying4 _), (trodAll_cons_mk (Below.trod laidOut (by kernel_rfl) (of_decide_eq_true (by kernel_rfl)) k0 bel lt0) (trodAll_cons_mk (Below.trod laidOut (by kernel_rfl) (of_decide_eq_true (by kernel_rfl)) k1 bel lt1) trodAll_mk0)), rfl, bel.frame _, fun h => by cases h⟩

theorem over : Rows.pixTablesRow.holds Try.pinned (OpenSpec.ofChange Rows.pixTablesSpec) :=
  OpenClaim.holds_of_wide 10 Try.f10 rfl rfl rfl rfl rfl rfl rfl ⟨rfl, rfl, rfl, rfl, rfl⟩ rfl rfl rfl rfl rfl (by kernel_rfl) Try.func10 (by kernel_rfl)
    (of_decide_eq_true (by kernel_rfl)) (by unfold Func.isWrapper; first | (rw [if_pos (by decide +kernel)]; kernel_rfl) | (rw [if_neg (by decide +kernel)]; exact ⟨rfl, rfl⟩))
    (fun os started H enc _ => lifted os started H enc)

/-- The statement. -/
theorem proved : Rows.PixTablesSaid := over
#print axioms proved
end Go.Proofs.Ytagpaebmpgnjhaa.pixTables
