/-
  ReelClones. No condition.
-/
import Derived.Test.YtonnfhjlojmieaaR2
import Derived.Test.YtonnfhjlojmieaaOpen
namespace Go.Proofs.Ytonnfhjlojmieaa.reelClones
open Go.RowKit
set_option maxHeartbeats 8000000 in
theorem law {w0 : World} {B : Nat} {H : List Ent} (hB : w0.heap.size ≤ B) {a : Option Addr} {len cap : Nat} {l : List UInt8} (hl : Sl byteV w0 a len cap l) {a2 : Option Addr} {len2 cap2 : Nat} {l2 : List UInt8} (hl2 : Sl byteV w0 a2 len2 cap2 l2)
    {a3 : Option Addr} {len3 cap3 : Nat} {l3 : List UInt8} (hl3 : Sl byteV w0 a3 len3 cap3 l3) :
    Fn Try.prog w0 B 4 [.slice a len cap, .slice a2 len2 cap2, .slice a3 len3 cap3] H (fun u _ => u = .bool true) := by
  have e1 := hl.size_eq
  have e2 := hl2.size_eq
  have e3 := hl3.size_eq
  have r1 : ∀ E, Rds w0 B E a (l.map byteV) := fun E => Rds.sl (c := ⟨Try.prog, 0, w0, B⟩) hl hB (by simp [Value.oneCell', byteV])
  have r2 : ∀ E, Rds w0 B E a2 (l2.map byteV) := fun E => Rds.sl (c := ⟨Try.prog, 0, w0, B⟩) hl2 hB (by simp [Value.oneCell', byteV])
  have r3 : ∀ E, Rds w0 B E a3 (l3.map byteV) := fun E => Rds.sl (c := ⟨Try.prog, 0, w0, B⟩) hl3 hB (by simp [Value.oneCell', byteV])
  refine fn_intro Try.func4 rfl (by kernel_rfl) rfl ?_
  by_cases h1 : 1000 < len
  · repeat (first | refine go_ ?_ | refine bx_ (fun _ => ?_) | refine hl_callv rfl rfl (anchor_fn) ?_)
    exact fin1B rfl rfl rfl
  by_cases h2 : 1000 < len2
  · repeat (first | refine go_ ?_ | refine bx_ (fun _ => ?_) | refine hl_callv rfl rfl (anchor_fn) ?_)
    exact fin1B rfl rfl rfl
  by_cases h3 : 1000 < len3
  · repeat (first | refine go_ ?_ | refine bx_ (fun _ => ?_) | refine hl_callv rfl rfl (anchor_fn) ?_)
    exact fin1B rfl rfl rfl
  subst e1 e2 e3
  repeat (first | refine go_ ?_ | refine bx_ (fun _ => ?_) | refine hl_callv rfl rfl (anchor_fn) ?_)
  refine hl_call rfl rfl (new_r 4000 (by decide)) (fun v H' hv => ?_)
  obtain ⟨g, X, rfl, rfl, h⟩ := hv
  repeat (first | refine go_ ?_ | refine bx_ (fun _ => ?_))
  refine hl_call rfl rfl (append_o h rfl (by omega) (r1 _) (by simp; omega)) (fun v H' hv => ?_)
  obtain ⟨rfl, X, rfl, h⟩ := hv
  rw [List.nil_append] at h
  repeat (first | refine go_ ?_ | refine bx_ (fun _ => ?_))
  refine hl_call rfl rfl (clone_r h) (fun v H' hv => ?_)
  obtain ⟨g2, Y, rfl, rfl, hy⟩ := hv
  repeat (first | refine go_ ?_ | refine bx_ (fun _ => ?_))
  refine HL.perm ?_ (app_swap Y X H)
  refine hl_call rfl rfl (append_o h rfl (by omega) (r2 _) (by omega)) (fun v H' hv => ?_)
  obtain ⟨rfl, X, rfl, h⟩ := hv
  repeat (first | refine go_ ?_ | refine bx_ (fun _ => ?_))
  refine HL.perm ?_ (app_swap X Y H)
  refine hl_call rfl rfl (append_o hy rfl (by omega) (r3 _) (by omega)) (fun v H' hv => ?_)
  obtain ⟨rfl, Y, rfl, hy⟩ := hv
  repeat (first | refine go_ ?_ | refine bx_ (fun _ => ?_))
  refine HL.perm ?_ (app_swap Y X H)
  refine hl_call rfl rfl (sync_o h) (fun v H' hv => ?_)
  obtain ⟨rfl, X, rfl, h⟩ := hv
  repeat (first | refine go_ ?_ | refine bx_ (fun _ => ?_))
  refine hl_call rfl rfl (size_r h) (fun v H' hv => ?_)
  obtain ⟨rfl, rfl⟩ := hv
  repeat (first | refine go_ ?_ | refine bx_ (fun _ => ?_))
  refine hl_call rfl rfl (read_all h rfl) (fun v H' hv => ?_)
  obtain ⟨ra, ca, Za, rfl, c1, c2, rfl, oa⟩ := hv
  dsimp only at oa c1
  repeat (first | refine go_ ?_ | refine bx_ (fun _ => ?_))
  have hp : (Za ++ (X ++ (Y ++ H))).Perm (Y ++ (Za ++ (X ++ H))) := ((app_swap X Y H).append_left Za).trans (app_swap _ _ _)
  refine HL.perm ?_ hp
  refine hl_call rfl rfl (size_r hy) (fun v H' hv => ?_)
  obtain ⟨rfl, rfl⟩ := hv
  repeat (first | refine go_ ?_ | refine bx_ (fun _ => ?_))
  refine hl_call rfl rfl (read_all hy rfl) (fun v H' hv => ?_)
  obtain ⟨rb, cb, Zb, rfl, c3, c4, rfl, ob⟩ := hv
  dsimp only at ob c3
  repeat (first | refine go_ ?_ | refine bx_ (fun _ => ?_))
  refine hl_convStr (l := l ++ l2) rfl ((OwnX.rds oa (X ++ (Y ++ H))).weak ?_) rfl ?_
  · exact fun w hw => Imp.tail Zb _ _ _ _ (hw.perm (hp.symm.append_left Zb))
  repeat (first | refine go_ ?_ | refine bx_ (fun _ => ?_))
  refine hl_convStr rfl (r1 _) rfl ?_
  repeat (first | refine go_ ?_ | refine bx_ (fun _ => ?_))
  refine hl_convStr rfl (r2 _) rfl ?_
  repeat (first | refine go_ ?_ | refine bx_ (fun _ => ?_))
  repeat (first | refine go_ ?_ | refine bx_ (fun _ => ?_) | refine hl_strAddL rfl rfl (by omega) rfl ?_ | refine hl_strEqT rfl rfl rfl rfl ?_)
  refine hl_convStr (l := l ++ l3) rfl (OwnX.rds ob _) rfl ?_
  repeat (first | refine go_ ?_ | refine bx_ (fun _ => ?_))
  refine hl_convStr rfl (r1 _) rfl ?_
  repeat (first | refine go_ ?_ | refine bx_ (fun _ => ?_))
  refine hl_convStr rfl (r3 _) rfl ?_
  repeat (first | refine go_ ?_ | refine bx_ (fun _ => ?_) | refine hl_strAddL rfl rfl (by omega) rfl ?_ | refine hl_strEqT rfl rfl rfl rfl ?_)
  refine HL.imp ?_ (Imp.tail Zb _)
  refine hl_call rfl rfl (safe_r hy) (fun v H' hv => ?_)
  obtain ⟨rfl, rfl⟩ := hv
  repeat (first | refine go_ ?_ | refine bx_ (fun _ => ?_))
  refine HL.perm ?_ hp.symm
  refine HL.imp ?_ (Imp.tail Za _)
  refine hl_call rfl rfl (safe_r h) (fun v H' hv => ?_)
  obtain ⟨rfl, rfl⟩ := hv
  repeat (first | refine go_ ?_ | refine bx_ (fun _ => ?_))
  refine fin1B rfl rfl ?_
  simp
theorem walk (a : Option Addr) (len cap : Nat) (l : List UInt8) (a2 : Option Addr) (len2 cap2 : Nat) (l2 : List UInt8) (a3 : Option Addr) (len3 cap3 : Nat) (l3 : List UInt8) (w : World) (hl : Sl byteV w a len cap l) (hl2 : Sl byteV w a2 len2 cap2 l2) (hl3 : Sl byteV w a3 len3 cap3 l3) :
    Calls Try.prog 4 #[.slice a len cap, .slice a2 len2 cap2, .slice a3 len3 cap3] w fun e w' => e = .returned (.bool true) ∧ Below w.heap.size w w' :=
  calls_of_fn (law (Nat.le_refl _) hl hl2 hl3) fun _ _ h => h

/-! The step to the statement (written by program). -/
open Go.ChangeShapes Go.WideShapes Go.ChangeAt
set_option maxRecDepth 100000 in
theorem lifted (os : Os) (started : os.Started) (H : Type) (enc : TypeId × Value → H) :
    ReturnsInHanded {} Try.checked os 4 .any (Rows.reelClonesSpec.pre6 enc Try.prog Try.f4 Rows.reelClonesRow.domain false) (Rows.reelClonesSpec.post enc Try.prog Try.f4 false true false false) := by
  refine returnsInHanded_of_change (C := Try.checked) own started (by kernel_rfl) Try.func4
    (ChangeSpec.witness6 (enc := enc) (C := Try.checked) false ⟨#[], #[.slice none 0 0, .slice none 0 0, .slice none 0 0], []⟩ 8 (by kernel_rfl) (by kernel_rfl) (by kernel_rfl) (by kernel_rfl)) ?_
  intro W base args ds gs before hval0 hW hcnd _
  have hval : ∀ (j : Nat) t v, Try.f4.params[j]? = some t → args[j]? = some v → Value.okWide Try.prog W .any base t v := hval0
  have hW' := hW
  obtain ⟨p, q, hA0, hV, rfl, hfz, hnd⟩ := hW
  have hA : DataW.TrodAll enc Try.prog W 0 (fun _ => true) true Try.f4.params.toList args.toList ds p := hA0
  rw [Try.params4] at hA hval
  obtain ⟨v0, vs0, d0, ds0, p0, q0, hargs, rfl, rfl, h0, r0⟩ := trodAll_cons hA
  obtain ⟨v1, vs1, d1, ds1, p1, q1, rfl, rfl, rfl, h1, r1⟩ := trodAll_cons r0
  obtain ⟨v2, vs2, d2, ds2, p2, q2, rfl, rfl, rfl, h2, r2⟩ := trodAll_cons r1
  obtain ⟨rfl, rfl, rfl⟩ := trodAll_nil r2
  obtain rfl : args = #[v0, v1, v2] := by cases args; simp_all
  obtain ⟨rfl, rfl⟩ := trodVars_none hV
  have k0 := h0
  have lt0 : ∀ x ∈ p0, x.block < W.heap.size := by obtain ⟨m, hm⟩ := k0; exact DataW.trod_lt m _ _ _ hm
  obtain ⟨a0, len0, cap0, e0⟩ := okWide_slice Try.underlying22 (hval 0 22 v0 rfl rfl)
  obtain ⟨l0, w0⟩ := open_bytes Try.underlying22 Try.underlying5 (by kernel_rfl) e0 k0
  subst e0
  have k1 := h1
  have lt1 : ∀ x ∈ p1, x.block < W.heap.size := by obtain ⟨m, hm⟩ := k1; exact DataW.trod_lt m _ _ _ hm
  obtain ⟨a1, len1, cap1, e1⟩ := okWide_slice Try.underlying22 (hval 1 22 v1 rfl rfl)
  obtain ⟨l1, w1⟩ := open_bytes Try.underlying22 Try.underlying5 (by kernel_rfl) e1 k1
  subst e1
  have k2 := h2
  have lt2 : ∀ x ∈ p2, x.block < W.heap.size := by obtain ⟨m, hm⟩ := k2; exact DataW.trod_lt m _ _ _ hm
  obtain ⟨a2, len2, cap2, e2⟩ := okWide_slice Try.underlying22 (hval 2 22 v2 rfl rfl)
  obtain ⟨l2, w2⟩ := open_bytes Try.underlying22 Try.underlying5 (by kernel_rfl) e2 k2
  subst e2
  clear hA0 hval0
  refine (walk a0 len0 cap0 l0 a1 len1 cap1 l1 a2 len2 cap2 l2 W w0 w1 w2).mono fun e W' ⟨he, bel⟩ => ?_
  subst he
  exact ⟨_, rfl, _, _, _, [], _, [], hW', trodAll_mk1 (shut_bool Try.underlying4 _), (trodAll_cons_mk (Below.trod laidOut (by kernel_rfl) (of_decide_eq_true (by kernel_rfl)) k0 bel lt0) (trodAll_cons_mk (Below.trod laidOut (by kernel_rfl) (of_decide_eq_true (by kernel_rfl)) k1 bel lt1) (trodAll_cons_mk (Below.trod laidOut (by kernel_rfl) (of_decide_eq_true (by kernel_rfl)) k2 bel lt2) trodAll_mk0))), rfl, bel.frame _, fun h => by cases h⟩

theorem over : Rows.reelClonesRow.holds Try.pinned (OpenSpec.ofChange Rows.reelClonesSpec) :=
  OpenClaim.holds_of_wide 4 Try.f4 rfl rfl rfl rfl rfl rfl rfl ⟨rfl, rfl, rfl, rfl, rfl⟩ rfl rfl rfl rfl rfl (by kernel_rfl) Try.func4 (by kernel_rfl)
    (of_decide_eq_true (by kernel_rfl)) (by unfold Func.isWrapper; first | (rw [if_pos (by decide +kernel)]; kernel_rfl) | (rw [if_neg (by decide +kernel)]; exact ⟨rfl, rfl⟩))
    (fun os started H enc _ => lifted os started H enc)

/-- The statement. -/
theorem proved : Rows.ReelClonesSaid := over
#print axioms proved
end Go.Proofs.Ytonnfhjlojmieaa.reelClones
