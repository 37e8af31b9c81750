/-
  The anchor. No condition.
-/
import Derived.Test.YtoobhebbgbhahaaPG
namespace Go.Proofs.Ytoobhebbgbhahaa
open Go.RowKit
def E0 : Ed := ⟨[64, -1, 0, 0, 0, 0, 0, 0, 0, 0], [], [], [0, 0, 0, 0, 0, 0], []⟩
theorem i64s {n : Int} (h : -1000 ≤ n ∧ n ≤ 1000) : I64 n := ⟨by omega, by omega⟩
theorem E0_wf : E0.wf := by
  refine ⟨?_, by simp [E0], by simp [E0], ?_, by simp [E0], rfl, rfl, by decide, by decide, by decide⟩
  · intro n hn
    simp only [E0, List.mem_cons, List.not_mem_nil, or_false] at hn
    exact i64s (by omega)
  · intro n hn
    simp only [E0, List.mem_cons, List.not_mem_nil, or_false] at hn
    exact i64s (by omega)
theorem num_64 : numB 64 = [128, 1] := by
  unfold numB
  rw [show zz 64 = 128 by decide, putU_ge (by decide), show 128 / 128 = 1 by decide, putU_lt (by decide)]
  rfl
theorem num_m1 : numB (-1) = [1] := by
  unfold numB
  rw [show zz (-1) = 1 by decide, putU_lt (by decide)]
  rfl
theorem num_0 : numB 0 = [0] := by
  unfold numB
  rw [show zz 0 = 0 by decide, putU_lt (by decide)]
  rfl
theorem E0_put : E0.put = [128, 1, 1, 0, 0, 0, 0, 0, 0, 0, 0, 0, 0, 0, 0, 0, 0, 0, 0, 0] := by
  unfold Ed.put E0 lstB numsB ptsB
  simp [num_64, num_m1, num_0]
theorem getE_E0 : getE E0.put = (E0, 0) := getE_put E0_wf
/-- A read edit's lists, read again. -/
theorem BytR.take {w0 : World} {B : Nat} {H : List Ent} {a : Option Addr} {len cap : Nat} {l : List UInt8} (h : BytR w0 B H a len cap l) (j : Nat) (hj : j ≤ len) : BytR w0 B H a j cap (l.take j) := by
  have he := h.eq
  have hle := h.le
  exact ⟨by rw [List.length_take]; omega, by omega, h.small, h.nil, fun h0 => h.pos (by omega), by rw [List.map_take]; exact h.rd.take j⟩
section
variable {w0 : World} {B : Nat} {H R R0 : List Ent} {g : Nat}
set_option maxHeartbeats 16000000
set_option maxRecDepth 100000
theorem NumR.zero {a : Option Addr} : NumR w0 B H a 0 [] := ⟨rfl, fun h => absurd h (by omega), ⟨by simp, fun _ => rfl, by simp⟩⟩
theorem PtR.zero {a : Option Addr} : PtR w0 B H a 0 [] := ⟨rfl, fun h => absurd h (by omega), ⟨by simp, fun _ => rfl, by simp⟩⟩
theorem anchor_fn : Fn Try.prog w0 B 9 [] H (fun v H' => v = .bool true ∧ H' = H) := by
  refine fn_intro Try.func9 rfl (by kernel_rfl) rfl ?_
  repeat (first | refine go_ ?_ | refine bx_ (fun _ => ?_))
  have C := putEdit_fn (w0 := w0) (B := B) (H := H) (f := fun i => [64, -1, 0, 0, 0, 0, 0, 0, 0, 0].getD i 0) (m := fun _ => 0) (pa := none) (pn := 0) (pc := 0) (sa := none) (sn := 0) (sc := 0) (qa := none) (qn := 0) (qc := 0) NumR.zero PtR.zero NumR.zero E0_wf
  refine hl_call rfl rfl C (fun v M o => ?_)
  have o : Own 5 1 v E0.put.length (E0.put.map byteV) H M := o
  have hl20 : E0.put.length = 20 := by rw [E0_put]; rfl
  obtain ⟨g1, c1, rfl, hc1, hc2, _, hp⟩ := o.posn (by rw [hl20]; decide)
  obtain ⟨Xb, hpb, hob⟩ := o.permE
  rw [hl20] at hob hc1 ⊢
  refine HL.perm ?_ hpb
  have bb : ∀ F, BytR w0 B (Xb ++ F) (some ⟨g1, 0, none⟩) 20 c1 E0.put := fun F => BytR.own (hob F)
  repeat (first | refine go_ ?_ | refine bx_ (fun _ => ?_))
  refine hl_call rfl rfl (getEdit_fn (bb H) (by decide)) (fun v M o => ?_)
  obtain ⟨f, m, pv, sv, qv, P, Q, S, Xp, Xs, Xq, rfl, hE, rfl, hop, hos, hoq⟩ := o
  rw [getE_E0] at hE ⊢
  dsimp only at hE ⊢
  have hf := congrArg Ed.f hE
  have hf0 : f 0 = 64 := by have := congrArg (fun l => l.getD 0 0) hf; exact this.symm
  have hf1 : f 1 = -1 := by have := congrArg (fun l => l.getD 1 0) hf; exact this.symm
  clear hE hf
  obtain ⟨pa, pc, rfl, _, _⟩ := (hop []).form
  obtain ⟨sa, sc, rfl, _, _⟩ := (hos []).form
  obtain ⟨qa, qc, rfl, _, _⟩ := (hoq []).form
  have iM : Imp (Xp ++ (Xs ++ (Xq ++ (Xb ++ H)))) (Xb ++ H) := (Imp.tail Xp _).trans ((Imp.tail Xs _).trans (Imp.tail Xq _))
  generalize Xp ++ (Xs ++ (Xq ++ (Xb ++ H))) = M at *
  repeat (first | refine go_ ?_ | refine bx_ (fun _ => ?_) | refine hl_sliceTo (j := 19) rfl rfl rfl (by omega) rfl ?_)
  rename_i g2
  have b2 := ((bb H).imp (show Imp (⟨g2, 27, edC f m (.slice pa P.length pc) (.slice sa S.length sc) (.slice qa Q.length qc), 19⟩ :: M) (Xb ++ H) from Imp.drop iM)).take 19 (by decide)
  refine hl_call rfl rfl (getEdit_fn b2 (by decide)) (fun v M2 o => ?_)
  obtain ⟨f2, m2, pv2, sv2, qv2, P2, Q2, S2, Xp2, Xs2, Xq2, rfl, hE2, rfl, hop2, hos2, hoq2⟩ := o
  rw [getE_cut E0_wf (by rw [hl20]; decide)]
  obtain ⟨pa2, pc2, rfl, _, _⟩ := (hop2 []).form
  obtain ⟨sa2, sc2, rfl, _, _⟩ := (hos2 []).form
  obtain ⟨qa2, qc2, rfl, _, _⟩ := (hoq2 []).form
  have tg2 := fun (e : Ent) => Take.there (x := e) (Take.app Xp2 (Take.app Xs2 (Take.app Xq2 (.here (e := ⟨g2, 27, edC f m (.slice pa P.length pc) (.slice sa S.length sc) (.slice qa Q.length qc), 19⟩) (H := M)))))
  have iA : ∀ e : Ent, Imp (e :: (Xp2 ++ (Xs2 ++ (Xq2 ++ (⟨g2, 27, edC f m (.slice pa P.length pc) (.slice sa S.length sc) (.slice qa Q.length qc), 19⟩ :: M))))) (Xb ++ H) := fun e => Imp.drop ((Imp.tail Xp2 _).trans ((Imp.tail Xs2 _).trans ((Imp.tail Xq2 _).trans (Imp.drop iM))))
  have hr := (bb H).rd
  rw [E0_put] at hr
  repeat (first | refine hl_loadRd (j := 0) rfl hr (iA _) (v := .int .u8 128) rfl rfl ?_ | refine hl_loadRd (j := 1) rfl hr (iA _) (v := .int .u8 1) rfl rfl ?_ | refine hl_loadRd (j := 2) rfl hr (iA _) (v := .int .u8 1) rfl rfl ?_ | refine hl_load1 rfl (tg2 _) rfl rfl ?_ | refine go1_ ?_ | refine bx_ (fun _ => ?_))
  exact fin1B rfl rfl ⟨rfl, rfl⟩ ((iA _).trans (Imp.tail Xb H))
end
end Go.Proofs.Ytoobhebbgbhahaa
