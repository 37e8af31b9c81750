/-
  Lasso: the reference's Area. No condition.
-/
import Derived.Test.YtdofcjmnnmmecaaKB
namespace Go.Proofs.Ytdofcjmnnmmecaa
open Go.RowKit
section
variable {c : Cx} {Q : Pst} {fr : Fr} {H F : List Ent} {ops : Array Oper} {rest : List Oper} {dst : Option Nat} {ty : TypeId} {pos : String} {after : Array Edge}
variable {x : Operand} {T : TypeId} {S : List Oper → Fr → List Ent → Prop}
theorem hl_loadF [Stp c ops S] {E : List Ent} {l : List Value} {bb off j : Nat} {v : Value} [TOne c.P T] (hx : ev fr x = .pointer (some ⟨bb, off + j, none⟩)) (hr : Rds c.w0 c.B E (some ⟨bb, off, none⟩) l) (hi : Imp H E) (hv : l[j]? = some v) (hd : dOk c.n dst = true)
    (h : S rest (updO fr dst v) H) : S (⟨dst, .load T x, ty, pos, after, none⟩ :: rest) fr H :=
  hl_load1s (a := ⟨bb, off, none⟩) (by rw [hx, Addr.add_lit]) (hr.weak fun w hw => hi _ _ _ hw) hv hd h
theorem hl_loadF1 [Stp c ops S] {E : List Ent} {l : List Value} {bb off j : Nat} {v : Value} [TOne c.P T] (hx : ev fr x = .pointer (some ⟨bb, off + j + 1, none⟩)) (hr : Rds c.w0 c.B E (some ⟨bb, off, none⟩) l) (hi : Imp H E) (hv : l[j + 1]? = some v) (hd : dOk c.n dst = true)
    (h : S rest (updO fr dst v) H) : S (⟨dst, .load T x, ty, pos, after, none⟩ :: rest) fr H :=
  hl_loadF (off := off) (j := j + 1) hx hr hi hv hd h
end
theorem cell_pt {l : List Pt} {i : Nat} (h : i < l.length) : (l.flatMap ptV)[i * 2]? = some (.int .i64 (nth l i).x) ∧ (l.flatMap ptV)[i * 2 + 1]? = some (.int .i64 (nth l i).y) := by
  have h1 := flat_pt l i h
  rw [← nth_eq h] at h1
  have h2 : (((l.flatMap ptV).drop (i * 2)).take 2)[0]? = some (.int .i64 (nth l i).x) := by rw [h1]; rfl
  have h3 : (((l.flatMap ptV).drop (i * 2)).take 2)[1]? = some (.int .i64 (nth l i).y) := by rw [h1]; rfl
  rw [List.getElem?_take, if_pos (by decide), List.getElem?_drop] at h2 h3
  exact ⟨h2, h3⟩
theorem areaI_bd {l : List Pt} (h : okS l [] = true) : -1125899906842624 ≤ areaI l ∧ areaI l ≤ 1125899906842624 := by
  obtain ⟨hr, _, h3, h256⟩ := okS_right h
  have := sumR_bd (fun i => crA (nth l (prv l.length i)) (nth l i)) l.length fun i hi => crA_bd (hr _ (nth_mem (prv_lt hi))) (hr _ (nth_mem hi))
  unfold areaI
  omega
theorem resT_len (l : List Pt) (q r : Pt) : (resT l q r).length ≤ l.length := by
  unfold resT turnL
  split
  · rw [List.length_map]; exact Nat.le_refl _
  · exact Nat.zero_le _
/-- A list told by its elements. -/
def mkL (f : Nat → Pt) (k : Nat) : List Pt := (List.range k).map f
theorem mkL_len (f : Nat → Pt) (k : Nat) : (mkL f k).length = k := by simp [mkL]
theorem mkL_succ (f : Nat → Pt) (k : Nat) : (mkL f (k + 1)).flatMap ptV = (mkL f k).flatMap ptV ++ [.int .i64 (f k).x, .int .i64 (f k).y] := by
  unfold mkL
  rw [List.range_succ, List.map_append, List.flatMap_append]
  simp
theorem mkL_nth {f : Nat → Pt} {k i : Nat} (h : i < k) : nth (mkL f k) i = f i := by
  rw [nth_eq (by rw [mkL_len]; exact h)]
  simp [mkL]
theorem mkL_ok {f : Nat → Pt} {n : Nat} (h : ∀ i, i < n → (f i).right) (h3 : 3 ≤ n) (h4 : n ≤ 256) : okS (mkL f n) [] = true := by
  refine okS_yes (decide_eq_true (by rw [mkL_len]; omega)) (fun p hp => ?_) (by simp)
  unfold mkL at hp
  obtain ⟨i, hi, rfl⟩ := List.mem_map.1 hp
  exact h i (List.mem_range.1 hi)
theorem PtR.perm {w0 : World} {B : Nat} {H H' : List Ent} {a : Option Addr} {len : Nat} {l : List Pt} (h : PtR w0 B H a len l) (hp : H'.Perm H) : PtR w0 B H' a len l := ⟨h.eq, h.pos, h.rd.perm hp⟩
set_option maxHeartbeats 8000000
set_option maxRecDepth 100000
theorem rarea_fn {w0 : World} {B : Nat} {H : List Ent} {a : Option Addr} {len cap : Nat} {l : List Pt} (hl : PtR w0 B H a len l) (hok : okS l [] = true) :
    Fn Try.prog w0 B 20 [.slice a len cap] H (fun v H' => v = .int .i64 (areaI l) ∧ H' = H) := by
  refine fn_intro Try.func20 rfl (by kernel_rfl) rfl ?_
  obtain ⟨hr, _, h3, h256⟩ := okS_right hok
  have e1 := hl.eq
  obtain ⟨bb, off, rfl⟩ := hl.pos (by omega)
  repeat (first | refine go_ ?_ | refine bx_ (fun _ => ?_))
  refine hc_loopd (fun q fr M => ∃ k, k + q = len ∧ Agr fr [(0, .slice (some ⟨bb, off, none⟩) len cap), (3, .int .i64 (sumR (fun i => crA (nth l i) (nth l (nxt len i))) k)), (4, .int .i64 (k : Int))] ∧ M = H) len ?_ ?_
  · exact ⟨0, by omega, ⟨rfl, rfl, rfl, trivial⟩, rfl⟩
  rintro q fr M ⟨k, hk, hf, rfl⟩
  obtain ⟨base, rfl⟩ := hf.out
  have hmem : ∀ i, i < len → (nth l i).right := fun i hi => hr _ (nth_mem (by omega))
  have hbd := sumR_bd (fun i => crA (nth l i) (nth l (nxt len i))) k fun i hi => crA_bd (hmem i (by omega)) (hmem _ (nxt_lt (by omega)))
  obtain ⟨s, hs⟩ : ∃ s, s = sumR (fun i => crA (nth l i) (nth l (nxt len i))) k := ⟨_, rfl⟩
  rw [← hs] at hbd ⊢
  by_cases hlt : k < len
  · have hstep : sumR (fun i => crA (nth l i) (nth l (nxt len i))) (k + 1) = s + crA (nth l k) (nth l (nxt len k)) := by rw [sumR, ← hs]
    have hnx := nxt_mod hlt
    have hnl := nxt_lt hlt
    have hir : ((k : Int) + 1).tmod (len : Int) = ((nxt len k : Nat) : Int) := by rw [hnx]; rfl
    have hie : ((k : Int) + 1) % (len : Int) = ((nxt len k : Nat) : Int) := by rw [hnx]; rfl
    obtain ⟨j, hj⟩ : ∃ j, j = nxt len k := ⟨_, rfl⟩
    rw [← hj] at hstep hir hie hnl
    obtain ⟨x1, y1⟩ := cell_pt (l := l) (i := k) (by omega)
    obtain ⟨x2, y2⟩ := cell_pt (l := l) (i := j) (by omega)
    have rp := hmem k hlt
    have rq := hmem j hnl
    have hcb := crA_bd rp rq
    obtain ⟨p, hp⟩ : ∃ p, p = nth l k := ⟨_, rfl⟩
    obtain ⟨t, ht⟩ : ∃ t, t = nth l j := ⟨_, rfl⟩
    rw [← hp] at x1 y1 rp hcb hstep
    rw [← ht] at x2 y2 rq hcb hstep
    obtain ⟨⟨⟨b1, b2⟩, b3⟩, b4⟩ := rp
    obtain ⟨⟨⟨b5, b6⟩, b7⟩, b8⟩ := rq
    have m1 := mul_bd2 (a := p.x) (b := t.y) (M := 1048576) (N := 1048576) (by omega) (by omega)
    have m2 := mul_bd2 (a := t.x) (b := p.y) (M := 1048576) (N := 1048576) (by omega) (by omega)
    have hcr : crA p t = p.x * t.y - t.x * p.y := by unfold crA; rw [Int.mul_comm p.y]
    repeat (first | rw [hir] | rw [hie] | refine go1_ ?_ | refine bx_ (fun _ => ?_))
    (refine hc_draw (by kernel_rfl) (by kernel_rfl) ?_; repeat (first | refine gd_ ?_ | refine hl_loadF (off := off) (j := k * 2) rfl hl.rd (Imp.refl _) x1 rfl ?_ | refine hl_loadF (off := off) (j := j * 2) rfl hl.rd (Imp.refl _) x2 rfl ?_ | refine hl_loadF1 (off := off) (j := k * 2) rfl hl.rd (Imp.refl _) y1 rfl ?_ | refine hl_loadF1 (off := off) (j := j * 2) rfl hl.rd (Imp.refl _) y2 rfl ?_))
    repeat (first | refine go_ ?_ | refine bx_ (fun _ => ?_))
    exact ⟨q - 1, by omega, _, Imp.refl _, k + 1, by omega, ⟨rfl, Eq.trans (b := .int .i64 (s + (p.x * t.y - t.x * p.y))) rfl (by rw [hstep, hcr]), rfl, trivial⟩, rfl⟩
  · obtain rfl : k = len := by omega
    repeat (first | refine go_ ?_ | refine bx_ (fun _ => ?_))
    exact fin1I rfl rfl ⟨by rw [hs, areaI_eq, refA, e1], rfl⟩
end Go.Proofs.Ytdofcjmnnmmecaa
