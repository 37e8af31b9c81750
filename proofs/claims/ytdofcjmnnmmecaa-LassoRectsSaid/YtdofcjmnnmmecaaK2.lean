/-
  Lasso: check. No condition.
-/
import Derived.Test.YtdofcjmnnmmecaaK1
namespace Go.Proofs.Ytdofcjmnnmmecaa
open Go.RowKit
theorem flat_pt (l : List Pt) (i : Nat) (h : i < l.length) : ((l.flatMap ptV).drop (i * 2)).take 2 = ptV l[i] := by
  induction l generalizing i with
  | nil => simp at h
  | cons x l ih =>
    cases i with
    | zero => simp
    | succ i =>
      rw [List.flatMap_cons, List.drop_append, show (i + 1) * 2 - (ptV x).length = i * 2 by simp; omega, List.drop_of_length_le (by simp; omega)]
      simpa using ih i (by simpa using h)
theorem length_pts (l : List Pt) : (l.flatMap ptV).length = l.length * 2 := by
  induction l with
  | nil => rfl
  | cons x l ih => rw [List.flatMap_cons, List.length_append, ih, List.length_cons]; simp; omega
theorem one_pts (l : List Pt) : ∀ u ∈ l.flatMap ptV, u.oneCell' = true := by
  intro u hu
  obtain ⟨p, _, h⟩ := List.mem_flatMap.1 hu
  simp only [ptV, List.mem_cons, List.not_mem_nil, or_false] at h
  rcases h with rfl | rfl <;> rfl
/-- A list of points that is read here. -/
structure PtR (w0 : World) (B : Nat) (H : List Ent) (a : Option Addr) (len : Nat) (l : List Pt) : Prop where
  eq : l.length = len
  pos : 0 < len → ∃ bb off, a = some ⟨bb, off, none⟩
  rd : Rds w0 B H a (l.flatMap ptV)
theorem PtR.imp {w0 : World} {B : Nat} {H H' : List Ent} {a : Option Addr} {len : Nat} {l : List Pt} (h : PtR w0 B H a len l) (hi : Imp H' H) : PtR w0 B H' a len l := ⟨h.eq, h.pos, h.rd.weak fun w hw => hi _ _ _ hw⟩
theorem PtR.part {w0 : World} {B : Nat} {H : List Ent} {a : Option Addr} {len : Nat} {l : List Pt} (h : PtR w0 B H a len l) {k : Nat} (hk : k < len) : ∃ x y, ∃ hl : k < l.length, l[k] = ⟨x, y⟩ ∧ ((l.flatMap ptV).drop (k * 2)).take 2 = [.int .i64 x, .int .i64 y] := by
  have hl : k < l.length := by rw [h.eq]; exact hk
  exact ⟨l[k].x, l[k].y, hl, rfl, flat_pt l k hl⟩
section
variable {c : Cx} {Q : Pst} {fr : Fr} {H F : List Ent} {ops : Array Oper} {rest : List Oper} {dst : Option Nat} {ty : TypeId} {pos : String} {after : Array Edge}
variable {x : Operand} {T : TypeId} {S : List Oper → Fr → List Ent → Prop}
/-- A struct out of what is known to lie there. -/
theorem hl_loadRN [Stp c ops S] {E : List Ent} {l vs : List Value} {bb off j n : Nat} [TAgg c.P T] [TSz c.P T n] (hx : ev fr x = .pointer (some ⟨bb, off + j, none⟩)) (hr : Rds c.w0 c.B E (some ⟨bb, off, none⟩) l) (hi : Imp H E) (hv : (l.drop j).take n = vs) (hn : vs.length = n) (hd : dOk c.n dst = true)
    (h : S rest (updO fr dst (.agg vs.toArray)) H) : S (⟨dst, .load T x, ty, pos, after, none⟩ :: rest) fr H :=
  hl_pure hd _ (fun w hw => by
    have hc := run_loadCells_list (P := c.P) w ⟨bb, off + j, none⟩ vs (fun i v hi2 => by
      rw [Addr.add_lit]
      rw [← hv, List.getElem?_take] at hi2
      split at hi2
      · rw [List.getElem?_drop] at hi2
        have := hr.cell w (hi _ _ _ hw) _ rfl (j + i) v hi2
        rw [Addr.add_lit] at this
        rw [← this, Nat.add_assoc]
      · cases hi2)
    rw [hn] at hc
    simp [execOp, hx, Instr.loadAt, Instr.sureAddr, loadVar, isAgg_agg (T := T), sizeOf_sz (T := T) (n := n), hc]) h
end
/-- The shape is right, and so are the points beside it. -/
def okS (l m : List Pt) : Bool := decide (3 ≤ l.length ∧ l.length ≤ 256) && (l.all (fun p => decide p.right) && m.all (fun p => decide p.right))
def errV (b : Bool) : Int := if b then 0 else 31

theorem okS_no1 {l m : List Pt} {k : Nat} (hk : k < l.length) (h : ¬ (l[k]).right) : okS l m = false := by
  have : l.all (fun p => decide p.right) = false := by
    rw [List.all_eq_false]
    exact ⟨l[k], List.getElem_mem hk, by simpa using h⟩
  rw [okS, this]; simp
theorem okS_no2 {l m : List Pt} {k : Nat} (hk : k < m.length) (h : ¬ (m[k]).right) : okS l m = false := by
  have : m.all (fun p => decide p.right) = false := by
    rw [List.all_eq_false]
    exact ⟨m[k], List.getElem_mem hk, by simpa using h⟩
  rw [okS, this]; simp
theorem okS_yes {l m : List Pt} (h3 : decide (3 ≤ l.length ∧ l.length ≤ 256) = true) (h1 : ∀ p ∈ l, p.right) (h2 : ∀ p ∈ m, p.right) : okS l m = true := by
  rw [okS, h3, Bool.true_and, Bool.and_eq_true, List.all_eq_true, List.all_eq_true]
  exact ⟨fun p hp => decide_eq_true (h1 p hp), fun p hp => decide_eq_true (h2 p hp)⟩

set_option maxHeartbeats 8000000
set_option maxRecDepth 100000
theorem check_fn {w0 : World} {B : Nat} {H : List Ent} {a a2 : Option Addr} {len cap len2 cap2 : Nat} {l m : List Pt} (hl : PtR w0 B H a len l) (hm : PtR w0 B H a2 len2 m) (h5 : len ≤ 9223372036854775806) (h6 : len2 ≤ 9223372036854775806) :
    Fn Try.prog w0 B 23 [.slice a len cap, .slice a2 len2 cap2] H (fun u H' => u = .int .i64 (errV (okS l m)) ∧ H' = H) := by
  refine fn_intro Try.func23 rfl (by kernel_rfl) rfl ?_
  have e1 := hl.eq
  have e2 := hm.eq
  by_cases h1 : len < 3
  · repeat (first | refine go_ ?_ | refine bx_ (fun _ => ?_))
    refine fin1I rfl rfl ⟨?_, rfl⟩
    rw [okS, decide_eq_false (by omega)]; rfl
  by_cases h2 : 256 < len
  · repeat (first | refine go_ ?_ | refine bx_ (fun _ => ?_))
    refine fin1I rfl rfl ⟨?_, rfl⟩
    rw [okS, decide_eq_false (by omega)]; rfl
  have h3 : decide (3 ≤ l.length ∧ l.length ≤ 256) = true := decide_eq_true (by omega)
  repeat (first | refine go_ ?_ | refine bx_ (fun _ => ?_))
  rename_i g0
  refine hc_rounds 3 ?_
  repeat (first | refine go_ ?_ | refine bx_ (fun _ => ?_))
  refine hc_loopd (fun q fr M => ∃ k, k + q = len ∧ (∀ i (hi : i < l.length), i < k → (l[i]).right) ∧ Agr fr [(0, .slice a len cap), (1, .slice a2 len2 cap2), (19, .slice (some ⟨g0, 0, none⟩) 2 2), (20, .int .i64 2), (21, .int .i64 0), (25, .slice a len cap), (26, .int .i64 (len : Int)), (27, .int .i64 (k : Int))] ∧ Imp M (⟨g0, 22, [.slice a len cap, .slice a2 len2 cap2], 2 * 1⟩ :: H)) len ?_ ?_
  · exact ⟨0, by omega, fun i _ h => absurd h (by omega), ⟨rfl, rfl, rfl, rfl, rfl, rfl, rfl, rfl, trivial⟩, Imp.refl _⟩
  rintro q fr M ⟨k, hk, hall, hf, hi⟩
  obtain ⟨base, rfl⟩ := hf.out
  refine HC.imp ?_ hi
  by_cases hlt : k < len
  · obtain ⟨bb, off, rfl⟩ := hl.pos (by omega)
    obtain ⟨px, py, hkl, hxe, hpart⟩ := hl.part hlt
    by_cases hr : (l[k]).right
    all_goals
      have hR := hr
      rw [hxe] at hr
      repeat (first | refine go_ ?_ | refine bx_ (fun _ => ?_))
      refine hl_loadRN (E := H) rfl hl.rd (Imp.drop (Imp.refl _)) hpart rfl rfl ?_
      repeat (first | refine go_ ?_ | refine bx_ (fun _ => ?_))
      refine hl_callv rfl rfl (lright_fn ⟨px, py⟩) ?_
      first | rw [decide_eq_true hr] | rw [decide_eq_false hr]
      repeat (first | refine go_ ?_ | refine bx_ (fun _ => ?_))
    · refine ⟨q - 1, by omega, _, Imp.drop (Imp.refl _), k + 1, by omega, fun i hi2 h9 => ?_, ⟨rfl, rfl, rfl, rfl, rfl, rfl, rfl, rfl, trivial⟩, Imp.refl _⟩
      by_cases h8 : i < k
      · exact hall i hi2 h8
      · obtain rfl : i = k := by omega
        exact hR
    · refine fin1I rfl rfl ⟨?_, rfl⟩ (Imp.drop (Imp.drop (Imp.refl _)))
      rw [show okS l m = false from okS_no1 hkl hR]; rfl
  have halen : ∀ p ∈ l, p.right := fun p hp => by obtain ⟨i, hi2, rfl⟩ := List.getElem_of_mem hp; exact hall i hi2 (by omega)
  repeat (first | refine go_ ?_ | refine bx_ (fun _ => ?_))
  refine hc_loopd (fun q fr M => ∃ k, k + q = len2 ∧ (∀ i (hi : i < m.length), i < k → (m[i]).right) ∧ Agr fr [(0, .slice a len cap), (1, .slice a2 len2 cap2), (19, .slice (some ⟨g0, 0, none⟩) 2 2), (20, .int .i64 2), (21, .int .i64 1), (25, .slice a2 len2 cap2), (26, .int .i64 (len2 : Int)), (27, .int .i64 (k : Int))] ∧ Imp M (⟨g0, 22, [.slice a len cap, .slice a2 len2 cap2], 2 * 1⟩ :: H)) len2 ?_ ?_
  · exact ⟨0, by omega, fun i _ h => absurd h (by omega), ⟨rfl, rfl, rfl, rfl, rfl, rfl, rfl, rfl, trivial⟩, Imp.refl _⟩
  rintro q fr M ⟨k, hk, hall, hf, hi⟩
  obtain ⟨base, rfl⟩ := hf.out
  refine HC.imp ?_ hi
  by_cases hlt : k < len2
  · obtain ⟨bb, off, rfl⟩ := hm.pos (by omega)
    obtain ⟨px, py, hkl, hxe, hpart⟩ := hm.part hlt
    by_cases hr : (m[k]).right
    all_goals
      have hR := hr
      rw [hxe] at hr
      repeat (first | refine go_ ?_ | refine bx_ (fun _ => ?_))
      refine hl_loadRN (E := H) rfl hm.rd (Imp.drop (Imp.refl _)) hpart rfl rfl ?_
      repeat (first | refine go_ ?_ | refine bx_ (fun _ => ?_))
      refine hl_callv rfl rfl (lright_fn ⟨px, py⟩) ?_
      first | rw [decide_eq_true hr] | rw [decide_eq_false hr]
      repeat (first | refine go_ ?_ | refine bx_ (fun _ => ?_))
    · refine ⟨q - 1, by omega, _, Imp.drop (Imp.refl _), k + 1, by omega, fun i hi2 h9 => ?_, ⟨rfl, rfl, rfl, rfl, rfl, rfl, rfl, rfl, trivial⟩, Imp.refl _⟩
      by_cases h8 : i < k
      · exact hall i hi2 h8
      · obtain rfl : i = k := by omega
        exact hR
    · refine fin1I rfl rfl ⟨?_, rfl⟩ (Imp.drop (Imp.drop (Imp.refl _)))
      rw [show okS l m = false from okS_no2 hkl hR]; rfl
  have halen2 : ∀ p ∈ m, p.right := fun p hp => by obtain ⟨i, hi2, rfl⟩ := List.getElem_of_mem hp; exact hall i hi2 (by omega)
  repeat (first | refine go_ ?_ | refine bx_ (fun _ => ?_))
  refine fin1I rfl rfl ⟨?_, rfl⟩
  rw [okS_yes h3 halen halen2]; rfl
end Go.Proofs.Ytdofcjmnnmmecaa
