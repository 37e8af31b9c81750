/-
  An edit that is written. No condition.
-/
import Derived.Test.YtoobhebbgbhahaaP4
namespace Go.Proofs.Ytoobhebbgbhahaa
open Go.RowKit
abbrev ptV (p : Pt) : List Value := [.int .i64 p.x, .int .i64 p.y]
theorem flat_pt (l : List Pt) (i : Nat) (h : i < l.length) : ((l.flatMap ptV).drop (i * 2)).take 2 = ptV l[i] := by
  induction l generalizing i with
  | nil => simp at h
  | cons x l ih =>
    cases i with
    | zero => simp
    | succ i =>
      rw [List.flatMap_cons, List.drop_append, show (i + 1) * 2 - (ptV x).length = i * 2 by simp; omega, List.drop_of_length_le (by simp; omega)]
      simpa using ih i (by simpa using h)
theorem length_pts (l : List Pt) : (l.flatMap ptV).length = l.length * 2 := by
  induction l with
  | nil => rfl
  | cons x l ih => rw [List.flatMap_cons, List.length_append, ih, List.length_cons]; simp; omega
theorem one_pts (l : List Pt) : ∀ u ∈ l.flatMap ptV, u.oneCell' = true := by
  intro u hu
  obtain ⟨p, _, h⟩ := List.mem_flatMap.1 hu
  simp only [ptV, List.mem_cons, List.not_mem_nil, or_false] at h
  rcases h with rfl | rfl <;> rfl
/-- A list of points that is read here. -/
structure PtR (w0 : World) (B : Nat) (H : List Ent) (a : Option Addr) (len : Nat) (l : List Pt) : Prop where
  eq : l.length = len
  pos : 0 < len → ∃ bb off, a = some ⟨bb, off, none⟩
  rd : Rds w0 B H a (l.flatMap ptV)
theorem PtR.imp {w0 : World} {B : Nat} {H H' : List Ent} {a : Option Addr} {len : Nat} {l : List Pt} (h : PtR w0 B H a len l) (hi : Imp H' H) : PtR w0 B H' a len l := ⟨h.eq, h.pos, h.rd.weak fun w hw => hi _ _ _ hw⟩
theorem PtR.part {w0 : World} {B : Nat} {H : List Ent} {a : Option Addr} {len : Nat} {l : List Pt} (h : PtR w0 B H a len l) {k : Nat} (hk : k < len) : ∃ x y, ∃ hl : k < l.length, l[k] = ⟨x, y⟩ ∧ ((l.flatMap ptV).drop (k * 2)).take 2 = [.int .i64 x, .int .i64 y] := by
  have hl : k < l.length := by rw [h.eq]; exact hk
  exact ⟨l[k].x, l[k].y, hl, rfl, flat_pt l k hl⟩
section
variable {c : Cx} {Q : Pst} {fr : Fr} {H F : List Ent} {ops : Array Oper} {rest : List Oper} {dst : Option Nat} {ty : TypeId} {pos : String} {after : Array Edge}
variable {x : Operand} {T : TypeId} {S : List Oper → Fr → List Ent → Prop}
/-- A struct out of what is known to lie there. -/
theorem hl_loadRN [Stp c ops S] {E : List Ent} {l vs : List Value} {bb off j n : Nat} [TAgg c.P T] [TSz c.P T n] (hx : ev fr x = .pointer (some ⟨bb, off + j, none⟩)) (hr : Rds c.w0 c.B E (some ⟨bb, off, none⟩) l) (hi : Imp H E) (hv : (l.drop j).take n = vs) (hn : vs.length = n) (hd : dOk c.n dst = true)
    (h : S rest (updO fr dst (.agg vs.toArray)) H) : S (⟨dst, .load T x, ty, pos, after, none⟩ :: rest) fr H :=
  hl_pure hd _ (fun w hw => by
    have hc := run_loadCells_list (P := c.P) w ⟨bb, off + j, none⟩ vs (fun i v hi2 => by
      rw [Addr.add_lit]
      rw [← hv, List.getElem?_take] at hi2
      split at hi2
      · rw [List.getElem?_drop] at hi2
        have := hr.cell w (hi _ _ _ hw) _ rfl (j + i) v hi2
        rw [Addr.add_lit] at this
        rw [← this, Nat.add_assoc]
      · cases hi2)
    rw [hn] at hc
    simp [execOp, hx, Instr.loadAt, Instr.sureAddr, loadVar, isAgg_agg (T := T), sizeOf_sz (T := T) (n := n), hc]) h
end
theorem PtR.at' {w0 : World} {B : Nat} {H : List Ent} {a : Option Addr} {len : Nat} {l : List Pt} (h : PtR w0 B H a len l) {k : Nat} (hk : k < len) : ∃ hl : k < l.length, ((l.flatMap ptV).drop (k * 2)).take 2 = [.int .i64 l[k].x, .int .i64 l[k].y] := by
  have hl : k < l.length := by rw [h.eq]; exact hk
  exact ⟨hl, flat_pt l k hl⟩
/-- An edit's cells: ten numbers, two lists, six numbers, a list. -/
abbrev edC (f m : Nat → Int) (pv sv qv : Value) : List Value := [.int .i64 (f 0), .int .i64 (f 1), .int .i64 (f 2), .int .i64 (f 3), .int .i64 (f 4), .int .i64 (f 5), .int .i64 (f 6), .int .i64 (f 7), .int .i64 (f 8), .int .i64 (f 9), pv, sv, .int .i64 (m 0), .int .i64 (m 1), .int .i64 (m 2), .int .i64 (m 3), .int .i64 (m 4), .int .i64 (m 5), qv]
abbrev f10 (f : Nat → Int) : List Int := [f 0, f 1, f 2, f 3, f 4, f 5, f 6, f 7, f 8, f 9]
abbrev f6 (m : Nat → Int) : List Int := [m 0, m 1, m 2, m 3, m 4, m 5]
theorem length_lstB_le {l : List Int} (h : ∀ n ∈ l, I64 n) (hl : l.length ≤ 1000000) : (lstB l).length ≤ 10 + 10 * l.length := by
  have h1 := length_numsB_le h
  have h2 := length_numB_le (n := (l.length : Int)) ⟨by omega, by omega⟩
  unfold lstB
  rw [List.length_append]; omega
theorem length_ptsB_le : ∀ {l : List Pt}, (∀ p ∈ l, I64 p.x ∧ I64 p.y) → (ptsB l).length ≤ 20 * l.length
  | [], _ => Nat.le_refl _
  | p :: l, h => by
    have h1 := length_ptsB_le (l := l) fun m hm => h m (by simp [hm])
    have h2 := length_numB_le (h p (by simp)).1
    have h3 := length_numB_le (h p (by simp)).2
    unfold ptsB at *
    rw [List.flatMap_cons, List.length_append, List.length_append, List.length_cons]; omega
theorem ptsB_take {l : List Pt} {k : Nat} (h : k < l.length) : ptsB (l.take (k + 1)) = ptsB (l.take k) ++ numsB [l[k].x, l[k].y] := by
  rw [List.take_succ_eq_append_getElem h]
  unfold ptsB numsB
  rw [List.flatMap_append]
  congr 1
  simp
section
variable {w0 : World} {B : Nat} {H R : List Ent} {g : Nat}
set_option maxHeartbeats 8000000
set_option maxRecDepth 100000
theorem onums_fn {bs : List UInt8} {X : List Ent} (hX : Ou g bs X) {a : Option Addr} {len cap : Nat} {L : List Int} (hL : NumR w0 B R a len L) (hI : ∀ n ∈ L, I64 n) (hlen : len ≤ 1000000) (hb : bs.length ≤ 500000000) :
    Fn Try.prog w0 B 26 [.pointer (some ⟨g, 0, none⟩), .slice a len cap] (X ++ R) (fun _ H' => ∃ X', Imp H' (X' ++ R) ∧ Ou g (bs ++ lstB L) X') := by
  have he := hL.eq
  refine fn_intro Try.func26 rfl (by kernel_rfl) rfl ?_
  repeat (first | refine go_ ?_ | refine bx_ (fun _ => ?_))
  rename_i gb
  refine HL.perm ?_ (Take.app X (.here (e := ⟨gb, 3, [.int .i64 (len : Int)], 1 * 1⟩) (H := R))).perm.symm
  refine hl_call rfl rfl (onum_fn (cap := 1) (len := 1) (L := [(len : Int)]) hX (NumR.ent (i := 0) (n := 1) .here rfl rfl) (fun n hn => by rw [List.mem_singleton.1 hn]; exact ⟨by omega, by omega⟩) (by omega)) (fun v M o => ?_)
  obtain ⟨X1, hi1, hX1⟩ := o
  refine HL.imp ?_ (hi1.trans (Imp.sub (List.Sublist.append (List.Sublist.refl _) (List.sublist_cons_self _ _))))
  repeat (first | refine go_ ?_ | refine bx_ (fun _ => ?_))
  have h1 : (numsB [(len : Int)]).length ≤ 10 * 1 := length_numsB_le (l := [(len : Int)]) (fun n hn => by rw [List.mem_singleton.1 hn]; exact ⟨by omega, by omega⟩)
  refine hl_call rfl rfl (onum_fn hX1 hL hI (by rw [List.length_append]; omega)) (fun v M o => ?_)
  obtain ⟨X2, hi2, hX2⟩ := o
  repeat (first | refine go_ ?_ | refine bx_ (fun _ => ?_))
  refine fin0 rfl ⟨X2, hi2, ?_⟩ (Imp.refl _)
  have e : bs ++ lstB L = bs ++ numsB [(len : Int)] ++ numsB L := by
    unfold lstB
    rw [he, List.append_assoc]
    simp [numsB]
  rw [e]; exact hX2
theorem putEdit_fn {f m : Nat → Int} {pa sa qa : Option Addr} {pn pc sn sc qn qc : Nat} {P Q : List Int} {S : List Pt} (hP : NumR w0 B H pa pn P) (hS : PtR w0 B H sa sn S) (hQ : NumR w0 B H qa qn Q) (hw : Ed.wf ⟨f10 f, P, S, f6 m, Q⟩) :
    Fn Try.prog w0 B 10 [.agg (edC f m (.slice pa pn pc) (.slice sa sn sc) (.slice qa qn qc)).toArray] H (fun v H' => Own 5 1 v (Ed.put ⟨f10 f, P, S, f6 m, Q⟩).length ((Ed.put ⟨f10 f, P, S, f6 m, Q⟩).map byteV) H H') := by
  have eP := hP.eq
  have eS := hS.eq
  have eQ := hQ.eq
  obtain ⟨wf1, wP, wS, wm, wQ, _, _, lP, lS, lQ⟩ := hw
  dsimp only at wf1 wP wS wm wQ lP lS lQ
  refine fn_intro Try.func10 rfl (by kernel_rfl) rfl ?_
  repeat (first | refine go_ ?_ | refine bx_ (fun _ => ?_))
  rename_i gE g gb
  obtain ⟨eb, heb⟩ : ∃ eb : Ent, eb = ⟨gE, 27, edC f m (.slice pa pn pc) (.slice sa sn sc) (.slice qa qn qc), 19⟩ := ⟨_, rfl⟩
  have tx : ∀ (Y T : List Ent), Take (Y ++ (eb :: T)) ⟨gE, 27, edC f m (.slice pa pn pc) (.slice sa sn sc) (.slice qa qn qc), 19⟩ (Y ++ T) := fun Y T => by rw [heb]; exact Take.app Y .here
  refine HL.perm (H' := [⟨g, 74, [.slice none 0 0], 1⟩] ++ (⟨gb, 3, (f10 f).map iV, 10⟩ :: (eb :: H))) ?_ (by rw [heb]; exact List.Perm.swap _ _ _)
  have hX0 : Ou g [] [⟨g, 74, [.slice none 0 0], 1⟩] := ⟨_, [], rfl, fun F => Own.nil⟩
  have b0 := length_numsB_le wf1
  have b1 := length_lstB_le wP lP
  have b4 := length_numsB_le wm
  simp only [List.length_cons, List.length_nil] at b0 b4
  refine hl_call rfl rfl (onum_fn (cap := 10) (len := 10) (L := f10 f) hX0 (NumR.ent (i := 0) (n := 10) .here rfl rfl) wf1 (by simp)) (fun v M o => ?_)
  obtain ⟨X1, hi1, hX1⟩ := o
  rw [List.nil_append] at hX1
  refine HL.imp ?_ (hi1.trans (Imp.sub (List.Sublist.append (List.Sublist.refl _) (List.sublist_cons_self _ _))))
  repeat (first | refine hl_load1 rfl (tx _ _) rfl rfl ?_ | refine go1_ ?_ | refine bx_ (fun _ => ?_))
  refine hl_call rfl rfl (onums_fn hX1 (hP.imp (Imp.drop (Imp.refl _))) wP (by omega) (by omega)) (fun v M o => ?_)
  obtain ⟨X2, hi2, hX2⟩ := o
  refine HL.imp ?_ hi2
  repeat (first | refine hl_load1 rfl (tx _ _) rfl rfl ?_ | refine go1_ ?_ | refine bx_ (fun _ => ?_))
  rename_i gs
  refine HL.perm ?_ (Take.app X2 (.here (e := ⟨gs, 3, [.int .i64 (sn : Int)], 1 * 1⟩) (H := eb :: H))).perm.symm
  have w3 : ∀ n ∈ [(sn : Int)], I64 n := fun n hn => by rw [List.mem_singleton.1 hn]; exact ⟨by omega, by omega⟩
  refine hl_call rfl rfl (onum_fn (cap := 1) (len := 1) (L := [(sn : Int)]) hX2 (NumR.ent (i := 0) (n := 1) .here rfl rfl) w3 (by rw [List.length_append]; omega)) (fun v M o => ?_)
  obtain ⟨X3, hi3, hX3⟩ := o
  refine HL.imp ?_ (hi3.trans (Imp.sub (List.Sublist.append (List.Sublist.refl _) (List.sublist_cons_self _ _))))
  have b2 := length_numsB_le w3
  simp only [List.length_cons, List.length_nil] at b2
  obtain ⟨b3, hb3⟩ : ∃ b3, b3 = numsB (f10 f) ++ lstB P ++ numsB [(sn : Int)] := ⟨_, rfl⟩
  have l3 : b3.length ≤ 100 + (10 + 10 * P.length) + 10 := by rw [hb3, List.length_append, List.length_append]; omega
  rw [← hb3] at hX3
  repeat (first | refine hl_load1 rfl (tx _ _) rfl rfl ?_ | refine go1_ ?_ | refine bx_ (fun _ => ?_))
  refine hc_loopd (fun q fr M => ∃ k X, k + q = sn ∧ Ou g (b3 ++ ptsB (S.take k)) X ∧ Imp M (X ++ (eb :: H)) ∧ Agr fr [(1, .pointer (some ⟨gE, 0, none⟩)), (3, .pointer (some ⟨g, 0, none⟩)), (42, .slice sa sn sc), (43, .int .i64 (sn : Int)), (44, .int .i64 (k : Int))]) sn ?_ ?_
  · exact ⟨0, X3, by omega, by simpa [ptsB] using hX3, Imp.refl _, rfl, rfl, rfl, rfl, rfl, trivial⟩
  clear hX0 hX1 hX2 hX3 hi1 hi2 hi3
  rintro q fr M ⟨k, X, hk, hX, hi, hf⟩
  obtain ⟨base, rfl⟩ := hf.out
  clear hf
  refine HC.imp ?_ hi
  have l4 := length_ptsB_le (l := S.take k) fun p hp => wS p (List.mem_of_mem_take hp)
  rw [List.length_take] at l4
  have l4b : 20 * min k S.length ≤ 20 * sn := Nat.mul_le_mul_left _ (by omega)
  by_cases hlt : k < sn
  · obtain ⟨bb, off, rfl⟩ := hS.pos (by omega)
    obtain ⟨hkS, hcell⟩ := hS.at' hlt
    have hst := ptsB_take hkS
    have hwp := wS _ (List.getElem_mem hkS)
    generalize hpp : S[k] = p at *
    repeat (first | refine hl_loadRN (l := S.flatMap ptV) rfl hS.rd ((Imp.tail X _).trans (Imp.drop (Imp.refl _))) hcell rfl rfl ?_ | refine go1_ ?_ | refine bx_ (fun _ => ?_))
    rename_i gp gb2
    refine HL.perm (H' := X ++ (⟨gb2, 3, [.int .i64 p.x, .int .i64 p.y], 2 * 1⟩ :: (⟨gp, 78, [.int .i64 p.x, .int .i64 p.y], 2⟩ :: (eb :: H)))) ?_ (app_swap [⟨gb2, 3, [.int .i64 p.x, .int .i64 p.y], 2 * 1⟩, ⟨gp, 78, [.int .i64 p.x, .int .i64 p.y], 2⟩] X (eb :: H))
    refine hl_call rfl rfl (onum_fn (cap := 2) (len := 2) (L := [p.x, p.y]) hX (NumR.ent (i := 0) (n := 2) .here rfl rfl) (fun n hn => by
      simp only [List.mem_cons, List.not_mem_nil, or_false] at hn
      rcases hn with rfl | rfl
      · exact hwp.1
      · exact hwp.2) (by rw [List.length_append]; omega)) (fun v M o => ?_)
    obtain ⟨X4, hi4, hX4⟩ := o
    refine HL.imp ?_ (hi4.trans (Imp.sub (List.Sublist.append (List.Sublist.refl _) ((List.sublist_cons_self _ _).trans (List.sublist_cons_self _ _)))))
    rw [List.append_assoc, ← hst] at hX4
    repeat (first | refine go_ ?_ | refine bx_ (fun _ => ?_))
    exact ⟨q - 1, by omega, _, Imp.refl _, k + 1, X4, by omega, hX4, Imp.refl _, rfl, rfl, rfl, rfl, rfl, trivial⟩
  · obtain rfl : sn = k := by omega
    rw [show S.take sn = S by rw [← eS]; exact List.take_length] at hX l4
    repeat (first | refine go_ ?_ | refine bx_ (fun _ => ?_) | refine hl_sliceArr (i := 0) (j := 6) (ki := .i64) (kj := .i64) rfl rfl rfl (by decide) (by decide) rfl (fun off' ho => ?_))
    obtain rfl : off' = 12 := by simpa using ho (by decide)
    refine hl_call rfl rfl (onum_fn (cap := 6) (len := 6) (L := f6 m) hX (NumR.ent (i := 12) (n := 6) (H := eb :: H) (F := H) (by rw [heb]; exact .here) rfl rfl) wm (by rw [List.length_append]; omega)) (fun v M o => ?_)
    obtain ⟨X4, hi4, hX4⟩ := o
    refine HL.imp ?_ hi4
    repeat (first | refine hl_load1 rfl (tx _ _) rfl rfl ?_ | refine go1_ ?_ | refine bx_ (fun _ => ?_))
    refine hl_call rfl rfl (onums_fn hX4 (hQ.imp (Imp.drop (Imp.refl _))) wQ (by omega) (by rw [List.length_append, List.length_append]; omega)) (fun v M o => ?_)
    obtain ⟨X5, hi5, sv, Xb, rfl, ho5⟩ := o
    refine HL.imp ?_ hi5
    obtain ⟨a5, c5, rfl, _, _⟩ := (ho5 []).form
    have e5 : b3 ++ ptsB S ++ numsB (f6 m) ++ lstB Q = Ed.put ⟨f10 f, P, S, f6 m, Q⟩ := by
      rw [hb3]
      unfold Ed.put
      dsimp only
      rw [eS]
      simp [numsB]
    rw [e5] at ho5 ⊢
    repeat (first | refine go_ ?_ | refine bx_ (fun _ => ?_))
    exact fin1S rfl rfl (ho5 H) (Imp.drop (Imp.sub (List.Sublist.append (List.Sublist.refl _) (List.sublist_cons_self _ _))))
end
end Go.Proofs.Ytoobhebbgbhahaa
