/-
  What a layer of its kind has. No condition.
-/
import Derived.Test.YtoobhebbgbhahaaPackG7
namespace Go.Proofs.Ytoobhebbgbhahaa
open Go.RowKit
abbrev Ly.mf (l : Ly) : Nat → Int := L6 l.a0 l.a1 l.a2 l.a3 l.a4 l.a5
section
variable {c : Cx} {Q : Pst} {fr : Fr} {H : List Ent} {ops : Array Oper} {rest : List Oper} {dst : Option Nat} {ty : TypeId} {pos : String} {after : Array Edge} {x y : Operand} {T u : TypeId} {S : List Oper → Fr → List Ent → Prop}
theorem hl_neArrT [Stp c ops S] {l m : List Int} {n e : Nat} [TArr c.P T n e] [TInt c.P e .i64] [TSz c.P e 1] [TEqG c.P T] (hx : ev fr x = arrV l) (hy : ev fr y = arrV m) (hl : l.length = n) (hm : m.length = n) (hlm : l ≠ m) (hd : dOk c.n dst = true)
    (k : S rest (updO fr dst (.bool true)) H) : S (⟨dst, .binOp .neq T x y u, ty, pos, after, none⟩ :: rest) fr H := hl_neArr hx hy hl hm hd (by rw [show (l == m) = false by simpa using hlm]; exact k)
end
/-- What a layer of its kind has, and hasn't. -/
structure PlQ (l : Ly) : Prop where
  n0 : l.k ≠ 0 → l.w = 0 ∧ l.h = 0 ∧ l.P = [] ∧ l.mp = [65536, 0, 0, 65536, 0, 0] ∧ l.s = false
  n2 : l.k ≠ 2 → l.t = 2 ∧ l.Q = []
  k2 : l.k = 2 → l.e = 0
  k0 : l.k = 0 → (backR l.mf).2 = 0 ∧ SzQ l.w l.h ∧ (l.P.length : Int) = l.w * l.h ∧ ∀ v ∈ l.P, PixQ v
  tb : Tb.Rt l.t l.Q.length (fun i => l.Q.getD i 0)
theorem par_of {w0 : World} {B : Nat} {H : List Ent} {a : Option Addr} {n c : Nat} {l : List Int} (h : NumR w0 B H a n l) (hI : ∀ x ∈ l, I64 x) (hs : n ≤ 1000000) : Tb.Par w0 B H a n c (fun i => l.getD i 0) := by
  have he := h.eq
  refine ⟨fun h0 => ?_, fun i hi => ?_, hs⟩
  · obtain ⟨b, off, rfl⟩ := h.pos h0
    refine ⟨b, off, rfl, ⟨fun w hw j hj => ?_⟩⟩
    have := h.rd.cell w hw _ rfl j (.int .i64 (l.getD j 0)) (by rw [List.getElem?_map, List.getElem?_eq_getElem (by omega), List.getD_eq_getElem?_getD, List.getElem?_eq_getElem (by omega)]; rfl)
    rw [Addr.add_lit] at this
    exact this
  · rw [List.getD_eq_getElem?_getD, List.getElem?_eq_getElem (by omega)]
    exact hI _ (List.getElem_mem _)
theorem sm_mf {l : Ly} (h : ∀ n ∈ l.mp, I64 n) : Sm l.mf := by
  simp only [Ly.mp, List.mem_cons, List.not_mem_nil, or_false, forall_eq_or_imp, forall_eq, I64] at h
  obtain ⟨h0, h1, h2, h3, h4, h5⟩ := h
  intro i hi
  obtain rfl | rfl | rfl | rfl | rfl | rfl : i = 0 ∨ i = 1 ∨ i = 2 ∨ i = 3 ∨ i = 4 ∨ i = 5 := by omega
  · exact h0
  · exact h1
  · exact h2
  · exact h3
  · exact h4
  · exact h5
section
variable {w0 : World} {B : Nat} {H R R0 : List Ent} {g : Nat}
set_option maxHeartbeats 16000000
set_option maxRecDepth 100000
theorem rplain_fn {l : Ly} {t w h n : Int} {lv pv mv qv : Value} {la : Option Addr} {ln lc : Nat} (hlv : lv = .slice la ln lc) (hly : LyR w0 B H l pv mv qv) (hw : l.wf 1000000) (b : Bool) (hb : b = true ↔ PlQ l) :
    Fn Try.prog w0 B 79 [.agg [.int .i64 w, .int .i64 h, .int .i64 n, lv].toArray, .agg (rlC t l pv mv qv).toArray] H (fun v H' => v = .bool b ∧ H' = H) := by
  subst hlv
  obtain ⟨⟨pa, pc, rfl, nP⟩, ⟨ma, mc, rfl, nM⟩, ⟨qa, qc, rfl, nQ⟩⟩ := hly
  have bf : ¬ PlQ l → b = false := fun h => by cases b; rfl; exact absurd (hb.1 rfl) h
  have bt : PlQ l → b = true := hb.2
  clear hb
  obtain ⟨wh, wP, wm, wt, wQ, lP, lM, lQ⟩ := hw
  have hsm := sm_mf wm
  have hpar := par_of (c := qc) nQ wQ lQ
  refine fn_intro Try.func79 rfl (by kernel_rfl) rfl ?_
  by_cases k0 : l.k ≠ 0
  · have k0' : ¬ l.k = 0 := k0
    by_cases h1 : l.w ≠ 0
    · obtain rfl := bf (fun q => h1 (q.n0 k0).1)
      repeat (first | refine hl_loadN (i := 10) (n := 6) (vs := l.mp.map intV) rfl (.there .here) rfl rfl rfl ?_ | refine hl_loadN (i := 0) (n := 6) (vs := [65536, 0, 0, 65536, 0, 0].map intV) rfl .here rfl rfl rfl ?_ | refine go1_ ?_ | refine bx_ (fun _ => ?_))
      exact fin1B rfl rfl ⟨rfl, rfl⟩
    by_cases h2 : l.h ≠ 0
    · obtain rfl := bf (fun q => h2 (q.n0 k0).2.1)
      repeat (first | refine hl_loadN (i := 10) (n := 6) (vs := l.mp.map intV) rfl (.there .here) rfl rfl rfl ?_ | refine hl_loadN (i := 0) (n := 6) (vs := [65536, 0, 0, 65536, 0, 0].map intV) rfl .here rfl rfl rfl ?_ | refine go1_ ?_ | refine bx_ (fun _ => ?_))
      exact fin1B rfl rfl ⟨rfl, rfl⟩
    by_cases h3 : l.P.length ≠ 0
    · obtain rfl := bf (fun q => h3 (by rw [(q.n0 k0).2.2.1]; rfl))
      repeat (first | refine hl_loadN (i := 10) (n := 6) (vs := l.mp.map intV) rfl (.there .here) rfl rfl rfl ?_ | refine hl_loadN (i := 0) (n := 6) (vs := [65536, 0, 0, 65536, 0, 0].map intV) rfl .here rfl rfl rfl ?_ | refine go1_ ?_ | refine bx_ (fun _ => ?_))
      exact fin1B rfl rfl ⟨rfl, rfl⟩
    by_cases hmp : l.mp ≠ [65536, 0, 0, 65536, 0, 0]
    · obtain rfl := bf (fun q => hmp (q.n0 k0).2.2.2.1)
      repeat (first | refine hl_loadN (i := 10) (n := 6) (vs := l.mp.map intV) rfl (.there .here) rfl rfl rfl ?_ | refine hl_loadN (i := 0) (n := 6) (vs := [65536, 0, 0, 65536, 0, 0].map intV) rfl .here rfl rfl rfl ?_ | refine hl_neArrT (l := l.mp) (m := [65536, 0, 0, 65536, 0, 0]) rfl rfl rfl rfl hmp rfl ?_ | refine go1_ ?_ | refine bx_ (fun _ => ?_))
      exact fin1B rfl rfl ⟨rfl, rfl⟩
    replace hmp := Classical.not_not.1 hmp
    by_cases h5 : l.s = true
    · have bs := h5
      obtain rfl := bf (fun q => by rw [(q.n0 k0).2.2.2.2] at h5; cases h5)
      repeat (first | refine hl_loadN (i := 10) (n := 6) (vs := l.mp.map intV) rfl (.there .here) rfl rfl rfl ?_ | refine hl_loadN (i := 0) (n := 6) (vs := [65536, 0, 0, 65536, 0, 0].map intV) rfl .here rfl rfl rfl ?_ | refine hl_neArrF (l := l.mp) (m := [65536, 0, 0, 65536, 0, 0]) rfl rfl rfl hmp rfl ?_ | rw [bs] | refine go1_ ?_ | refine bx_ (fun _ => ?_))
      exact fin1B rfl rfl ⟨rfl, rfl⟩
    replace h5 : l.s = false := by simpa using h5
    have hP0 : l.P = [] := List.length_eq_zero_iff.1 (by omega)
    by_cases k2 : l.k ≠ 2
    · by_cases g1 : l.t ≠ 2
      · obtain rfl := bf (fun q => g1 (q.n2 k2).1)
        repeat (first | refine hl_loadN (i := 10) (n := 6) (vs := l.mp.map intV) rfl (.there .here) rfl rfl rfl ?_ | refine hl_loadN (i := 0) (n := 6) (vs := [65536, 0, 0, 65536, 0, 0].map intV) rfl .here rfl rfl rfl ?_ | refine hl_neArrF (l := l.mp) (m := [65536, 0, 0, 65536, 0, 0]) rfl rfl rfl hmp rfl ?_ | rw [h5] | refine go1_ ?_ | refine bx_ (fun _ => ?_))
        exact fin1B rfl rfl ⟨rfl, rfl⟩
      by_cases g2 : l.Q.length ≠ 0
      · obtain rfl := bf (fun q => g2 (by rw [(q.n2 k2).2]; rfl))
        repeat (first | refine hl_loadN (i := 10) (n := 6) (vs := l.mp.map intV) rfl (.there .here) rfl rfl rfl ?_ | refine hl_loadN (i := 0) (n := 6) (vs := [65536, 0, 0, 65536, 0, 0].map intV) rfl .here rfl rfl rfl ?_ | refine hl_neArrF (l := l.mp) (m := [65536, 0, 0, 65536, 0, 0]) rfl rfl rfl hmp rfl ?_ | rw [h5] | refine go1_ ?_ | refine bx_ (fun _ => ?_))
        exact fin1B rfl rfl ⟨rfl, rfl⟩
      have hQ0 : l.Q = [] := List.length_eq_zero_iff.1 (by omega)
      repeat (first | refine hl_loadN (i := 10) (n := 6) (vs := l.mp.map intV) rfl (.there .here) rfl rfl rfl ?_ | refine hl_loadN (i := 0) (n := 6) (vs := [65536, 0, 0, 65536, 0, 0].map intV) rfl .here rfl rfl rfl ?_ | refine hl_neArrF (l := l.mp) (m := [65536, 0, 0, 65536, 0, 0]) rfl rfl rfl hmp rfl ?_ | rw [h5] | refine go1_ ?_ | refine bx_ (fun _ => ?_))
      refine hl_call rfl rfl (Tb.rtable_fn l.t (hpar.imp (Imp.drop (Imp.drop (Imp.drop (Imp.refl _)))))) (fun v M o => ?_)
      rcases o with ⟨hT, g', rfl, rfl⟩ | ⟨hT, ⟨a', m', c', rfl⟩, rfl⟩
      · obtain rfl := bt ⟨fun _ => ⟨by omega, by omega, hP0, hmp, h5⟩, fun _ => ⟨by omega, hQ0⟩, fun h => absurd h k2, fun h => absurd h k0, hT⟩
        repeat (first | refine go_ ?_ | refine bx_ (fun _ => ?_))
        exact fin1B rfl rfl ⟨rfl, rfl⟩
      · obtain rfl := bf (fun q => hT q.tb)
        repeat (first | refine go_ ?_ | refine bx_ (fun _ => ?_))
        exact fin1B rfl rfl ⟨rfl, rfl⟩
    · by_cases e1 : l.e ≠ 0
      · obtain rfl := bf (fun q => e1 (q.k2 (by omega)))
        repeat (first | refine hl_loadN (i := 10) (n := 6) (vs := l.mp.map intV) rfl (.there .here) rfl rfl rfl ?_ | refine hl_loadN (i := 0) (n := 6) (vs := [65536, 0, 0, 65536, 0, 0].map intV) rfl .here rfl rfl rfl ?_ | refine hl_neArrF (l := l.mp) (m := [65536, 0, 0, 65536, 0, 0]) rfl rfl rfl hmp rfl ?_ | rw [h5] | refine go1_ ?_ | refine bx_ (fun _ => ?_))
        exact fin1B rfl rfl ⟨rfl, rfl⟩
      repeat (first | refine hl_loadN (i := 10) (n := 6) (vs := l.mp.map intV) rfl (.there .here) rfl rfl rfl ?_ | refine hl_loadN (i := 0) (n := 6) (vs := [65536, 0, 0, 65536, 0, 0].map intV) rfl .here rfl rfl rfl ?_ | refine hl_neArrF (l := l.mp) (m := [65536, 0, 0, 65536, 0, 0]) rfl rfl rfl hmp rfl ?_ | rw [h5] | refine go1_ ?_ | refine bx_ (fun _ => ?_))
      refine hl_call rfl rfl (Tb.rtable_fn l.t (hpar.imp (Imp.drop (Imp.drop (Imp.drop (Imp.refl _)))))) (fun v M o => ?_)
      rcases o with ⟨hT, g', rfl, rfl⟩ | ⟨hT, ⟨a', m', c', rfl⟩, rfl⟩
      · obtain rfl := bt ⟨fun _ => ⟨by omega, by omega, hP0, hmp, h5⟩, fun h => absurd h k2, fun _ => by omega, fun h => absurd h k0, hT⟩
        repeat (first | refine go_ ?_ | refine bx_ (fun _ => ?_))
        exact fin1B rfl rfl ⟨rfl, rfl⟩
      · obtain rfl := bf (fun q => hT q.tb)
        repeat (first | refine go_ ?_ | refine bx_ (fun _ => ?_))
        exact fin1B rfl rfl ⟨rfl, rfl⟩
  replace k0 : l.k = 0 := by omega
  have k2 : l.k ≠ 2 := by omega
  by_cases g1 : l.t ≠ 2
  · obtain rfl := bf (fun q => g1 (q.n2 k2).1)
    repeat (first | refine hl_loadN (i := 10) (n := 6) (vs := l.mp.map intV) rfl (.there .here) rfl rfl rfl ?_ | refine hl_loadN (i := 0) (n := 6) (vs := [65536, 0, 0, 65536, 0, 0].map intV) rfl .here rfl rfl rfl ?_ | refine go1_ ?_ | refine bx_ (fun _ => ?_))
    exact fin1B rfl rfl ⟨rfl, rfl⟩
  by_cases g2 : l.Q.length ≠ 0
  · obtain rfl := bf (fun q => g2 (by rw [(q.n2 k2).2]; rfl))
    repeat (first | refine hl_loadN (i := 10) (n := 6) (vs := l.mp.map intV) rfl (.there .here) rfl rfl rfl ?_ | refine hl_loadN (i := 0) (n := 6) (vs := [65536, 0, 0, 65536, 0, 0].map intV) rfl .here rfl rfl rfl ?_ | refine go1_ ?_ | refine bx_ (fun _ => ?_))
    exact fin1B rfl rfl ⟨rfl, rfl⟩
  have hQ0 : l.Q = [] := List.length_eq_zero_iff.1 (by omega)
  have hmv : Value.agg (l.mp.map intV).toArray = mapV l.mf := rfl
  have cb := fun H => rback_fn (w0 := w0) (B := B) (H := H) l.mf hsm
  rw [← hmv] at cb
  by_cases hbk : (backR l.mf).2 ≠ 0
  · obtain rfl := bf (fun q => hbk (q.k0 k0).1)
    repeat (first | refine hl_loadN (i := 10) (n := 6) (vs := l.mp.map intV) rfl (.there .here) rfl rfl rfl ?_ | refine hl_loadN (i := 0) (n := 6) (vs := [65536, 0, 0, 65536, 0, 0].map intV) rfl .here rfl rfl rfl ?_ | refine go1_ ?_ | refine bx_ (fun _ => ?_) | refine hl_callv rfl rfl (cb _) ?_)
    exact fin1B rfl rfl ⟨rfl, rfl⟩
  replace hbk : (backR l.mf).2 = 0 := Classical.not_not.1 hbk
  simp only [hbk] at cb
  by_cases hsz : ¬ SzQ l.w l.h
  · have cs := fun H => sized_fn (w0 := w0) (B := B) (H := H) l.w l.h
    rw [show decide (SzQ l.w l.h) = false from decide_eq_false hsz] at cs
    obtain rfl := bf (fun q => hsz (q.k0 k0).2.1)
    repeat (first | refine hl_loadN (i := 10) (n := 6) (vs := l.mp.map intV) rfl (.there .here) rfl rfl rfl ?_ | refine hl_loadN (i := 0) (n := 6) (vs := [65536, 0, 0, 65536, 0, 0].map intV) rfl .here rfl rfl rfl ?_ | refine go1_ ?_ | refine bx_ (fun _ => ?_) | refine hl_callv rfl rfl (cb _) ?_ | refine hl_callv rfl rfl (cs _) ?_)
    exact fin1B rfl rfl ⟨rfl, rfl⟩
  replace hsz : SzQ l.w l.h := Classical.not_not.1 hsz
  have cs := fun H => sized_fn (w0 := w0) (B := B) (H := H) l.w l.h
  rw [show decide (SzQ l.w l.h) = true from decide_eq_true hsz] at cs
  have hp := prod_bd hsz.1 hsz.2.1 hsz.2.2.1 hsz.2.2.2.1
  by_cases hpl : (l.P.length : Int) ≠ l.w * l.h
  · obtain rfl := bf (fun q => hpl (q.k0 k0).2.2.1)
    repeat (first | refine hl_loadN (i := 10) (n := 6) (vs := l.mp.map intV) rfl (.there .here) rfl rfl rfl ?_ | refine hl_loadN (i := 0) (n := 6) (vs := [65536, 0, 0, 65536, 0, 0].map intV) rfl .here rfl rfl rfl ?_ | refine go1_ ?_ | refine bx_ (fun _ => ?_) | refine hl_callv rfl rfl (cb _) ?_ | refine hl_callv rfl rfl (cs _) ?_)
    exact fin1B rfl rfl ⟨rfl, rfl⟩
  replace hpl : (l.P.length : Int) = l.w * l.h := Classical.not_not.1 hpl
  repeat (first | refine hl_loadN (i := 10) (n := 6) (vs := l.mp.map intV) rfl (.there .here) rfl rfl rfl ?_ | refine hl_loadN (i := 0) (n := 6) (vs := [65536, 0, 0, 65536, 0, 0].map intV) rfl .here rfl rfl rfl ?_ | refine go1_ ?_ | refine bx_ (fun _ => ?_) | refine hl_callv rfl rfl (cb _) ?_ | refine hl_callv rfl rfl (cs _) ?_)
  rename_i gd gl g5 g6
  obtain ⟨R1, hR1⟩ : ∃ R1, R1 = (⟨g6, 37, tab 6 (backR l.mf).1, 6⟩ :: ⟨g5, 37, [.int .i64 65536, .int .i64 0, .int .i64 0, .int .i64 65536, .int .i64 0, .int .i64 0], 6⟩ :: ⟨gl, 121, rlC t l (.slice pa l.P.length pc) (.slice ma l.M.length mc) (.slice qa l.Q.length qc), 19⟩ :: ⟨gd, 58, [.int .i64 w, .int .i64 h, .int .i64 n, .slice la ln lc], 4⟩ :: H : List Ent) := ⟨_, rfl⟩
  have tl : Take R1 ⟨gl, 121, rlC t l (.slice pa l.P.length pc) (.slice ma l.M.length mc) (.slice qa l.Q.length qc), 19⟩ (⟨g6, 37, tab 6 (backR l.mf).1, 6⟩ :: ⟨g5, 37, [.int .i64 65536, .int .i64 0, .int .i64 0, .int .i64 65536, .int .i64 0, .int .i64 0], 6⟩ :: ⟨gd, 58, [.int .i64 w, .int .i64 h, .int .i64 n, .slice la ln lc], 4⟩ :: H) := by rw [hR1]; exact .there (.there .here)
  have iR1 : Imp R1 H := by rw [hR1]; exact Imp.drop (Imp.drop (Imp.drop (Imp.drop (Imp.refl _))))
  refine HC.perm (H' := R1) ?_ (by rw [hR1]; exact List.Perm.refl _)
  refine hc_loopd (fun q fr M => ∃ j : Nat, j + q = l.P.length ∧ (∀ i, (h : i < l.P.length) → i < j → PixQ l.P[i]) ∧ Imp M R1 ∧ Agr fr [(3, .pointer (some ⟨gl, 0, none⟩)), (8, .int .i64 (j : Int))]) l.P.length ?_ ?_
  · exact ⟨0, by omega, fun i h h2 => absurd h2 (by omega), Imp.refl _, rfl, rfl, trivial⟩
  clear hmv
  rintro q fr M ⟨j, hj, hall, him, hf⟩
  obtain ⟨base, rfl⟩ := hf.out
  clear hf
  refine HC.imp ?_ him
  by_cases hlt : j < l.P.length
  · obtain ⟨pb, po, rfl⟩ := nP.pos (by omega)
    have c1 : (l.P.map iV)[j]? = some (.int .i64 l.P[j]) := by simp [hlt]
    have cp := fun H => rpixel_fn (w0 := w0) (B := B) (H := H) l.P[j]
    by_cases hpx : PixQ l.P[j]
    · rw [show decide (PixQ l.P[j]) = true from decide_eq_true hpx] at cp
      repeat (first | refine hl_load1 rfl tl rfl rfl ?_ | refine hl_loadRd rfl nP.rd iR1 c1 rfl ?_ | refine go1_ ?_ | refine bx_ (fun _ => ?_) | refine hl_callv rfl rfl (cp _) ?_)
      refine ⟨q - 1, by omega, _, Imp.refl _, j + 1, by omega, fun i h h2 => ?_, Imp.refl _, rfl, rfl, trivial⟩
      by_cases e : i = j
      · subst e; exact hpx
      · exact hall i h (by omega)
    · rw [show decide (PixQ l.P[j]) = false from decide_eq_false hpx] at cp
      obtain rfl := bf (fun q => hpx ((q.k0 k0).2.2.2 _ (List.getElem_mem _)))
      repeat (first | refine hl_load1 rfl tl rfl rfl ?_ | refine hl_loadRd rfl nP.rd iR1 c1 rfl ?_ | refine go1_ ?_ | refine bx_ (fun _ => ?_) | refine hl_callv rfl rfl (cp _) ?_)
      exact fin1B rfl rfl ⟨rfl, rfl⟩ iR1
  · obtain rfl : j = l.P.length := by omega
    have hallp : ∀ v ∈ l.P, PixQ v := fun v hv => by
      obtain ⟨i, hi, rfl⟩ := List.getElem_of_mem hv
      exact hall i hi hi
    repeat (first | refine hl_load1 rfl tl rfl rfl ?_ | refine go1_ ?_ | refine bx_ (fun _ => ?_))
    refine hl_call rfl rfl (Tb.rtable_fn l.t (hpar.imp iR1)) (fun v M o => ?_)
    rcases o with ⟨hT, g', rfl, rfl⟩ | ⟨hT, ⟨a', m', c', rfl⟩, rfl⟩
    · obtain rfl := bt ⟨fun h => absurd k0 h, fun _ => ⟨by omega, hQ0⟩, fun h => absurd h k2, fun _ => ⟨hbk, hsz, hpl, hallp⟩, hT⟩
      repeat (first | refine go_ ?_ | refine bx_ (fun _ => ?_))
      exact fin1B rfl rfl ⟨rfl, rfl⟩ (Imp.drop iR1)
    · obtain rfl := bf (fun q => hT q.tb)
      repeat (first | refine go_ ?_ | refine bx_ (fun _ => ?_))
      exact fin1B rfl rfl ⟨rfl, rfl⟩ iR1
end
end Go.Proofs.Ytoobhebbgbhahaa
