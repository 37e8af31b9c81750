/-
  The document's right documents. No condition.
-/
import Derived.Test.YtoobhebbgbhahaaPackG9
namespace Go.Proofs.Ytoobhebbgbhahaa
open Go.RowKit
structure LaQ (w h n : Int) (l : Ly) : Prop where
  i : 1 ≤ l.i ∧ l.i < n
  k : 0 ≤ l.k ∧ l.k ≤ 2
  o : 0 ≤ l.o ∧ l.o ≤ 255
  e : 0 ≤ l.e ∧ l.e ≤ 11
  p : PlQ l
  m : l.M.length = 0 ∨ (l.M.length : Int) = w * h
  c : ∀ c ∈ l.M, c.toNat = 0 ∨ c.toNat = 255
structure RiQ (w h n : Int) (L : List Rl) : Prop where
  sz : SzQ w h
  n1 : 1 ≤ n
  l1 : L.length ≤ 4096
  a : ∀ x ∈ L, LaQ w h n x.l
  g : ∀ x ∈ L, x.t ≠ 0 → ∀ y ∈ L, y.l.i = x.t → y.l.k = 1
section
variable {w0 : World} {B : Nat} {H R R0 : List Ent} {g : Nat}
set_option maxHeartbeats 32000000
set_option maxRecDepth 100000
theorem rRight_fn {w h n : Int} {lv : Value} {L : List Rl} (hL : RlR w0 B H lv L) (hnd : (L.map fun x => x.l.i).Nodup) (hd : ∀ x ∈ L, ∃ m, m ≤ 64 ∧ Up L x.l.i m) (hpar : ∀ x ∈ L, x.t = 0 ∨ ∃ y ∈ L, y.l.i = x.t) (hwf : ∀ x ∈ L, x.l.wf 1000000) (hl : L.length ≤ 1000000) (b : Bool) (hb : b = true ↔ RiQ w h n L) :
    Fn Try.prog w0 B 61 [.agg [.int .i64 w, .int .i64 h, .int .i64 n, lv].toArray] H (fun v H' => v = .bool b ∧ H' = H) := by
  have hL0 := hL
  obtain ⟨a, c, C, rfl, hC, hRl⟩ := hL
  have bf : ¬ RiQ w h n L → b = false := fun h => by cases b; rfl; exact absurd (hb.1 rfl) h
  have bt : RiQ w h n L → b = true := hb.2
  clear hb
  refine fn_intro Try.func61 rfl (by kernel_rfl) rfl ?_
  have sz0 := fun H => sized_fn (w0 := w0) (B := B) (H := H) w h
  by_cases hsz : ¬ SzQ w h
  · rw [show decide (SzQ w h) = false from decide_eq_false hsz] at sz0
    obtain rfl := bf (fun q => hsz q.sz)
    repeat (first | refine go_ ?_ | refine bx_ (fun _ => ?_) | refine hl_callv rfl rfl (sz0 _) ?_)
    exact fin1B rfl rfl ⟨rfl, rfl⟩
  replace hsz : SzQ w h := Classical.not_not.1 hsz
  rw [show decide (SzQ w h) = true from decide_eq_true hsz] at sz0
  have hp := prod_bd hsz.1 hsz.2.1 hsz.2.2.1 hsz.2.2.2.1
  by_cases hn1 : n < 1
  · obtain rfl := bf (fun q => by have := q.n1; omega)
    repeat (first | refine go_ ?_ | refine bx_ (fun _ => ?_) | refine hl_callv rfl rfl (sz0 _) ?_)
    exact fin1B rfl rfl ⟨rfl, rfl⟩
  by_cases hll : 4096 < L.length
  · obtain rfl := bf (fun q => by have := q.l1; omega)
    repeat (first | refine go_ ?_ | refine bx_ (fun _ => ?_) | refine hl_callv rfl rfl (sz0 _) ?_)
    exact fin1B rfl rfl ⟨rfl, rfl⟩
  repeat (first | refine go_ ?_ | refine bx_ (fun _ => ?_) | refine hl_callv rfl rfl (sz0 _) ?_)
  rename_i gd
  obtain ⟨eb, heb⟩ : ∃ eb : Ent, eb = ⟨gd, 58, [.int .i64 w, .int .i64 h, .int .i64 n, .slice a L.length c], 4⟩ := ⟨_, rfl⟩
  have tx : Take (eb :: H) ⟨gd, 58, [.int .i64 w, .int .i64 h, .int .i64 n, .slice a L.length c], 4⟩ H := by rw [heb]; exact .here
  have iR : Imp (eb :: H) H := Imp.drop (Imp.refl _)
  refine HC.perm (H' := eb :: H) ?_ (by rw [heb]; exact List.Perm.refl _)
  refine hc_loopd (fun q fr M => ∃ j : Nat, j + q = L.length ∧ (∀ i, (hi : i < L.length) → i < j → LaQ w h n L[i].l ∧ (L[i].t ≠ 0 → ∀ y ∈ L, y.l.i = L[i].t → y.l.k = 1)) ∧ Imp M (eb :: H) ∧ Agr fr [(1, .pointer (some ⟨gd, 0, none⟩)), (3, .int .i64 (j : Int))]) L.length ?_ ?_
  · exact ⟨0, by omega, fun i hi h => absurd h (by omega), Imp.refl _, rfl, rfl, trivial⟩
  rintro q fr M ⟨j, hj, hall, him, hfr⟩
  obtain ⟨base, rfl⟩ := hfr.out
  clear hfr
  refine HC.imp ?_ him
  clear him M
  by_cases hlt : j < L.length
  rotate_left
  · obtain rfl : j = L.length := by omega
    have hq : RiQ w h n L := ⟨hsz, by omega, by omega, fun x hx => by obtain ⟨i, hi, rfl⟩ := List.getElem_of_mem hx; exact (hall i hi hi).1, fun x hx => by obtain ⟨i, hi, rfl⟩ := List.getElem_of_mem hx; exact (hall i hi hi).2⟩
    obtain rfl := bt hq
    repeat (first | refine hl_load1 rfl tx rfl rfl ?_ | refine hl_loadN (i := 0) (n := 4) (vs := [.int .i64 w, .int .i64 h, .int .i64 n, .slice a L.length c]) rfl tx rfl rfl rfl ?_ | refine go1_ ?_ | refine bx_ (fun _ => ?_))
    refine hl_call rfl rfl (rdepth_fn (hL0.imp iR) hnd (by omega) hd) (fun v M o => ?_)
    obtain ⟨m, rfl, hm, rfl⟩ := o
    repeat (first | refine go_ ?_ | refine bx_ (fun _ => ?_))
    exact fin1B rfl rfl ⟨rfl, rfl⟩ iR
  obtain ⟨bb, off, rfl⟩ := hC.pos (by omega)
  obtain ⟨pv, mv, qv, hcell, hly⟩ := hRl.at' hlt
  have hnx : ∀ i, (hi : i < L.length) → i < j + 1 → (LaQ w h n L[j].l ∧ (L[j].t ≠ 0 → ∀ y ∈ L, y.l.i = L[j].t → y.l.k = 1)) → LaQ w h n L[i].l ∧ (L[i].t ≠ 0 → ∀ y ∈ L, y.l.i = L[i].t → y.l.k = 1) := fun i hi h2 h3 => by
    by_cases e : i = j
    · subst e; exact h3
    · exact hall i hi (by omega)
  have cF := fun e : Ent => rfind_fn (w := w) (h := h) (n := n) (hL0.imp (Imp.drop iR : Imp (e :: eb :: H) H)) hlt (by omega) rfl (fun k hk hkj e => absurd (nd_get hnd hk hlt e) (by omega))
  have hx := List.getElem_mem hlt
  generalize L[j] = x at *
  have hwx := hwf x hx
  have hpx := hpar x hx
  have hly0 := hly
  obtain ⟨⟨pa, pc, rfl, nP⟩, ⟨ma, mc, rfl, nM⟩, ⟨qa, qc, rfl, nQ⟩⟩ := hly
  have sz := sz0
  have lM := hwx.Ml
  by_cases q1 : x.l.i < 1
  · obtain rfl := bf (fun q => by have := (q.a x hx).i; omega)
    repeat (first | refine hl_load1 rfl (.there tx) rfl rfl ?_ | refine hl_load1 rfl tx rfl rfl ?_ | refine hl_loadN (i := 0) (n := 4) (vs := [.int .i64 w, .int .i64 h, .int .i64 n, .slice (some ⟨bb, off, none⟩) L.length c]) rfl (.there tx) rfl rfl rfl ?_ | refine hl_loadN (i := 0) (n := 19) (vs := rlC x.t x.l (.slice pa x.l.P.length pc) (.slice ma x.l.M.length mc) (.slice qa x.l.Q.length qc)) rfl .here rfl rfl rfl ?_ | refine hl_loadRN (l := C) rfl hC.rd iR hcell rfl rfl ?_ | refine go1_ ?_ | refine bx_ (fun _ => ?_) | refine hl_callv rfl rfl (cF _) ?_ | refine hl_callv rfl rfl (sz _) ?_)
    exact fin1B rfl rfl ⟨rfl, rfl⟩ (Imp.drop iR)
  by_cases q2 : n ≤ x.l.i
  · obtain rfl := bf (fun q => by have := (q.a x hx).i; omega)
    repeat (first | refine hl_load1 rfl (.there tx) rfl rfl ?_ | refine hl_load1 rfl tx rfl rfl ?_ | refine hl_loadN (i := 0) (n := 4) (vs := [.int .i64 w, .int .i64 h, .int .i64 n, .slice (some ⟨bb, off, none⟩) L.length c]) rfl (.there tx) rfl rfl rfl ?_ | refine hl_loadN (i := 0) (n := 19) (vs := rlC x.t x.l (.slice pa x.l.P.length pc) (.slice ma x.l.M.length mc) (.slice qa x.l.Q.length qc)) rfl .here rfl rfl rfl ?_ | refine hl_loadRN (l := C) rfl hC.rd iR hcell rfl rfl ?_ | refine go1_ ?_ | refine bx_ (fun _ => ?_) | refine hl_callv rfl rfl (cF _) ?_ | refine hl_callv rfl rfl (sz _) ?_)
    exact fin1B rfl rfl ⟨rfl, rfl⟩ (Imp.drop iR)
  by_cases q3 : x.l.k < 0
  · obtain rfl := bf (fun q => by have := (q.a x hx).k; omega)
    repeat (first | refine hl_load1 rfl (.there tx) rfl rfl ?_ | refine hl_load1 rfl tx rfl rfl ?_ | refine hl_loadN (i := 0) (n := 4) (vs := [.int .i64 w, .int .i64 h, .int .i64 n, .slice (some ⟨bb, off, none⟩) L.length c]) rfl (.there tx) rfl rfl rfl ?_ | refine hl_loadN (i := 0) (n := 19) (vs := rlC x.t x.l (.slice pa x.l.P.length pc) (.slice ma x.l.M.length mc) (.slice qa x.l.Q.length qc)) rfl .here rfl rfl rfl ?_ | refine hl_loadRN (l := C) rfl hC.rd iR hcell rfl rfl ?_ | refine go1_ ?_ | refine bx_ (fun _ => ?_) | refine hl_callv rfl rfl (cF _) ?_ | refine hl_callv rfl rfl (sz _) ?_)
    exact fin1B rfl rfl ⟨rfl, rfl⟩ (Imp.drop iR)
  by_cases q4 : 2 < x.l.k
  · obtain rfl := bf (fun q => by have := (q.a x hx).k; omega)
    repeat (first | refine hl_load1 rfl (.there tx) rfl rfl ?_ | refine hl_load1 rfl tx rfl rfl ?_ | refine hl_loadN (i := 0) (n := 4) (vs := [.int .i64 w, .int .i64 h, .int .i64 n, .slice (some ⟨bb, off, none⟩) L.length c]) rfl (.there tx) rfl rfl rfl ?_ | refine hl_loadN (i := 0) (n := 19) (vs := rlC x.t x.l (.slice pa x.l.P.length pc) (.slice ma x.l.M.length mc) (.slice qa x.l.Q.length qc)) rfl .here rfl rfl rfl ?_ | refine hl_loadRN (l := C) rfl hC.rd iR hcell rfl rfl ?_ | refine go1_ ?_ | refine bx_ (fun _ => ?_) | refine hl_callv rfl rfl (cF _) ?_ | refine hl_callv rfl rfl (sz _) ?_)
    exact fin1B rfl rfl ⟨rfl, rfl⟩ (Imp.drop iR)
  by_cases q5 : x.l.o < 0
  · obtain rfl := bf (fun q => by have := (q.a x hx).o; omega)
    repeat (first | refine hl_load1 rfl (.there tx) rfl rfl ?_ | refine hl_load1 rfl tx rfl rfl ?_ | refine hl_loadN (i := 0) (n := 4) (vs := [.int .i64 w, .int .i64 h, .int .i64 n, .slice (some ⟨bb, off, none⟩) L.length c]) rfl (.there tx) rfl rfl rfl ?_ | refine hl_loadN (i := 0) (n := 19) (vs := rlC x.t x.l (.slice pa x.l.P.length pc) (.slice ma x.l.M.length mc) (.slice qa x.l.Q.length qc)) rfl .here rfl rfl rfl ?_ | refine hl_loadRN (l := C) rfl hC.rd iR hcell rfl rfl ?_ | refine go1_ ?_ | refine bx_ (fun _ => ?_) | refine hl_callv rfl rfl (cF _) ?_ | refine hl_callv rfl rfl (sz _) ?_)
    exact fin1B rfl rfl ⟨rfl, rfl⟩ (Imp.drop iR)
  by_cases q6 : 255 < x.l.o
  · obtain rfl := bf (fun q => by have := (q.a x hx).o; omega)
    repeat (first | refine hl_load1 rfl (.there tx) rfl rfl ?_ | refine hl_load1 rfl tx rfl rfl ?_ | refine hl_loadN (i := 0) (n := 4) (vs := [.int .i64 w, .int .i64 h, .int .i64 n, .slice (some ⟨bb, off, none⟩) L.length c]) rfl (.there tx) rfl rfl rfl ?_ | refine hl_loadN (i := 0) (n := 19) (vs := rlC x.t x.l (.slice pa x.l.P.length pc) (.slice ma x.l.M.length mc) (.slice qa x.l.Q.length qc)) rfl .here rfl rfl rfl ?_ | refine hl_loadRN (l := C) rfl hC.rd iR hcell rfl rfl ?_ | refine go1_ ?_ | refine bx_ (fun _ => ?_) | refine hl_callv rfl rfl (cF _) ?_ | refine hl_callv rfl rfl (sz _) ?_)
    exact fin1B rfl rfl ⟨rfl, rfl⟩ (Imp.drop iR)
  by_cases q7 : x.l.e < 0
  · obtain rfl := bf (fun q => by have := (q.a x hx).e; omega)
    repeat (first | refine hl_load1 rfl (.there tx) rfl rfl ?_ | refine hl_load1 rfl tx rfl rfl ?_ | refine hl_loadN (i := 0) (n := 4) (vs := [.int .i64 w, .int .i64 h, .int .i64 n, .slice (some ⟨bb, off, none⟩) L.length c]) rfl (.there tx) rfl rfl rfl ?_ | refine hl_loadN (i := 0) (n := 19) (vs := rlC x.t x.l (.slice pa x.l.P.length pc) (.slice ma x.l.M.length mc) (.slice qa x.l.Q.length qc)) rfl .here rfl rfl rfl ?_ | refine hl_loadRN (l := C) rfl hC.rd iR hcell rfl rfl ?_ | refine go1_ ?_ | refine bx_ (fun _ => ?_) | refine hl_callv rfl rfl (cF _) ?_ | refine hl_callv rfl rfl (sz _) ?_)
    exact fin1B rfl rfl ⟨rfl, rfl⟩ (Imp.drop iR)
  by_cases q8 : 11 < x.l.e
  · obtain rfl := bf (fun q => by have := (q.a x hx).e; omega)
    repeat (first | refine hl_load1 rfl (.there tx) rfl rfl ?_ | refine hl_load1 rfl tx rfl rfl ?_ | refine hl_loadN (i := 0) (n := 4) (vs := [.int .i64 w, .int .i64 h, .int .i64 n, .slice (some ⟨bb, off, none⟩) L.length c]) rfl (.there tx) rfl rfl rfl ?_ | refine hl_loadN (i := 0) (n := 19) (vs := rlC x.t x.l (.slice pa x.l.P.length pc) (.slice ma x.l.M.length mc) (.slice qa x.l.Q.length qc)) rfl .here rfl rfl rfl ?_ | refine hl_loadRN (l := C) rfl hC.rd iR hcell rfl rfl ?_ | refine go1_ ?_ | refine bx_ (fun _ => ?_) | refine hl_callv rfl rfl (cF _) ?_ | refine hl_callv rfl rfl (sz _) ?_)
    exact fin1B rfl rfl ⟨rfl, rfl⟩ (Imp.drop iR)
  by_cases q9 : ¬ PlQ x.l
  · have cP := fun e : Ent => rplain_fn (w := w) (h := h) (n := n) (t := x.t) (la := some ⟨bb, off, none⟩) (ln := L.length) (lc := c) rfl (hly0.imp (Imp.drop iR : Imp (e :: eb :: H) H)) hwx false ⟨fun h => (by cases h), fun h => absurd h q9⟩
    obtain rfl := bf (fun q => q9 (q.a x hx).p)
    repeat (first | refine hl_load1 rfl (.there tx) rfl rfl ?_ | refine hl_load1 rfl tx rfl rfl ?_ | refine hl_loadN (i := 0) (n := 4) (vs := [.int .i64 w, .int .i64 h, .int .i64 n, .slice (some ⟨bb, off, none⟩) L.length c]) rfl (.there tx) rfl rfl rfl ?_ | refine hl_loadN (i := 0) (n := 19) (vs := rlC x.t x.l (.slice pa x.l.P.length pc) (.slice ma x.l.M.length mc) (.slice qa x.l.Q.length qc)) rfl .here rfl rfl rfl ?_ | refine hl_loadRN (l := C) rfl hC.rd iR hcell rfl rfl ?_ | refine go1_ ?_ | refine bx_ (fun _ => ?_) | refine hl_callv rfl rfl (cF _) ?_ | refine hl_callv rfl rfl (sz _) ?_ | refine hl_callv rfl rfl (cP _) ?_)
    exact fin1B rfl rfl ⟨rfl, rfl⟩ (Imp.drop iR)
  replace q9 : PlQ x.l := Classical.not_not.1 q9
  have cP := fun e : Ent => rplain_fn (w := w) (h := h) (n := n) (t := x.t) (la := some ⟨bb, off, none⟩) (ln := L.length) (lc := c) rfl (hly0.imp (Imp.drop iR : Imp (e :: eb :: H) H)) hwx true ⟨fun _ => q9, fun _ => rfl⟩
  by_cases qa1 : x.l.M.length ≠ 0 ∧ (x.l.M.length : Int) ≠ w * h
  · obtain ⟨qa2, qa3⟩ := qa1
    obtain rfl := bf (fun q => by have := (q.a x hx).m; omega)
    repeat (first | refine hl_load1 rfl (.there tx) rfl rfl ?_ | refine hl_load1 rfl tx rfl rfl ?_ | refine hl_loadN (i := 0) (n := 4) (vs := [.int .i64 w, .int .i64 h, .int .i64 n, .slice (some ⟨bb, off, none⟩) L.length c]) rfl (.there tx) rfl rfl rfl ?_ | refine hl_loadN (i := 0) (n := 19) (vs := rlC x.t x.l (.slice pa x.l.P.length pc) (.slice ma x.l.M.length mc) (.slice qa x.l.Q.length qc)) rfl .here rfl rfl rfl ?_ | refine hl_loadRN (l := C) rfl hC.rd iR hcell rfl rfl ?_ | refine go1_ ?_ | refine bx_ (fun _ => ?_) | refine hl_callv rfl rfl (cF _) ?_ | refine hl_callv rfl rfl (sz _) ?_ | refine hl_callv rfl rfl (cP _) ?_)
    exact fin1B rfl rfl ⟨rfl, rfl⟩ (Imp.drop iR)
  by_cases qm : x.l.M.length = 0
  · have := 0
    repeat (first | refine hl_load1 rfl (.there tx) rfl rfl ?_ | refine hl_load1 rfl tx rfl rfl ?_ | refine hl_loadN (i := 0) (n := 4) (vs := [.int .i64 w, .int .i64 h, .int .i64 n, .slice (some ⟨bb, off, none⟩) L.length c]) rfl (.there tx) rfl rfl rfl ?_ | refine hl_loadN (i := 0) (n := 19) (vs := rlC x.t x.l (.slice pa x.l.P.length pc) (.slice ma x.l.M.length mc) (.slice qa x.l.Q.length qc)) rfl .here rfl rfl rfl ?_ | refine hl_loadRN (l := C) rfl hC.rd iR hcell rfl rfl ?_ | refine go1_ ?_ | refine bx_ (fun _ => ?_) | refine hl_callv rfl rfl (cF _) ?_ | refine hl_callv rfl rfl (sz _) ?_ | refine hl_callv rfl rfl (cP _) ?_)
    rename_i g4
    obtain ⟨R2, hR2⟩ : ∃ R2, R2 = (⟨g4, 121, rlC x.t x.l (.slice pa x.l.P.length pc) (.slice ma x.l.M.length mc) (.slice qa x.l.Q.length qc), 19⟩ :: eb :: H : List Ent) := ⟨_, rfl⟩
    have t4 : Take R2 ⟨g4, 121, rlC x.t x.l (.slice pa x.l.P.length pc) (.slice ma x.l.M.length mc) (.slice qa x.l.Q.length qc), 19⟩ (eb :: H) := by rw [hR2]; exact .here
    have tD : Take R2 ⟨gd, 58, [.int .i64 w, .int .i64 h, .int .i64 n, .slice (some ⟨bb, off, none⟩) L.length c], 4⟩ (⟨g4, 121, rlC x.t x.l (.slice pa x.l.P.length pc) (.slice ma x.l.M.length mc) (.slice qa x.l.Q.length qc), 19⟩ :: H) := by rw [hR2]; exact .there tx
    have iR2 : Imp R2 H := by rw [hR2]; exact Imp.drop iR
    have iRe : Imp R2 (eb :: H) := by rw [hR2]; exact Imp.drop (Imp.refl _)
    refine HC.perm (H' := R2) ?_ (by rw [hR2]; exact List.Perm.refl _)
    refine hc_loopd (fun q fr M => ∃ i2 : Nat, i2 + q = x.l.M.length ∧ (∀ i, (h : i < x.l.M.length) → i < i2 → x.l.M[i].toNat = 0 ∨ x.l.M[i].toNat = 255) ∧ Imp M R2 ∧ Agr fr [(1, .pointer (some ⟨gd, 0, none⟩)), (3, .int .i64 (j : Int)), (4, .pointer (some ⟨g4, 0, none⟩)), (5, .int .i64 (i2 : Int))]) x.l.M.length ?_ ?_
    · exact ⟨0, by omega, fun i h h2 => absurd h2 (by omega), Imp.refl _, rfl, rfl, rfl, rfl, trivial⟩
    clear base
    rintro q2 fr M ⟨i2, hi2, hm, him, hf⟩
    obtain ⟨base, rfl⟩ := hf.out
    clear hf
    refine HC.imp ?_ him
    clear him M
    by_cases hlm : i2 < x.l.M.length
    · exact absurd hlm (by omega)
    obtain rfl : i2 = x.l.M.length := by omega
    have hMall : ∀ c ∈ x.l.M, c.toNat = 0 ∨ c.toNat = 255 := fun c hc => by
      obtain ⟨i, hi, rfl⟩ := List.getElem_of_mem hc
      exact hm i hi hi
    have hla : LaQ w h n x.l := ⟨by omega, by omega, by omega, by omega, q9, by omega, hMall⟩
    by_cases t0 : x.t = 0
    · repeat (first | refine hl_load1 rfl t4 rfl rfl ?_ | refine go1_ ?_ | refine bx_ (fun _ => ?_))
      refine hc_meet (fun fr M => Agr fr [(1, .pointer (some ⟨gd, 0, none⟩)), (3, .int .i64 (j : Int)), (139, .bool false)] ∧ M = R2) ?_ ?_
      · (refine hc_draw (by kernel_rfl) (by kernel_rfl) ?_; repeat (first | refine hl_load1 rfl t4 rfl rfl ?_ | refine gd1_ ?_))
        try refine thn_norm ?_
        exact ⟨⟨rfl, rfl, rfl, trivial⟩, rfl⟩
      rintro fr M ⟨hf, rfl⟩
      obtain ⟨base, rfl⟩ := hf.out
      repeat (first | refine go_ ?_ | refine bx_ (fun _ => ?_))
      exact ⟨q - 1, by omega, _, iRe, j + 1, by omega, fun i hi h2 => hnx i hi h2 ⟨hla, fun h => absurd t0 h⟩, Imp.refl _, rfl, rfl, trivial⟩
    obtain ⟨y, hy, hyx⟩ : ∃ y ∈ L, y.l.i = x.t := by rcases hpx with h | h; exact absurd h t0; exact h
    obtain ⟨p0, hp0, rfl⟩ := List.getElem_of_mem hy
    obtain ⟨p, hp1, hp2, hp3⟩ := first_of hp0 hyx
    obtain ⟨pv2, mv2, qv2, hcell2, _⟩ := hRl.at' hp1
    have k1 : C[p * 19 + 1]? = some (.int .i64 L[p].l.k) := cell19 hcell2 rfl
    have cF2 := rfind_fn (w := w) (h := h) (n := n) (hL0.imp iR2) hp1 (by omega) hp2 hp3
    have hgp : L[p].l.k = 1 → ∀ y ∈ L, y.l.i = x.t → y.l.k = 1 := fun hk y hy e => by
      obtain ⟨i, hi, rfl⟩ := List.getElem_of_mem hy
      obtain rfl := nd_get hnd hi hp1 (by rw [e, hp2])
      exact hk
    have hgq : RiQ w h n L → L[p].l.k = 1 := fun q => q.g x hx t0 _ (List.getElem_mem hp1) hp2
    generalize L[p].l.k = kk at *
    repeat (first | refine hl_load1 rfl t4 rfl rfl ?_ | refine go1_ ?_ | refine bx_ (fun _ => ?_))
    refine hc_meet (fun fr M => Agr fr [(1, .pointer (some ⟨gd, 0, none⟩)), (3, .int .i64 (j : Int)), (139, .bool (decide (kk ≠ 1)))] ∧ M = R2) ?_ ?_
    · by_cases hk : kk = 1
      · rw [decide_eq_false (not_not_intro hk)]
        (refine hc_draw (by kernel_rfl) (by kernel_rfl) ?_; repeat (first | refine hl_load1 rfl t4 rfl rfl ?_ | refine hl_load1 rfl tD rfl rfl ?_ | refine hl_loadN (i := 0) (n := 4) (vs := [.int .i64 w, .int .i64 h, .int .i64 n, .slice (some ⟨bb, off, none⟩) L.length c]) rfl tD rfl rfl rfl ?_ | refine hl_loadRd (j := p * 19 + 1) rfl hC.rd iR2 k1 rfl ?_ | refine gd1_ ?_ | refine hd_call rfl rfl (cF2) ?_))
        try refine thn_norm ?_
        exact ⟨⟨rfl, rfl, rfl, trivial⟩, rfl⟩
      · rw [decide_eq_true hk]
        (refine hc_draw (by kernel_rfl) (by kernel_rfl) ?_; repeat (first | refine hl_load1 rfl t4 rfl rfl ?_ | refine hl_load1 rfl tD rfl rfl ?_ | refine hl_loadN (i := 0) (n := 4) (vs := [.int .i64 w, .int .i64 h, .int .i64 n, .slice (some ⟨bb, off, none⟩) L.length c]) rfl tD rfl rfl rfl ?_ | refine hl_loadRd (j := p * 19 + 1) rfl hC.rd iR2 k1 rfl ?_ | refine gd1_ ?_ | refine hd_call rfl rfl (cF2) ?_))
        try refine thn_norm ?_
        exact ⟨⟨rfl, rfl, rfl, trivial⟩, rfl⟩
    rintro fr M ⟨hf, rfl⟩
    obtain ⟨base, rfl⟩ := hf.out
    by_cases hk : kk = 1
    · rw [decide_eq_false (not_not_intro hk)]
      repeat (first | refine go_ ?_ | refine bx_ (fun _ => ?_))
      exact ⟨q - 1, by omega, _, iRe, j + 1, by omega, fun i hi h2 => hnx i hi h2 ⟨hla, fun _ => hgp hk⟩, Imp.refl _, rfl, rfl, trivial⟩
    · rw [decide_eq_true hk]
      obtain rfl := bf (fun q => hk (hgq q))
      repeat (first | refine go_ ?_ | refine bx_ (fun _ => ?_))
      exact fin1B rfl rfl ⟨rfl, rfl⟩ iR2
  have qm2 : (x.l.M.length : Int) = w * h := by omega
  repeat (first | refine hl_load1 rfl (.there tx) rfl rfl ?_ | refine hl_load1 rfl tx rfl rfl ?_ | refine hl_loadN (i := 0) (n := 4) (vs := [.int .i64 w, .int .i64 h, .int .i64 n, .slice (some ⟨bb, off, none⟩) L.length c]) rfl (.there tx) rfl rfl rfl ?_ | refine hl_loadN (i := 0) (n := 19) (vs := rlC x.t x.l (.slice pa x.l.P.length pc) (.slice ma x.l.M.length mc) (.slice qa x.l.Q.length qc)) rfl .here rfl rfl rfl ?_ | refine hl_loadRN (l := C) rfl hC.rd iR hcell rfl rfl ?_ | refine go1_ ?_ | refine bx_ (fun _ => ?_) | refine hl_callv rfl rfl (cF _) ?_ | refine hl_callv rfl rfl (sz _) ?_ | refine hl_callv rfl rfl (cP _) ?_)
  rename_i g4
  obtain ⟨R2, hR2⟩ : ∃ R2, R2 = (⟨g4, 121, rlC x.t x.l (.slice pa x.l.P.length pc) (.slice ma x.l.M.length mc) (.slice qa x.l.Q.length qc), 19⟩ :: eb :: H : List Ent) := ⟨_, rfl⟩
  have t4 : Take R2 ⟨g4, 121, rlC x.t x.l (.slice pa x.l.P.length pc) (.slice ma x.l.M.length mc) (.slice qa x.l.Q.length qc), 19⟩ (eb :: H) := by rw [hR2]; exact .here
  have tD : Take R2 ⟨gd, 58, [.int .i64 w, .int .i64 h, .int .i64 n, .slice (some ⟨bb, off, none⟩) L.length c], 4⟩ (⟨g4, 121, rlC x.t x.l (.slice pa x.l.P.length pc) (.slice ma x.l.M.length mc) (.slice qa x.l.Q.length qc), 19⟩ :: H) := by rw [hR2]; exact .there tx
  have iR2 : Imp R2 H := by rw [hR2]; exact Imp.drop iR
  have iRe : Imp R2 (eb :: H) := by rw [hR2]; exact Imp.drop (Imp.refl _)
  refine HC.perm (H' := R2) ?_ (by rw [hR2]; exact List.Perm.refl _)
  refine hc_loopd (fun q fr M => ∃ i2 : Nat, i2 + q = x.l.M.length ∧ (∀ i, (h : i < x.l.M.length) → i < i2 → x.l.M[i].toNat = 0 ∨ x.l.M[i].toNat = 255) ∧ Imp M R2 ∧ Agr fr [(1, .pointer (some ⟨gd, 0, none⟩)), (3, .int .i64 (j : Int)), (4, .pointer (some ⟨g4, 0, none⟩)), (5, .int .i64 (i2 : Int))]) x.l.M.length ?_ ?_
  · exact ⟨0, by omega, fun i h h2 => absurd h2 (by omega), Imp.refl _, rfl, rfl, rfl, rfl, trivial⟩
  clear base
  rintro q2 fr M ⟨i2, hi2, hm, him, hf⟩
  obtain ⟨base, rfl⟩ := hf.out
  clear hf
  refine HC.imp ?_ him
  clear him M
  by_cases hlm : i2 < x.l.M.length
  · obtain ⟨mb, mo, rfl⟩ := nM.pos (by omega)
    have c1 := nM.cell hlm
    have h256 := x.l.M[i2].toNat_lt
    have hmn : ∀ i, (h : i < x.l.M.length) → i < i2 + 1 → (x.l.M[i2].toNat = 0 ∨ x.l.M[i2].toNat = 255) → x.l.M[i].toNat = 0 ∨ x.l.M[i].toNat = 255 := fun i h h2 h3 => by
      by_cases e : i = i2
      · subst e; exact h3
      · exact hm i h (by omega)
    have hbad : ¬ (x.l.M[i2].toNat = 0 ∨ x.l.M[i2].toNat = 255) → ¬ RiQ w h n L := fun hh q => hh ((q.a x hx).c _ (List.getElem_mem hlm))
    generalize x.l.M[i2].toNat = z at *
    by_cases z0 : z = 0
    · repeat (first | refine hl_load1 rfl t4 rfl rfl ?_ | refine hl_loadRd (j := i2) rfl nM.rd iR2 c1 rfl ?_ | refine go1_ ?_ | refine bx_ (fun _ => ?_))
      exact ⟨q2 - 1, by omega, _, Imp.refl _, i2 + 1, by omega, fun i h h2 => hmn i h h2 (.inl z0), Imp.refl _, rfl, rfl, rfl, rfl, trivial⟩
    by_cases z1 : z = 255
    · repeat (first | refine hl_load1 rfl t4 rfl rfl ?_ | refine hl_loadRd (j := i2) rfl nM.rd iR2 c1 rfl ?_ | refine go1_ ?_ | refine bx_ (fun _ => ?_))
      exact ⟨q2 - 1, by omega, _, Imp.refl _, i2 + 1, by omega, fun i h h2 => hmn i h h2 (.inr z1), Imp.refl _, rfl, rfl, rfl, rfl, trivial⟩
    obtain rfl := bf (hbad (by omega))
    repeat (first | refine hl_load1 rfl t4 rfl rfl ?_ | refine hl_loadRd (j := i2) rfl nM.rd iR2 c1 rfl ?_ | refine go1_ ?_ | refine bx_ (fun _ => ?_))
    exact fin1B rfl rfl ⟨rfl, rfl⟩ iR2
  obtain rfl : i2 = x.l.M.length := by omega
  have hMall : ∀ c ∈ x.l.M, c.toNat = 0 ∨ c.toNat = 255 := fun c hc => by
    obtain ⟨i, hi, rfl⟩ := List.getElem_of_mem hc
    exact hm i hi hi
  have hla : LaQ w h n x.l := ⟨by omega, by omega, by omega, by omega, q9, by omega, hMall⟩
  by_cases t0 : x.t = 0
  · repeat (first | refine hl_load1 rfl t4 rfl rfl ?_ | refine go1_ ?_ | refine bx_ (fun _ => ?_))
    refine hc_meet (fun fr M => Agr fr [(1, .pointer (some ⟨gd, 0, none⟩)), (3, .int .i64 (j : Int)), (139, .bool false)] ∧ M = R2) ?_ ?_
    · (refine hc_draw (by kernel_rfl) (by kernel_rfl) ?_; repeat (first | refine hl_load1 rfl t4 rfl rfl ?_ | refine gd1_ ?_))
      try refine thn_norm ?_
      exact ⟨⟨rfl, rfl, rfl, trivial⟩, rfl⟩
    rintro fr M ⟨hf, rfl⟩
    obtain ⟨base, rfl⟩ := hf.out
    repeat (first | refine go_ ?_ | refine bx_ (fun _ => ?_))
    exact ⟨q - 1, by omega, _, iRe, j + 1, by omega, fun i hi h2 => hnx i hi h2 ⟨hla, fun h => absurd t0 h⟩, Imp.refl _, rfl, rfl, trivial⟩
  obtain ⟨y, hy, hyx⟩ : ∃ y ∈ L, y.l.i = x.t := by rcases hpx with h | h; exact absurd h t0; exact h
  obtain ⟨p0, hp0, rfl⟩ := List.getElem_of_mem hy
  obtain ⟨p, hp1, hp2, hp3⟩ := first_of hp0 hyx
  obtain ⟨pv2, mv2, qv2, hcell2, _⟩ := hRl.at' hp1
  have k1 : C[p * 19 + 1]? = some (.int .i64 L[p].l.k) := cell19 hcell2 rfl
  have cF2 := rfind_fn (w := w) (h := h) (n := n) (hL0.imp iR2) hp1 (by omega) hp2 hp3
  have hgp : L[p].l.k = 1 → ∀ y ∈ L, y.l.i = x.t → y.l.k = 1 := fun hk y hy e => by
    obtain ⟨i, hi, rfl⟩ := List.getElem_of_mem hy
    obtain rfl := nd_get hnd hi hp1 (by rw [e, hp2])
    exact hk
  have hgq : RiQ w h n L → L[p].l.k = 1 := fun q => q.g x hx t0 _ (List.getElem_mem hp1) hp2
  generalize L[p].l.k = kk at *
  repeat (first | refine hl_load1 rfl t4 rfl rfl ?_ | refine go1_ ?_ | refine bx_ (fun _ => ?_))
  refine hc_meet (fun fr M => Agr fr [(1, .pointer (some ⟨gd, 0, none⟩)), (3, .int .i64 (j : Int)), (139, .bool (decide (kk ≠ 1)))] ∧ M = R2) ?_ ?_
  · by_cases hk : kk = 1
    · rw [decide_eq_false (not_not_intro hk)]
      (refine hc_draw (by kernel_rfl) (by kernel_rfl) ?_; repeat (first | refine hl_load1 rfl t4 rfl rfl ?_ | refine hl_load1 rfl tD rfl rfl ?_ | refine hl_loadN (i := 0) (n := 4) (vs := [.int .i64 w, .int .i64 h, .int .i64 n, .slice (some ⟨bb, off, none⟩) L.length c]) rfl tD rfl rfl rfl ?_ | refine hl_loadRd (j := p * 19 + 1) rfl hC.rd iR2 k1 rfl ?_ | refine gd1_ ?_ | refine hd_call rfl rfl (cF2) ?_))
      try refine thn_norm ?_
      exact ⟨⟨rfl, rfl, rfl, trivial⟩, rfl⟩
    · rw [decide_eq_true hk]
      (refine hc_draw (by kernel_rfl) (by kernel_rfl) ?_; repeat (first | refine hl_load1 rfl t4 rfl rfl ?_ | refine hl_load1 rfl tD rfl rfl ?_ | refine hl_loadN (i := 0) (n := 4) (vs := [.int .i64 w, .int .i64 h, .int .i64 n, .slice (some ⟨bb, off, none⟩) L.length c]) rfl tD rfl rfl rfl ?_ | refine hl_loadRd (j := p * 19 + 1) rfl hC.rd iR2 k1 rfl ?_ | refine gd1_ ?_ | refine hd_call rfl rfl (cF2) ?_))
      try refine thn_norm ?_
      exact ⟨⟨rfl, rfl, rfl, trivial⟩, rfl⟩
  rintro fr M ⟨hf, rfl⟩
  obtain ⟨base, rfl⟩ := hf.out
  by_cases hk : kk = 1
  · rw [decide_eq_false (not_not_intro hk)]
    repeat (first | refine go_ ?_ | refine bx_ (fun _ => ?_))
    exact ⟨q - 1, by omega, _, iRe, j + 1, by omega, fun i hi h2 => hnx i hi h2 ⟨hla, fun _ => hgp hk⟩, Imp.refl _, rfl, rfl, trivial⟩
  · rw [decide_eq_true hk]
    obtain rfl := bf (fun q => hk (hgq q))
    repeat (first | refine go_ ?_ | refine bx_ (fun _ => ?_))
    exact fin1B rfl rfl ⟨rfl, rfl⟩ iR2
end
end Go.Proofs.Ytoobhebbgbhahaa
