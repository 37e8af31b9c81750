/-
  How an argument that is an edit is opened. No condition.
-/
import Derived.Test.YtoobhebbgbhahaaPH
import Derived.Test.YtoobhebbgbhahaaOpenS
import Derived.ChangeArms
namespace Go.Proofs.Ytoobhebbgbhahaa
open Go.RowKit Go.ChangeShapes Go.WideShapes Go.ChangeAt Go.Deep
/-- An edit that is handed in. -/
structure EdA where
  f : Nat → Int
  m : Nat → Int
  pa : Option Addr
  pn : Nat
  pc : Nat
  sa : Option Addr
  sn : Nat
  sc : Nat
  qa : Option Addr
  qn : Nat
  qc : Nat
  P : List Int
  S : List Pt
  Q : List Int
abbrev EdA.v (x : EdA) : Value := .agg (edC x.f x.m (.slice x.pa x.pn x.pc) (.slice x.sa x.sn x.sc) (.slice x.qa x.qn x.qc)).toArray
structure EdA.wf (w : World) (x : EdA) : Prop where
  f : ∀ n ∈ f10 x.f, I64 n
  m : ∀ n ∈ f6 x.m, I64 n
  P : Sl intV w x.pa x.pn x.pc x.P ∧ ∀ n ∈ x.P, I64 n
  S : SlS 2 ptV w x.sa x.sn x.sc x.S ∧ ∀ p ∈ x.S, I64 p.x ∧ I64 p.y
  Q : Sl intV w x.qa x.qn x.qc x.Q ∧ ∀ n ∈ x.Q, I64 n
theorem rds_pts {w0 : World} {B : Nat} {E : List Ent} (hB : w0.heap.size ≤ B) {a : Option Addr} {len cap : Nat} {l : List Pt} (hl : SlS 2 ptV w0 a len cap l) : Rds w0 B E a (l.flatMap ptV) := by
  have hcell : ∀ (j : Nat) u, (l.flatMap ptV)[j]? = some u → ∃ i, ∃ h : i < l.length, ∃ q, j = i * 2 + q ∧ (ptV l[i])[q]? = some u := by
    intro j u hu
    have hj : j < (l.flatMap ptV).length := (List.getElem?_eq_some_iff.1 hu).1
    rw [length_pts] at hj
    refine ⟨j / 2, by omega, j % 2, by omega, ?_⟩
    rw [← flat_pt l (j / 2) (by omega), List.getElem?_take, if_pos (Nat.mod_lt _ (by decide)), List.getElem?_drop, ← hu]
    congr 1; omega
  refine ⟨fun w hw ad ha j u hu => ?_, fun hn => ?_, one_pts l⟩
  · obtain ⟨i, hi, q, rfl, hq⟩ := hcell j u hu
    obtain ⟨b, off, hb, hc⟩ := hl.row i hi
    rw [ha] at hb; cases hb
    have hc := hc q u hq
    rw [Addr.add_lit, ← hc, show off + (i * 2 + q) = off + i * 2 + q by omega]
    have hblk : b < B := by
      refine Nat.lt_of_lt_of_le ?_ hB
      simp only [World.cell?] at hc
      rcases Nat.lt_or_ge b w0.heap.size with h1 | h1
      · exact h1
      · rw [Array.getElem?_eq_none h1] at hc; cases hc
    exact hw.below.cell (p := ⟨b, off + i * 2 + q, none⟩) hblk
  · have := hl.nil hn
    have h2 := hl.le
    have h3 := hl.size_eq
    have : l = [] := List.eq_nil_of_length_eq_zero (by omega)
    rw [this]; rfl
theorem ptR_of {w0 : World} {B : Nat} {E : List Ent} (hB : w0.heap.size ≤ B) {a : Option Addr} {len cap : Nat} {l : List Pt} (hl : SlS 2 ptV w0 a len cap l) : PtR w0 B E a len l :=
  ⟨hl.size_eq, fun h0 => by obtain ⟨b, off, hb, _⟩ := hl.row 0 (by rw [hl.size_eq]; exact h0); exact ⟨b, off, hb⟩, rds_pts hB hl⟩
section
variable {H : Type} {enc : TypeId × Value → H} {w : World} {base : Nat} {held : Bool}
theorem open_pts {v : Value} {d : DataW H} {ps : List MemPlace} {a : Option Addr} {len cap : Nat} (hv : v = .slice a len cap)
    (h : DataW.Trod enc Try.prog w base (fun _ => true) held 23 v d ps) : ∃ l : List Pt, SlS 2 ptV w a len cap l ∧ ∀ p ∈ l, I64 p.x ∧ I64 p.y := by
  refine open_structs ptV (fun p => I64 p.x ∧ I64 p.y) Try.underlying23 Try.underlying78 (by kernel_rfl) (by kernel_rfl) (by decide) ?_ hv h
  intro vs hl hf
  obtain ⟨x, hx, n0, y0, h0⟩ := hf 0 _ rfl
  obtain ⟨y, hy, n1, y1, h1⟩ := hf 1 _ rfl
  obtain ⟨i, hi, _, wi⟩ := DataW.trod_int Try.underlying3 h0
  obtain ⟨j, hj, _, wj⟩ := DataW.trod_int Try.underlying3 h1
  cases hi; cases hj
  match vs, hl with
  | [p, q], _ =>
    cases hx; cases hy
    exact ⟨⟨i, j⟩, rfl, wf_i64 wi, wf_i64 wj⟩
theorem cellsInt : Try.prog.cellsOf 3 = 1 := by kernel_rfl
theorem one_int {fuel : Nat} {cs : List Value} {c : Value} {o : Option (DataW H × List MemPlace)} {k : Nat} (h : DataW.trod enc Try.prog w base (fun _ => true) held fuel 3 ((cs.drop k).take (Try.prog.cellsOf 3)) = o) (ho : o.isSome = true) (hc : (cs.drop k).take 1 = [c]) : ∃ z, c = .int .i64 z ∧ I64 z := by
  obtain ⟨y, rfl⟩ := Option.isSome_iff_exists.1 ho
  rw [cellsInt, hc] at h
  obtain ⟨z, hz, _, hw⟩ := DataW.trod_int Try.underlying3 h
  exact ⟨z, by simpa using hz, wf_i64 hw⟩
theorem one_val {fuel : Nat} {cs : List Value} {c : Value} {o : Option (DataW H × List MemPlace)} {k : Nat} {T : TypeId} (hT : Try.prog.cellsOf T = 1) (h : DataW.trod enc Try.prog w base (fun _ => true) held fuel T ((cs.drop k).take (Try.prog.cellsOf T)) = o) (ho : o.isSome = true) (hc : (cs.drop k).take 1 = [c]) : ∃ y, DataW.trod enc Try.prog w base (fun _ => true) held fuel T [c] = some y := by
  obtain ⟨y, rfl⟩ := Option.isSome_iff_exists.1 ho
  rw [hT, hc] at h
  exact ⟨y, h⟩
theorem one_slice {fuel : Nat} {c : Value} {y : DataW H × List MemPlace} {T e : TypeId} (hT : Try.prog.underlying T = some (.slice e)) (h : DataW.trod enc Try.prog w base (fun _ => true) held fuel T [c] = some y) : ∃ a n cap, c = .slice a n cap ∧ ∃ d ps, DataW.Trod enc Try.prog w base (fun _ => true) held T (.slice a n cap) d ps := by
  have h2 := h
  obtain ⟨a, len, cap, rfl⟩ : ∃ a len cap, c = .slice a len cap := by
    rcases open_slice hT h2 with ⟨hcs, _⟩ | ⟨x, l, c, _, _, _, _, hcs, _⟩
    · simp only [List.cons.injEq, and_true] at hcs; exact ⟨_, _, _, hcs⟩
    · simp only [List.cons.injEq, and_true] at hcs; exact ⟨_, _, _, hcs⟩
  exact ⟨a, len, cap, rfl, y.1, y.2, fuel, h⟩
set_option maxRecDepth 100000 in
set_option maxHeartbeats 4000000 in
theorem six_ints {fuel : Nat} {cs : List Value} {o : Option (DataW H × List MemPlace)} {k : Nat} {m0 m1 m2 m3 m4 m5 : Value} (h : DataW.trod enc Try.prog w base (fun _ => true) held fuel 25 ((cs.drop k).take (Try.prog.cellsOf 25)) = o) (ho : o.isSome = true) (hc : (cs.drop k).take 6 = [m0, m1, m2, m3, m4, m5]) :
    ∃ m : Nat → Int, (m0 = .int .i64 (m 0) ∧ m1 = .int .i64 (m 1) ∧ m2 = .int .i64 (m 2) ∧ m3 = .int .i64 (m 3) ∧ m4 = .int .i64 (m 4) ∧ m5 = .int .i64 (m 5)) ∧ ∀ n ∈ f6 m, I64 n := by
  obtain ⟨y, rfl⟩ := Option.isSome_iff_exists.1 ho
  rw [show Try.prog.cellsOf 25 = 6 by kernel_rfl, hc] at h
  obtain ⟨xs, n', _, _, _, hxl, hx⟩ := DataW.trod_array Try.underlying25 h
  have hxs : ∀ j, j < 6 → (xs[j]?).isSome = true := fun j hj => by
    rw [List.getElem?_eq_getElem (by omega)]; rfl
  obtain ⟨z0, rfl, w0⟩ := one_int (k := 0 * Try.prog.cellsOf 3) (hx 0 (by decide)) (hxs 0 (by decide)) (by rw [cellsInt]; rfl)
  obtain ⟨z1, rfl, w1⟩ := one_int (k := 1 * Try.prog.cellsOf 3) (hx 1 (by decide)) (hxs 1 (by decide)) (by rw [cellsInt]; rfl)
  obtain ⟨z2, rfl, w2⟩ := one_int (k := 2 * Try.prog.cellsOf 3) (hx 2 (by decide)) (hxs 2 (by decide)) (by rw [cellsInt]; rfl)
  obtain ⟨z3, rfl, w3⟩ := one_int (k := 3 * Try.prog.cellsOf 3) (hx 3 (by decide)) (hxs 3 (by decide)) (by rw [cellsInt]; rfl)
  obtain ⟨z4, rfl, w4⟩ := one_int (k := 4 * Try.prog.cellsOf 3) (hx 4 (by decide)) (hxs 4 (by decide)) (by rw [cellsInt]; rfl)
  obtain ⟨z5, rfl, w5⟩ := one_int (k := 5 * Try.prog.cellsOf 3) (hx 5 (by decide)) (hxs 5 (by decide)) (by rw [cellsInt]; rfl)
  refine ⟨fun i => [z0, z1, z2, z3, z4, z5].getD i 0, ⟨rfl, rfl, rfl, rfl, rfl, rfl⟩, fun n hn => ?_⟩
  have hn : n ∈ [z0, z1, z2, z3, z4, z5] := hn
  simp only [List.mem_cons, List.not_mem_nil, or_false] at hn
  rcases hn with rfl | rfl | rfl | rfl | rfl | rfl <;> assumption
set_option maxRecDepth 100000 in
set_option maxHeartbeats 4000000 in
theorem open_edit {v : Value} {d : DataW H} {ps : List MemPlace} {w0 : World} {r : Reach} {b0 : Nat} (hok : Value.okWide Try.prog w0 r b0 27 v) (h : DataW.Trod enc Try.prog w base (fun _ => true) held 27 v d ps) :
    ∃ x : EdA, v = x.v ∧ x.wf w := by
  obtain ⟨cs, rfl, hsz⟩ : ∃ cs, v = .agg cs ∧ cs.size = Try.prog.cellsOf 27 := by
    simp only [Value.okWide, Try.underlying27] at hok
    obtain ⟨cs, h1, h2, _⟩ := hok
    exact ⟨cs, h1, h2⟩
  have hc19 : Try.prog.cellsOf 27 = 19 := by kernel_rfl
  rw [hc19] at hsz
  obtain ⟨fuel, hf⟩ := h
  obtain ⟨ys, n', hn', hy, hlen, hyl, hj⟩ := DataW.trod_struct Try.underlying27 hf
  obtain ⟨l⟩ := cs
  simp only [Value.cells] at hj
  have hl : l.length = 19 := by simpa using hsz
  have hys : ∀ j, j < 14 → (ys[j]?).isSome = true := fun j hj => by
    rw [List.getElem?_eq_getElem (by rw [hyl]; exact hj)]; rfl
  match l, hl with
  | [c0, c1, c2, c3, c4, c5, c6, c7, c8, c9, cp, cs, m0, m1, m2, m3, m4, m5, cq], _ =>
    obtain ⟨z0, rfl, w0⟩ := one_int (hj 0 _ rfl) (hys 0 (by decide)) rfl
    obtain ⟨z1, rfl, w1⟩ := one_int (hj 1 _ rfl) (hys 1 (by decide)) rfl
    obtain ⟨z2, rfl, w2⟩ := one_int (hj 2 _ rfl) (hys 2 (by decide)) rfl
    obtain ⟨z3, rfl, w3⟩ := one_int (hj 3 _ rfl) (hys 3 (by decide)) rfl
    obtain ⟨z4, rfl, w4⟩ := one_int (hj 4 _ rfl) (hys 4 (by decide)) rfl
    obtain ⟨z5, rfl, w5⟩ := one_int (hj 5 _ rfl) (hys 5 (by decide)) rfl
    obtain ⟨z6, rfl, w6⟩ := one_int (hj 6 _ rfl) (hys 6 (by decide)) rfl
    obtain ⟨z7, rfl, w7⟩ := one_int (hj 7 _ rfl) (hys 7 (by decide)) rfl
    obtain ⟨z8, rfl, w8⟩ := one_int (hj 8 _ rfl) (hys 8 (by decide)) rfl
    obtain ⟨z9, rfl, w9⟩ := one_int (hj 9 _ rfl) (hys 9 (by decide)) rfl
    obtain ⟨yp, hp⟩ := one_val (by kernel_rfl) (hj 10 _ rfl) (hys 10 (by decide)) rfl
    obtain ⟨ys', hs⟩ := one_val (by kernel_rfl) (hj 11 _ rfl) (hys 11 (by decide)) rfl
    obtain ⟨yq, hq⟩ := one_val (by kernel_rfl) (hj 13 _ rfl) (hys 13 (by decide)) rfl
    obtain ⟨m, ⟨rfl, rfl, rfl, rfl, rfl, rfl⟩, wm⟩ := six_ints (hj 12 _ rfl) (hys 12 (by decide)) rfl
    obtain ⟨pa, pn, pc, rfl, _, _, hp⟩ := one_slice Try.underlying22 hp
    obtain ⟨sa, sn, sc, rfl, _, _, hs⟩ := one_slice Try.underlying23 hs
    obtain ⟨qa, qn, qc, rfl, _, _, hq⟩ := one_slice Try.underlying22 hq
    obtain ⟨P, hP, bP⟩ := open_nums Try.underlying22 Try.underlying3 (by kernel_rfl) rfl hp
    obtain ⟨Q, hQ, bQ⟩ := open_nums Try.underlying22 Try.underlying3 (by kernel_rfl) rfl hq
    obtain ⟨S, hS, bS⟩ := open_pts rfl hs
    refine ⟨⟨fun i => [z0, z1, z2, z3, z4, z5, z6, z7, z8, z9].getD i 0, m, pa, pn, pc, sa, sn, sc, qa, qn, qc, P, S, Q⟩, rfl, ⟨fun n hn => ?_, wm, ⟨hP, bP⟩, ⟨hS, bS⟩, ⟨hQ, bQ⟩⟩⟩
    have hn : n ∈ [z0, z1, z2, z3, z4, z5, z6, z7, z8, z9] := hn
    simp only [List.mem_cons, List.not_mem_nil, or_false] at hn
    rcases hn with rfl | rfl | rfl | rfl | rfl | rfl | rfl | rfl | rfl | rfl <;> assumption
end
theorem numR_of {w0 : World} {B : Nat} {E : List Ent} (hB : w0.heap.size ≤ B) {a : Option Addr} {len cap : Nat} {l : List Int} (h : Sl intV w0 a len cap l) : NumR w0 B E a len l :=
  ⟨h.size_eq, fun h0 => by obtain ⟨b, off, hb, _⟩ := h.row 0 (by rw [h.size_eq]; exact h0); exact ⟨b, off, hb⟩, Rds.sl (c := ⟨Try.prog, 0, w0, B⟩) h hB (fun y => rfl)⟩
end Go.Proofs.Ytoobhebbgbhahaa
