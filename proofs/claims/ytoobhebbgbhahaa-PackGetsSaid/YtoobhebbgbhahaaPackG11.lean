/-
  The document's right documents, numbers that stand once. No condition.
-/
import Derived.MapKept
import Derived.Test.YtoobhebbgbhahaaPackG10
namespace Go.Proofs.Ytoobhebbgbhahaa
open Go.RowKit
/-- A right document. -/
structure RtQ (D : Dc) : Prop where
  nd : D.F.ids.Nodup
  z : (0 : Int) ∉ D.F.ids
  r : RiQ D.w D.h D.n (D.F.flat 0)
theorem Fo.par_flat {F : Fo} : ∀ x ∈ F.flat 0, x.t = 0 ∨ ∃ y ∈ F.flat 0, y.l.i = x.t := fun x hx => by
  rcases F.flat_t 0 x hx with h | h
  · exact .inl h
  · rw [← F.flat_ids 0] at h
    obtain ⟨y, hy, e⟩ := List.mem_map.1 h
    exact .inr ⟨y, hy, e⟩
theorem Fo.wf_flat {N : Nat} : ∀ (F : Fo) (t : Int), F.wf N → ∀ x ∈ F.flat t, x.l.wf N
  | .nil, _, _, x, h => by cases h
  | .cons l k r, t, ⟨h1, _, h3, h4⟩, x, h => by
    rw [Fo.flat] at h
    simp only [List.mem_cons, List.mem_append] at h
    rcases h with rfl | h | h
    · exact h1
    · exact Fo.wf_flat k _ h3 x h
    · exact Fo.wf_flat r _ h4 x h
section
variable {w0 : World} {B : Nat} {H R R0 : List Ent} {g : Nat}
set_option maxHeartbeats 16000000
set_option maxRecDepth 100000
theorem rright_fn15 {D : Dc} {lv : Value} (hL : RlR w0 B H lv (D.F.flat 0)) (hdep : D.F.dep ≤ 64) (hw : D.F.wf 1000000) (hc : D.F.cnt ≤ 1000000) (b : Bool) (hb : b = true ↔ RtQ D) :
    Fn Try.prog w0 B 46 [.agg (dcC D lv).toArray] H (fun v H' => v = .bool b ∧ H' = H) := by
  have hL0 := hL
  have hwf := Fo.wf_flat D.F 0 hw
  have hlen := D.F.flat_len 0
  have hids := D.F.flat_ids 0
  have hpar := Fo.par_flat (F := D.F)
  have bf : ¬ RtQ D → b = false := fun h => by cases b; rfl; exact absurd (hb.1 rfl) h
  obtain ⟨L, hLe⟩ : ∃ L, L = D.F.flat 0 := ⟨_, rfl⟩
  rw [← hLe] at hL hL0 hwf hlen hids hpar
  have hup : (0 : Int) ∉ D.F.ids → ∀ x ∈ L, ∃ m, m ≤ 64 ∧ Up L x.l.i m := fun h0 x hx => by
    obtain ⟨m, h1, h2⟩ := up_flat L D.F 0 0 (fun y hy => by rw [hLe]; exact hy) h0 Up.root x (by rw [← hLe]; exact hx)
    exact ⟨m, by omega, h2⟩
  obtain ⟨a, c, C, rfl, hC, hRl⟩ := hL
  refine fn_intro Try.func46 rfl (by kernel_rfl) rfl ?_
  repeat (first | refine go_ ?_ | refine bx_ (fun _ => ?_))
  rename_i gd
  obtain ⟨eb, heb⟩ : ∃ eb : Ent, eb = ⟨gd, 58, dcC D (.slice a L.length c), 4⟩ := ⟨_, rfl⟩
  have tx : Take (eb :: H) ⟨gd, 58, dcC D (.slice a L.length c), 4⟩ H := by rw [heb]; exact .here
  have iR : Imp (eb :: H) H := Imp.drop (Imp.refl _)
  refine HC.perm (H' := eb :: H) ?_ (by rw [heb]; exact List.Perm.refl _)
  refine hc_loop (fun q fr M => ∃ j : Nat, j + q = L.length ∧ (∀ i, (hi : i < L.length) → i < j → L[i].l.i ≠ 0 ∧ ∀ k, (hk : k < L.length) → k < i → L[k].l.i ≠ L[i].l.i) ∧ M = eb :: H ∧ Agr fr [(1, .pointer (some ⟨gd, 0, none⟩)), (3, .int .i64 (j : Int))]) L.length ?_ ?_
  · exact ⟨0, by omega, fun i hi h => absurd h (by omega), rfl, rfl, rfl, trivial⟩
  rintro q fr M ⟨j, hj, hall, rfl, hfr⟩
  obtain ⟨base, rfl⟩ := hfr.out
  clear hfr
  by_cases hlt : j < L.length
  rotate_left
  · obtain rfl : j = L.length := by omega
    have hnd : (L.map fun x => x.l.i).Nodup := by
      refine List.pairwise_iff_getElem.2 fun i k hi hk hik => ?_
      simp only [List.length_map] at hi hk
      simp only [List.getElem_map]
      exact (hall k hk hk).2 i hi hik
    have h0 : (0 : Int) ∉ D.F.ids := by
      rw [← hids]
      intro h
      obtain ⟨x, hx, e⟩ := List.mem_map.1 h
      obtain ⟨i, hi, rfl⟩ := List.getElem_of_mem hx
      exact (hall i hi hi).1 e
    repeat (first | refine hl_load1 rfl tx rfl rfl ?_ | refine hl_loadN (i := 0) (n := 4) (vs := dcC D (.slice a L.length c)) rfl tx rfl rfl rfl ?_ | refine go1_ ?_ | refine bx_ (fun _ => ?_))
    refine hl_callv rfl rfl (rRight_fn (w := D.w) (h := D.h) (n := D.n) (hL0.imp iR) hnd (hup h0) hpar hwf (by omega) b ⟨fun h => by rw [hLe]; exact (hb.1 h).r, fun h => hb.2 ⟨by rw [← hids]; exact hnd, h0, by rw [← hLe]; exact h⟩⟩) ?_
    repeat (first | refine go_ ?_ | refine bx_ (fun _ => ?_))
    exact fin1B rfl rfl ⟨rfl, rfl⟩ iR
  obtain ⟨bb, off, rfl⟩ := hC.pos (by omega)
  obtain ⟨pv, mv, qv, hcell, _⟩ := hRl.at' hlt
  have k0 : C[j * 19 + 0]? = some (.int .i64 L[j].l.i) := cell19 hcell rfl
  obtain ⟨p, hp1, hp2, hp3⟩ := first_of hlt rfl
  have cF := rfind_fn (w := D.w) (h := D.h) (n := D.n) (hL0.imp iR) hp1 (by omega) hp2 hp3
  have hbad0 : L[j].l.i = 0 → ¬ RtQ D := fun e q => q.z (by rw [← hids, ← e]; exact List.mem_map.2 ⟨_, List.getElem_mem hlt, rfl⟩)
  have hbad1 : p ≠ j → ¬ RtQ D := fun e q => e (nd_get (by rw [hids]; exact q.nd) hp1 hlt hp2)
  have hpj : p ≤ j := by
    rcases Nat.lt_or_ge j p with h | h
    · exact absurd rfl (hp3 j hlt h)
    · exact h
  have hgood : L[j].l.i ≠ 0 → p = j → ∀ i, (hi : i < L.length) → i < j + 1 → L[i].l.i ≠ 0 ∧ ∀ k, (hk : k < L.length) → k < i → L[k].l.i ≠ L[i].l.i := fun h1 h2 i hi h3 => by
    subst h2
    by_cases e : i = p
    · subst e; exact ⟨h1, hp3⟩
    · exact hall i hi (by omega)
  generalize L[j].l.i = z at *
  repeat (first | refine hl_load1 rfl tx rfl rfl ?_ | refine go1_ ?_ | refine bx_ (fun _ => ?_))
  refine hc_meet (fun fr M => Agr fr [(1, .pointer (some ⟨gd, 0, none⟩)), (3, .int .i64 (j : Int)), (29, .bool (decide (z = 0 ∨ p ≠ j)))] ∧ M = eb :: H) ?_ ?_
  · by_cases hz : z = 0
    · rw [show decide (z = 0 ∨ p ≠ j) = true from decide_eq_true (.inl hz)]
      (refine hc_draw (by kernel_rfl) (by kernel_rfl) ?_; repeat (first | refine hl_load1 rfl tx rfl rfl ?_ | refine hl_loadN (i := 0) (n := 4) (vs := dcC D (.slice (some ⟨bb, off, none⟩) L.length c)) rfl tx rfl rfl rfl ?_ | refine hl_loadRd (j := j * 19 + 0) rfl hC.rd iR k0 rfl ?_ | refine gd1_ ?_ | refine hd_call rfl rfl (cF) ?_))
      try refine thn_norm ?_
      exact ⟨⟨rfl, rfl, rfl, trivial⟩, rfl⟩
    · by_cases hpj2 : p = j
      · rw [show decide (z = 0 ∨ p ≠ j) = false from decide_eq_false (by omega)]
        (refine hc_draw (by kernel_rfl) (by kernel_rfl) ?_; repeat (first | refine hl_load1 rfl tx rfl rfl ?_ | refine hl_loadN (i := 0) (n := 4) (vs := dcC D (.slice (some ⟨bb, off, none⟩) L.length c)) rfl tx rfl rfl rfl ?_ | refine hl_loadRd (j := j * 19 + 0) rfl hC.rd iR k0 rfl ?_ | refine gd1_ ?_ | refine hd_call rfl rfl (cF) ?_))
        try refine thn_norm ?_
        exact ⟨⟨rfl, rfl, rfl, trivial⟩, rfl⟩
      · rw [show decide (z = 0 ∨ p ≠ j) = true from decide_eq_true (.inr hpj2)]
        (refine hc_draw (by kernel_rfl) (by kernel_rfl) ?_; repeat (first | refine hl_load1 rfl tx rfl rfl ?_ | refine hl_loadN (i := 0) (n := 4) (vs := dcC D (.slice (some ⟨bb, off, none⟩) L.length c)) rfl tx rfl rfl rfl ?_ | refine hl_loadRd (j := j * 19 + 0) rfl hC.rd iR k0 rfl ?_ | refine gd1_ ?_ | refine hd_call rfl rfl (cF) ?_))
        try refine thn_norm ?_
        exact ⟨⟨rfl, rfl, rfl, trivial⟩, rfl⟩
  rintro fr M ⟨hf, rfl⟩
  obtain ⟨base, rfl⟩ := hf.out
  by_cases hbad : z = 0 ∨ p ≠ j
  · rw [decide_eq_true hbad]
    obtain rfl := bf (by rcases hbad with h | h; exact hbad0 h; exact hbad1 h)
    repeat (first | refine go_ ?_ | refine bx_ (fun _ => ?_))
    exact fin1B rfl rfl ⟨rfl, rfl⟩ iR
  · rw [decide_eq_false hbad]
    repeat (first | refine go_ ?_ | refine bx_ (fun _ => ?_))
    exact ⟨q - 1, by omega, j + 1, by omega, hgood (fun h => hbad (.inl h)) (by omega), rfl, rfl, rfl, trivial⟩
end
end Go.Proofs.Ytoobhebbgbhahaa
namespace Go.Proofs.Ytoobhebbgbhahaa
open Go.RowKit
theorem mapIs_nil : mapIs #[] 0 := ⟨fun en h => by simp at h, fun a => by simp⟩
theorem mapIs.keys {es : Array MapEntry} {k : Nat} (h : mapIs es k) : ∀ x ∈ es.toList, Go.MapKept.IsKey (.int .i64) x.key := fun x hx => by
  obtain ⟨a, h1, _⟩ := h.1 x hx
  rw [h1]
  exact rfl
theorem mem_at (A : Array MapEntry) (en : MapEntry) : en ∈ A.toList ↔ ∃ i : Nat, A[i]? = some en := by
  rw [List.mem_iff_getElem?]
  exact ⟨fun ⟨i, h⟩ => ⟨i, by rw [← h, Array.getElem?_toList]⟩, fun ⟨i, h⟩ => ⟨i, by rw [← h, Array.getElem?_toList]⟩⟩
theorem bit_put (k n a : Nat) : (k ||| 1 <<< n).testBit a = true ↔ k.testBit a = true ∨ a = n := by
  rw [Nat.testBit_or, Nat.one_shiftLeft, Nat.testBit_two_pow, Bool.or_eq_true, decide_eq_true_eq]
  exact ⟨fun h => h.imp id Eq.symm, fun h => h.imp id Eq.symm⟩
theorem mapIs.push {es : Array MapEntry} {k n clock : Nat} (h : mapIs es k) : mapIs (es.push { key := .int .i64 (n : Int), val := .bool true, born := clock }) (k ||| 1 <<< n) := by
  refine ⟨fun en he => ?_, fun a => ?_⟩
  · simp only [Array.toList_push, List.mem_append, List.mem_singleton] at he
    rcases he with he | rfl
    · exact h.1 en he
    · exact ⟨n, rfl, rfl⟩
  · rw [bit_put, h.2 a]
    simp only [Array.toList_push, List.mem_append, List.mem_singleton]
    constructor
    · rintro (⟨en, h1, h2⟩ | rfl)
      · exact ⟨en, .inl h1, h2⟩
      · exact ⟨_, .inr rfl, rfl⟩
    · rintro ⟨en, h1 | rfl, h2⟩
      · exact .inl ⟨en, h1, h2⟩
      · injection h2 with _ h2
        exact .inr (by omega)
theorem mapIs.again {es : Array MapEntry} {k n j : Nat} {e : MapEntry} (h : mapIs es k) (hj : es[j]? = some e) (hk : e.key = .int .i64 (n : Int)) :
    mapIs (es.modify j fun e => { e with key := .int .i64 (n : Int), val := .bool true }) (k ||| 1 <<< n) := by
  have hlt : j < es.size := (Array.getElem?_eq_some_iff.1 hj).1
  have hm := mem_at (es.modify j fun e => { e with key := .int .i64 (n : Int), val := .bool true })
  have hm0 := mem_at es
  have hg : ∀ i, (es.modify j fun e => { e with key := .int .i64 (n : Int), val := .bool true })[i]? = if j = i then some { e with key := .int .i64 (n : Int), val := .bool true } else es[i]? := fun i => by
    by_cases hi : j = i
    · subst hi
      rw [if_pos rfl, Array.getElem?_modify]
      simp [hj]
    · rw [if_neg hi, Array.getElem?_modify, if_neg hi]
  refine ⟨fun en he => ?_, fun a => ?_⟩
  · obtain ⟨i, hi⟩ := (hm en).1 he
    rw [hg] at hi
    by_cases e' : j = i
    · rw [if_pos e'] at hi
      obtain rfl := Option.some.inj hi
      exact ⟨n, rfl, rfl⟩
    · rw [if_neg e'] at hi
      exact h.1 en ((hm0 en).2 ⟨i, hi⟩)
  · rw [bit_put, h.2 a]
    constructor
    · rintro (⟨en, h1, h2⟩ | rfl)
      · obtain ⟨i, hi⟩ := (hm0 en).1 h1
        by_cases e' : j = i
        · subst e'
          rw [hj] at hi
          obtain rfl := Option.some.inj hi
          exact ⟨_, (hm _).2 ⟨j, by rw [hg, if_pos rfl]⟩, by rw [← h2, hk]⟩
        · exact ⟨en, (hm _).2 ⟨i, by rw [hg, if_neg e', hi]⟩, h2⟩
      · exact ⟨_, (hm _).2 ⟨j, by rw [hg, if_pos rfl]⟩, rfl⟩
    · rintro ⟨en, h1, h2⟩
      obtain ⟨i, hi⟩ := (hm en).1 h1
      rw [hg] at hi
      by_cases e' : j = i
      · rw [if_pos e'] at hi
        obtain rfl := Option.some.inj hi
        dsimp only at h2
        injection h2 with _ h2
        exact .inr (by omega)
      · rw [if_neg e'] at hi
        exact .inl ⟨en, (hm0 en).2 ⟨i, hi⟩, h2⟩
section
variable {c : Cx} {Q : Pst} {fr : Fr} {H F : List Ent} {ops : Array Oper} {rest : List Oper} {dst : Option Nat} {ty : TypeId} {pos : String} {after : Array Edge}
variable {x y z : Operand} {T e : TypeId} {g k : Nat} {S : List Oper → Fr → List Ent → Prop}
theorem Hp.newMap {w0 w : World} {B : Nat} {H : List Ent} (h : Hp w0 B H w) : Hp w0 B (⟨w.heap.size, mapTag, [], 0⟩ :: H) (w.alloc (.map #[] 0)) :=
  h.cons ⟨w.heap.size, mapTag, [], 0⟩ h.lt (fun hm => by obtain ⟨x, hx, e⟩ := List.mem_map.1 hm; have := (h.own x hx).2.lt; rw [e] at this; exact absurd this (Nat.lt_irrefl _))
    (.inr ⟨rfl, rfl, #[], 0, heap_alloc_new w _, mapIs_nil⟩) ((Below.refl _ _).alloc h.lt _) (fun j hj _ => Below.heap_alloc w _ j hj)
theorem Hp.setMap {w0 w : World} {B : Nat} {H : List Ent} {k k' : Nat} {es es' : Array MapEntry} {cl cl' : Nat} (h : Hp w0 B (⟨g, mapTag, [], k⟩ :: H) w) (hes : w.heap[g]? = some (.map es cl)) (hm : mapIs es' k') :
    Hp w0 B (⟨g, mapTag, [], k'⟩ :: H) { w with heap := w.heap.setIfInBounds g (.map es' cl') } := by
  obtain ⟨hB, hh⟩ := h.own _ (List.mem_cons_self ..)
  have hs := Go.MapKept.heap_set (o' := .map es' cl') hes
  exact h.drop.cons ⟨g, mapTag, [], k'⟩ hB h.notin (.inr ⟨rfl, rfl, _, _, hs.1, hm⟩) ((Below.refl _ _).trans ⟨rfl, rfl, rfl, by simp, fun j hj => hs.2 j (by dsimp only at hB; omega)⟩) (fun j _ hj => hs.2 j hj)
theorem hl_makeMap (hd : dOk c.n dst = true) (h : ∀ g, HL c ops Q rest (updO fr dst (.map (some g))) (⟨g, mapTag, [], 0⟩ :: H)) :
    HL c ops Q (⟨dst, .makeMap T none, ty, pos, after, none⟩ :: rest) fr H :=
  hl_some hd (fun w hw => by
    refine ⟨_, _, _, ?_, hw.newMap, h _⟩
    simp [execOp, Instr.makeMap, newObj, Sem.run])
theorem hl_lookupB [Stp c ops S] {kt et : TypeId} {n : Nat} (hT : c.P.underlying T = some (.map kt et)) (hkt : c.P.underlying kt = some (.int .i64)) [hz : TZero c.P et (.bool false)] (hx : ev fr x = .map (some g)) (hy : ev fr y = .int .i64 (n : Int)) (ht : Take H ⟨g, mapTag, [], k⟩ F) (hd : dOk c.n dst = true)
    (h : S rest (updO fr dst (.bool (k.testBit n))) H) : S (⟨dst, .lookup T x y false, ty, pos, after, none⟩ :: rest) fr H :=
  hl_pure hd _ (fun w hw => by
    obtain ⟨hB, ⟨h1, _⟩ | ⟨_, _, es, cl, hes, hm⟩⟩ := (hw.take ht).own _ (List.mem_cons_self ..)
    · exact absurd rfl h1
    · dsimp only at hes hm
      obtain ⟨inf, hi, h0⟩ := Option.bind_eq_some_iff.1 hz.h
      have hck := Go.MapKept.run_checkKey (w := w) (k := .int .i64 (n : Int)) hkt rfl es.isEmpty 9999
      have hb : k.testBit n = true ↔ ∃ en ∈ es.toList, en.key = .int .i64 (n : Int) := hm.2 n
      rcases Go.MapKept.findNow_spec (d := .int .i64) (k := .int .i64 (n : Int)) rfl es.toList 0 hm.keys with ⟨h2, h3⟩ | ⟨j, en, h2, h3, h4⟩
      · rw [show k.testBit n = false by cases e : k.testBit n; rfl; obtain ⟨en, h5, h6⟩ := hb.1 e; exact absurd h6 (h3 en h5)]
        simp [execOp, hx, hy, Instr.lookup, run_underlying hT, Go.MapKept.run_getObj_map hes, Go.MapKept.run_findKey hkt h2, hck, zeroValue, typeInfo, hi, h0]
      · have hme := List.mem_of_getElem? h3
        obtain ⟨a, _, hv⟩ := hm.1 en hme
        rw [hb.2 ⟨en, hme, h4⟩]
        simp [execOp, hx, hy, Instr.lookup, run_underlying hT, Go.MapKept.run_getObj_map hes, Go.MapKept.run_findKey hkt h2, hck, hv]) h
theorem hl_mapPut {kt et : TypeId} {n : Nat} (hT : c.P.underlying T = some (.map kt et)) (hkt : c.P.underlying kt = some (.int .i64)) (hx : ev fr x = .map (some g)) (hy : ev fr y = .int .i64 (n : Int)) (hz : ev fr z = .bool true) (ht : Take H ⟨g, mapTag, [], k⟩ F) (hd : dOk c.n dst = true)
    (h : HL c ops Q rest (updO fr dst undef) (⟨g, mapTag, [], k ||| 1 <<< n⟩ :: F)) : HL c ops Q (⟨dst, .mapUpdate T x y z, ty, pos, after, none⟩ :: rest) fr H :=
  hl_skipv hd (fun w hw => by
    have hw' := hw.take ht
    obtain ⟨hB, ⟨h1, _⟩ | ⟨_, _, es, cl, hes, hm⟩⟩ := hw'.own _ (List.mem_cons_self ..)
    · exact absurd rfl h1
    · dsimp only at hes hm
      have hck := Go.MapKept.run_checkKey (w := w) (k := .int .i64 (n : Int)) hkt rfl false 9999
      rcases Go.MapKept.findNow_spec (d := .int .i64) (k := .int .i64 (n : Int)) rfl es.toList 0 hm.keys with ⟨h2, h3⟩ | ⟨j, en, h2, h3, h4⟩
      · refine ⟨_, _, ?_, hw'.setMap (cl' := cl + 1) hes (hm.push (n := n) (clock := cl)), h⟩
        simp [execOp, hx, hy, hz, Instr.mapUpdate, run_underlying hT, Go.MapKept.run_getObj_map hes, Go.MapKept.run_findKey hkt h2, hck, Go.MapKept.run_setObj_map _ hes, Result.andThen]
      · have hj : es[j]? = some en := by simpa using h3
        refine ⟨_, _, ?_, hw'.setMap (cl' := cl) hes (hm.again (n := n) hj h4), h⟩
        simp [execOp, hx, hy, hz, Instr.mapUpdate, run_underlying hT, Go.MapKept.run_getObj_map hes, Go.MapKept.run_findKey hkt h2, hck, hj, h4, Go.MapKept.run_keyThatStays (d := .int .i64) (k := .int .i64 (n : Int)) rfl, Go.MapKept.run_setObj_map _ hes, Result.andThen])
theorem hl_lookupI [Stp c ops S] {kt et : TypeId} {a : Int} (hT : c.P.underlying T = some (.map kt et)) (hkt : c.P.underlying kt = some (.int .i64)) [TZero c.P et (.bool false)] (hx : ev fr x = .map (some g)) (hy : ev fr y = .int .i64 a) (ha : 0 ≤ a) (ht : Take H ⟨g, mapTag, [], k⟩ F) (hd : dOk c.n dst = true)
    (h : S rest (updO fr dst (.bool (k.testBit a.toNat))) H) : S (⟨dst, .lookup T x y false, ty, pos, after, none⟩ :: rest) fr H :=
  hl_lookupB (n := a.toNat) hT hkt hx (by rw [hy, Int.toNat_of_nonneg ha]) ht hd h
theorem hl_mapPutI {kt et : TypeId} {a : Int} (hT : c.P.underlying T = some (.map kt et)) (hkt : c.P.underlying kt = some (.int .i64)) (hx : ev fr x = .map (some g)) (hy : ev fr y = .int .i64 a) (ha : 0 ≤ a) (hz : ev fr z = .bool true) (ht : Take H ⟨g, mapTag, [], k⟩ F) (hd : dOk c.n dst = true)
    (h : HL c ops Q rest (updO fr dst undef) (⟨g, mapTag, [], k ||| 1 <<< a.toNat⟩ :: F)) : HL c ops Q (⟨dst, .mapUpdate T x y z, ty, pos, after, none⟩ :: rest) fr H :=
  hl_mapPut (n := a.toNat) hT hkt hx (by rw [hy, Int.toNat_of_nonneg ha]) hz ht hd h
/-- A block ahead is kept. -/
theorem Imp.swap1 {e x : Ent} {H : List Ent} : Imp (e :: x :: H) (e :: H) := Imp.drop2 (Imp.refl _)
end
end Go.Proofs.Ytoobhebbgbhahaa
namespace Go.Proofs.Ytoobhebbgbhahaa
structure La1 (w h n : Int) (l : Ly) (k : Fo) (S : Nat) : Prop where
  q : LaQ w h n l
  b : S.testBit l.i.toNat = false
  g : l.k ≠ 1 → k.len = 0
def Fo.nx : Fo → Nat → Nat
  | .nil, S => S
  | .cons l k r, S => r.nx (k.nx (S ||| 1 <<< l.i.toNat))
def Fo.okS (w h n : Int) : Fo → Nat → Prop
  | .nil, _ => True
  | .cons l k r, S => La1 w h n l k S ∧ k.okS w h n (S ||| 1 <<< l.i.toNat) ∧ r.okS w h n (k.nx (S ||| 1 <<< l.i.toNat))
def Fo.kdG : Fo → Prop
  | .nil => True
  | .cons l k r => (l.k ≠ 1 → k.len = 0) ∧ k.kdG ∧ r.kdG
theorem Fo.nx_bit : ∀ (F : Fo) (S a : Nat), (F.nx S).testBit a = true ↔ S.testBit a = true ∨ ∃ i ∈ F.ids, i.toNat = a
  | .nil, S, a => by rw [Fo.nx, Fo.ids]; exact ⟨.inl, fun h => h.elim id fun ⟨_, h, _⟩ => by cases h⟩
  | .cons l k r, S, a => by
    rw [Fo.nx, r.nx_bit, k.nx_bit, bit_put, Fo.ids]
    constructor
    · rintro (((h | h) | ⟨i, h, e⟩) | ⟨i, h, e⟩)
      · exact .inl h
      · exact .inr ⟨l.i, by simp, h.symm⟩
      · exact .inr ⟨i, by simp [h], e⟩
      · exact .inr ⟨i, by simp [h], e⟩
    · rintro (h | ⟨i, h, e⟩)
      · exact .inl (.inl (.inl h))
      · simp only [List.mem_cons, List.mem_append] at h
        rcases h with rfl | h | h
        · exact .inl (.inl (.inr e.symm))
        · exact .inl (.inr ⟨i, h, e⟩)
        · exact .inr ⟨i, h, e⟩
theorem Fo.ids_of {F : Fo} {t i : Int} (h : i ∈ F.ids) : ∃ x ∈ F.flat t, x.l.i = i := by
  rw [← F.flat_ids t] at h
  obtain ⟨x, h1, h2⟩ := List.mem_map.1 h
  exact ⟨x, h1, h2⟩
theorem Fo.okS_iff (w h n : Int) : ∀ (F : Fo) (S : Nat) (t : Int), F.okS w h n S ↔ (∀ x ∈ F.flat t, LaQ w h n x.l) ∧ F.kdG ∧ F.ids.Nodup ∧ ∀ i ∈ F.ids, S.testBit i.toNat = false
  | .nil, S, t => by
    simp [Fo.okS, Fo.flat, Fo.kdG, Fo.ids]
  | .cons l k r, S, t => by
    rw [Fo.okS, k.okS_iff w h n _ l.i, r.okS_iff w h n _ t, Fo.flat, Fo.kdG, Fo.ids]
    have bf : ∀ {b : Bool}, b = false ↔ ¬ b = true := fun {b} => by cases b <;> simp
    constructor
    · rintro ⟨⟨h1, h2, h3⟩, ⟨k1, k2, k3, k4⟩, r1, r2, r3, r4⟩
      refine ⟨fun x hx => ?_, ⟨h3, k2, r2⟩, ?_, ?_⟩
      · simp only [List.mem_cons, List.mem_append] at hx
        rcases hx with rfl | hx | hx
        · exact h1
        · exact k1 x hx
        · exact r1 x hx
      · refine List.nodup_cons.2 ⟨fun hm => ?_, List.nodup_append.2 ⟨k3, r3, fun a ha b hb e => ?_⟩⟩
        · rcases List.mem_append.1 hm with hm | hm
          · have := bf.1 (k4 _ hm)
            rw [bit_put] at this
            exact this (.inr rfl)
          · have := bf.1 (r4 _ hm)
            rw [Fo.nx_bit, bit_put] at this
            exact this (.inl (.inr rfl))
        · subst e
          have := bf.1 (r4 _ hb)
          rw [Fo.nx_bit] at this
          exact this (.inr ⟨a, ha, rfl⟩)
      · intro i hi
        simp only [List.mem_cons, List.mem_append] at hi
        rcases hi with rfl | hi | hi
        · exact h2
        · have := bf.1 (k4 _ hi)
          rw [bit_put] at this
          exact bf.2 fun e => this (.inl e)
        · have := bf.1 (r4 _ hi)
          rw [Fo.nx_bit, bit_put] at this
          exact bf.2 fun e => this (.inl (.inl e))
    · rintro ⟨h1, ⟨h2, h3, h4⟩, h5, h6⟩
      have hl := h1 ⟨t, l⟩ (by simp)
      have hk : ∀ x ∈ k.flat l.i, LaQ w h n x.l := fun x hx => h1 x (by simp [hx])
      have hr : ∀ x ∈ r.flat t, LaQ w h n x.l := fun x hx => h1 x (by simp [hx])
      have pk : ∀ i ∈ k.ids, 1 ≤ i := fun i hi => by obtain ⟨x, hx, e⟩ := Fo.ids_of (t := l.i) hi; have := (hk x hx).i.1; omega
      have pr : ∀ i ∈ r.ids, 1 ≤ i := fun i hi => by obtain ⟨x, hx, e⟩ := Fo.ids_of (t := t) hi; have := (hr x hx).i.1; omega
      have pl := hl.i.1
      obtain ⟨n1, n2⟩ := List.nodup_cons.1 h5
      obtain ⟨n3, n4, n5⟩ := List.nodup_append.1 n2
      simp only [List.mem_append, not_or] at n1
      dsimp only at hl pl
      refine ⟨⟨hl, h6 _ (by simp), h2⟩, ⟨hk, h3, n3, fun i hi => bf.2 fun e => ?_⟩, hr, h4, n4, fun i hi => bf.2 fun e => ?_⟩
      · rw [bit_put] at e
        rcases e with e | e
        · exact bf.1 (h6 i (by simp [hi])) e
        · have := pk i hi
          obtain rfl : i = l.i := by omega
          exact n1.1 hi
      · rw [Fo.nx_bit, bit_put] at e
        have hp := pr i hi
        rcases e with (e | e) | ⟨j, hj, e⟩
        · exact bf.1 (h6 i (by simp [hi])) e
        · obtain rfl : i = l.i := by omega
          exact n1.2 hi
        · have := pk j hj
          obtain rfl : i = j := by omega
          exact n5 i hj i hi rfl
theorem Fo.kdG_up : ∀ (F : Fo) (t : Int), F.kdG → ∀ x ∈ F.flat t, x.t = t ∨ ∃ y ∈ F.flat t, y.l.i = x.t ∧ y.l.k = 1
  | .nil, _, _, x, h => by cases h
  | .cons l k r, t, ⟨h1, h2, h3⟩, x, hx => by
    rw [Fo.flat] at hx ⊢
    simp only [List.mem_cons, List.mem_append] at hx
    rcases hx with rfl | hx | hx
    · exact .inl rfl
    · refine .inr ?_
      rcases Fo.kdG_up k _ h2 x hx with e | ⟨y, hy, e⟩
      · refine ⟨⟨t, l⟩, by simp, e.symm, ?_⟩
        by_cases hk : l.k = 1
        · exact hk
        · have := h1 hk
          cases k with
          | nil => cases hx
          | cons _ _ _ => simp [Fo.len] at this
      · exact ⟨y, by simp [hy], e⟩
    · rcases Fo.kdG_up r _ h3 x hx with e | ⟨y, hy, e⟩
      · exact .inl e
      · exact .inr ⟨y, by simp [hy], e⟩
theorem Fo.kdG_of {G : List Rl} (hg : ∀ x ∈ G, x.t ≠ 0 → ∀ y ∈ G, y.l.i = x.t → y.l.k = 1) : ∀ (F : Fo) (t : Int), (∀ x ∈ F.flat t, x ∈ G) → (0 : Int) ∉ F.ids → F.kdG
  | .nil, _, _, _ => trivial
  | .cons l k r, t, h, hz => by
    rw [Fo.flat] at h
    rw [Fo.ids] at hz
    simp only [List.mem_cons, List.mem_append, not_or] at hz
    refine ⟨fun hk => ?_, Fo.kdG_of hg k l.i (fun x hx => h x (by simp [hx])) hz.2.1, Fo.kdG_of hg r t (fun x hx => h x (by simp [hx])) hz.2.2⟩
    cases k with
    | nil => rfl
    | cons l2 k2 r2 => exact absurd (hg ⟨l.i, l2⟩ (h _ (by simp [Fo.flat])) (fun e => hz.1 e.symm) ⟨t, l⟩ (h _ (by simp)) rfl) hk
theorem rt_iff (D : Dc) : RtQ D ↔ SzQ D.w D.h ∧ 1 ≤ D.n ∧ D.F.cnt ≤ 4096 ∧ D.F.okS D.w D.h D.n 0 := by
  rw [Fo.okS_iff _ _ _ D.F 0 0]
  constructor
  · rintro ⟨nd, z, ⟨sz, n1, l1, a, g⟩⟩
    exact ⟨sz, n1, by rw [← D.F.flat_len 0]; exact l1, a, Fo.kdG_of g D.F 0 (fun _ h => h) z, nd, fun i _ => by simp⟩
  · rintro ⟨sz, n1, l1, a, g, nd, _⟩
    have hp : ∀ i ∈ D.F.ids, 1 ≤ i := fun i hi => by obtain ⟨x, hx, e⟩ := Fo.ids_of (t := 0) hi; have := (a x hx).i.1; omega
    refine ⟨nd, fun h => by have := hp _ h; omega, sz, n1, by rw [D.F.flat_len 0]; exact l1, a, fun x hx ht y hy e => ?_⟩
    rcases Fo.kdG_up D.F 0 g x hx with h | ⟨z, hz, h1, h2⟩
    · exact absurd h ht
    · have hn : ((D.F.flat 0).map fun x => x.l.i).Nodup := by rw [D.F.flat_ids 0]; exact nd
      obtain ⟨i, hi, rfl⟩ := List.getElem_of_mem hy
      obtain ⟨j, hj, rfl⟩ := List.getElem_of_mem hz
      have := nd_get hn hj hi (by rw [h1, e])
      subst this
      exact h2
end Go.Proofs.Ytoobhebbgbhahaa
namespace Go.Proofs.Ytoobhebbgbhahaa
open Go.RowKit
section
variable {w0 : World} {B : Nat} {H R R0 : List Ent} {g : Nat}
set_option maxHeartbeats 16000000
set_option maxRecDepth 100000
theorem npixel_fn (v : Int) (hv : v < 9223372036854775808) : Fn Try.prog w0 B 73 [.int .i64 v] H (fun r H' => r = .bool (!decide (PixQ v)) ∧ H' = H) := by
  refine fn_intro Try.func73 rfl (by kernel_rfl) rfl ?_
  have cp := fun H => tpixel_fn (w0 := w0) (B := B) (H := H) v hv
  by_cases h : PixQ v
  · rw [show decide (PixQ v) = true from decide_eq_true h] at cp ⊢
    repeat (first | refine go_ ?_ | refine bx_ (fun _ => ?_) | refine hl_callv rfl rfl (cp _) ?_)
    exact fin1B rfl rfl ⟨rfl, rfl⟩
  · rw [show decide (PixQ v) = false from decide_eq_false h] at cp ⊢
    repeat (first | refine go_ ?_ | refine bx_ (fun _ => ?_) | refine hl_callv rfl rfl (cp _) ?_)
    exact fin1B rfl rfl ⟨rfl, rfl⟩
theorem pixIdx_fn {a : Option Addr} {n c : Nat} {l : List Int} (hN : NumR w0 B H a n l) (hI : ∀ x ∈ l, I64 x) (hs : n ≤ 1000000) :
    Fn Try.prog w0 B 85 [.slice a n c, .func (.func 73) #[] #[]] H (fun v H' => (∃ z : Int, v = .int .i64 z ∧ ((0 ≤ z ∧ ¬ ∀ x ∈ l, PixQ x) ∨ (z < 0 ∧ ∀ x ∈ l, PixQ x))) ∧ H' = H) := by
  have hlen := hN.eq
  refine fn_intro Try.func85 rfl (by kernel_rfl) rfl ?_
  repeat (first | refine go_ ?_ | refine bx_ (fun _ => ?_))
  refine hc_loopd (fun q fr M => ∃ j : Nat, j + q = n ∧ (∀ i, (h : i < l.length) → i < j → PixQ l[i]) ∧ Imp M H ∧ Agr fr [(0, .slice a n c), (1, .func (.func 73) #[] #[]), (7, .int .i64 (n : Int)), (8, .int .i64 (j : Int))]) n ?_ ?_
  · exact ⟨0, by omega, fun i h h2 => absurd h2 (by omega), Imp.refl _, rfl, rfl, rfl, rfl, trivial⟩
  rintro q fr M ⟨j, hj, hall, him, hf⟩
  obtain ⟨base, rfl⟩ := hf.out
  clear hf
  refine HC.imp ?_ him
  by_cases hlt : j < n
  · obtain ⟨pb, po, rfl⟩ := hN.pos (by omega)
    have hlt2 : j < l.length := by omega
    have c1 : (l.map iV)[j]? = some (.int .i64 l[j]) := by simp [hlt2]
    have hv := (hI l[j] (List.getElem_mem _))
    have cp := fun H => npixel_fn (w0 := w0) (B := B) (H := H) l[j] (by unfold I64 at hv; omega)
    repeat (first | refine hl_moveF rfl rfl ?_ | refine hl_loadRd rfl hN.rd (Imp.refl _) c1 rfl ?_ | refine go1_ ?_ | refine bx_ (fun _ => ?_))
    refine hl_callc (caps := []) rfl rfl rfl (cp _) (fun v M h => ?_)
    obtain ⟨rfl, rfl⟩ := h
    by_cases hpx : PixQ l[j]
    · rw [decide_eq_true hpx]
      repeat (first | refine go_ ?_ | refine bx_ (fun _ => ?_))
      refine ⟨q - 1, by omega, _, Imp.refl _, j + 1, by omega, fun i h h2 => ?_, Imp.refl _, rfl, rfl, rfl, rfl, trivial⟩
      by_cases e : i = j
      · subst e; exact hpx
      · exact hall i h (by omega)
    · rw [decide_eq_false hpx]
      repeat (first | refine go_ ?_ | refine bx_ (fun _ => ?_))
      exact fin1I rfl rfl ⟨⟨_, rfl, .inl ⟨by omega, fun q => hpx (q _ (List.getElem_mem _))⟩⟩, rfl⟩
  · obtain rfl : j = n := by omega
    repeat (first | refine go_ ?_ | refine bx_ (fun _ => ?_))
    refine fin1I rfl rfl ⟨⟨_, rfl, .inr ⟨by decide, fun x hx => ?_⟩⟩, rfl⟩
    obtain ⟨i, hi, rfl⟩ := List.getElem_of_mem hx
    exact hall i hi (by omega)
theorem pixAny_fn {a : Option Addr} {n c : Nat} {l : List Int} (hN : NumR w0 B H a n l) (hI : ∀ x ∈ l, I64 x) (hs : n ≤ 1000000) (b : Bool) (hb : b = true ↔ ∀ x ∈ l, PixQ x) :
    Fn Try.prog w0 B 72 [.slice a n c, .func (.func 73) #[] #[]] H (fun v H' => v = .bool (!b) ∧ H' = H) := by
  refine fn_intro Try.func72 rfl (by kernel_rfl) rfl ?_
  have cp := fun (M : List Ent) (hi : Imp M H) => pixIdx_fn (c := c) (hN.imp hi) hI hs
  repeat (first | refine hl_moveF rfl rfl ?_ | refine go1_ ?_ | refine bx_ (fun _ => ?_))
  refine hl_call rfl rfl (cp _ (Imp.refl _)) (fun v M h => ?_)
  obtain ⟨⟨z, rfl, ⟨h1, h2⟩ | ⟨h1, h2⟩⟩, rfl⟩ := h
  · obtain rfl : b = false := by cases b; rfl; exact absurd (hb.1 rfl) h2
    repeat (first | refine go_ ?_ | refine bx_ (fun _ => ?_))
    exact fin1B rfl rfl ⟨rfl, rfl⟩
  · obtain rfl : b = true := hb.2 h2
    repeat (first | refine go_ ?_ | refine bx_ (fun _ => ?_))
    exact fin1B rfl rfl ⟨rfl, rfl⟩
end
end Go.Proofs.Ytoobhebbgbhahaa
namespace Go.Proofs.Ytoobhebbgbhahaa
open Go.RowKit
def Fo.all (P : Ly → Fo → Prop) : Fo → Prop
  | .nil => True
  | .cons l k r => P l k ∧ r.all P
def Fo.okL (w h n : Int) (l : Ly) (k : Fo) (S : Nat) : Prop := La1 w h n l k S ∧ k.okS w h n (S ||| 1 <<< l.i.toNat)
def Fo.nxL (l : Ly) (k : Fo) (S : Nat) : Nat := k.nx (S ||| 1 <<< l.i.toNat)
/-- The numbers that were met. -/
abbrev mb (g S : Nat) : Ent := ⟨g, mapTag, [], S⟩
/-- What a function tells of a layer and of those within it. -/
def Cl (w0 : World) (B : Nat) (w h n : Int) (f : FuncId) (caps : List Value) (gm : Nat) (R : List Ent) (l : Ly) (k : Fo) : Prop :=
  ∀ (pv mv qv : Value) (ka : Option Addr) (kc S : Nat), LyR w0 B R l pv mv qv → FoR w0 B R (.slice ka k.len kc) k →
    Fn Try.prog w0 B f ([.agg (lyC l pv mv qv (.slice ka k.len kc)).toArray] ++ caps) (mb gm S :: R) (fun v H' => ∃ (b : Bool) (S' : Nat), v = .bool (!b) ∧ H' = mb gm S' :: R ∧ (b = true ↔ Fo.okL w h n l k S) ∧ (b = true → S' = Fo.nxL l k S))
section
variable {w0 : World} {B : Nat} {H R R0 : List Ent} {g gm : Nat}
set_option maxHeartbeats 16000000
set_option maxRecDepth 100000
theorem lyIdx_fn {w h n : Int} {f : FuncId} {caps : List Value} {F : Fo} {S0 : Nat} {v : Value} (hF : FoR w0 B R v F) (hc : F.cnt ≤ 1000000000) (hall : F.all (Cl w0 B w h n f caps gm R)) :
    Fn Try.prog w0 B 69 [v, .func (.func f) #[] caps.toArray] (mb gm S0 :: R)
      (fun v H' => ∃ (z : Int) (S' : Nat), v = .int .i64 z ∧ H' = mb gm S' :: R ∧ ((0 ≤ z ∧ ¬ F.okS w h n S0) ∨ (z < 0 ∧ F.okS w h n S0 ∧ S' = F.nx S0))) := by
  obtain ⟨a, c, C, rfl, hC, hFo⟩ := hF
  have hlc := F.len_cnt
  have iR : ∀ S, Imp (mb gm S :: R) R := fun S => Imp.drop (Imp.refl _)
  refine fn_intro Try.func69 rfl (by kernel_rfl) rfl ?_
  repeat (first | refine go_ ?_ | refine bx_ (fun _ => ?_))
  refine hc_loop (fun q fr M => ∃ (G : Fo) (j S : Nat) (D : List Value), j + G.len = F.len ∧ q = G.len ∧ C.drop (j * 19) = D ∧ FoC w0 B R G D ∧ G.all (Cl w0 B w h n f caps gm R) ∧ (F.okS w h n S0 ↔ G.okS w h n S) ∧ F.nx S0 = G.nx S ∧ M = mb gm S :: R ∧ Agr fr [(0, .slice a F.len c), (1, .func (.func f) #[] caps.toArray), (7, .int .i64 (F.len : Int)), (8, .int .i64 (j : Int))]) F.len ?_ ?_
  · exact ⟨F, 0, S0, C, by omega, rfl, by simp, hFo, hall, Iff.rfl, rfl, rfl, rfl, rfl, rfl, rfl, trivial⟩
  rintro q fr M ⟨G, j, S, D, hj, rfl, hD, hG, hal, hok, hnx, rfl, hf⟩
  obtain ⟨base, rfl⟩ := hf.out
  clear hf
  cases G with
  | nil =>
    rw [Fo.len] at hj
    obtain rfl : j = F.len := by omega
    repeat (first | refine go_ ?_ | refine bx_ (fun _ => ?_))
    exact fin1I rfl rfl ⟨_, S, rfl, rfl, .inr ⟨by decide, hok.2 trivial, hnx.symm⟩⟩
  | cons l k r =>
    rw [Fo.len] at hj
    obtain ⟨hl0, hal⟩ := hal
    obtain ⟨pv, mv, qv, ka, kc, K, C', rfl, hl, hK, hk, hr⟩ := hG
    obtain ⟨hcell, hnx2⟩ := drop19 hD rfl
    obtain ⟨bb, off, rfl⟩ := hC.pos (by omega)
    have cc := hl0 pv mv qv ka kc S hl ⟨ka, kc, K, rfl, hK, hk⟩
    obtain ⟨⟨pa, pc, rfl, _⟩, ⟨ma, mc, rfl, _⟩, ⟨qa, qc, rfl, _⟩⟩ := hl
    have e1 : (Fo.cons l k r).okS w h n S ↔ Fo.okL w h n l k S ∧ r.okS w h n (Fo.nxL l k S) := ⟨fun ⟨h1, h2, h3⟩ => ⟨⟨h1, h2⟩, h3⟩, fun ⟨⟨h1, h2⟩, h3⟩ => ⟨h1, h2, h3⟩⟩
    rw [e1] at hok
    repeat (first | refine hl_moveF rfl rfl ?_ | refine hl_loadRN (l := C) rfl hC.rd (iR S) hcell rfl rfl ?_ | refine go1_ ?_ | refine bx_ (fun _ => ?_))
    refine hl_callc rfl rfl rfl cc (fun v M h => ?_)
    obtain ⟨b, S', rfl, rfl, hb, hS⟩ := h
    cases b with
    | true =>
      obtain rfl := hS rfl
      have hb := hb.1 rfl
      repeat (first | refine go_ ?_ | refine bx_ (fun _ => ?_))
      exact ⟨r.len, by rw [Fo.len]; omega, r, j + 1, Fo.nxL l k S, C', by omega, rfl, hnx2, hr, hal, hok.trans ⟨fun h => h.2, fun h => ⟨hb, h⟩⟩, hnx, rfl, rfl, rfl, rfl, rfl, trivial⟩
    | false =>
      have hb : ¬ Fo.okL w h n l k S := fun h => by have := hb.2 h; cases this
      repeat (first | refine go_ ?_ | refine bx_ (fun _ => ?_))
      exact fin1I rfl rfl ⟨_, S', rfl, rfl, .inl ⟨by omega, fun h => hb (hok.1 h).1⟩⟩
theorem lyAny_fn {w h n : Int} {f : FuncId} {caps : List Value} {F : Fo} {S0 : Nat} {v : Value} (hF : FoR w0 B R v F) (hc : F.cnt ≤ 1000000000) (hall : F.all (Cl w0 B w h n f caps gm R)) :
    Fn Try.prog w0 B 56 [v, .func (.func f) #[] caps.toArray] (mb gm S0 :: R)
      (fun v H' => ∃ (b : Bool) (S' : Nat), v = .bool (!b) ∧ H' = mb gm S' :: R ∧ (b = true ↔ F.okS w h n S0) ∧ (b = true → S' = F.nx S0)) := by
  have cp := lyIdx_fn (S0 := S0) hF hc hall
  obtain ⟨a, c, C, rfl, hC, hFo⟩ := hF
  refine fn_intro Try.func56 rfl (by kernel_rfl) rfl ?_
  repeat (first | refine hl_moveF rfl rfl ?_ | refine go1_ ?_ | refine bx_ (fun _ => ?_))
  refine hl_call rfl rfl cp (fun v M h => ?_)
  obtain ⟨z, S', rfl, rfl, ⟨h1, h2⟩ | ⟨h1, h2, h3⟩⟩ := h
  · repeat (first | refine go_ ?_ | refine bx_ (fun _ => ?_))
    exact fin1B rfl rfl ⟨false, S', rfl, rfl, ⟨fun h => (by cases h), fun h => absurd h h2⟩, fun h => (by cases h)⟩
  · repeat (first | refine go_ ?_ | refine bx_ (fun _ => ?_))
    exact fin1B rfl rfl ⟨true, S', rfl, rfl, ⟨fun _ => h2, fun _ => rfl⟩, fun _ => h3⟩
end
end Go.Proofs.Ytoobhebbgbhahaa
namespace Go.Proofs.Ytoobhebbgbhahaa
open Go.RowKit
instance : TOne Try.prog 113 := ⟨by kernel_rfl⟩
instance : TSz Try.prog 113 1 := ⟨by kernel_rfl⟩
instance : TZero Try.prog 113 (.map none) := ⟨by kernel_rfl⟩
theorem mapT : Try.prog.underlying 113 = some (.map 3 4) := by kernel_rfl
theorem mapK : Try.prog.underlying 3 = some (.int .i64) := by kernel_rfl
section
variable {c : Cx} {Q : Pst} {fr : Fr} {H F : List Ent} {ops : Array Oper} {rest : List Oper} {dst : Option Nat} {ty : TypeId} {pos : String} {after : Array Edge}
variable {x y z : Operand} {T T' : TypeId} {g k j : Nat} {C : List Value} {S : List Oper → Fr → List Ent → Prop}
theorem hl_boxM {a : Option Nat} (hx : ev fr x = .map a) (hd : dOk c.n dst = true) (h : ∀ g, HL c ops Q rest (updO fr dst (.pointer (some ⟨g, 0, none⟩))) (⟨g, T, [.map a], 1⟩ :: H)) (hT9 : T ≠ mapTag := by first | assumption | decide) : HL c ops Q (⟨dst, .box T x, ty, pos, after, none⟩ :: rest) fr H := hl_box hx rfl hd h hT9
theorem hl_storeM {a : Option Nat} [TSz c.P T 1] (hx : ev fr x = .pointer (some ⟨g, j, none⟩)) (hy : ev fr y = .map a) (ht : Take H ⟨g, T', C, k⟩ F) (hi : j < C.length) (hd : dOk c.n dst = true) (h : HL c ops Q rest (updO fr dst undef) (⟨g, T', C.set j (.map a), k⟩ :: F)) : HL c ops Q (⟨dst, .store T x y, ty, pos, after, none⟩ :: rest) fr H := hl_store1 hx hy rfl ht hi hd h
theorem hl_lookupE [Stp c ops S] {kt et : TypeId} {a : Int} {b : Bool} (hT : c.P.underlying T = some (.map kt et)) (hkt : c.P.underlying kt = some (.int .i64)) [TZero c.P et (.bool false)] (hx : ev fr x = .map (some g)) (hy : ev fr y = .int .i64 a) (ht : Take H ⟨g, mapTag, [], k⟩ F) (ha : 0 ≤ a) (hb : k.testBit a.toNat = b) (hd : dOk c.n dst = true)
    (h : S rest (updO fr dst (.bool b)) H) : S (⟨dst, .lookup T x y false, ty, pos, after, none⟩ :: rest) fr H := hl_lookupI hT hkt hx hy ha ht hd (by rw [hb]; exact h)
end
abbrev dC (w h n : Int) (dv : Value) : List Value := [.int .i64 w, .int .i64 h, .int .i64 n, dv]
abbrev docE (g : Nat) (w h n : Int) (dv : Value) : Ent := ⟨g, 52, [.int .i64 w, .int .i64 h, .int .i64 n, dv], 4⟩
abbrev mpE (g gm : Nat) : Ent := ⟨g, 113, [.map (some gm)], 1⟩
abbrev lyE (g : Nat) (l : Ly) (pv mv qv kv : Value) : Ent := ⟨g, 116, [.int .i64 l.i, .int .i64 l.k, .bool l.d, .int .i64 l.o, .int .i64 l.e, .int .i64 l.w, .int .i64 l.h, pv, mv, .int .i64 l.a0, .int .i64 l.a1, .int .i64 l.a2, .int .i64 l.a3, .int .i64 l.a4, .int .i64 l.a5, .bool l.s, .int .i64 l.t, qv, kv], 19⟩
/-- What right tells of a layer and of those within it. -/
def Rc (w0 : World) (B : Nat) (w h n : Int) (dv : Value) (gm : Nat) (R : List Ent) (l : Ly) (k : Fo) : Prop :=
  ∀ (pv mv qv : Value) (ka : Option Addr) (kc S : Nat), LyR w0 B R l pv mv qv → FoR w0 B R (.slice ka k.len kc) k →
    Fn Try.prog w0 B 58 [.agg (lyC l pv mv qv (.slice ka k.len kc)).toArray, .agg (dC w h n dv).toArray, .map (some gm)] (mb gm S :: R) (fun v H' => ∃ (b : Bool) (S' : Nat), v = .bool b ∧ H' = mb gm S' :: R ∧ (b = true ↔ Fo.okL w h n l k S) ∧ (b = true → S' = Fo.nxL l k S))
theorem Fo.all_of {P : Ly → Fo → Prop} : ∀ (F : Fo) (N : Nat), F.wf N → (∀ l k, l.wf N → k.wf N → k.cnt < F.cnt → P l k) → F.all P
  | .nil, _, _, _ => trivial
  | .cons l k r, N, ⟨h1, _, h2, h3⟩, h => ⟨h l k h1 h2 (by rw [Fo.cnt]; omega), Fo.all_of r N h3 fun l' k' a b e => h l' k' a b (by rw [Fo.cnt]; omega)⟩
theorem rt_no {w h n : Int} {l : Ly} {k : Fo} {S gm : Nat} {R : List Ent} (hh : ¬ Fo.okL w h n l k S) (S' : Nat) :
    ∃ (b : Bool) (S'' : Nat), Value.bool false = .bool b ∧ mb gm S' :: R = mb gm S'' :: R ∧ (b = true ↔ Fo.okL w h n l k S) ∧ (b = true → S'' = Fo.nxL l k S) :=
  ⟨false, S', rfl, rfl, ⟨fun h => (by cases h), fun q => absurd q hh⟩, fun h => (by cases h)⟩
section
variable {w0 : World} {B : Nat} {H R R0 : List Ent} {g gm : Nat}
set_option maxHeartbeats 32000000
set_option maxRecDepth 100000
theorem cl_of {w h n : Int} {da : Option Addr} {dl dc g4 g5 : Nat} {l : Ly} {k : Fo} (hh : ∀ R', Imp R' R → Rc w0 B w h n (.slice da dl dc) gm R' l k) :
    Cl w0 B w h n 76 [.pointer (some ⟨g4, 0, none⟩), .pointer (some ⟨g5, 0, none⟩)] gm (docE g4 w h n (.slice da dl dc) :: mpE g5 gm :: R) l k := by
  intro pv mv qv ka kc S hl hk
  have hl0 := hl
  obtain ⟨⟨pa, pc, rfl, nP⟩, ⟨ma, mc, rfl, nM⟩, ⟨qa, qc, rfl, nQ⟩⟩ := hl
  refine fn_intro Try.func76 rfl (by kernel_rfl) rfl ?_
  repeat (first | refine go_ ?_ | refine bx_ (fun _ => ?_))
  refine HL.perm (H' := mb gm S :: _ :: docE g4 w h n (.slice da dl dc) :: mpE g5 gm :: R) ?_ (List.Perm.swap _ _ _)
  refine hl_call rfl rfl (hh _ (Imp.drop (Imp.drop (Imp.drop (Imp.refl _)))) _ _ _ ka kc S (hl0.imp (Imp.drop (Imp.refl _))) (hk.imp (Imp.drop (Imp.refl _)))) (fun v M o => ?_)
  obtain ⟨b, S', rfl, rfl, hb, hS⟩ := o
  repeat (first | refine go_ ?_ | refine bx_ (fun _ => ?_))
  exact fin1B rfl rfl ⟨b, S', rfl, rfl, hb, hS⟩ (Imp.drop2 (Imp.refl _))
theorem cl1_of {w h n : Int} {da : Option Addr} {dl dc g4 g5 : Nat} {l : Ly} {k : Fo} (hh : ∀ R', Imp R' R → Rc w0 B w h n (.slice da dl dc) gm R' l k) :
    Cl w0 B w h n 57 [.pointer (some ⟨g4, 0, none⟩), .pointer (some ⟨g5, 0, none⟩)] gm (docE g4 w h n (.slice da dl dc) :: mpE g5 gm :: R) l k := by
  intro pv mv qv ka kc S hl hk
  have hl0 := hl
  obtain ⟨⟨pa, pc, rfl, nP⟩, ⟨ma, mc, rfl, nM⟩, ⟨qa, qc, rfl, nQ⟩⟩ := hl
  refine fn_intro Try.func57 rfl (by kernel_rfl) rfl ?_
  repeat (first | refine go_ ?_ | refine bx_ (fun _ => ?_))
  refine HL.perm (H' := mb gm S :: _ :: docE g4 w h n (.slice da dl dc) :: mpE g5 gm :: R) ?_ (List.Perm.swap _ _ _)
  refine hl_call rfl rfl (hh _ (Imp.drop (Imp.drop (Imp.drop (Imp.refl _)))) _ _ _ ka kc S (hl0.imp (Imp.drop (Imp.refl _))) (hk.imp (Imp.drop (Imp.refl _)))) (fun v M o => ?_)
  obtain ⟨b, S', rfl, rfl, hb, hS⟩ := o
  repeat (first | refine go_ ?_ | refine bx_ (fun _ => ?_))
  exact fin1B rfl rfl ⟨b, S', rfl, rfl, hb, hS⟩ (Imp.drop2 (Imp.refl _))
end
end Go.Proofs.Ytoobhebbgbhahaa
