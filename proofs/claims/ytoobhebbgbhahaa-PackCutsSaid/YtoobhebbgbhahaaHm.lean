/-
  The way of walking, more: operations that read and write memory, calls. No condition.
-/
import Derived.Test.YtoobhebbgbhahaaHw
namespace Go.Proofs.Ytoobhebbgbhahaa
open Go.RowKit

/-! What is asked of types, each a closed fact. -/
def oneB (P : Program) (T : TypeId) : Bool := match P.underlying T with | some (.struct _) | some (.array _ _) | none => false | _ => true
def aggB (P : Program) (T : TypeId) : Bool := match P.underlying T with | some (.struct _) | some (.array _ _) => true | _ => false
def fldB (P : Program) (S : TypeId) (f : Nat) : Option Nat :=
  match P.underlying S with
  | some (.struct fs) => match fs[f]? with
    | some fd => match P.info? fd.type with | some i => if i.size = 0 then none else some fd.offset | none => none
    | none => none
  | _ => none
class TOne (P : Program) (T : TypeId) : Prop where h : oneB P T = true
class TAgg (P : Program) (T : TypeId) : Prop where h : aggB P T = true
class TSz (P : Program) (T : TypeId) (n : outParam Nat) : Prop where h : (P.info? T).map (·.size) = some n
class TByt (P : Program) (T : TypeId) (n : outParam Nat) : Prop where h : (P.info? T).map (·.bytes) = some n
class TZero (P : Program) (T : TypeId) (z : outParam Value) : Prop where h : ((P.info? T).bind (·.zero)) = some z
class TSlc (P : Program) (T : TypeId) (e : outParam TypeId) : Prop where h : P.underlying T = some (.slice e)
class TArr (P : Program) (T : TypeId) (n : outParam Nat) (e : outParam TypeId) : Prop where h : P.underlying T = some (.array n e)
class TFld (P : Program) (S : TypeId) (f : Nat) (o : outParam Nat) : Prop where h : fldB P S f = some o
class TInt (P : Program) (T : TypeId) (k : outParam IntKind) : Prop where h : P.underlying T = some (.int k)
class TStr (P : Program) (T : TypeId) : Prop where h : P.underlying T = some .string
class TPtr (P : Program) (T : TypeId) (e : outParam TypeId) : Prop where h : P.underlying T = some (.pointer e)

section
variable {P : Program} {T : TypeId} {w : World}
theorem isAgg_one [h : TOne P T] : (isAgg T).run P w = .ok false w := by
  have h := h.h
  unfold oneB at h
  cases hd : P.underlying T with
  | none => simp [hd] at h
  | some d =>
    cases d <;> first | (simp [hd] at h; done) | (unfold isAgg; simp [run_underlying hd])
theorem isAgg_agg [h : TAgg P T] : (isAgg T).run P w = .ok true w := by
  have h := h.h
  unfold aggB at h
  cases hd : P.underlying T with
  | none => simp [hd] at h
  | some d =>
    cases d <;> first | (simp [hd] at h; done) | (unfold isAgg; simp [run_underlying hd])
theorem sizeOf_sz {n : Nat} [h : TSz P T n] : (sizeOf T).run P w = .ok n w := by
  obtain ⟨i, hi, h1⟩ := Option.map_eq_some_iff.1 h.h
  simp [sizeOf, typeInfo, hi, h1]
theorem TSz.info {n : Nat} (h : TSz P T n) : ∃ i, P.info? T = some i ∧ i.size = n := Option.map_eq_some_iff.1 h.h
end

/-! The conversions of a slice's cells. -/
/-- In every world that the list tells the cells from this address on are these. -/
structure Rds (w0 : World) (B : Nat) (H : List Ent) (a : Option Addr) (l : List Value) : Prop where
  cell : ∀ w, Hp w0 B H w → ∀ ad, a = some ad → ∀ (j : Nat) u, l[j]? = some u → w.cell? (ad.add j) = some u
  nil : a = none → l = []
  one : ∀ u ∈ l, u.oneCell' = true

section
variable {c : Cx} {Q : Pst} {fr : Fr} {H F : List Ent} {ops : Array Oper} {rest : List Oper} {dst : Option Nat} {ty : TypeId} {pos : String} {after : Array Edge}
variable {x y : Operand} {T : TypeId} {g i k : Nat} {T' : TypeId} {C : List Value} {S : List Oper → Fr → List Ent → Prop}

theorem Rds.weak {w0 : World} {B : Nat} {H H' : List Ent} {a : Option Addr} {l : List Value} (h : Rds w0 B H a l) (hw : ∀ w, Hp w0 B H' w → Hp w0 B H w) : Rds w0 B H' a l := ⟨fun w h' => h.cell w (hw w h'), h.nil, h.one⟩
theorem Rds.under {w0 : World} {B : Nat} {H : List Ent} {a : Option Addr} {l : List Value} (h : Rds w0 B H a l) {x : Ent} : Rds w0 B (x :: H) a l := h.weak fun _ h => h.drop
theorem Rds.perm {w0 : World} {B : Nat} {H H' : List Ent} {a : Option Addr} {l : List Value} (h : Rds w0 B H a l) (hp : H'.Perm H) : Rds w0 B H' a l := h.weak fun _ h => h.perm hp
theorem Rds.ent {n : Nat} {l : List Value} (ht : Take H ⟨g, T', C, k⟩ F) (hl : (C.drop i).take n = l) (h1 : ∀ u ∈ l, u.oneCell' = true) : Rds c.w0 c.B H (some ⟨g, i, none⟩) l := by
  refine ⟨fun w hw ad ha j u hu => ?_, (fun h => by cases h), h1⟩
  cases ha
  rw [Addr.add_lit]
  refine ((hw.take ht).own _ (List.mem_cons_self ..)).2.cell ?_
  rw [← hl, List.getElem?_take] at hu
  split at hu
  · rw [List.getElem?_drop] at hu; exact hu
  · cases hu
theorem Rds.sl {α : Type} {f : α → Value} {a : Option Addr} {len cap : Nat} {l : List α} (h : Sl f c.w0 a len cap l) (hB : c.w0.heap.size ≤ c.B) (hf : ∀ y, (f y).oneCell' = true) : Rds c.w0 c.B H a (l.map f) := by
  refine ⟨fun w hw ad ha j u hu => ?_, fun hn => ?_, fun u hu => ?_⟩
  · rw [List.getElem?_map] at hu
    cases hj : l[j]? with
    | none => rw [hj] at hu; cases hu
    | some x =>
      rw [hj] at hu
      simp only [Option.map_some, Option.some.injEq] at hu
      obtain ⟨hlt, rfl⟩ := List.getElem?_eq_some_iff.1 hj
      obtain ⟨b, off, hb, hcell⟩ := h.row j hlt
      rw [ha] at hb; cases hb
      rw [Addr.add_lit, ← hu]
      have hblk : b < c.B := by
        refine Nat.lt_of_lt_of_le ?_ hB
        simp only [World.cell?] at hcell
        rcases Nat.lt_or_ge b c.w0.heap.size with h1 | h1
        · exact h1
        · rw [Array.getElem?_eq_none h1] at hcell; cases hcell
      rw [hw.below.cell (p := ⟨b, off + j, none⟩) hblk]; exact hcell
  · have := h.nil hn
    have h2 := h.le
    have h3 := h.size_eq
    have : l = [] := List.eq_nil_of_length_eq_zero (by omega)
    rw [this]; rfl
  · obtain ⟨y, _, rfl⟩ := List.mem_map.1 hu; exact hf y

theorem hl_nilCheck [Stp c ops S] {a : Addr} (hx : ev fr x = .pointer (some a)) (hd : dOk c.n dst = true) (k : S rest (updO fr dst (.pointer (some a))) H) : S (⟨dst, .nilCheck x, ty, pos, after, none⟩ :: rest) fr H :=
  hl_pure hd _ (fun w _ => by simp [execOp, hx]) k
theorem hl_fieldAddr [Stp c ops S] {f o : Nat} {b off : Nat} [hf : TFld c.P T f o] (hx : ev fr x = .pointer (some ⟨b, off, none⟩)) (hd : dOk c.n dst = true) (k : S rest (updO fr dst (.pointer (some ⟨b, off + o, none⟩))) H) :
    S (⟨dst, .fieldAddr T x f, ty, pos, after, none⟩ :: rest) fr H :=
  hl_pure hd _ (fun w _ => by
    have hf := hf.h
    unfold fldB at hf
    cases hu : c.P.underlying T with
    | none => rw [hu] at hf; cases hf
    | some d =>
      cases d with
      | struct fs =>
        simp only [hu] at hf
        cases hfs : fs[f]? with
        | none => simp only [hfs] at hf; cases hf
        | some fd =>
          simp only [hfs] at hf
          cases hi : c.P.info? fd.type with
          | none => simp only [hi] at hf; cases hf
          | some inf =>
            simp only [hi] at hf
            split at hf
            · cases hf
            · rename_i hs
              cases hf
              simp [execOp, hx, Instr.fieldAt, Instr.sureAddr, run_underlying hu, hfs, fieldPlace, sizeOf, typeInfo, hi, hs, Addr.add_lit]
      | _ => simp only [hu] at hf; cases hf) k
/-- Beginning a block: the offset without the 0. -/
theorem hl_fieldAddr0 [Stp c ops S] {f o : Nat} {b : Nat} [hf : TFld c.P T f o] (hx : ev fr x = .pointer (some ⟨b, 0, none⟩)) (hd : dOk c.n dst = true) (k : S rest (updO fr dst (.pointer (some ⟨b, o, none⟩))) H) :
    S (⟨dst, .fieldAddr T x f, ty, pos, after, none⟩ :: rest) fr H := hl_fieldAddr hx hd (by rw [Nat.zero_add]; exact k)
theorem hl_indexAddr [Stp c ops S] {e s m b off len cap : Nat} {ik : IntKind} {j : Int} [hT : TSlc c.P T e] [TSz c.P e s] (hx : ev fr x = .slice (some ⟨b, off, none⟩) len cap) (hy : ev fr y = .int ik j) (hj : j = (m : Int)) (hm : m < len) (hd : dOk c.n dst = true)
    (k : S rest (updO fr dst (.pointer (some ⟨b, off + m * s, none⟩))) H) : S (⟨dst, .indexAddr T x y, ty, pos, after, none⟩ :: rest) fr H :=
  hl_pure hd _ (fun w _ => by
    subst hj
    have h1 : (m : Int) < (len : Int) := by omega
    simp [execOp, hx, hy, Instr.indexAt, asIntOf, run_underlying hT.h, h1, Nat.not_le.2 hm, hm, sizeOf_sz (T := e) (n := s), Addr.add_lit]) k
theorem hl_indexAddr1 [Stp c ops S] {e m b off len cap : Nat} {ik : IntKind} {j : Int} [hT : TSlc c.P T e] [TSz c.P e 1] (hx : ev fr x = .slice (some ⟨b, off, none⟩) len cap) (hy : ev fr y = .int ik j) (hj : j = (m : Int)) (hm : m < len) (hd : dOk c.n dst = true)
    (k : S rest (updO fr dst (.pointer (some ⟨b, off + m, none⟩))) H) : S (⟨dst, .indexAddr T x y, ty, pos, after, none⟩ :: rest) fr H := hl_indexAddr hx hy hj hm hd (by rw [Nat.mul_one]; exact k)
/-- The same in a row that begins its block. -/
theorem hl_indexAddr0 [Stp c ops S] {e m b len cap : Nat} {ik : IntKind} {j : Int} [hT : TSlc c.P T e] [TSz c.P e 1] (hx : ev fr x = .slice (some ⟨b, 0, none⟩) len cap) (hy : ev fr y = .int ik j) (hj : j = (m : Int)) (hm : m < len) (hd : dOk c.n dst = true)
    (k : S rest (updO fr dst (.pointer (some ⟨b, m, none⟩))) H) : S (⟨dst, .indexAddr T x y, ty, pos, after, none⟩ :: rest) fr H := hl_indexAddr1 hx hy hj hm hd (by rw [Nat.zero_add]; exact k)
theorem hl_indexArr [Stp c ops S] {e s m b off len : Nat} {ik : IntKind} {j : Int} [hT : TArr c.P T len e] [TSz c.P e s] (hx : ev fr x = .pointer (some ⟨b, off, none⟩)) (hy : ev fr y = .int ik j) (hj : j = (m : Int)) (hm : m < len) (hd : dOk c.n dst = true)
    (k : S rest (updO fr dst (.pointer (some ⟨b, off + m * s, none⟩))) H) : S (⟨dst, .indexAddr T x y, ty, pos, after, none⟩ :: rest) fr H :=
  hl_pure hd _ (fun w _ => by
    subst hj
    have h1 : (m : Int) < (len : Int) := by omega
    simp [execOp, hx, hy, Instr.indexAt, Instr.sureAddr, asIntOf, run_underlying hT.h, h1, Nat.not_le.2 hm, hm, sizeOf_sz (T := e) (n := s), Addr.add_lit]) k
theorem hl_indexArr0 [Stp c ops S] {e m b len : Nat} {ik : IntKind} {j : Int} [hT : TArr c.P T len e] [TSz c.P e 1] (hx : ev fr x = .pointer (some ⟨b, 0, none⟩)) (hy : ev fr y = .int ik j) (hj : j = (m : Int)) (hm : m < len) (hd : dOk c.n dst = true)
    (k : S rest (updO fr dst (.pointer (some ⟨b, m, none⟩))) H) : S (⟨dst, .indexAddr T x y, ty, pos, after, none⟩ :: rest) fr H := hl_indexArr hx hy hj hm hd (by rw [Nat.mul_one, Nat.zero_add]; exact k)

/-- An array's element of one cell. -/
theorem hl_indexArr1 [Stp c ops S] {e m b off len : Nat} {ik : IntKind} {j : Int} [hT : TArr c.P T len e] [TSz c.P e 1] (hx : ev fr x = .pointer (some ⟨b, off, none⟩)) (hy : ev fr y = .int ik j) (hj : j = (m : Int)) (hm : m < len) (hd : dOk c.n dst = true)
    (k : S rest (updO fr dst (.pointer (some ⟨b, off + m, none⟩))) H) : S (⟨dst, .indexAddr T x y, ty, pos, after, none⟩ :: rest) fr H := hl_indexArr hx hy hj hm hd (by rw [Nat.mul_one]; exact k)
/-- Of an array that begins its block. -/
theorem hl_indexArrZ [Stp c ops S] {e s m b len : Nat} {ik : IntKind} {j : Int} [hT : TArr c.P T len e] [TSz c.P e s] (hx : ev fr x = .pointer (some ⟨b, 0, none⟩)) (hy : ev fr y = .int ik j) (hj : j = (m : Int)) (hm : m < len) (hd : dOk c.n dst = true)
    (k : S rest (updO fr dst (.pointer (some ⟨b, m * s, none⟩))) H) : S (⟨dst, .indexAddr T x y, ty, pos, after, none⟩ :: rest) fr H := hl_indexArr hx hy hj hm hd (by rw [Nat.zero_add]; exact k)

theorem hl_load1 [Stp c ops S] {v : Value} [TOne c.P T] (hx : ev fr x = .pointer (some ⟨g, i, none⟩)) (ht : Take H ⟨g, T', C, k⟩ F) (hv : C[i]? = some v) (hd : dOk c.n dst = true) (h : S rest (updO fr dst v) H) :
    S (⟨dst, .load T x, ty, pos, after, none⟩ :: rest) fr H :=
  hl_pure hd _ (fun w hw => by
    have hc := ((hw.take ht).own _ (List.mem_cons_self ..)).2.cell hv
    simp [execOp, hx, Instr.loadAt, Instr.sureAddr, loadVar, isAgg_one (T := T), load, Sem.run, hc]) h
/-- Out of memory that was there ahead of the call. -/
theorem hl_load1r [Stp c ops S] {b : Nat} {v : Value} [TOne c.P T] (hx : ev fr x = .pointer (some ⟨b, i, none⟩)) (hv : c.w0.cell? ⟨b, i, none⟩ = some v) (hb : b < c.B) (hd : dOk c.n dst = true) (h : S rest (updO fr dst v) H) :
    S (⟨dst, .load T x, ty, pos, after, none⟩ :: rest) fr H :=
  hl_pure hd _ (fun w hw => by
    have hc : w.cell? ⟨b, i, none⟩ = some v := by rw [hw.below.cell (p := ⟨b, i, none⟩) hb]; exact hv
    simp [execOp, hx, Instr.loadAt, Instr.sureAddr, loadVar, isAgg_one (T := T), load, Sem.run, hc]) h
/-- By what is known to lie there. -/
theorem hl_load1s [Stp c ops S] {a : Addr} {l : List Value} {j : Nat} {v : Value} [TOne c.P T] (hx : ev fr x = .pointer (some (a.add j))) (hr : Rds c.w0 c.B H (some a) l) (hv : l[j]? = some v) (hd : dOk c.n dst = true) (h : S rest (updO fr dst v) H) :
    S (⟨dst, .load T x, ty, pos, after, none⟩ :: rest) fr H :=
  hl_pure hd _ (fun w hw => by
    have hc : w.cell? (a.add j) = some v := hr.cell w hw a rfl j v hv
    simp [execOp, hx, Instr.loadAt, Instr.sureAddr, loadVar, isAgg_one (T := T), load, Sem.run, hc]) h
theorem hl_loadN [Stp c ops S] {n : Nat} {vs : List Value} [TAgg c.P T] [TSz c.P T n] (hx : ev fr x = .pointer (some ⟨g, i, none⟩)) (ht : Take H ⟨g, T', C, k⟩ F) (hv : (C.drop i).take n = vs) (hn : vs.length = n) (hd : dOk c.n dst = true) (h : S rest (updO fr dst (.agg vs.toArray)) H) :
    S (⟨dst, .load T x, ty, pos, after, none⟩ :: rest) fr H :=
  hl_pure hd _ (fun w hw => by
    have hc := run_loadCells_list (P := c.P) w ⟨g, i, none⟩ vs (fun j v hj => by
      rw [Addr.add_lit]
      refine ((hw.take ht).own _ (List.mem_cons_self ..)).2.cell ?_
      rw [← hv, List.getElem?_take] at hj
      split at hj
      · rw [List.getElem?_drop] at hj; exact hj
      · cases hj)
    rw [hn] at hc
    simp [execOp, hx, Instr.loadAt, Instr.sureAddr, loadVar, isAgg_agg (T := T), sizeOf_sz (T := T) (n := n), hc]) h
theorem hl_loadNr [Stp c ops S] {n b : Nat} {vs : List Value} [TAgg c.P T] [TSz c.P T n] (hx : ev fr x = .pointer (some ⟨b, i, none⟩)) (hv : ∀ (j : Nat) u, vs[j]? = some u → c.w0.cell? ⟨b, i + j, none⟩ = some u) (hb : b < c.B) (hn : vs.length = n) (hd : dOk c.n dst = true) (h : S rest (updO fr dst (.agg vs.toArray)) H) :
    S (⟨dst, .load T x, ty, pos, after, none⟩ :: rest) fr H :=
  hl_pure hd _ (fun w hw => by
    have hc := run_loadCells_list (P := c.P) w ⟨b, i, none⟩ vs (fun j v hj => by
      rw [Addr.add_lit, hw.below.cell (p := ⟨b, i + j, none⟩) hb]; exact hv j v hj)
    rw [hn] at hc
    simp [execOp, hx, Instr.loadAt, Instr.sureAddr, loadVar, isAgg_agg (T := T), sizeOf_sz (T := T) (n := n), hc]) h

theorem prefix_set {C S : List Value} (v : Value) (h : i < C.length) : (C ++ S).take i ++ [v] ++ (C ++ S).drop (i + 1) = C.set i v ++ S := by
  rw [← List.set_append_left i v h, List.set_eq_take_append_cons_drop, if_pos (by rw [List.length_append]; omega)]; simp
theorem splice_prefix {C S vs : List Value} {n : Nat} (hn : vs.length = n) (h : i + n ≤ C.length) : (C ++ S).take i ++ vs ++ (C ++ S).drop (i + n) = (C.take i ++ vs ++ C.drop (i + n)) ++ S := by
  rw [List.take_append_of_le_length (by omega), List.drop_append_of_le_length (by omega)]; simp
/-- A row is written whose mark, if it has one, lies behind its cells. -/
theorem run_storeCells_m (P : Program) (g o : Nat) (t : TypeId) (fz : Nat × Nat) : ∀ (vs : List Value) (i : Nat) (cur : Array Value) (w : World), w.heap[g]? = some (.cells cur t fz) → (fz = (0, 0) ∨ cur.size ≤ fz.1) → o + i + vs.length ≤ cur.size → (∀ v ∈ vs, v.oneCell' = true) →
    (storeCells ⟨g, o, none⟩ vs i).run P w = .ok () (w.setRow g (cur.toList.take (o + i) ++ vs ++ cur.toList.drop (o + i + vs.length)).toArray)
  | [], i, cur, w, hg, _, _, _ => by
    simp only [storeCells, List.append_nil, List.length_nil, Nat.add_zero, List.take_append_drop, Array.toArray_toList]
    rw [setRow_self w g cur t fz hg]
    rfl
  | v :: rest, i, cur, w, hg, hfz, hl, h1 => by
    have hi : o + i < cur.size := by simp at hl; omega
    have hcell : w.cell? ⟨g, o + i, none⟩ = some cur[o + i] := by simp [World.cell?, hg, hi]
    have hfro : w.frozen? ⟨g, o + i, none⟩ = false := by
      obtain ⟨lo, hi'⟩ := fz
      simp only [World.frozen?, hg, Bool.and_eq_false_iff, decide_eq_false_iff_not]
      rcases hfz with h | h
      · cases h; right; omega
      · simp only at h; left; omega
    have hst : (store ((⟨g, o, none⟩ : Addr).add i) v).run P w = .ok () (w.setRow g (cur.setIfInBounds (o + i) v)) := by
      rw [Addr.add_lit, run_store P w _ v _ (h1 v (by simp)), hcell]
      simp [hfro, setCell_eq_setRow w g (o + i) cur t fz v hg]
    have ih := run_storeCells_m P g o t fz rest (i + 1) (cur.setIfInBounds (o + i) v) (w.setRow g (cur.setIfInBounds (o + i) v)) (setRow_heap w g cur _ t _ hg) (by simpa using hfz) (by simp at hl ⊢; omega) (fun x hx => h1 x (by simp [hx]))
    simp only [storeCells, Sem.run_bind, hst, Result.andThen_ok, ih, setRow_setRow]
    congr 3
    have e := list_seg_step cur.toList (o + i) v rest (by simp at hl ⊢; omega)
    simpa [Array.toList_setIfInBounds, Nat.add_assoc] using e
theorem run_store_ent {w : World} {n : Nat} {v : Value} {vs : List Value} [TSz c.P T n] (hw : Hp c.w0 c.B (⟨g, T', C, k⟩ :: F) w) (hcs : v.cells.toList = vs) (hn : vs.length = n) (h1 : ∀ u ∈ vs, u.oneCell' = true) (hi : i + n ≤ C.length) :
    ∃ w', (storeVar T ⟨g, i, none⟩ v).run c.P w = .ok () w' ∧ Hp c.w0 c.B (⟨g, T', C.take i ++ vs ++ C.drop (i + n), k⟩ :: F) w' := by
  obtain ⟨hB, A, mk, hA, hk, S, hS⟩ := hw.own _ (List.mem_cons_self ..)
  dsimp only at hA hk hS
  have hs : v.cells.size = n := by rw [← Array.length_toList, hcs, hn]
  have hlen : C.length + S.length = A.size := by rw [← Array.length_toList, ← hS, List.length_append]
  have hst := run_storeCells_m c.P g i T' mk vs 0 A w hA (by rcases hk with ⟨h, _⟩ | ⟨_, _, h⟩; exact .inl h; exact .inr h) (by simp only [Nat.add_zero]; omega) h1
  simp only [Nat.add_zero] at hst
  refine ⟨_, by simp [storeVar, sizeOf_sz (T := T) (n := n), hs, hcs, hst]; rfl, hw.row _ _ ?_ ?_⟩
  · intro A0 m0 h0
    rw [hA] at h0
    cases h0
    simp only [List.size_toArray, List.length_append, List.length_take, List.length_drop, Array.length_toList]
    rcases hk with ⟨h, hk⟩ | ⟨h2, h3, h⟩
    · exact .inl ⟨h, by rw [← hk]; omega⟩
    · refine .inr ⟨h2, fun h4 => ?_, by omega⟩
      have h5 := congrArg List.length h4
      simp only [List.length_append, List.length_take, List.length_drop, List.length_nil] at h5
      exact h3 (List.eq_nil_of_length_eq_zero (by omega))
  · rw [← hS, hn]
    show _ <+: (C ++ S).take i ++ _
    rw [← List.append_assoc, splice_prefix hn hi]
    exact ⟨S, rfl⟩
theorem hl_store1 {v : Value} [TSz c.P T 1] (hx : ev fr x = .pointer (some ⟨g, i, none⟩)) (hy : ev fr y = v) (hv : v.oneCell' = true) (ht : Take H ⟨g, T', C, k⟩ F) (hi : i < C.length) (hd : dOk c.n dst = true) (h : HL c ops Q rest (updO fr dst undef) (⟨g, T', C.set i v, k⟩ :: F)) :
    HL c ops Q (⟨dst, .store T x y, ty, pos, after, none⟩ :: rest) fr H :=
  hl_skipv hd (fun w hw => by
    obtain ⟨w', h1, h2⟩ := run_store_ent (c := c) (T := T) (n := 1) (v := v) (vs := [v]) (hw.take ht) (by cases v <;> first | rfl | (simp [Value.oneCell'] at hv)) rfl (by simpa using hv) hi
    refine ⟨w', _, ?_, h2, ?_⟩
    · simp [execOp, hx, hy, Instr.storeAt, Instr.sureAddr, h1]
    · have := prefix_set (i := i) (C := C) (S := []) v hi
      simp only [List.append_nil] at this
      rw [this]; exact h)
theorem hl_storeN {n : Nat} {vs : List Value} [TSz c.P T n] (hx : ev fr x = .pointer (some ⟨g, i, none⟩)) (hy : ev fr y = .agg vs.toArray) (hn : vs.length = n) (hv : ∀ u ∈ vs, u.oneCell' = true) (ht : Take H ⟨g, T', C, k⟩ F) (hi : i + n ≤ C.length) (hd : dOk c.n dst = true)
    (h : HL c ops Q rest (updO fr dst undef) (⟨g, T', C.take i ++ vs ++ C.drop (i + n), k⟩ :: F)) :
    HL c ops Q (⟨dst, .store T x y, ty, pos, after, none⟩ :: rest) fr H :=
  hl_skipv hd (fun w hw => by
    obtain ⟨w', h1, h2⟩ := run_store_ent (c := c) (T := T) (n := n) (v := .agg vs.toArray) (vs := vs) (hw.take ht) rfl hn hv hi
    exact ⟨w', _, by simp [execOp, hx, hy, Instr.storeAt, Instr.sureAddr, h1], h2, h⟩)
/-- A whole block is written. -/
theorem hl_storeW {n : Nat} {vs : List Value} [TSz c.P T n] (hx : ev fr x = .pointer (some ⟨g, 0, none⟩)) (hy : ev fr y = .agg vs.toArray) (hn : vs.length = n) (hv : ∀ u ∈ vs, u.oneCell' = true) (ht : Take H ⟨g, T', C, k⟩ F) (hi : C.length = n) (hd : dOk c.n dst = true)
    (h : HL c ops Q rest (updO fr dst undef) (⟨g, T', vs, k⟩ :: F)) :
    HL c ops Q (⟨dst, .store T x y, ty, pos, after, none⟩ :: rest) fr H :=
  hl_storeN hx hy hn hv ht (by omega) hd (by rw [List.take_zero, List.nil_append, Nat.zero_add, List.drop_of_length_le (by omega), List.append_nil]; exact h)

theorem hl_alloc {z : Value} {zs : List Value} [hz : TZero c.P T z] (hzs : z.cells.toList = zs) (hd : dOk c.n dst = true) (h : ∀ g, HL c ops Q rest (updO fr dst (.pointer (some ⟨g, 0, none⟩))) (⟨g, T, zs, zs.length⟩ :: H)) :
    HL c ops Q (⟨dst, .alloc T, ty, pos, after, none⟩ :: rest) fr H :=
  hl_some hd (fun w hw => by
    obtain ⟨inf, hi, h0⟩ := Option.bind_eq_some_iff.1 hz.h
    refine ⟨_, _, _, ?_, hw.new z.cells T zs zs.length (by rw [hzs]; exact List.prefix_refl _) (by rw [← Array.length_toList, hzs]), h _⟩
    simp [execOp, Instr.alloc, zeroValue, typeInfo, hi, h0, newVar, newRow, newObj, Sem.run])
theorem hl_box {v : Value} {vs : List Value} (hx : ev fr x = v) (hvs : v.cells.toList = vs) (hd : dOk c.n dst = true) (h : ∀ g, HL c ops Q rest (updO fr dst (.pointer (some ⟨g, 0, none⟩))) (⟨g, T, vs, vs.length⟩ :: H)) :
    HL c ops Q (⟨dst, .box T x, ty, pos, after, none⟩ :: rest) fr H :=
  hl_some hd (fun w hw => by
    refine ⟨_, _, _, ?_, hw.new v.cells T vs vs.length (by rw [hvs]; exact List.prefix_refl _) (by rw [← Array.length_toList, hvs]), h _⟩
    simp [execOp, hx, Instr.box, newVar, newRow, newObj, Sem.run])
def evP (fr : Fr) : List (Nat × Operand) → List (Nat × Value)
  | [] => []
  | (i, x) :: l => (i, ev fr x) :: evP fr l
theorem evP_eq (fr : Fr) (l : List (Nat × Operand)) : evP fr l = l.map (fun p => (p.1, ev fr p.2)) := by induction l <;> simp [evP, *]
theorem hl_buildSlice {e s len : Nat} {z : Value} {ps : List (Nat × Operand)} {vs : List (Nat × Value)} {cells : List Value} [hT : TSlc c.P T e] [TSz c.P e s] [hz : TZero c.P e z] (hps : evP fr ps = vs) (hl : len * s ≤ 16777216)
    (hf : Instr.fill (fun i => some (i * s, s)) (madeCells z.cells (len * s)) vs = some cells.toArray) (hlc : cells.length = len * s) (hd : dOk c.n dst = true)
    (h : ∀ g, HL c ops Q rest (updO fr dst (.slice (some ⟨g, 0, none⟩) len len)) (⟨g, e, cells, len * s⟩ :: H)) : HL c ops Q (⟨dst, .buildSlice T len ps.toArray, ty, pos, after, none⟩ :: rest) fr H :=
  hl_some hd (fun w hw => by
    obtain ⟨inf, hi, h0⟩ := Option.bind_eq_some_iff.1 hz.h
    refine ⟨_, _, _, ?_, hw.new cells.toArray e cells (len * s) (List.prefix_refl _) (by simpa using hlc), h _⟩
    have hn : ¬ (16777216 < len * s) := by omega
    rw [evP_eq] at hps
    by_cases hz0 : len * s = 0
    · rw [hz0] at hf hlc
      have hfill : Instr.fill (fun i => some (i * s, s)) #[] vs = some cells.toArray := by
        rw [← hf]; simp [madeCells, Array.range_zero']
      simp [execOp, Instr.buildSlice, run_underlying hT.h, sizeOf_sz (T := e) (n := s), hz0, hps, newRow, newObj, Array.range_zero', hfill, Sem.run]
    · have hfill : Instr.fill (fun i => some (i * s, s)) ((Array.range (len * s)).map (z.cells[· % z.cells.size]!)) vs = some cells.toArray := hf
      simp [execOp, Instr.buildSlice, run_underlying hT.h, sizeOf_sz (T := e) (n := s), hn, hz0, hps, zeroValue, typeInfo, hi, h0, hfill, newRow, newObj, Sem.run])

theorem hl_len [Stp c ops S] {e len cap : Nat} {a : Option Addr} [hT : TSlc c.P T e] (hx : ev fr x = .slice a len cap) (hd : dOk c.n dst = true) (h : S rest (updO fr dst (.int .i64 (len : Int))) H) :
    S (⟨dst, .call { callee := .builtin .len, args := #[x], argTypes := #[T] }, ty, pos, after, none⟩ :: rest) fr H :=
  hl_pure hd _ (fun w _ => by simp [execOp, resolve, invoke, builtin, Builtin.len_, hx, run_underlying hT.h, goInt]) h
theorem hl_lenArr [Stp c ops S] {e n : Nat} [hT : TArr c.P T n e] (hd : dOk c.n dst = true) (h : S rest (updO fr dst (.int .i64 (n : Int))) H) :
    S (⟨dst, .call { callee := .builtin .len, args := #[x], argTypes := #[T] }, ty, pos, after, none⟩ :: rest) fr H :=
  hl_pure hd _ (fun w _ => by simp [execOp, resolve, invoke, builtin, Builtin.len_, run_underlying hT.h, goInt]) h
theorem hl_convInt [Stp c ops S] {ik jk : IntKind} {n : Int} {U : TypeId} [hS : TInt c.P U jk] [hT : TInt c.P T ik] (hx : ev fr x = .int jk n) (hd : dOk c.n dst = true) (h : S rest (updO fr dst (.int ik (ik.wrap n))) H) :
    S (⟨dst, .convert U T x, ty, pos, after, none⟩ :: rest) fr H :=
  hl_pure hd _ (fun w _ => by simp [execOp, convert, hx, run_underlying hS.h, run_underlying hT.h, Conv.intToInt]) h
/-- To int: nothing turns. -/
theorem hl_convI64 [Stp c ops S] {jk : IntKind} {n : Int} {U : TypeId} [hS : TInt c.P U jk] [hT : TInt c.P T .i64] (hx : ev fr x = .int jk n) (h1 : -9223372036854775808 ≤ n) (h2 : n ≤ 9223372036854775807) (hd : dOk c.n dst = true) (h : S rest (updO fr dst (.int .i64 n)) H) :
    S (⟨dst, .convert U T x, ty, pos, after, none⟩ :: rest) fr H := hl_convInt hx hd (by rw [IntWalk.i64_in _ ⟨h1, h2⟩]; exact h)
theorem hl_convStr [Stp c ops S] {e cap : Nat} {a : Option Addr} {l : List UInt8} {U : TypeId} [hS : TSlc c.P U e] [he : TInt c.P e .u8] [hT : TStr c.P T] (hx : ev fr x = .slice a l.length cap) (hr : Rds c.w0 c.B H a (l.map byteV)) (hd : dOk c.n dst = true) (h : S rest (updO fr dst (.string ⟨l.toArray⟩)) H) :
    S (⟨dst, .convert U T x, ty, pos, after, none⟩ :: rest) fr H :=
  hl_pure hd _ (fun w hw => by
    cases a with
    | none =>
      have := hr.nil rfl
      have hl : l = [] := by simpa using this
      subst hl
      simp [execOp, hx, convert, run_underlying hS.h, run_underlying hT.h, run_underlying he.h, Conv.bytesToString]; rfl
    | some ad =>
      have := run_convert_bytes_back (P := c.P) w U T e ad cap l hS.h he.h hT.h (fun j hj => hr.cell w hw ad rfl j _ (by rw [List.getElem?_map, List.getElem?_eq_getElem hj]; rfl))
      simp [execOp, hx, this]) h
theorem hl_strEq [Stp c ops S] {a b : ByteArray} {u : TypeId} (hx : ev fr x = .string a) (hy : ev fr y = .string b) (hd : dOk c.n dst = true) (k : S rest (updO fr dst (.bool (a.toList == b.toList))) H) : S (⟨dst, .binOp .eql T x y u, ty, pos, after, none⟩ :: rest) fr H :=
  hl_bin .eql hx hy hd (fun w => by simp [eqGuard_at_string]) (fun w => by simp [binOp, Op.stringOp]) k
theorem hl_strNe [Stp c ops S] {a b : ByteArray} {u : TypeId} (hx : ev fr x = .string a) (hy : ev fr y = .string b) (hd : dOk c.n dst = true) (k : S rest (updO fr dst (.bool (!(a.toList == b.toList)))) H) : S (⟨dst, .binOp .neq T x y u, ty, pos, after, none⟩ :: rest) fr H :=
  hl_bin .neq hx hy hd (fun w => by simp [eqGuard_at_string]) (fun w => by simp [binOp, Op.stringOp]) k

/-! Calls. -/
theorem hl_call {f : FuncId} {xs : List Operand} {ts : Array TypeId} {args : List Value} {R : Value → List Ent → Prop} (hxs : evs fr xs = args) (hd : dOk c.n dst = true) (hf : Fn c.P c.w0 c.B f args H R)
    (h : ∀ v H', R v H' → HL c ops Q rest (updO fr dst v) H') : HL c ops Q (⟨dst, .call { callee := .value (.func f), args := xs.toArray, argTypes := ts }, ty, pos, after, none⟩ :: rest) fr H := ⟨fun a w hs hh =>
  wpList_plain rfl fun K hK => by
    obtain ⟨⟨fn, h1, h2, h3⟩, hc⟩ := hf
    have hargs : (xs.toArray.map a.eval) = args.toArray := by rw [hs.eval, ← hxs, evs_eq]; simp
    have hrun : (execOp a.eval ⟨dst, .call { callee := .value (.func f), args := xs.toArray, argTypes := ts }, ty, pos, after, none⟩).run c.P w = .ok (.enter f args.toArray) w := by
      simp only [execOp, resolve, hargs]
      have h2' : ¬ (fn.name = "runtime.NumGoroutine") := by simpa using h2
      have h3' : ¬ (fn.body = none) := by intro h; rw [h] at h3; cases h3
      simp [Act.eval, Deferred.ofValue, invoke, callFunc, program, Sem.run, h1, h2', h3']
    unfold Oper.wp
    rw [hrun]
    refine (hc w hh).mono fun e w' ⟨v, H', he, hw', hR⟩ => ?_
    subst he
    exact hK _ _ ((h v H' hR).of _ _ (hs.put hd v) hw')⟩
theorem Fn.mono {P : Program} {w0 : World} {B : Nat} {f : FuncId} {args : List Value} {R R' : Value → List Ent → Prop} (h : Fn P w0 B f args H R) (hr : ∀ v H', R v H' → R' v H') : Fn P w0 B f args H R' :=
  ⟨h.fn, fun w hw => (h.run w hw).mono fun e w' ⟨v, H', a, b, d⟩ => ⟨v, H', a, b, hr _ _ d⟩⟩
theorem Fn.perm {P : Program} {w0 : World} {B : Nat} {f : FuncId} {args : List Value} {H' : List Ent} {R : Value → List Ent → Prop} (h : Fn P w0 B f args H' R) (hp : H.Perm H') : Fn P w0 B f args H R :=
  ⟨h.fn, fun w hw => h.run w (hw.perm hp)⟩

/-- What a function hands back. -/
inductive ResV (P : Program) (fr : Fr) (H : List Ent) : List ResultVar → List Value → Prop
  | nil : ResV P fr H [] []
  | tmp {t : Nat} {l : List ResultVar} {vs : List Value} (h : ResV P fr H l vs) : ResV P fr H (.tmp t :: l) (fr t :: vs)
  | cell {t T g T' k : Nat} {C : List Value} {F : List Ent} {l : List ResultVar} {vs : List Value} (hp : fr t = .pointer (some ⟨g, 0, none⟩)) (ht : Take H ⟨g, T', C, k⟩ F) [TAgg P T] [TSz P T C.length] (h : ResV P fr H l vs) : ResV P fr H (.cell t T :: l) (.agg C.toArray :: vs)
  | cell1 {t T g T' k : Nat} {v : Value} {C : List Value} {F : List Ent} {l : List ResultVar} {vs : List Value} (hp : fr t = .pointer (some ⟨g, 0, none⟩)) (ht : Take H ⟨g, T', v :: C, k⟩ F) [TOne P T] (h : ResV P fr H l vs) : ResV P fr H (.cell t T :: l) (v :: vs)
def pack : List Value → Value
  | [v] => v
  | vs => .tuple vs.toArray
theorem run_results {P : Program} {w0 w : World} {B n : Nat} {fn : Func} {a : Act} (hs : Sees n a fr) (hw : Hp w0 B H w) {vs : List Value} (h : ResV P fr H fn.results.toList vs) : (results fn a.tmps).run P w = .ok (pack vs) w := by
  have key : ∀ (l : List ResultVar) (vs : List Value), ResV P fr H l vs → (l.mapM (m := Sem) fun r => (match r with | .tmp t => pure (fr t) | .cell x t => do loadVar t (← asAddr (fr x)) : Sem Value)).run P w = .ok vs w := by
    intro l vs h
    induction h with
    | nil => simp
    | tmp _ ih => simp only [List.mapM_cons, Sem.run_bind, Sem.run_pure, Result.andThen_ok, ih]
    | @cell t T g T' k C F l vs hp ht _ _ _ ih =>
      have hl := run_loadCells_list (P := P) w ⟨g, 0, none⟩ C (fun j v hj => by
        rw [Addr.add_lit, Nat.zero_add]
        exact ((hw.take ht).own _ (List.mem_cons_self ..)).2.cell hj)
      have h1 : (do loadVar T (← asAddr (fr t)) : Sem Value).run P w = .ok (.agg C.toArray) w := by
        simp only [hp, asAddr, loadVar, Sem.run_bind, Sem.run_pure, Result.andThen_ok, isAgg_agg (T := T), if_true, sizeOf_sz (T := T) (n := C.length), hl]
      simp only [List.mapM_cons, Sem.run_bind (x := (do loadVar T (← asAddr (fr t)) : Sem Value)), h1, Result.andThen_ok]
      simp only [Sem.run_bind, ih, Result.andThen_ok, Sem.run_pure]
    | @cell1 t T g T' k v C F l vs hp ht _ _ ih =>
      have hc : w.cell? ⟨g, 0, none⟩ = some v := ((hw.take ht).own _ (List.mem_cons_self ..)).2.cell rfl
      have h1 : (do loadVar T (← asAddr (fr t)) : Sem Value).run P w = .ok v w := by
        simp only [hp, asAddr, loadVar, Sem.run_bind, Sem.run_pure, Result.andThen_ok, isAgg_one (T := T), Bool.false_eq_true, if_false, load, Sem.run, hc]
      simp only [List.mapM_cons, Sem.run_bind (x := (do loadVar T (← asAddr (fr t)) : Sem Value)), h1, Result.andThen_ok]
      simp only [Sem.run_bind, ih, Result.andThen_ok, Sem.run_pure]
  have h2 := key _ _ h
  have h3 : (fn.results.mapM (m := Sem) fun r => (match r with | .tmp t => pure (a.tmps.getD t undef) | .cell x t => do loadVar t (← asAddr (a.tmps.getD x undef)) : Sem Value)).run P w = .ok vs.toArray w := by
    rw [Array.mapM_eq_mapM_toList]
    simp only [hs.slot]
    show ((List.toArray <$> (fn.results.toList.mapM (m := Sem) _)).run P w) = _
    simp only [map_eq_pure_bind, Sem.run_bind, h2, Result.andThen_ok, Sem.run_pure]
  unfold results
  simp only [Sem.run_bind, Sem.run_pure]
  refine Eq.trans (congrArg (fun r : Result (Array Value) => r.andThen fun (a : Array Value) w' => Result.ok (if h : a.size = 1 then a[0] else Value.tuple a) w') h3) ?_
  simp only [Result.andThen_ok]
  congr 1
  match vs with
  | [] => rfl
  | [v] => rfl
  | u :: v :: l => simp [pack]
/-- What the one list tells the other tells, too. -/
def Imp (H H2 : List Ent) : Prop := ∀ w0 B w, Hp w0 B H w → Hp w0 B H2 w
theorem Imp.refl (H : List Ent) : Imp H H := fun _ _ _ h => h
theorem Imp.drop {x : Ent} {H H2 : List Ent} (h : Imp H H2) : Imp (x :: H) H2 := fun _ _ _ hw => h _ _ _ hw.drop
theorem Imp.perm {H H1 H2 : List Ent} (hp : H.Perm H1) (h : Imp H1 H2) : Imp H H2 := fun _ _ _ hw => h _ _ _ (hw.perm hp)
theorem Imp.keep {x : Ent} {H H2 : List Ent} (h : ∀ w0 B w, Hp w0 B (x :: H) w → Hp w0 B (x :: H2) w) : Imp (x :: H) (x :: H2) := h
def Pfn (P : Program) (fn : Func) (R : Value → List Ent → Prop) : Pst := fun e fr' H' => (e = .normal ∨ e = .ret) ∧ ∃ vs H2, ResV P fr' H' fn.results.toList vs ∧ Imp H' H2 ∧ R (pack vs) H2
/-- A function's contract, out of its text. -/
theorem fn_intro {P : Program} {w0 : World} {B f : Nat} {fn : Func} {code : Code} {args : List Value} {R : Value → List Ent → Prop} (hf : P.funcs[f]? = some fn) (hb : fn.body = some code) (hn : (fn.name == "runtime.NumGoroutine") = false) (hs : Nat.ble args.length fn.ntmps = true)
    (h : HC ⟨P, fn.ntmps, w0, B⟩ code (Pfn P fn R) (argFr args) H) : Fn P w0 B f args H R := by
  refine ⟨⟨fn, hf, hn, by rw [hb]; rfl⟩, fun w hw => ?_⟩
  have hs : args.length ≤ fn.ntmps := by simpa using hs
  refine calls_of_wp hf hb (wp_mono (h.of _ w ⟨rfl, ?_, fun t => ?_⟩ hw) ?_)
  · simp; omega
  · rw [argFr_eq]
    simp only [Array.getD_eq_getD_getElem?, List.getD_eq_getElem?_getD, Array.getElem?_append, List.size_toArray, List.getElem?_toArray]
    split
    · rfl
    · rename_i hlt
      rw [List.getElem?_eq_none (by omega), Array.getElem?_replicate]
      split <;> rfl
  · rintro e a w' ⟨fr', H', hs', hh', he, vs, H2, hv, hi, hR⟩
    have hr := run_results (fn := fn) hs' hh' hv
    rcases he with rfl | rfl
    · exact ⟨hs'.defers, _, hr, _, _, rfl, hi _ _ _ hh', hR⟩
    · exact ⟨hs'.defers, _, hr, _, _, rfl, hi _ _ _ hh', hR⟩
end

end Go.Proofs.Ytoobhebbgbhahaa
