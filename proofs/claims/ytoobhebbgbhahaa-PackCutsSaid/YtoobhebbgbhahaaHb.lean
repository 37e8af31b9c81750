/-
  The way of walking, more: structs, arrays and slices built out of parts. No condition.
-/
import Derived.Test.YtoobhebbgbhahaaHg
namespace Go.Proofs.Ytoobhebbgbhahaa
open Go.RowKit

/-- Parts laid into cells. -/
def fillP (place : Nat → Option (Nat × Nat)) : List Value → List (Nat × Value) → Option (List Value)
  | acc, [] => some acc
  | acc, (i, v) :: rest =>
    match place i with
    | none => none
    | some (off, size) => if v.cells.toList.length = size ∧ off + size ≤ acc.length then fillP place (acc.take off ++ v.cells.toList ++ acc.drop (off + size)) rest else none

theorem fold_seg : ∀ (vs : List Value) (off j : Nat) (A : Array Value), off + j + vs.length ≤ A.size →
    ((vs.zipIdx j).foldl (fun cs (p : Value × Nat) => cs.setIfInBounds (off + p.2) p.1) A).toList = A.toList.take (off + j) ++ vs ++ A.toList.drop (off + j + vs.length)
  | [], off, j, A, _ => by simp
  | v :: vs, off, j, A, h => by
    simp only [List.length_cons] at h
    have ih := fold_seg vs off (j + 1) (A.setIfInBounds (off + j) v) (by simp; omega)
    simp only [List.zipIdx_cons, List.foldl_cons, ih, Array.toList_setIfInBounds]
    rw [show off + (j + 1) = off + j + 1 by omega]
    have := list_seg_step A.toList (off + j) v vs (by simp; omega)
    simpa [Nat.add_assoc] using this

theorem fill_eq (place : Nat → Option (Nat × Nat)) : ∀ (parts : List (Nat × Value)) (A : Array Value) (cells : List Value), fillP place A.toList parts = some cells → Instr.fill place A parts = some cells.toArray
  | [], A, cells, h => by simp [fillP] at h; subst h; simp [Instr.fill]
  | (i, v) :: rest, A, cells, h => by
    unfold fillP at h
    unfold Instr.fill
    cases hp : place i with
    | none => rw [hp] at h; cases h
    | some q =>
      obtain ⟨off, size⟩ := q
      rw [hp] at h
      dsimp only at h
      split at h
      · rename_i hc
        obtain ⟨h1, h2⟩ := hc
        have hs : v.cells.size = size := by rw [← h1, Array.length_toList]
        have h2' : off + size ≤ A.size := by simpa using h2
        dsimp only
        rw [if_neg (by simp [hs]; omega)]
        refine fill_eq place rest _ cells ?_
        have := fold_seg v.cells.toList off 0 A (by rw [h1]; omega)
        simp only [Nat.add_zero, h1] at this
        rw [← h, ← this]
        congr 1
        rw [← Array.foldl_toList, Array.toList_zipIdx]
      · cases h

theorem flat_get (zs : List Value) (s : Nat) (hz : zs.length = s) (h0 : 0 < s) : ∀ (n i : Nat), i < n * s → (List.replicate n zs).flatten[i]? = zs[i % s]?
  | 0, i, h => by omega
  | n + 1, i, h => by
    rw [List.replicate_succ, List.flatten_cons, List.getElem?_append]
    split
    · rename_i hlt; rw [hz] at hlt; rw [Nat.mod_eq_of_lt hlt]
    · rename_i hge
      rw [hz] at hge ⊢
      have hge : s ≤ i := by omega
      rw [Nat.succ_mul] at h
      rw [flat_get zs s hz h0 n (i - s) (by omega), ← Nat.mod_eq_sub_mod hge]

def plB (P : Program) (T : TypeId) : Option (List (Nat × Nat)) :=
  match P.underlying T with
  | some (.struct fs) => fs.toList.mapM fun f => (P.info? f.type).map fun i => (f.offset, i.size)
  | _ => none
class TStruct (P : Program) (T : TypeId) (pl : outParam (List (Nat × Nat))) : Prop where h : plB P T = some pl

section
variable {c : Cx} {Q : Pst} {fr : Fr} {H F : List Ent} {ops : Array Oper} {rest : List Oper} {dst : Option Nat} {ty : TypeId} {pos : String} {after : Array Edge}
variable {T e : TypeId} {S : List Oper → Fr → List Ent → Prop}
theorem run_places {P : Program} {w : World} : ∀ (fs : List Field) (pl : List (Nat × Nat)), (fs.mapM fun f => (P.info? f.type).map fun i => (f.offset, i.size)) = some pl →
    (fs.mapM (m := Sem) fun f => do pure (f.offset, ← sizeOf f.type)).run P w = .ok pl w
  | [], pl, h => by simp at h; subst h; simp
  | f :: fs, pl, h => by
    rw [List.mapM_cons] at h
    cases hi : P.info? f.type with
    | none => simp [hi] at h
    | some i =>
      cases hr : (fs.mapM fun f => (P.info? f.type).map fun i => (f.offset, i.size)) with
      | none => simp [hi, hr] at h
      | some pl' =>
        simp [hi, hr] at h
        have ih := run_places (P := P) (w := w) fs pl' hr
        simp only [List.mapM_cons, sizeOf, typeInfo, program, Sem.run_bind, Sem.run, hi, Result.andThen_ok, Sem.run_pure] at ih ⊢
        rw [← h]
        simp only [Sem.run_bind, ih, Result.andThen_ok, Sem.run_pure]
theorem hl_build {pl : List (Nat × Nat)} {z : Value} {ps : List (Nat × Operand)} {vs : List (Nat × Value)} {cells : List Value} [hT : TStruct c.P T pl] [hz : TZero c.P T z] [Stp c ops S] (hps : evP fr ps = vs)
    (hf : fillP (fun i => pl[i]?) z.cells.toList vs = some cells) (hd : dOk c.n dst = true) (h : S rest (updO fr dst (.agg cells.toArray)) H) : S (⟨dst, .build T ps.toArray, ty, pos, after, none⟩ :: rest) fr H :=
  hl_pure hd _ (fun w _ => by
    obtain ⟨inf, hi, h0⟩ := Option.bind_eq_some_iff.1 hz.h
    have hT := hT.h
    unfold plB at hT
    cases hu : c.P.underlying T with
    | none => rw [hu] at hT; cases hT
    | some d =>
      cases d with
      | struct fs =>
        rw [hu] at hT
        dsimp only at hT
        have h1 := run_places (P := c.P) (w := w) fs.toList pl hT
        have h2 : (fs.mapM (m := Sem) fun f => do pure (f.offset, ← sizeOf f.type)).run c.P w = .ok pl.toArray w := by
          rw [Array.mapM_eq_mapM_toList]
          show ((List.toArray <$> (fs.toList.mapM (m := Sem) _)).run c.P w) = _
          simp only [map_eq_pure_bind, Sem.run_bind (x := (fs.toList.mapM (m := Sem) fun f => do pure (f.offset, ← sizeOf f.type))), h1, Result.andThen_ok, Sem.run_pure]
        have h3 := fill_eq (fun i => pl[i]?) vs z.cells cells hf
        have h4 : ((ps.toArray.map fun (i, x) => (i, ev fr x)).toList) = vs := by rw [← hps, evP_eq]; simp
        have h5 : (fun (i : Nat) => pl.toArray[i]?) = (fun (i : Nat) => pl[i]?) := by funext i; simp
        have hrun : (Instr.build T (ps.toArray.map fun (i, x) => (i, ev fr x))).run c.P w = .ok (.agg cells.toArray) w := by
          unfold Instr.build
          simp only [zeroValue, typeInfo, program, Sem.run_bind, Sem.run, hi, h0, Result.andThen_ok, Sem.run_pure, run_underlying hu]
          simp only [Sem.run_bind, sizeOf, typeInfo, program, Sem.run] at h2 ⊢
          rw [h2]
          simp only [Result.andThen_ok, h4, h5, h3, Sem.run_pure]
        simp only [execOp, Sem.run_bind, hrun, Result.andThen_ok, Sem.run_pure]
      | _ => rw [hu] at hT; cases hT) h
theorem hl_buildArr {n s : Nat} {z : Value} {ps : List (Nat × Operand)} {vs : List (Nat × Value)} {cells : List Value} [hT : TArr c.P T n e] [TSz c.P e s] [hz : TZero c.P T z] [Stp c ops S] (hps : evP fr ps = vs)
    (hf : fillP (fun i => some (i * s, s)) z.cells.toList vs = some cells) (hd : dOk c.n dst = true) (h : S rest (updO fr dst (.agg cells.toArray)) H) : S (⟨dst, .build T ps.toArray, ty, pos, after, none⟩ :: rest) fr H :=
  hl_pure hd _ (fun w _ => by
    obtain ⟨inf, hi, h0⟩ := Option.bind_eq_some_iff.1 hz.h
    have h3 := fill_eq (fun i => some (i * s, s)) vs z.cells cells hf
    have h4 : ((ps.toArray.map fun (i, x) => (i, ev fr x)).toList) = vs := by rw [← hps, evP_eq]; simp
    have hrun : (Instr.build T (ps.toArray.map fun (i, x) => (i, ev fr x))).run c.P w = .ok (.agg cells.toArray) w := by
      unfold Instr.build
      simp only [zeroValue, typeInfo, program, Sem.run_bind, Sem.run, hi, h0, Result.andThen_ok, Sem.run_pure, run_underlying hT.h, sizeOf_sz (T := e) (n := s)]
      simp only [h4, h3, Result.andThen_ok, Sem.run_pure]
    simp only [execOp, Sem.run_bind, hrun, Result.andThen_ok, Sem.run_pure]) h
theorem hl_buildSl {s len : Nat} {z : Value} {zs : List Value} {ps : List (Nat × Operand)} {vs : List (Nat × Value)} {cells : List Value} [hT : TSlc c.P T e] [TSz c.P e s] [hz : TZero c.P e z] (hps : evP fr ps = vs) (hl : len * s ≤ 16777216)
    (hzs : z.cells.toList = zs) (hzl : zs.length = s) (hf : fillP (fun i => some (i * s, s)) (List.replicate len zs).flatten vs = some cells) (hlc : cells.length = len * s) (hd : dOk c.n dst = true)
    (h : ∀ g, HL c ops Q rest (updO fr dst (.slice (some ⟨g, 0, none⟩) len len)) (⟨g, e, cells, len * s⟩ :: H)) : HL c ops Q (⟨dst, .buildSlice T len ps.toArray, ty, pos, after, none⟩ :: rest) fr H := by
  refine hl_buildSlice hps hl (fill_eq _ _ _ _ ?_) hlc hd h
  rw [← hf]
  congr 1
  have hsz : z.cells.size = s := by rw [← Array.length_toList, hzs, hzl]
  apply List.ext_getElem?
  intro i
  simp only [madeCells, Array.toList_map, Array.toList_range, List.getElem?_map]
  by_cases hi : i < len * s
  · have hs0 : 0 < s := by rcases Nat.eq_zero_or_pos s with h | h; subst h; omega; exact h
    have hm : i % s < s := Nat.mod_lt _ hs0
    rw [List.getElem?_range hi, Option.map_some, hsz]
    rw [flat_get zs s hzl hs0 len i hi, ← hzs, Array.getElem?_toList, Array.getElem?_eq_getElem (by omega)]
    simp [hsz, hm]
  · rw [List.getElem?_eq_none (by simpa using hi), List.getElem?_eq_none (by simp [hzl]; omega)]; rfl
end

end Go.Proofs.Ytoobhebbgbhahaa
