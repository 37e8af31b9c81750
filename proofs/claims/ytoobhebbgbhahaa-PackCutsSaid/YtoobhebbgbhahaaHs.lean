/-
  The way of walking, more: parts of slices, strings put together, constant strings as bytes. No condition.
-/
import Derived.Test.YtoobhebbgbhahaaHz
namespace Go.Proofs.Ytoobhebbgbhahaa
open Go.RowKit
theorem app_swap (A C D : List Ent) : (A ++ (C ++ D)).Perm (C ++ (A ++ D)) := by
  rw [← List.append_assoc, ← List.append_assoc]
  exact List.perm_append_comm.append_right D
theorem Rds.take {w0 : World} {B : Nat} {H : List Ent} {a : Option Addr} {l : List Value} (h : Rds w0 B H a l) (n : Nat) : Rds w0 B H a (l.take n) :=
  ⟨fun w hw ad ha j u hu => h.cell w hw ad ha j u (by rw [List.getElem?_take] at hu; split at hu; exact hu; cases hu), fun h0 => by rw [h.nil h0]; simp, fun u hu => h.one u (List.mem_of_mem_take hu)⟩
theorem Fn.monoI {P : Program} {w0 : World} {B : Nat} {f : FuncId} {args : List Value} {H : List Ent} {R R' : Value → List Ent → Prop} (h : Fn P w0 B f args H R) (hr : ∀ v H', R v H' → ∃ H2, Imp H' H2 ∧ R' v H2) : Fn P w0 B f args H R' :=
  ⟨h.fn, fun w hw => (h.run w hw).mono fun e w' ⟨v, H', a, b, d⟩ => by
    obtain ⟨H2, hi, hr2⟩ := hr _ _ d
    exact ⟨v, H2, a, hi _ _ _ b, hr2⟩⟩
theorem Own.permE {e sz n : Nat} {v : Value} {C : List Value} {F H : List Ent} (h : Own e sz v n C F H) : ∃ X : List Ent, H.Perm (X ++ F) ∧ ∀ F', Own e sz v n C F' (X ++ F') := by
  rcases h with ⟨h1, h2, h3, h4⟩ | ⟨g, cap, h1, h2, h3, h4, h5⟩
  · exact ⟨[], h4, fun F' => .inl ⟨h1, h2, h3, List.Perm.refl _⟩⟩
  · exact ⟨[_], h5, fun F' => .inr ⟨g, cap, h1, h2, h3, h4, List.Perm.refl _⟩⟩
theorem Imp.tail (X F : List Ent) : Imp (X ++ F) F := by
  induction X with
  | nil => exact Imp.refl _
  | cons x X ih => exact Imp.drop ih
/-- Less is told of a block. -/
theorem Imp.pre {g T k : Nat} {C C' : List Value} {F : List Ent} (h : C' <+: C) (h0 : C' ≠ [] ∨ 0 < k ∨ C = C') : Imp (⟨g, T, C, k⟩ :: F) (⟨g, T, C', k⟩ :: F) := by
  intro w0 B w hw
  refine ⟨hw.below, hw.lt, hw.nodup, fun e he => ?_⟩
  rcases List.mem_cons.1 he with rfl | he
  · obtain ⟨hB, A, m, h1, h2, h3⟩ := hw.own _ (List.mem_cons_self ..)
    dsimp only at h2
    refine ⟨hB, A, m, h1, ?_, h.trans h3⟩
    rcases h2 with h2 | ⟨h4, h5, h6⟩
    · exact .inl h2
    · refine .inr ⟨h4, ?_, h6⟩
      rcases h0 with h0 | h0 | rfl
      · exact h0
      · omega
      · exact h5
  · exact hw.own e (List.mem_cons_of_mem _ he)
/-- A row cut off. -/
theorem Own.cut {e n m cap : Nat} {a : Option Addr} {C : List Value} {F H : List Ent} (h : Own e 1 (.slice a n cap) n C F H) (hm : m ≤ n) : ∃ H2, Imp H H2 ∧ Own e 1 (.slice a m cap) m (C.take m) F H2 := by
  rcases h with ⟨h1, h2, h3, h4⟩ | ⟨g, cap', h1, h2, h3, h4, h5⟩
  · cases h1
    obtain rfl : m = 0 := by omega
    subst h3
    exact ⟨F, Imp.perm h4 (Imp.refl _), .inl ⟨rfl, rfl, by simp, List.Perm.refl _⟩⟩
  · cases h1
    refine ⟨⟨g, e, C.take m, cap * 1⟩ :: F, Imp.perm h5 (Imp.pre (List.take_prefix _ _) ?_), .inr ⟨g, cap, rfl, by omega, h3, by rw [List.length_take]; omega, List.Perm.refl _⟩⟩
    rcases Nat.eq_zero_or_pos n with h0 | h0
    · right; right
      have : C = [] := List.eq_nil_of_length_eq_zero (by omega)
      rw [this]; simp
    · right; left; omega
section
variable {c : Cx} {Q : Pst} {fr : Fr} {H F : List Ent} {ops : Array Oper} {rest : List Oper} {dst : Option Nat} {ty : TypeId} {pos : String} {after : Array Edge}
variable {x y : Operand} {T u e : TypeId} {S : List Oper → Fr → List Ent → Prop} [hS : Stp c ops S]
include hS
/-- 's[:j]'. -/
theorem hl_sliceTo {a : Option Addr} {len cap j sz : Nat} {hi : Operand} {kj : IntKind} {jz : Int} [hT : TSlc c.P T e] [TSz c.P e sz] (hx : ev fr x = .slice a len cap) (hhi : ev fr hi = .int kj jz) (hjz : jz = (j : Int)) (hj : j ≤ cap) (hd : dOk c.n dst = true)
    (h : S rest (updO fr dst (.slice a j cap)) H) : S (⟨dst, .slice T x none (some hi) none, ty, pos, after, none⟩ :: rest) fr H := by
  subst hjz
  refine hl_pure hd _ (fun w _ => ?_) h
  have h2 : ((j : Int) ≤ (cap : Int)) := by omega
  have hb : (Instr.sliceBounds true len cap none (some (ev fr hi)) none).run c.P w = .ok (0, j, cap) w := by
    simp [Instr.sliceBounds, Instr.sliceBound, asIntOf, hhi, hj]
  have hs : (Instr.sliceAt T (ev fr x) none (some (ev fr hi)) none).run c.P w = .ok (.slice a j cap) w := by
    simp only [Instr.sliceAt, Instr.slice, Sem.run_bind, run_underlying hT.h, Result.andThen_ok, hx, hb, sizeOf_sz (T := e) (n := sz), Sem.run_pure]
    by_cases hc : cap = 0
    · simp [hc]
    · cases a <;> simp [hc, Addr.add]
  simp [execOp, hs]
/-- 's[:j:j]'. -/
theorem hl_sliceTo3 {a : Option Addr} {len cap j sz : Nat} {hi mx : Operand} {kj km : IntKind} {jz : Int} [hT : TSlc c.P T e] [TSz c.P e sz] (hx : ev fr x = .slice a len cap) (hhi : ev fr hi = .int kj jz) (hmx : ev fr mx = .int km jz) (hjz : jz = (j : Int)) (hj : j ≤ cap) (hd : dOk c.n dst = true)
    (h : S rest (updO fr dst (.slice a j j)) H) : S (⟨dst, .slice T x none (some hi) (some mx), ty, pos, after, none⟩ :: rest) fr H := by
  subst hjz
  refine hl_pure hd _ (fun w _ => ?_) h
  have hb : (Instr.sliceBounds true len cap none (some (ev fr hi)) (some (ev fr mx))).run c.P w = .ok (0, j, j) w := by
    simp [Instr.sliceBounds, Instr.sliceBound, asIntOf, hhi, hmx, hj]
  have hs : (Instr.sliceAt T (ev fr x) none (some (ev fr hi)) (some (ev fr mx))).run c.P w = .ok (.slice a j j) w := by
    simp only [Instr.sliceAt, Instr.slice, Sem.run_bind, run_underlying hT.h, Result.andThen_ok, hx, hb, sizeOf_sz (T := e) (n := sz), Sem.run_pure]
    by_cases hc : j = 0
    · simp [hc]
    · cases a <;> simp [hc, Addr.add]
  simp [execOp, hs]
/-- 's[i:j]' of what is known to lie there. -/
theorem hl_sliceR {a : Option Addr} {len cap i j : Nat} {l : List Value} {lo hi : Option Operand} {ki kj : IntKind} [hT : TSlc c.P T e] [TSz c.P e 1] (hx : ev fr x = .slice a len cap) (hr : Rds c.w0 c.B H a l) (hl : l.length = len) (hle : len ≤ cap) (hn : a = none → cap = 0)
    (hlo : match lo with | some o => ev fr o = .int ki (i : Int) | none => i = 0) (hhi : match hi with | some o => ev fr o = .int kj (j : Int) | none => j = len) (hij : i ≤ j) (hj : j ≤ len) (hd : dOk c.n dst = true)
    (h : ∀ a', Rds c.w0 c.B H a' ((l.drop i).take (j - i)) → (a' = none → cap - i = 0) → S rest (updO fr dst (.slice a' (j - i) (cap - i))) H) :
    S (⟨dst, .slice T x lo hi none, ty, pos, after, none⟩ :: rest) fr H := by
  refine hl_pure hd _ (fun w _ => ?_) (h (if cap = i then a else a.map (·.add i)) ?_ ?_)
  · have h1 : ((i : Int) ≤ (j : Int)) := by omega
    have h2 : ((j : Int) ≤ (cap : Int)) := by omega
    have hb : (Instr.sliceBounds true len cap (lo.map (ev fr)) (hi.map (ev fr)) none).run c.P w = .ok (i, j, cap) w := by
      have hjc : j ≤ cap := by omega
      cases hi with
      | none =>
        dsimp only at hhi; subst hhi
        cases lo with
        | none => dsimp only at hlo; subst hlo; simp [Instr.sliceBounds]
        | some o => dsimp only at hlo; simp [Instr.sliceBounds, Instr.sliceBound, asIntOf, hlo, hij]
      | some o2 =>
        dsimp only at hhi
        cases lo with
        | none => dsimp only at hlo; subst hlo; simp [Instr.sliceBounds, Instr.sliceBound, asIntOf, hhi, hjc]
        | some o => dsimp only at hlo; simp [Instr.sliceBounds, Instr.sliceBound, asIntOf, hlo, hhi, hij, hjc]
    have hs : (Instr.sliceAt T (ev fr x) (lo.map (ev fr)) (hi.map (ev fr)) none).run c.P w = .ok (.slice (if cap = i then a else a.map (·.add i)) (j - i) (cap - i)) w := by
      simp only [Instr.sliceAt, Instr.slice, Sem.run_bind, run_underlying hT.h, Result.andThen_ok, hx, hb, sizeOf_sz (T := e) (n := 1), Sem.run_pure, Nat.mul_one]
    simp [execOp, hs]
  · by_cases hc : cap = i
    · rw [if_pos hc]
      have h0 : j - i = 0 := by omega
      rw [h0, List.take_zero]
      exact ⟨fun _ _ _ _ j u hu => by simp at hu, fun _ => rfl, fun _ h => by cases h⟩
    · rw [if_neg hc]
      refine ⟨fun w hw ad ha k v hv => ?_, fun h0 => ?_, fun v hv => hr.one v (List.mem_of_mem_drop (List.mem_of_mem_take hv))⟩
      · cases a with
        | none => cases ha
        | some a =>
          cases ha
          rw [List.getElem?_take] at hv
          split at hv
          · rw [List.getElem?_drop] at hv
            have := hr.cell w hw a rfl (i + k) v hv
            rw [← this]
            congr 1
            unfold Addr.add
            cases a with
            | mk b o s => by_cases h1 : i = 0 <;> by_cases h2 : k = 0 <;> simp [h1, h2, Nat.add_assoc]
          · cases hv
      · cases a with
        | none =>
          have := hr.nil rfl
          rw [this]; simp
        | some a => cases h0
  · intro h0
    cases a with
    | none => have := hn rfl; omega
    | some a =>
      split at h0
      · cases h0
      · cases h0
theorem hl_strAdd {a b : ByteArray} (hx : ev fr x = .string a) (hy : ev fr y = .string b) (hl : a.size + b.size ≤ 9223372036854775807) (hd : dOk c.n dst = true) (k : S rest (updO fr dst (.string (a ++ b))) H) : S (⟨dst, .binOp .add T x y u, ty, pos, after, none⟩ :: rest) fr H :=
  hl_bin .add hx hy hd (fun w => by simp [eqGuard_add]) (fun w => by
    have : ¬ ((a.size + b.size : Nat) : Int) > IntKind.i64.max := by
      show ¬ ((a.size + b.size : Nat) : Int) > 9223372036854775807
      omega
    simp only [binOp, Op.stringOp]
    rw [if_neg this]
    simp) k
/-- Of bytes. -/
theorem hl_strAddL {l m : List UInt8} (hx : ev fr x = .string ⟨l.toArray⟩) (hy : ev fr y = .string ⟨m.toArray⟩) (hl : l.length + m.length ≤ 9223372036854775807) (hd : dOk c.n dst = true) (k : S rest (updO fr dst (.string ⟨(l ++ m).toArray⟩)) H) : S (⟨dst, .binOp .add T x y u, ty, pos, after, none⟩ :: rest) fr H := by
  refine hl_strAdd hx hy (by simpa [ByteArray.size] using hl) hd ?_
  have : (ByteArray.mk l.toArray) ++ (ByteArray.mk m.toArray) = ByteArray.mk (l ++ m).toArray := by
    apply ByteArray.ext
    simp [ByteArray.data_append]
  rw [this]; exact k
omit hS in
theorem ba_toList (l : List UInt8) : (ByteArray.mk l.toArray).toList = l := by
  simp
theorem hl_strEqL {l m : List UInt8} (hx : ev fr x = .string ⟨l.toArray⟩) (hy : ev fr y = .string ⟨m.toArray⟩) (hd : dOk c.n dst = true) (k : S rest (updO fr dst (.bool (l == m))) H) : S (⟨dst, .binOp .eql T x y u, ty, pos, after, none⟩ :: rest) fr H :=
  hl_strEq hx hy hd (by rw [ba_toList, ba_toList]; exact k)
theorem hl_strNeL {l m : List UInt8} (hx : ev fr x = .string ⟨l.toArray⟩) (hy : ev fr y = .string ⟨m.toArray⟩) (hd : dOk c.n dst = true) (k : S rest (updO fr dst (.bool (!(l == m)))) H) : S (⟨dst, .binOp .neq T x y u, ty, pos, after, none⟩ :: rest) fr H :=
  hl_strNe hx hy hd (by rw [ba_toList, ba_toList]; exact k)
theorem hl_strEqT {a b : ByteArray} (hx : ev fr x = .string a) (hy : ev fr y = .string b) (hab : a = b) (hd : dOk c.n dst = true) (k : S rest (updO fr dst (.bool true)) H) : S (⟨dst, .binOp .eql T x y u, ty, pos, after, none⟩ :: rest) fr H :=
  hl_strEq hx hy hd (by rw [hab, beq_self_eq_true]; exact k)
theorem hl_strNeF {a b : ByteArray} (hx : ev fr x = .string a) (hy : ev fr y = .string b) (hab : a = b) (hd : dOk c.n dst = true) (k : S rest (updO fr dst (.bool false)) H) : S (⟨dst, .binOp .neq T x y u, ty, pos, after, none⟩ :: rest) fr H :=
  hl_strNe hx hy hd (by rw [hab, beq_self_eq_true]; exact k)
end
section
variable {c : Cx} {Q : Pst} {fr : Fr} {H F : List Ent} {ops : Array Oper} {rest : List Oper} {dst : Option Nat} {ty : TypeId} {pos : String} {after : Array Edge}
variable {x y : Operand} {T u e : TypeId}
/-- '[]byte("..")': the row is marked; it is only read from now on. -/
theorem hl_convLit {g n cap k : Nat} {C : List Value} [hT : TSlc c.P T e] [he : TInt c.P e .u8] (hx : ev fr x = .slice (some ⟨g, 0, none⟩) n cap) (ht : Take H ⟨g, e, C, k⟩ F) (hk : C.length = k) (h0 : 0 < k) (hd : dOk c.n dst = true)
    (h : HL c ops Q rest (updO fr dst (.slice (some ⟨g, 0, none⟩) n cap)) (⟨g, e, C, 0⟩ :: F)) : HL c ops Q (⟨dst, .convert T T x, ty, pos, after, none⟩ :: rest) fr H :=
  hl_some hd fun w hw => by
    have hw := hw.take ht
    obtain ⟨hB, A, m, hA, hk2, hP⟩ := hw.own _ (List.mem_cons_self ..)
    dsimp only at hA hk2 hP
    obtain ⟨rfl, hAk⟩ : m = (0, 0) ∧ A.size = k := by
      rcases hk2 with h | ⟨h1, _⟩
      · exact h
      · omega
    have hsh : w.shape? g = some (e, A.size) := by
      unfold World.shape?; rw [hA]
    have hne : C ≠ [] := fun h => by rw [h] at hk; simp at hk; omega
    have hfz : (w.freeze ⟨g, A.size, none⟩ 1).heap[g]? = some (.cells A e (A.size, A.size + 1)) := by
      unfold World.freeze
      rw [if_neg (by decide)]
      obtain ⟨hlt, hAe⟩ := Array.getElem?_eq_some_iff.1 hA
      simp [Array.getElem?_modify, hA]
    have hoth : ∀ j, j ≠ g → (w.freeze ⟨g, A.size, none⟩ 1).heap[j]? = w.heap[j]? := by
      intro j hj
      unfold World.freeze
      rw [if_neg (by decide)]
      simp only [Array.getElem?_modify]
      rw [if_neg (fun h => hj h.symm)]
    have hsz : (w.freeze ⟨g, A.size, none⟩ 1).heap.size = w.heap.size := by
      unfold World.freeze
      rw [if_neg (by decide)]
      simp
    refine ⟨_, w.freeze ⟨g, A.size, none⟩ 1, _, ?_, hw.drop.cons ⟨g, e, C, 0⟩ hB hw.notin ⟨A, _, hfz, .inr ⟨rfl, hne, Nat.le_refl _⟩, hP⟩ ?_ (fun j _ hj => hoth j hj), h⟩
    · simp [execOp, hx, convert, run_underlying hT.h, run_underlying he.h, markStringish, hsh]
    · refine ⟨?_, ?_, ?_, by rw [hsz]; exact Nat.le_refl _, fun j hj => hoth j (by show j ≠ g; dsimp only at hB; omega)⟩ <;> (unfold World.freeze; rw [if_neg (by decide)])
end
end Go.Proofs.Ytoobhebbgbhahaa
