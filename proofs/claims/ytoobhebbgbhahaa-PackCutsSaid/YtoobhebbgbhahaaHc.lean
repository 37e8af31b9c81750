/-
  The way of walking, more: copy, parts of arrays. No condition.
-/
import Derived.Test.YtoobhebbgbhahaaHt
import Derived.Laws.CopyRow
namespace Go.Proofs.Ytoobhebbgbhahaa
open Go.RowKit
section
variable {c : Cx} {Q : Pst} {fr : Fr} {H F : List Ent} {ops : Array Oper} {rest : List Oper} {dst : Option Nat} {ty : TypeId} {pos : String} {after : Array Edge}
variable {x s : Operand} {T T2 e : TypeId} {g o k T' sz : Nat} {C : List Value} {S : List Oper → Fr → List Ent → Prop}
/-- 'copy', of elements of one cell, into memory of the call's own. -/
theorem hl_copy1 [hT : TSlc c.P T e] [hsz : TSz c.P e 1] {a : Option Addr} {l : List Value} {dLen dCap sLen sCap m : Nat} (hs : ev fr s = .slice (some ⟨g, o, none⟩) dLen dCap) (hx : ev fr x = .slice a sLen sCap)
    (ht : Take H ⟨g, T', C, k⟩ F) (hr : Rds c.w0 c.B H a l) (hl : l.length = sLen) (hn : a = none → sCap = 0) (hm : m = min sLen dLen) (hfit : o + m ≤ C.length) (hd : dOk c.n dst = true)
    (h : HL c ops Q rest (updO fr dst (.int .i64 (m : Int))) (⟨g, T', C.take o ++ l.take m ++ C.drop (o + m), k⟩ :: F)) (hk0 : 0 < k := by omega) :
    HL c ops Q (⟨dst, .call { callee := .builtin .copy, args := #[s, x], argTypes := #[T, T2] }, ty, pos, after, none⟩ :: rest) fr H :=
  hl_some hd fun w hw => by
    obtain ⟨hB, A, mk, hA, hk, W, hW⟩ := (hw.take ht).own _ (List.mem_cons_self ..)
    dsimp only at hA hk hW
    replace hk : mk = (0, 0) ∧ A.size = k := by
      rcases hk with h | ⟨h1, _⟩
      · exact h
      · omega
    obtain ⟨rfl, hk⟩ := hk
    have hlt : (l.take m).length = m := by rw [List.length_take]; omega
    cases a with
    | none =>
      have h0 := hr.nil rfl
      subst h0
      have hs0 : sLen = 0 := by simpa using hl.symm
      have hc0 := hn rfl
      subst hs0 hc0
      have hm0 : m = 0 := by omega
      subst hm0
      have hrun := run_copy_nil (P := c.P) w T T2 ty e ⟨g, o, none⟩ dLen dCap hT.h (by rw [hsz.h]; rfl)
      refine ⟨_, w, _, by simp only [execOp, resolve, invoke, builtin, Sem.run_bind, Sem.run_pure, Result.andThen_ok, List.map_toArray, List.map_cons, List.map_nil, hs, hx, hrun]; rfl, ?_, h⟩
      simpa using hw.take ht
    | some ad =>
      have hlen : C.length + W.length = A.size := by rw [← Array.length_toList, ← hW, List.length_append]
      have hrun := run_copy_row (P := c.P) w T T2 ty e g o dLen dCap ad sLen sCap A T' (l.take m) hT.h hsz.h hA (by rw [hlt]; exact hm)
        (fun j v hj => hr.cell w hw ad rfl j v (by rw [List.getElem?_take] at hj; split at hj; exact hj; cases hj)) (by rw [hlt, ← hlen]; omega) (fun v hv => hr.one v (List.mem_of_mem_take hv))
      rw [hlt] at hrun
      refine ⟨_, _, _, by simp only [execOp, resolve, invoke, builtin, Sem.run_bind, Sem.run_pure, Result.andThen_ok, List.map_toArray, List.map_cons, List.map_nil, hs, hx, hrun]; rfl, (hw.take ht).row _ _ (fun A0 m0 h0 => .inl ⟨by rw [hA] at h0; cases h0; rfl, ?_⟩) ?_, h⟩
      · simp only [List.size_toArray, List.length_append, List.length_take, List.length_drop, Array.length_toList, hlt]
        omega
      · rw [← hW]
        rw [splice_prefix hlt hfit]
        exact ⟨W, rfl⟩
/-- Where the orders meet again. -/
theorem hc_meet {code : Code} (M : Fr → List Ent → Prop) (h1 : HC c code (thn M Q) fr H) (h2 : ∀ fr H, M fr H → Q .normal fr H) : HC c code Q fr H :=
  h1.mono fun e fr H h => by cases e <;> first | exact h2 _ _ h | exact h
/-- 'x[i:j]' of an array. -/
theorem hl_sliceArr {b off n i j : Nat} {lo hi : Option Operand} {ki kj : IntKind} [hT : TArr c.P T n e] [TSz c.P e sz] [Stp c ops S] (hx : ev fr x = .pointer (some ⟨b, off, none⟩))
    (hlo : match lo with | some o => ev fr o = .int ki (i : Int) | none => i = 0) (hhi : match hi with | some o => ev fr o = .int kj (j : Int) | none => j = n) (hij : i ≤ j) (hj : j ≤ n) (hd : dOk c.n dst = true)
    (h : ∀ off', (i < n → off' = off + i * sz) → S rest (updO fr dst (.slice (some ⟨b, off', none⟩) (j - i) (n - i))) H) :
    S (⟨dst, .slice T x lo hi none, ty, pos, after, none⟩ :: rest) fr H := by
  refine hl_pure hd _ (fun w _ => ?_) (h (if n = i then off else off + i * sz) (fun h => by rw [if_neg (by omega)]))
  have h1 : ((i : Int) ≤ (j : Int)) := by omega
  have h2 : ((j : Int) ≤ (n : Int)) := by omega
  have hb : (Instr.sliceBounds false n n (lo.map (ev fr)) (hi.map (ev fr)) none).run c.P w = .ok (i, j, n) w := by
    cases hi with
    | none =>
      dsimp only at hhi; subst hhi
      cases lo with
      | none => dsimp only at hlo; subst hlo; simp [Instr.sliceBounds]
      | some o => dsimp only at hlo; simp [Instr.sliceBounds, Instr.sliceBound, asIntOf, hlo, hij]
    | some o2 =>
      dsimp only at hhi
      cases lo with
      | none => dsimp only at hlo; subst hlo; simp [Instr.sliceBounds, Instr.sliceBound, asIntOf, hhi, hj]
      | some o => dsimp only at hlo; simp [Instr.sliceBounds, Instr.sliceBound, asIntOf, hlo, hhi, hij, hj]
  have hs : (Instr.sliceAt T (ev fr x) (lo.map (ev fr)) (hi.map (ev fr)) none).run c.P w = .ok (.slice (some ⟨b, (if n = i then off else off + i * sz), none⟩) (j - i) (n - i)) w := by
    simp only [Instr.sliceAt, Sem.run_bind, run_underlying hT.h, Result.andThen_ok, hx, Instr.sureAddr, Sem.run_pure, hb, sizeOf_sz (T := e) (n := sz)]
    by_cases hc : n = i
    · simp [hc]
    · simp [hc, Addr.add_lit]
  simp [execOp, hs]

/-- A call that reads a block of the list. -/
theorem Fn.take {P : Program} {w0 : World} {B : Nat} {f : FuncId} {args : List Value} {v : Value} {H F : List Ent} {e : Ent} (ht : Take H e F) (h : Fn P w0 B f args (e :: F) (fun u H' => u = v ∧ H' = e :: F)) : Fn P w0 B f args H (fun u H' => u = v ∧ H' = H) :=
  ⟨h.fn, fun w hw => (h.run w (hw.take ht)).mono fun _ _ ⟨u, _, a, b, c, d⟩ => ⟨u, H, a, (d ▸ b).perm ht.perm.symm, c, rfl⟩⟩
/-- Memory that was there ahead of the call: numbers, as a table. -/
structure Prm (w0 : World) (B b off n : Nat) (k : IntKind) (f : Nat → Int) : Prop where
  cell : ∀ j, j < n → w0.cell? ⟨b, off + j, none⟩ = some (.int k (f j))
  lt : b < B
theorem hl_loadP [Stp c ops S] {b off n j : Nat} {ik : IntKind} {f : Nat → Int} [TOne c.P T] (hx : ev fr x = .pointer (some ⟨b, off + j, none⟩)) (hp : Prm c.w0 c.B b off n ik f) (hj : j < n) (hd : dOk c.n dst = true) (h : S rest (updO fr dst (.int ik (f j))) H) :
    S (⟨dst, .load T x, ty, pos, after, none⟩ :: rest) fr H := hl_load1r hx (hp.cell j hj) hp.lt hd h
theorem Sl.prm {f : Int → Value} {ik : IntKind} (hf : ∀ x, f x = .int ik x) {w0 : World} {B : Nat} (hB : w0.heap.size ≤ B) {a : Option Addr} {len cap : Nat} {l : List Int} (h : Sl f w0 a len cap l) (h0 : 0 < len) : ∃ b off, a = some ⟨b, off, none⟩ ∧ Prm w0 B b off len ik (fun j => l.getD j 0) := by
  have hl := h.size_eq
  obtain ⟨b, off, hb, _⟩ := h.row 0 (by omega)
  have hrow : ∀ j, j < len → w0.cell? ⟨b, off + j, none⟩ = some (.int ik (l.getD j 0)) := fun j hj => by
    obtain ⟨b', off', hb', hc'⟩ := h.row j (by omega)
    rw [hb] at hb'
    cases hb'
    rw [hc', hf]
    simp [show j < l.length by omega]
  refine ⟨b, off, hb, hrow, ?_⟩
  have hc := hrow 0 h0
  refine Nat.lt_of_lt_of_le ?_ hB
  simp only [World.cell?] at hc
  rcases Nat.lt_or_ge b w0.heap.size with h1 | h1
  · exact h1
  · rw [Array.getElem?_eq_none h1] at hc; cases hc
theorem Imp.drop2 {e x : Ent} {F H2 : List Ent} (h : Imp (e :: F) H2) : Imp (e :: x :: F) H2 := Imp.perm (List.Perm.swap _ _ _) (Imp.drop h)
/-- In every world of which the list tells the memory, numbers stand here. -/
structure Row (w0 : World) (B : Nat) (E : List Ent) (b off n : Nat) (k : IntKind) (f : Nat → Int) : Prop where
  cell : ∀ w, Hp w0 B E w → ∀ j, j < n → w.cell? ⟨b, off + j, none⟩ = some (.int k (f j))
theorem Row.imp {w0 : World} {B : Nat} {E E' : List Ent} {b off n : Nat} {k : IntKind} {f : Nat → Int} (h : Row w0 B E b off n k f) (hi : Imp E' E) : Row w0 B E' b off n k f := ⟨fun w hw => h.cell w (hi _ _ _ hw)⟩
theorem Prm.row {w0 : World} {B : Nat} {E : List Ent} {b off n : Nat} {k : IntKind} {f : Nat → Int} (h : Prm w0 B b off n k f) : Row w0 B E b off n k f :=
  ⟨fun w hw j hj => by rw [hw.below.cell (p := ⟨b, off + j, none⟩) h.lt]; exact h.cell j hj⟩
theorem Row.own {w0 : World} {B : Nat} {H F : List Ent} {g n k : Nat} {T' : TypeId} {f : Nat → Int} (t : Take H ⟨g, T', tab n f, k⟩ F) : Row w0 B H g 0 n .i64 f :=
  ⟨fun w hw j hj => by rw [Nat.zero_add]; exact ((hw.take t).own _ (List.mem_cons_self ..)).2.cell (tab_get hj)⟩
theorem hl_loadR [Stp c ops S] {E : List Ent} {b off n j : Nat} {ik : IntKind} {f : Nat → Int} [TOne c.P T] (hx : ev fr x = .pointer (some ⟨b, off + j, none⟩)) (hp : Row c.w0 c.B E b off n ik f) (hi : Imp H E) (hj : j < n) (hd : dOk c.n dst = true) (h : S rest (updO fr dst (.int ik (f j))) H) :
    S (⟨dst, .load T x, ty, pos, after, none⟩ :: rest) fr H :=
  hl_pure hd _ (fun w hw => by
    have hc := hp.cell w (hi _ _ _ hw) j hj
    simp [execOp, hx, Instr.loadAt, Instr.sureAddr, loadVar, isAgg_one (T := T), load, Sem.run, hc]) h
/-- A shift to the left that fits. -/
theorem hl_shl64 [Stp c ops S] {y : Operand} {t u : TypeId} {a b : Int} {yk : IntKind} {m : Nat} (hx : ev fr x = .int .i64 a) (hy : ev fr y = .int yk b) (hm : b = (m : Int)) (h1 : m ≤ 62) (hb : -9223372036854775808 ≤ a * 2 ^ m ∧ a * 2 ^ m ≤ 9223372036854775807) (hd : dOk c.n dst = true)
    (k : S rest (updO fr dst (.int .i64 (a * 2 ^ m))) H) : S (⟨dst, .binOp .shl t x y u, ty, pos, after, none⟩ :: rest) fr H :=
  hl_shl' hx hy hm (by show m ≤ 64; omega) hd (by rw [IntWalk.i64_in _ hb]; exact k)
variable {P : Program} {fn : Func} {R : Value → List Ent → Prop}
/-- A struct or array out of memory, and a number or a truth. -/
theorem finCI {t t2 g T' k n : Nat} {C : List Value} {H2 : List Ent} {i : IntKind} {z : Int} (hr : fn.results.toList = [.cell t T, .tmp t2]) (hp : fr t = .pointer (some ⟨g, 0, none⟩)) (ht : Take H ⟨g, T', C, k⟩ F) (hv2 : fr t2 = .int i z) [TAgg P T] [hs : TSz P T n] (hn : C.length = n) (h : R (.tuple #[.agg C.toArray, .int i z]) H2)
    (hi : Imp H H2 := by first | exact (Imp.refl _) | exact (Imp.drop (Imp.refl _)) | exact (Imp.drop (Imp.drop (Imp.refl _))) | exact (Imp.drop (Imp.drop (Imp.drop (Imp.refl _)))) | exact (Imp.drop (Imp.drop (Imp.drop (Imp.drop (Imp.refl _)))))) : Pfn P fn R .ret fr H :=
  have : TSz P T C.length := hn ▸ hs
  ⟨.inr rfl, [.agg C.toArray, fr t2], H2, by rw [hr]; exact .cell hp ht (.tmp .nil), hi, by rw [hv2]; exact h⟩
end
end Go.Proofs.Ytoobhebbgbhahaa
