/-
  The way of walking, more: append, make, copy, parts of slices, tuples, the smaller and the greater. No condition.
-/
import Derived.Test.YtoobhebbgbhahaaHd
namespace Go.Proofs.Ytoobhebbgbhahaa
open Go.RowKit

theorem Hp.cons2 {w0 w w' : World} {B : Nat} {H : List Ent} (h : Hp w0 B H w) (e : Ent) (hB : B ≤ e.g) (hn : e.g ∉ H.map Ent.g) (he : e.holds w') (hb : Below B w w')
    (hk : ∀ x ∈ H, w'.heap[x.g]? = w.heap[x.g]?) : Hp w0 B (e :: H) w' :=
  ⟨h.below.trans hb, Nat.le_trans h.lt hb.size, List.nodup_cons.2 ⟨hn, h.nodup⟩, fun x hx => by
    rcases List.mem_cons.1 hx with rfl | hx
    · exact ⟨hB, he⟩
    · exact ⟨(h.own x hx).1, (h.own x hx).2.of_block (hk x hx)⟩⟩
theorem Hp.fresh {w0 w : World} {B : Nat} {H : List Ent} (h : Hp w0 B H w) {g : Nat} (hg : w.heap.size ≤ g) : g ∉ H.map Ent.g := fun hm => by
  obtain ⟨x, hx, e⟩ := List.mem_map.1 hm
  have := (h.own x hx).2.lt
  omega

theorem made_one {z : Value} {zs : List Value} (hz : z.cells.toList = zs) (h1 : zs.length = 1) (n : Nat) : (madeCells z.cells n).toList = List.replicate n (zs.getD 0 undef) := by
  have hs : z.cells.size = 1 := by rw [← Array.length_toList, hz, h1]
  unfold madeCells
  rw [hs]
  simp only [Nat.mod_one]
  have : z.cells[0]! = zs.getD 0 undef := by
    rw [← hz]
    have h0 : 0 < z.cells.size := by omega
    simp [h0]
  rw [this]
  simp [Array.toList_map, Array.toList_range, List.map_const']

section
variable {c : Cx} {Q : Pst} {fr : Fr} {H F : List Ent} {ops : Array Oper} {rest : List Oper} {dst : Option Nat} {ty : TypeId} {pos : String} {after : Array Edge}
variable {x y s : Operand} {T e : TypeId} {g sz k by_ : Nat} {C : List Value} {z : Value} {S : List Oper → Fr → List Ent → Prop}

theorem run_append_ent [hT : TSlc c.P T e] [hsz : TSz c.P e sz] [hby : TByt c.P e by_] [hz : TZero c.P e z] {n cap m cx : Nat} {a : Option Addr} {news : List Value} {w : World} (hw : Hp c.w0 c.B H w) (h0 : 0 < sz) (hzs : z.cells.size = sz)
    (ht : Take H ⟨g, e, C, cap * sz⟩ F) (hC : C.length = n * sz) (hcap : cap ≤ 9223372036854775807) (hr : Rds c.w0 c.B H a news) (hn : news.length = m * sz) (hb : (n + m) * by_ ≤ 140737488355328) (hmx : n + m ≤ 9223372036854775807) (ty : TypeId) (hnc : n ≤ cap) :
    ∃ g' cap' w', (Builtin.append_ #[T, T] ty #[.slice (some ⟨g, 0, none⟩) n cap, .slice a m cx]).run c.P w = .ok (.slice (some ⟨g', 0, none⟩) (n + m) cap') w' ∧ n + m ≤ cap' ∧ cap' ≤ 9223372036854775807 ∧
      Hp c.w0 c.B (⟨g', e, C ++ news, cap' * sz⟩ :: F) w' := by
  obtain ⟨inf, hi, hs⟩ := hsz.info
  obtain ⟨inf2, hi2, hzz⟩ := Option.bind_eq_some_iff.1 hz.h
  have e2 := Option.some.inj (hi2.symm.trans hi)
  subst e2
  obtain ⟨inf3, hi3, hbb⟩ := Option.map_eq_some_iff.1 hby.h
  have e3 := Option.some.inj (hi3.symm.trans hi)
  subst e3
  have hwt := hw.take ht
  obtain ⟨hB, A, mk, hA, hk, hP⟩ := hwt.own _ (List.mem_cons_self ..)
  dsimp only at hA hk hP hB
  have hncap : n ≤ cap := hnc
  replace hk : mk = (0, 0) ∧ A.size = cap * sz := by
    rcases hk with h | ⟨h1, h2, _⟩
    · exact h
    · refine absurd (List.eq_nil_of_length_eq_zero ?_) h2
      have h3 : n * sz ≤ cap * sz := Nat.mul_le_mul_right _ hnc
      rw [h1] at h3
      omega
  obtain ⟨rfl, hk⟩ := hk
  have hown : w.ownsRow c.B e sz (.slice (some ⟨g, 0, none⟩) n cap) n C :=
    ⟨hC, .inr ⟨g, cap, A, rfl, hB, hA, hncap, by unfold maxLen; exact hcap, hk, by rw [← hC]; exact List.prefix_iff_eq_take.1 hP |>.symm⟩⟩
  cases a with
  | none =>
    have hnil := hr.nil rfl
    subst hnil
    have hm : m = 0 := by
      have : m * sz = 0 := by simpa using hn.symm
      rcases Nat.mul_eq_zero.1 this with h | h
      · exact h
      · omega
    subst hm
    refine ⟨g, cap, w, ?_, by omega, hcap, ?_⟩
    · simp [Builtin.append_, run_underlying hT.h, sizeOf_sz (T := e) (n := sz), Builtin.lenOf, hncap, Builtin.firstCells, storeCells]
    · rw [List.append_nil]; exact hwt
  | some ad =>
    obtain ⟨v', w', hrun, h2, h3, h4, h5⟩ := run_append_own_at (P := c.P) w c.B T ty e _ z sz by_ hT.h hi hzz hs hbb hzs h0 _ n C hown ad m cx news hn (fun j u hu => hr.cell w hw ad rfl j u hu) hr.one (by unfold maxLen; exact hmx) hb hw.lt
    rcases h2.2 with ⟨rfl, _⟩ | ⟨g', cap', cur, rfl, hg', hcur, hle, hmax, hsize, htake⟩
    · have := (h4.1 rfl).1; cases this
    · refine ⟨g', cap', w', hrun, hle, by unfold maxLen at hmax; exact hmax, ?_⟩
      refine hwt.drop.cons2 ⟨g', e, C ++ news, cap' * sz⟩ hg' ?_ ⟨cur, (0, 0), hcur, .inl ⟨rfl, hsize⟩, ?_⟩ ⟨h3.os, h3.tape, h3.output, h3.size, fun k hk => h3.block k (by have := hw.lt; omega) (fun he => by simp only [Value.ownBlock, Option.some.injEq] at he; omega)⟩
        (fun x hx => h3.block x.g (hwt.drop.own x hx).2.lt (fun he => by
          simp only [Value.ownBlock, Option.some.injEq] at he
          exact hwt.notin (List.mem_map.2 ⟨x, hx, he⟩)))
      · simp only [Value.ownBlock, Option.some.injEq] at h5
        rcases h5 with h5 | h5
        · rw [h5]; exact hwt.notin
        · exact hwt.drop.fresh (by rw [h5]; exact Nat.le_refl _)
      · dsimp only; rw [← htake]; exact List.take_prefix _ _

theorem run_append_nil' [hT : TSlc c.P T e] [hsz : TSz c.P e sz] [hby : TByt c.P e by_] [hz : TZero c.P e z] {m cx : Nat} {a : Option Addr} {news : List Value} {w : World} (hw : Hp c.w0 c.B H w) (h0 : 0 < sz) (hzs : z.cells.size = sz)
    (hr : Rds c.w0 c.B H a news) (hn : news.length = m * sz) (hb : m * by_ ≤ 140737488355328) (hmx : m ≤ 9223372036854775807) (ty : TypeId) :
    (m = 0 ∧ (Builtin.append_ #[T, T] ty #[.slice none 0 0, .slice a m cx]).run c.P w = .ok (.slice none 0 0) w) ∨ (0 < m ∧ ∃ g' cap' w', (Builtin.append_ #[T, T] ty #[.slice none 0 0, .slice a m cx]).run c.P w = .ok (.slice (some ⟨g', 0, none⟩) m cap') w' ∧ m ≤ cap' ∧ cap' ≤ 9223372036854775807 ∧
      Hp c.w0 c.B (⟨g', e, news, cap' * sz⟩ :: H) w') := by
  obtain ⟨inf, hi, hs⟩ := hsz.info
  obtain ⟨inf2, hi2, hzz⟩ := Option.bind_eq_some_iff.1 hz.h
  have e2 := Option.some.inj (hi2.symm.trans hi)
  subst e2
  obtain ⟨inf3, hi3, hbb⟩ := Option.map_eq_some_iff.1 hby.h
  have e3 := Option.some.inj (hi3.symm.trans hi)
  subst e3
  by_cases hm : m = 0
  · subst hm
    refine .inl ⟨rfl, ?_⟩
    have hnl : news = [] := List.eq_nil_of_length_eq_zero (by simpa using hn)
    cases a <;> simp [Builtin.append_, run_underlying hT.h, sizeOf_sz (T := e) (n := sz), Builtin.lenOf, Builtin.firstCells, loadCells, loadCellsFrom]
  · refine .inr ⟨by omega, ?_⟩
    cases a with
    | none =>
      have hnil := hr.nil rfl
      subst hnil
      have : m * sz = 0 := by simpa using hn.symm
      rcases Nat.mul_eq_zero.1 this with h | h <;> omega
    | some ad =>
      obtain ⟨v', w', hrun, h2, h3, h4, h5⟩ := run_append_own_at (P := c.P) w c.B T ty e _ z sz by_ hT.h hi hzz hs hbb hzs h0 _ 0 [] (World.ownsRow_nil w c.B e sz) ad m cx news hn (fun j u hu => hr.cell w hw ad rfl j u hu) hr.one (by unfold maxLen; omega) (by rw [Nat.zero_add]; exact hb) hw.lt
      rw [Nat.zero_add] at h2
      rw [List.nil_append] at h2
      rcases h2.2 with ⟨rfl, h6⟩ | ⟨g', cap', cur, rfl, hg', hcur, hle, hmax, hsize, htake⟩
      · exact absurd h6 hm
      · refine ⟨g', cap', w', hrun, hle, by unfold maxLen at hmax; exact hmax, ?_⟩
        refine hw.cons2 ⟨g', e, news, cap' * sz⟩ hg' ?_ ⟨cur, (0, 0), hcur, .inl ⟨rfl, hsize⟩, ?_⟩ ⟨h3.os, h3.tape, h3.output, h3.size, fun k hk => h3.block k (by have := hw.lt; omega) (fun he => by simp [Value.ownBlock] at he)⟩
          (fun x hx => h3.block x.g (hw.own x hx).2.lt (fun he => by simp [Value.ownBlock] at he))
        · have h5 : g' = w.heap.size := by simpa [Value.ownBlock] using h5
          exact hw.fresh (by rw [h5]; exact Nat.le_refl _)
        · dsimp only; rw [← htake]; exact List.take_prefix _ _

theorem hl_append [TSlc c.P T e] [TSz c.P e sz] [TByt c.P e by_] [TZero c.P e z] {n cap m cx : Nat} {a : Option Addr} {news : List Value} (hs : ev fr s = .slice (some ⟨g, 0, none⟩) n cap) (hx : ev fr x = .slice a m cx)
    (ht : Take H ⟨g, e, C, cap * sz⟩ F) (hC : C.length = n * sz) (hr : Rds c.w0 c.B H a news) (hn : news.length = m * sz) (hzs : z.cells.size = sz) (h0 : 0 < sz) (hcap : cap ≤ 9223372036854775807) (hb : (n + m) * by_ ≤ 140737488355328) (hmx : n + m ≤ 9223372036854775807) (hd : dOk c.n dst = true)
    (h : ∀ g' cap', n + m ≤ cap' → cap' ≤ 9223372036854775807 → HL c ops Q rest (updO fr dst (.slice (some ⟨g', 0, none⟩) (n + m) cap')) (⟨g', e, C ++ news, cap' * sz⟩ :: F)) (hnc : n ≤ cap := by omega) :
    HL c ops Q (⟨dst, .call { callee := .builtin .append, args := #[s, x], argTypes := #[T, T] }, ty, pos, after, none⟩ :: rest) fr H :=
  hl_some hd fun w hw => by
    obtain ⟨g', cap', w', h1, h2, h3, h4⟩ := run_append_ent (T := T) (e := e) (cx := cx) hw h0 hzs ht hC hcap hr hn hb hmx ty hnc
    exact ⟨_, w', _, by simp only [execOp, resolve, invoke, builtin, Sem.run_bind, Sem.run_pure, Result.andThen_ok, List.map_toArray, List.map_cons, List.map_nil, hs, hx, h1], h4, h g' cap' h2 h3⟩
theorem hl_append_nil [TSlc c.P T e] [TSz c.P e sz] [TByt c.P e by_] [TZero c.P e z] {m cx : Nat} {a : Option Addr} {news : List Value} (hs : ev fr s = .slice none 0 0) (hx : ev fr x = .slice a m cx)
    (hr : Rds c.w0 c.B H a news) (hn : news.length = m * sz) (hzs : z.cells.size = sz) (h0 : 0 < sz) (hb : m * by_ ≤ 140737488355328) (hmx : m ≤ 9223372036854775807) (hd : dOk c.n dst = true)
    (hz : m = 0 → HL c ops Q rest (updO fr dst (.slice none 0 0)) H)
    (h : 0 < m → ∀ g' cap', m ≤ cap' → cap' ≤ 9223372036854775807 → HL c ops Q rest (updO fr dst (.slice (some ⟨g', 0, none⟩) m cap')) (⟨g', e, news, cap' * sz⟩ :: H)) :
    HL c ops Q (⟨dst, .call { callee := .builtin .append, args := #[s, x], argTypes := #[T, T] }, ty, pos, after, none⟩ :: rest) fr H :=
  hl_some hd fun w hw => by
    rcases run_append_nil' (T := T) (e := e) (cx := cx) hw h0 hzs hr hn hb hmx ty with ⟨h1, h2⟩ | ⟨h1, g', cap', w', h2, h3, h4, h5⟩
    · exact ⟨_, w, _, by simp only [execOp, resolve, invoke, builtin, Sem.run_bind, Sem.run_pure, Result.andThen_ok, List.map_toArray, List.map_cons, List.map_nil, hs, hx, h2], hw, hz h1⟩
    · exact ⟨_, w', _, by simp only [execOp, resolve, invoke, builtin, Sem.run_bind, Sem.run_pure, Result.andThen_ok, List.map_toArray, List.map_cons, List.map_nil, hs, hx, h2], h5, h h1 g' cap' h3 h4⟩

/-- A slice that is nil, or a row of the call's own. -/
def Own (e : TypeId) (sz : Nat) (v : Value) (n : Nat) (C : List Value) (F H : List Ent) : Prop :=
  (v = .slice none 0 0 ∧ n = 0 ∧ C = [] ∧ H.Perm F) ∨ ∃ g cap, v = .slice (some ⟨g, 0, none⟩) n cap ∧ n ≤ cap ∧ cap ≤ 9223372036854775807 ∧ C.length = n * sz ∧ H.Perm (⟨g, e, C, cap * sz⟩ :: F)
theorem Own.nil : Own e sz (.slice none 0 0) 0 [] H H := .inl ⟨rfl, rfl, rfl, List.Perm.refl _⟩
theorem Own.mk {n cap : Nat} (h1 : n ≤ cap) (h2 : cap ≤ 9223372036854775807) (h3 : C.length = n * sz) (hp : H.Perm (⟨g, e, C, cap * sz⟩ :: F)) : Own e sz (.slice (some ⟨g, 0, none⟩) n cap) n C F H :=
  .inr ⟨g, cap, rfl, h1, h2, h3, hp⟩
theorem Own.len {v : Value} {n : Nat} (h : Own e sz v n C F H) : C.length = n * sz := by
  rcases h with ⟨_, h1, h2, _⟩ | ⟨_, _, _, _, _, h, _⟩
  · subst h1 h2; simp
  · exact h
theorem Own.form {v : Value} {n : Nat} (h : Own e sz v n C F H) : ∃ a cap, v = .slice a n cap ∧ n ≤ cap ∧ cap ≤ 9223372036854775807 := by
  rcases h with ⟨h1, h2, _, _⟩ | ⟨g, cap, h1, h2, h3, _⟩
  · exact ⟨none, 0, by rw [h1, h2], by omega, by omega⟩
  · exact ⟨_, cap, h1, h2, h3⟩
theorem Own.posn {v : Value} {n : Nat} (h : Own e sz v n C F H) (hn : 0 < n) : ∃ g cap, v = .slice (some ⟨g, 0, none⟩) n cap ∧ n ≤ cap ∧ cap ≤ 9223372036854775807 ∧ C.length = n * sz ∧ H.Perm (⟨g, e, C, cap * sz⟩ :: F) := by
  rcases h with ⟨_, h, _⟩ | h
  · omega
  · exact h
theorem Own.perm {v : Value} {n : Nat} {H' : List Ent} (h : Own e sz v n C F H) (hp : H'.Perm H) : Own e sz v n C F H' := by
  rcases h with ⟨h1, h2, h3, h4⟩ | ⟨g, cap, h1, h2, h3, h4, h5⟩
  · exact .inl ⟨h1, h2, h3, hp.trans h4⟩
  · exact .inr ⟨g, cap, h1, h2, h3, h4, hp.trans h5⟩
theorem Own.permF {v : Value} {n : Nat} {F' : List Ent} (h : Own e sz v n C F H) (hp : F.Perm F') : Own e sz v n C F' H := by
  rcases h with ⟨h1, h2, h3, h4⟩ | ⟨g, cap, h1, h2, h3, h4, h5⟩
  · exact .inl ⟨h1, h2, h3, h4.trans hp⟩
  · exact .inr ⟨g, cap, h1, h2, h3, h4, h5.trans (hp.cons _)⟩
theorem Own.under {v : Value} {n : Nat} (h : Own e sz v n C F H) (x : Ent) : Own e sz v n C (x :: F) (x :: H) := by
  rcases h with ⟨h1, h2, h3, h4⟩ | ⟨g, cap, h1, h2, h3, h4, h5⟩
  · exact .inl ⟨h1, h2, h3, h4.cons _⟩
  · exact .inr ⟨g, cap, h1, h2, h3, h4, (h5.cons _).trans (List.Perm.swap _ _ _)⟩
theorem Own.rds {a : Option Addr} {n cap : Nat} (h : Own e sz (.slice a n cap) n C F H) (h1 : ∀ u ∈ C, u.oneCell' = true) : Rds c.w0 c.B H a C := by
  rcases h with ⟨h2, h3, h4, h5⟩ | ⟨g, cap', h2, _, _, h3, h4⟩
  · cases h2; subst h4; exact ⟨fun _ _ _ h => (by cases h), fun _ => rfl, fun _ h => (by cases h)⟩
  · cases h2
    exact (Rds.ent (i := 0) (n := C.length) .here (by simp) h1).perm h4
theorem Own.hp {v : Value} {n : Nat} (h : Own e sz v n C F H) {w0 w : World} {B : Nat} (hw : Hp w0 B H w) : Hp w0 B F w := by
  rcases h with ⟨_, _, _, h⟩ | ⟨g, cap, _, _, _, _, h⟩
  · exact hw.perm h
  · exact (hw.perm h).drop
theorem HC.perm {code : Code} {H' : List Ent} (h : HC c code Q fr H') (hp : H.Perm H') : HC c code Q fr H := ⟨fun a w hs hw => h.of a w hs (hw.perm hp)⟩
theorem HL.perm {l : List Oper} {H' : List Ent} (h : HL c ops Q l fr H') (hp : H.Perm H') : HL c ops Q l fr H := ⟨fun a w hs hw => h.of a w hs (hw.perm hp)⟩
theorem HC.drop {code : Code} {x : Ent} (h : HC c code Q fr H) : HC c code Q fr (x :: H) := ⟨fun a w hs hw => h.of a w hs hw.drop⟩
theorem HL.drop {l : List Oper} {x : Ent} (h : HL c ops Q l fr H) : HL c ops Q l fr (x :: H) := ⟨fun a w hs hw => h.of a w hs hw.drop⟩
theorem HL.keep {l : List Oper} {x : Ent} (h : HL c ops Q l fr H) {H' : List Ent} (t : Take H' x H) : HL c ops Q l fr H' := h.drop.perm t.perm
theorem HC.keep {code : Code} {x : Ent} (h : HC c code Q fr H) {H' : List Ent} (t : Take H' x H) : HC c code Q fr H' := h.drop.perm t.perm
theorem hl_append_own [TSlc c.P T e] [TSz c.P e sz] [TByt c.P e by_] [TZero c.P e z] {n m cx : Nat} {v : Value} {a : Option Addr} {news : List Value} (hs : ev fr s = v) (hx : ev fr x = .slice a m cx)
    (ho : Own e sz v n C F H) (hr : Rds c.w0 c.B H a news) (hn : news.length = m * sz) (hzs : z.cells.size = sz) (h0 : 0 < sz) (hb : (n + m) * by_ ≤ 140737488355328) (hmx : n + m ≤ 9223372036854775807) (hd : dOk c.n dst = true)
    (h : ∀ v' H', Own e sz v' (n + m) (C ++ news) F H' → HL c ops Q rest (updO fr dst v') H') :
    HL c ops Q (⟨dst, .call { callee := .builtin .append, args := #[s, x], argTypes := #[T, T] }, ty, pos, after, none⟩ :: rest) fr H := by
  rcases ho with ⟨rfl, rfl, rfl, hp⟩ | ⟨g, cap, rfl, h1, h2, h3, hp⟩
  · simp only [Nat.zero_add] at hb hmx h
    refine hl_append_nil hs hx hr hn hzs h0 hb hmx hd (fun h1 => ?_) (fun h1 g' cap' h2 h3 => ?_)
    · subst h1
      have : news = [] := List.eq_nil_of_length_eq_zero (by simpa using hn)
      subst this
      exact h _ _ (.inl ⟨rfl, rfl, rfl, hp⟩)
    · exact h _ _ (.inr ⟨g', cap', rfl, h2, h3, by rw [List.nil_append]; exact hn, by rw [List.nil_append]; exact hp.cons _⟩)
  · exact (hl_append (hnc := h1) hs hx .here h3 (hr.perm hp.symm) hn hzs h0 h2 hb hmx hd fun g' cap' h4 h5 => h _ _ (.inr ⟨g', cap', rfl, h4, h5, by rw [List.length_append, h3, hn, Nat.add_mul], List.Perm.refl _⟩)).perm hp
/-- Something is appended: the row is told. -/
theorem hl_append_own1 [TSlc c.P T e] [TSz c.P e sz] [TByt c.P e by_] [TZero c.P e z] {n m cx : Nat} {v : Value} {a : Option Addr} {news : List Value} (hs : ev fr s = v) (hx : ev fr x = .slice a m cx)
    (ho : Own e sz v n C F H) (hr : Rds c.w0 c.B H a news) (hn : news.length = m * sz) (hzs : z.cells.size = sz) (h0 : 0 < sz) (hm : 0 < m) (hb : (n + m) * by_ ≤ 140737488355328) (hmx : n + m ≤ 9223372036854775807) (hd : dOk c.n dst = true)
    (h : ∀ g' cap', n + m ≤ cap' → cap' ≤ 9223372036854775807 → HL c ops Q rest (updO fr dst (.slice (some ⟨g', 0, none⟩) (n + m) cap')) (⟨g', e, C ++ news, cap' * sz⟩ :: F)) :
    HL c ops Q (⟨dst, .call { callee := .builtin .append, args := #[s, x], argTypes := #[T, T] }, ty, pos, after, none⟩ :: rest) fr H :=
  hl_append_own hs hx ho hr hn hzs h0 hb hmx hd fun v' H' h1 => by
    obtain ⟨g', cap', rfl, h2, h3, h4, h5⟩ := h1.posn (by omega)
    exact (h g' cap' h2 h3).perm h5

theorem hl_make [hT : TSlc c.P T e] [hsz : TSz c.P e sz] [hby : TByt c.P e by_] [hz : TZero c.P e z] {n : Nat} (hx : ev fr x = .int .i64 (n : Int)) (hy : ev fr y = .int .i64 (n : Int)) (hb : by_ * n ≤ 281474976710656) (hmx : n ≤ 9223372036854775807) (hd : dOk c.n dst = true)
    (h : ∀ g, HL c ops Q rest (updO fr dst (.slice (some ⟨g, 0, none⟩) n n)) (⟨g, e, (madeCells z.cells (n * sz)).toList, n * sz⟩ :: H)) :
    HL c ops Q (⟨dst, .makeSlice T x y, ty, pos, after, none⟩ :: rest) fr H :=
  hl_some hd fun w hw => by
    obtain ⟨inf, hi, hs⟩ := hsz.info
    obtain ⟨inf2, hi2, hzz⟩ := Option.bind_eq_some_iff.1 hz.h
    have e2 := Option.some.inj (hi2.symm.trans hi)
    subst e2
    obtain ⟨inf3, hi3, hbb⟩ := Option.map_eq_some_iff.1 hby.h
    have e3 := Option.some.inj (hi3.symm.trans hi)
    subst e3
    have hb' : (inf3.bytes : Int) * (n : Int) ≤ 281474976710656 := by
      rw [hbb]
      have h1 : ((by_ * n : Nat) : Int) ≤ 281474976710656 := by omega
      rwa [Int.natCast_mul] at h1
    have hr := run_make (P := c.P) w T e _ z hT.h hi hzz .i64 .i64 n n (by omega) (by omega) hb' (by omega)
    rw [hs, Int.toNat_natCast] at hr
    exact ⟨_, _, _, by simp [execOp, hx, hy, hr], hw.new _ e _ (n * sz) (List.prefix_refl _) (by rw [size_madeCells]), h _⟩
theorem hl_make1 [TSlc c.P T e] [TSz c.P e 1] [TByt c.P e by_] [TZero c.P e z] {n : Nat} {z0 : Value} (hx : ev fr x = .int .i64 (n : Int)) (hy : ev fr y = .int .i64 (n : Int)) (hz0 : z.cells.toList = [z0]) (hb : by_ * n ≤ 281474976710656) (hmx : n ≤ 9223372036854775807) (hd : dOk c.n dst = true)
    (h : ∀ g, HL c ops Q rest (updO fr dst (.slice (some ⟨g, 0, none⟩) n n)) (⟨g, e, List.replicate n z0, n * 1⟩ :: H)) :
    HL c ops Q (⟨dst, .makeSlice T x y, ty, pos, after, none⟩ :: rest) fr H :=
  hl_make hx hy hb hmx hd fun g => by rw [made_one hz0 rfl, Nat.mul_one]; simpa using h g

theorem hl_extract {vs : List Value} {i : Nat} {v : Value} [Stp c ops S] (hx : ev fr x = .tuple vs.toArray) (hv : vs[i]? = some v) (hd : dOk c.n dst = true) (h : S rest (updO fr dst v) H) :
    S (⟨dst, .extract x i, ty, pos, after, none⟩ :: rest) fr H :=
  hl_pure hd v (fun w _ => by simp [execOp, hx, Instr.extract, hv]) h
theorem hl_index {vs : List Value} {n m : Nat} {ik : IntKind} {j : Int} {v : Value} [Stp c ops S] [hT : TArr c.P T n e] [TOne c.P e] [TSz c.P e 1] (hx : ev fr x = .agg vs.toArray) (hy : ev fr y = .int ik j) (hj : j = (m : Int)) (hm : m < n) (hv : vs[m]? = some v) (hd : dOk c.n dst = true) (h : S rest (updO fr dst v) H) :
    S (⟨dst, .index T x y, ty, pos, after, none⟩ :: rest) fr H :=
  hl_pure hd v (fun w _ => by
    subst hj
    have h1 : (m : Int) < (n : Int) := by omega
    simp [execOp, hx, hy, Instr.index, asIntOf, run_underlying hT.h, h1, hm, sizeOf_sz (T := e) (n := 1), part, isAgg_one (T := e), hv]) h
theorem hl_min {k' : IntKind} {a b : Int} {ts : Array TypeId} [Stp c ops S] (hx : ev fr x = .int k' a) (hy : ev fr y = .int k' b) (hd : dOk c.n dst = true) (h : S rest (updO fr dst (.int k' (min a b))) H) :
    S (⟨dst, .call { callee := .builtin .min, args := #[x, y], argTypes := ts }, ty, pos, after, none⟩ :: rest) fr H :=
  hl_pure hd _ (fun w _ => by
    have : (if b < a then b else a) = min a b := by split <;> omega
    simp [execOp, resolve, invoke, builtin, Builtin.min_, Builtin.min2, hx, hy, this]) h
theorem hl_max {k' : IntKind} {a b : Int} {ts : Array TypeId} [Stp c ops S] (hx : ev fr x = .int k' a) (hy : ev fr y = .int k' b) (hd : dOk c.n dst = true) (h : S rest (updO fr dst (.int k' (max a b))) H) :
    S (⟨dst, .call { callee := .builtin .max, args := #[x, y], argTypes := ts }, ty, pos, after, none⟩ :: rest) fr H :=
  hl_pure hd _ (fun w _ => by
    have : (if b > a then b else a) = max a b := by split <;> omega
    have h2 : (if a < b then b else a) = max a b := by split <;> omega
    simp [execOp, resolve, invoke, builtin, Builtin.max_, Builtin.max2, hx, hy, this, h2]) h
/-- 's[i:j]', of a slice that is not nil. -/
theorem hl_slice {b off len cap i j : Nat} {lo hi : Option Operand} {ki kj : IntKind} [hT : TSlc c.P T e] [TSz c.P e sz] [Stp c ops S] (hx : ev fr x = .slice (some ⟨b, off, none⟩) len cap)
    (hlo : match lo with | some o => ev fr o = .int ki (i : Int) | none => i = 0) (hhi : match hi with | some o => ev fr o = .int kj (j : Int) | none => j = len) (hij : i ≤ j) (hj : j ≤ cap) (hd : dOk c.n dst = true)
    (h : ∀ off', (i < cap → off' = off + i * sz) → S rest (updO fr dst (.slice (some ⟨b, off', none⟩) (j - i) (cap - i))) H) :
    S (⟨dst, .slice T x lo hi none, ty, pos, after, none⟩ :: rest) fr H := by
  refine hl_pure hd _ (fun w _ => ?_) (h (if cap = i then off else off + i * sz) (fun h => by rw [if_neg (by omega)]))
  have h1 : ((i : Int) ≤ (j : Int)) := by omega
  have h2 : ((j : Int) ≤ (cap : Int)) := by omega
  have h3 : (0 : Int) ≤ (i : Int) := by omega
  have h4 : (0 : Int) ≤ (j : Int) := by omega
  have hb : (Instr.sliceBounds true len cap (lo.map (ev fr)) (hi.map (ev fr)) none).run c.P w = .ok (i, j, cap) w := by
    cases hi with
    | none =>
      dsimp only at hhi; subst hhi
      cases lo with
      | none => dsimp only at hlo; subst hlo; simp [Instr.sliceBounds]
      | some o => dsimp only at hlo; simp [Instr.sliceBounds, Instr.sliceBound, asIntOf, hlo, hij]
    | some o2 =>
      dsimp only at hhi
      cases lo with
      | none => dsimp only at hlo; subst hlo; simp [Instr.sliceBounds, Instr.sliceBound, asIntOf, hhi, hj]
      | some o => dsimp only at hlo; simp [Instr.sliceBounds, Instr.sliceBound, asIntOf, hlo, hhi, hij, hj]
  have hs : (Instr.sliceAt T (ev fr x) (lo.map (ev fr)) (hi.map (ev fr)) none).run c.P w = .ok (.slice (some ⟨b, (if cap = i then off else off + i * sz), none⟩) (j - i) (cap - i)) w := by
    simp only [Instr.sliceAt, Instr.slice, Sem.run_bind, run_underlying hT.h, Result.andThen_ok, hx, hb, sizeOf_sz (T := e) (n := sz), Sem.run_pure]
    by_cases hc : cap = i
    · simp [hc]
    · simp [hc, Addr.add_lit]
  simp [execOp, hs]
end

end Go.Proofs.Ytoobhebbgbhahaa
