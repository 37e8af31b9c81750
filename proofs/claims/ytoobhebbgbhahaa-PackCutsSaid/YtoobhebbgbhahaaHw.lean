/-
  A way of walking: the frame is a function, the memory of the call's own is a list of blocks, the world is not named. No condition.
-/
import Derived.Test.YtoobhebbgbhahaaBase
import Derived.Maps.AppendAt
import Derived.StillTailTactics
import Derived.Deep.LoopGhost
namespace Go.Proofs.Ytoobhebbgbhahaa
open Go.RowKit

/-! Frames -/
abbrev Fr := Nat → Value
def upd (fr : Fr) (d : Nat) (v : Value) : Fr := fun t => if t = d then v else fr t
def updO (fr : Fr) : Option Nat → Value → Fr
  | some d, v => upd fr d v
  | none, _ => fr
def ev (fr : Fr) : Operand → Value
  | .tmp t => fr t
  | .const v => v
  | .global g => .pointer (some ⟨g, 0, none⟩)
  | .func f => .func (.func f) #[] #[]
def evs (fr : Fr) : List Operand → List Value
  | [] => []
  | x :: l => ev fr x :: evs fr l
theorem evs_eq (fr : Fr) (l : List Operand) : evs fr l = l.map (ev fr) := by induction l <;> simp [evs, *]

/-- A frame of which some slots are told. -/
def ofL : List (Nat × Value) → Fr → Fr
  | [], b => b
  | (t, v) :: l, b => fun s => if s = t then v else ofL l b s
def Agr (fr : Fr) : List (Nat × Value) → Prop
  | [] => True
  | (t, v) :: l => fr t = v ∧ Agr fr l
theorem Agr.base {fr : Fr} : ∀ {l : List (Nat × Value)}, Agr fr l → fr = ofL l fr
  | [], _ => rfl
  | (t, v) :: l, h => by
    funext s
    unfold ofL
    by_cases e : s = t
    · rw [if_pos e, e]; exact h.1
    · rw [if_neg e]; exact congrFun (Agr.base h.2) s
theorem Agr.out {fr : Fr} {l : List (Nat × Value)} (h : Agr fr l) : ∃ b, fr = ofL l b := ⟨fr, h.base⟩
/-- The frame at the beginning: the arguments, from slot 0 on. -/
def argFr : List Value → Fr
  | [], _ => undef
  | v :: l, t => match t with | 0 => v | t + 1 => argFr l t
theorem argFr_eq : ∀ (l : List Value) (t : Nat), argFr l t = l.getD t undef
  | [], t => by simp [argFr]
  | v :: l, 0 => by simp [argFr]
  | v :: l, t + 1 => by simp [argFr, argFr_eq l t]

structure Sees (n : Nat) (a : Act) (fr : Fr) : Prop where
  defers : a.defers = []
  size : a.tmps.size = n
  slot : ∀ t, a.tmps.getD t undef = fr t

theorem Sees.eval {n : Nat} {a : Act} {fr : Fr} (h : Sees n a fr) : a.eval = ev fr := by
  funext x
  cases x with
  | tmp t => exact h.slot t
  | _ => rfl
def dOk (n : Nat) : Option Nat → Bool
  | none => true
  | some d => Nat.blt d n
theorem Sees.put {n : Nat} {a : Act} {fr : Fr} (h : Sees n a fr) {dst : Option Nat} (hd : dOk n dst = true) (v : Value) : Sees n (a.put dst v) (updO fr dst v) := by
  cases dst with
  | none => exact h
  | some d =>
    have hd : d < n := by simpa [dOk] using hd
    refine ⟨h.defers, by simpa [Act.put] using h.size, fun t => ?_⟩
    have := h.slot t
    have hs := h.size
    simp only [Array.getD_eq_getD_getElem?] at this
    simp only [Act.put, updO, upd, Array.getD_eq_getD_getElem?, Array.getElem?_setIfInBounds]
    by_cases e : d = t
    · subst e; simp [hs, hd]
    · rw [if_neg e, if_neg (fun h => e h.symm)]; exact this

/-! Memory -/
/-- A block of the call's own: its first cells are C; it has k cells. -/
structure Ent where
  g : Nat
  T : TypeId
  C : List Value
  k : Nat
def Ent.holds (w : World) (e : Ent) : Prop := ∃ (A : Array Value) (m : Nat × Nat), w.heap[e.g]? = some (.cells A e.T m) ∧ ((m = (0, 0) ∧ A.size = e.k) ∨ (e.k = 0 ∧ e.C ≠ [] ∧ A.size ≤ m.1)) ∧ e.C <+: A.toList
structure Hp (w0 : World) (B : Nat) (H : List Ent) (w : World) : Prop where
  below : Below B w0 w
  lt : B ≤ w.heap.size
  nodup : (H.map Ent.g).Nodup
  own : ∀ e ∈ H, B ≤ e.g ∧ e.holds w

theorem Ent.holds.lt {w : World} {e : Ent} (h : e.holds w) : e.g < w.heap.size := by
  obtain ⟨A, m, h1, _⟩ := h
  rcases Nat.lt_or_ge e.g w.heap.size with h2 | h2
  · exact h2
  · rw [Array.getElem?_eq_none h2] at h1; cases h1
theorem Ent.holds.of_block {w w' : World} {e : Ent} (h : e.holds w) (hb : w'.heap[e.g]? = w.heap[e.g]?) : e.holds w' := by
  obtain ⟨A, m, h1, h2⟩ := h
  exact ⟨A, m, hb.trans h1, h2⟩
theorem Hp.perm {w0 w : World} {B : Nat} {H H' : List Ent} (h : Hp w0 B H w) (hp : H.Perm H') : Hp w0 B H' w :=
  ⟨h.below, h.lt, (hp.map _).nodup_iff.1 h.nodup, fun e he => h.own e (hp.mem_iff.2 he)⟩
theorem Hp.start (w : World) : Hp w w.heap.size [] w := ⟨Below.refl _ _, Nat.le_refl _, by simp, fun e he => by cases he⟩
theorem Hp.drop {w0 w : World} {B : Nat} {e : Ent} {H : List Ent} (h : Hp w0 B (e :: H) w) : Hp w0 B H w :=
  ⟨h.below, h.lt, (List.nodup_cons.1 h.nodup).2, fun x hx => h.own x (by simp [hx])⟩
/-- Whatever turns no block that was there leaves all as it was. -/
theorem Hp.grow {w0 w w' : World} {B : Nat} {H : List Ent} (h : Hp w0 B H w) (hb : Below w.heap.size w w') : Hp w0 B H w' :=
  ⟨h.below.trans (hb.mono h.lt), Nat.le_trans h.lt hb.size, h.nodup, fun e he => ⟨(h.own e he).1, (h.own e he).2.of_block (hb.block _ (h.own e he).2.lt)⟩⟩
/-- A block is written, or a new one made. -/
theorem Hp.cons {w0 w w' : World} {B : Nat} {H : List Ent} (h : Hp w0 B H w) (e : Ent) (hB : B ≤ e.g) (hn : e.g ∉ H.map Ent.g) (he : e.holds w') (hb : Below B w w')
    (hk : ∀ k, k < w.heap.size → k ≠ e.g → w'.heap[k]? = w.heap[k]?) : Hp w0 B (e :: H) w' :=
  ⟨h.below.trans hb, Nat.le_trans h.lt hb.size, List.nodup_cons.2 ⟨hn, h.nodup⟩, fun x hx => by
    rcases List.mem_cons.1 hx with rfl | hx
    · exact ⟨hB, he⟩
    · have hlt := (h.own x hx).2.lt
      refine ⟨(h.own x hx).1, (h.own x hx).2.of_block (hk _ hlt fun e => hn (e ▸ List.mem_map_of_mem hx))⟩⟩
theorem Hp.new {w0 w : World} {B : Nat} {H : List Ent} (h : Hp w0 B H w) (A : Array Value) (T : TypeId) (C : List Value) (k : Nat) (hC : C <+: A.toList) (hk : A.size = k) :
    Hp w0 B (⟨w.heap.size, T, C, k⟩ :: H) (w.alloc (.cells A T)) :=
  h.cons ⟨w.heap.size, T, C, k⟩ h.lt (fun hm => by obtain ⟨x, hx, e⟩ := List.mem_map.1 hm; have := (h.own x hx).2.lt; rw [e] at this; exact absurd this (Nat.lt_irrefl _))
    ⟨A, (0, 0), heap_alloc_new w _, .inl ⟨rfl, hk⟩, hC⟩ ((Below.refl _ _).alloc h.lt _) (fun j hj _ => Below.heap_alloc w _ j hj)
theorem Hp.notin {w0 w : World} {B : Nat} {e : Ent} {H : List Ent} (h : Hp w0 B (e :: H) w) : e.g ∉ H.map Ent.g := (List.nodup_cons.1 h.nodup).1
/-- A block's cells are written. -/
theorem Hp.row {w0 w : World} {B : Nat} {g T k : Nat} {C : List Value} {H : List Ent} (h : Hp w0 B (⟨g, T, C, k⟩ :: H) w) (A : Array Value) (C' : List Value) (hk : ∀ A0 m, w.heap[g]? = some (.cells A0 T m) → (m = (0, 0) ∧ A.size = k) ∨ (k = 0 ∧ C' ≠ [] ∧ A.size ≤ m.1)) (hC : C' <+: A.toList) :
    Hp w0 B (⟨g, T, C', k⟩ :: H) (w.setRow g A) := by
  obtain ⟨hB, A0, m, h0, _, _⟩ := h.own _ (List.mem_cons_self ..)
  exact h.drop.cons ⟨g, T, C', k⟩ hB h.notin ⟨A, m, setRow_heap w g A0 A T _ h0, hk A0 m h0, hC⟩ (below_row (Below.refl _ _) hB A) (fun j _ hj => setRow_other w g j A hj)

/-- One block taken out of the list. -/
inductive Take : List Ent → Ent → List Ent → Prop
  | here {e : Ent} {H : List Ent} : Take (e :: H) e H
  | there {x e : Ent} {H H' : List Ent} (h : Take H e H') : Take (x :: H) e (x :: H')
theorem Take.perm {H H' : List Ent} {e : Ent} (h : Take H e H') : H.Perm (e :: H') := by
  induction h with
  | here => exact List.Perm.refl _
  | there _ ih => exact (List.Perm.cons _ ih).trans (List.Perm.swap _ _ _)
theorem Take.mem {H H' : List Ent} {e : Ent} (h : Take H e H') : e ∈ H := h.perm.mem_iff.2 (List.mem_cons_self ..)
theorem Hp.take {w0 w : World} {B : Nat} {H H' : List Ent} {e : Ent} (h : Hp w0 B H w) (t : Take H e H') : Hp w0 B (e :: H') w := h.perm t.perm
theorem Ent.holds.cell {w : World} {g T k : Nat} {C : List Value} (h : Ent.holds w ⟨g, T, C, k⟩) {i : Nat} {v : Value} (hi : C[i]? = some v) : w.cell? ⟨g, i, none⟩ = some v := by
  obtain ⟨A, m, h1, h2, h3⟩ := h
  rw [cell_of_row w g i A T m h1, ← Array.getElem?_toList]
  obtain ⟨S, hS⟩ := h3
  rw [← hS, List.getElem?_append_left]
  · exact hi
  · exact (List.getElem?_eq_some_iff.1 hi).1

/-! What is shown of code -/
abbrev Pst := Exit → Fr → List Ent → Prop
def lft (n : Nat) (w0 : World) (B : Nat) (Q : Pst) : Exit → Act → World → Prop := fun e a w => ∃ fr H, Sees n a fr ∧ Hp w0 B H w ∧ Q e fr H
structure Cx where
  P : Program
  n : Nat
  w0 : World
  B : Nat
structure HC (c : Cx) (code : Code) (Q : Pst) (fr : Fr) (H : List Ent) : Prop where
  of : ∀ a w, Sees c.n a fr → Hp c.w0 c.B H w → code.wp c.P (lft c.n c.w0 c.B Q) a w
structure HL (c : Cx) (ops : Array Oper) (Q : Pst) (l : List Oper) (fr : Fr) (H : List Ent) : Prop where
  of : ∀ a w, Sees c.n a fr → Hp c.w0 c.B H w → wpList c.P ops (lft c.n c.w0 c.B Q) l a w
/-- A call: what it hands back, and the memory behind it. -/
structure Fn (P : Program) (w0 : World) (B : Nat) (f : FuncId) (args : List Value) (H : List Ent) (R : Value → List Ent → Prop) : Prop where
  fn : ∃ fn, P.funcs[f]? = some fn ∧ (fn.name == "runtime.NumGoroutine") = false ∧ fn.body.isNone = false
  run : ∀ w, Hp w0 B H w → Calls P f args.toArray w fun e w' => ∃ v H', e = .returned v ∧ Hp w0 B H' w' ∧ R v H'

def thn (K : Fr → List Ent → Prop) (Q : Pst) : Pst
  | .normal, fr, H => K fr H
  | e, fr, H => Q e fr H
def inB (id : Nat) (Q : Pst) : Pst
  | .exit j, fr, H => if j = id then Q .normal fr H else Q (.exit j) fr H
  | e, fr, H => Q e fr H

section
variable {c : Cx} {Q : Pst} {fr : Fr} {H : List Ent}
theorem HC.mono {code : Code} {Q' : Pst} (h : HC c code Q fr H) (hq : ∀ e fr H, Q e fr H → Q' e fr H) : HC c code Q' fr H :=
  ⟨fun a w hs hh => wp_mono (h.of a w hs hh) fun e a w ⟨f, h, x, y, z⟩ => ⟨f, h, x, y, hq _ _ _ z⟩⟩
theorem hc_seq {x y : Code} (h : HC c x (thn (HC c y Q) Q) fr H) : HC c (.seq x y) Q fr H := ⟨fun a w hs hh =>
  wp_seq (wp_mono (h.of a w hs hh) fun e a w ⟨f, k, x, y, z⟩ => by
    cases e with
    | normal => exact z.of a w x y
    | _ => exact ⟨f, k, x, y, z⟩)⟩
theorem hc_skip (h : Q .normal fr H) : HC c .skip Q fr H := ⟨fun _ _ hs hh => wp_skip ⟨_, _, hs, hh, h⟩⟩
theorem hc_ret (h : Q .ret fr H) : HC c .ret Q fr H := ⟨fun _ _ hs hh => wp_ret ⟨_, _, hs, hh, h⟩⟩
theorem hc_exit {id : Nat} (h : Q (.exit id) fr H) : HC c (.exit id) Q fr H := ⟨fun _ _ hs hh => wp_exit ⟨_, _, hs, hh, h⟩⟩
theorem hc_block {id : Nat} {b : Code} (h : HC c b (inB id Q) fr H) : HC c (.block id b) Q fr H := ⟨fun a w hs hh =>
  wp_block (wp_mono (h.of a w hs hh) fun e a w ⟨f, k, x, y, z⟩ => by
    cases e with
    | exit j =>
      unfold Exit.inBlock
      by_cases e : j = id
      · simp only [e, if_true]; refine ⟨f, k, x, y, ?_⟩; simpa [inB, e] using z
      · simp only [e, if_false]; refine ⟨f, k, x, y, ?_⟩; simpa [inB, e] using z
    | _ => exact ⟨f, k, x, y, z⟩)⟩
theorem hc_cond {x : Operand} {t e : Code} {b : Bool} (hx : ev fr x = .bool b) (h1 : b = true → HC c t Q fr H) (h2 : b = false → HC c e Q fr H) : HC c (.cond x t e) Q fr H := ⟨fun a w hs hh =>
  wp_cond_split (t := b) (by rw [hs.eval]; exact hx) (fun h => (h1 h).of a w hs hh) (fun h => (h2 h).of a w hs hh)⟩
theorem hc_true {x : Operand} {t e : Code} (hx : ev fr x = .bool true) (h1 : HC c t Q fr H) : HC c (.cond x t e) Q fr H := hc_cond hx (fun _ => h1) (fun h => by cases h)
theorem hc_false {x : Operand} {t e : Code} (hx : ev fr x = .bool false) (h1 : HC c e Q fr H) : HC c (.cond x t e) Q fr H := hc_cond hx (fun h => by cases h) (fun _ => h1)
/-- A loop: what holds at each round's head, by a number that every round lowers. -/
theorem hc_loop {b : Code} (I : Nat → Fr → List Ent → Prop) (m : Nat) (h0 : I m fr H)
    (round : ∀ m fr H, I m fr H → HC c b (thn (fun fr H => ∃ m', m' < m ∧ I m' fr H) Q) fr H) : HC c (.loop b) Q fr H := by
  constructor
  intro a w hs hh
  refine wp_loop_ghost (fun m a w => ∃ fr H, Sees c.n a fr ∧ Hp c.w0 c.B H w ∧ I m fr H) m ⟨fr, H, hs, hh, h0⟩ ?_
  rintro m a w ⟨fr, H, hs, hh, hI⟩
  refine wp_mono ((round m fr H hI).of a w hs hh) fun e a' w' ⟨f, k, x, y, z⟩ => ?_
  cases e with
  | normal => obtain ⟨m', hlt, hI'⟩ := z; exact ⟨m', hlt, f, k, x, y, hI'⟩
  | _ => exact ⟨f, k, x, y, z⟩
theorem hc_region {id : Nat} {l : List Oper} (h : HL c l.toArray Q l fr H) : HC c (.region id l.toArray false) Q fr H := ⟨fun a w hs hh => wp_region_lit (h.of a w hs hh)⟩
end

/-! Operations -/
section
variable {c : Cx} {Q : Pst} {fr : Fr} {H : List Ent} {ops : Array Oper} {rest : List Oper} {dst : Option Nat} {ty : TypeId} {pos : String} {after : Array Edge}
theorem hl_nil (h : Q .normal fr H) : HL c ops Q [] fr H := ⟨fun _ _ hs hh => ⟨_, _, hs, hh, h⟩⟩
theorem hl_nil_thn {K : Fr → List Ent → Prop} (h : K fr H) : HL c ops (thn K Q) [] fr H := hl_nil h
/-- An operation that gives a value and leaves the world. -/
theorem hl_pure0 {op : Op} (hd : dOk c.n dst = true) (v : Value)
    (h : ∀ w, Hp c.w0 c.B H w → (execOp (ev fr) ⟨dst, op, ty, pos, after, none⟩).run c.P w = .ok (.value v) w)
    (k : HL c ops Q rest (updO fr dst v) H) : HL c ops Q (⟨dst, op, ty, pos, after, none⟩ :: rest) fr H := ⟨fun a w hs hh =>
  wpList_plain rfl fun K hK => by
    unfold Oper.wp
    rw [hs.eval, h w hh]
    exact hK _ _ (k.of _ _ (hs.put hd v) hh)⟩
/-- An operation whose value and world the memory behind it tells. -/
theorem hl_some {op : Op} (hd : dOk c.n dst = true)
    (h : ∀ w, Hp c.w0 c.B H w → ∃ v w' H', (execOp (ev fr) ⟨dst, op, ty, pos, after, none⟩).run c.P w = .ok (.value v) w' ∧ Hp c.w0 c.B H' w' ∧ HL c ops Q rest (updO fr dst v) H') :
    HL c ops Q (⟨dst, op, ty, pos, after, none⟩ :: rest) fr H := ⟨fun a w hs hh =>
  wpList_plain rfl fun K hK => by
    obtain ⟨v, w', H', h1, h2, h3⟩ := h w hh
    unfold Oper.wp
    rw [hs.eval, h1]
    exact hK _ _ (h3.of _ _ (hs.put hd v) h2)⟩
theorem hl_skipv {op : Op} (hd : dOk c.n dst = true)
    (h : ∀ w, Hp c.w0 c.B H w → ∃ w' H', (execOp (ev fr) ⟨dst, op, ty, pos, after, none⟩).run c.P w = .ok .skip w' ∧ Hp c.w0 c.B H' w' ∧ HL c ops Q rest (updO fr dst undef) H') :
    HL c ops Q (⟨dst, op, ty, pos, after, none⟩ :: rest) fr H := ⟨fun a w hs hh =>
  wpList_plain rfl fun K hK => by
    obtain ⟨w', H', h1, h2, h3⟩ := h w hh
    unfold Oper.wp
    rw [hs.eval, h1]
    exact hK _ _ (h3.of _ _ (hs.put hd undef) h2)⟩
/-- A guard: the operation runs, or is passed over. -/
theorem hl_guard0 {op : Op} {j d : Nat} {b x : Bool} (hj : (ops[j]?).bind (·.dst) = some d) (hx : fr d = .bool x) (hd : dOk c.n dst = true)
    (h1 : x = b → HL c ops Q (⟨dst, op, ty, pos, after, none⟩ :: rest) fr H) (h2 : x = (!b) → HL c ops Q rest (updO fr dst undef) H) :
    HL c ops Q (⟨dst, op, ty, pos, after, some (j, b)⟩ :: rest) fr H := ⟨fun a w hs hh => by
  have hy : yielded ops a.tmps j = some x := by
    have := hs.slot d
    rw [hx] at this
    simp [yielded, hj]
    have h3 : a.tmps[d]? = some (.bool x) := by
      rw [Array.getD_eq_getD_getElem?] at this
      cases h4 : a.tmps[d]? with
      | none => rw [h4] at this; simp [undef] at this
      | some u => rw [h4] at this; simpa using this
    simp [h3]
  unfold wpList
  by_cases e : x = b
  · subst e
    rw [if_pos (by simp [Region.wanted, hy])]
    have := (h1 rfl).of a w hs hh
    unfold wpList at this
    rw [if_pos (by simp [Region.wanted])] at this
    exact this
  · rw [if_neg (by simp [Region.wanted, hy, e])]
    exact (h2 (by cases x <;> cases b <;> simp_all)).of _ _ (hs.put hd undef) hh⟩
/-- A guard whose own operation was passed over. -/
theorem yielded_undef {n : Nat} {a : Act} {fr : Fr} {ops : Array Oper} {j d : Nat} (hs : Sees n a fr) (hj : (ops[j]?).bind (·.dst) = some d) (hx : fr d = undef) : yielded ops a.tmps j = none := by
  have := hs.slot d
  rw [hx] at this
  simp [yielded, hj]
  rw [Array.getD_eq_getD_getElem?] at this
  cases h4 : a.tmps[d]? with
  | none => rfl
  | some u => rw [h4] at this; simp only [Option.getD_some] at this; subst this; rfl
theorem hl_guardU0 {op : Op} {j d : Nat} {b : Bool} (hj : (ops[j]?).bind (·.dst) = some d) (hx : fr d = undef) (hd : dOk c.n dst = true)
    (h2 : HL c ops Q rest (updO fr dst undef) H) : HL c ops Q (⟨dst, op, ty, pos, after, some (j, b)⟩ :: rest) fr H := ⟨fun a w hs hh => by
  have hy := yielded_undef hs hj hx
  unfold wpList
  rw [if_neg (by simp [Region.wanted, hy])]
  exact h2.of _ _ (hs.put hd undef) hh⟩
/-- A way of stepping over operations that leave the world (in text order, or in whatever order). -/
class Stp (c : outParam Cx) (ops : outParam (Array Oper)) (S : List Oper → Fr → List Ent → Prop) : Prop where
  pure : ∀ {fr : Fr} {H : List Ent} {rest : List Oper} {dst : Option Nat} {ty : TypeId} {pos : String} {after : Array Edge} {op : Op} (_hd : dOk c.n dst = true) (v : Value)
    (_h : ∀ w, Hp c.w0 c.B H w → (execOp (ev fr) ⟨dst, op, ty, pos, after, none⟩).run c.P w = .ok (.value v) w), S rest (updO fr dst v) H → S (⟨dst, op, ty, pos, after, none⟩ :: rest) fr H
  guard : ∀ {fr : Fr} {H : List Ent} {rest : List Oper} {dst : Option Nat} {ty : TypeId} {pos : String} {after : Array Edge} {op : Op} {j d : Nat} {b x : Bool} (_hj : (ops[j]?).bind (·.dst) = some d) (_hx : fr d = .bool x) (_hd : dOk c.n dst = true)
    (_h1 : x = b → S (⟨dst, op, ty, pos, after, none⟩ :: rest) fr H) (_h2 : x = (!b) → S rest (updO fr dst undef) H), S (⟨dst, op, ty, pos, after, some (j, b)⟩ :: rest) fr H
  guardU : ∀ {fr : Fr} {H : List Ent} {rest : List Oper} {dst : Option Nat} {ty : TypeId} {pos : String} {after : Array Edge} {op : Op} {j d : Nat} {b : Bool} (_hj : (ops[j]?).bind (·.dst) = some d) (_hx : fr d = undef) (_hd : dOk c.n dst = true)
    (_h2 : S rest (updO fr dst undef) H), S (⟨dst, op, ty, pos, after, some (j, b)⟩ :: rest) fr H
instance : Stp c ops (HL c ops Q) := ⟨hl_pure0, hl_guard0, hl_guardU0⟩
section
variable {S : List Oper → Fr → List Ent → Prop} [hS : Stp c ops S]
include hS
theorem hl_pure {op : Op} (hd : dOk c.n dst = true) (v : Value)
    (h : ∀ w, Hp c.w0 c.B H w → (execOp (ev fr) ⟨dst, op, ty, pos, after, none⟩).run c.P w = .ok (.value v) w)
    (k : S rest (updO fr dst v) H) : S (⟨dst, op, ty, pos, after, none⟩ :: rest) fr H := Stp.pure hd v h k
theorem hl_guard {op : Op} {j d : Nat} {b x : Bool} (hj : (ops[j]?).bind (·.dst) = some d) (hx : fr d = .bool x) (hd : dOk c.n dst = true)
    (h1 : x = b → S (⟨dst, op, ty, pos, after, none⟩ :: rest) fr H) (h2 : x = (!b) → S rest (updO fr dst undef) H) :
    S (⟨dst, op, ty, pos, after, some (j, b)⟩ :: rest) fr H := Stp.guard hj hx hd h1 h2
theorem hl_run {op : Op} {j d : Nat} {b : Bool} (hj : (ops[j]?).bind (·.dst) = some d) (hx : fr d = .bool b) (hd : dOk c.n dst = true)
    (h1 : S (⟨dst, op, ty, pos, after, none⟩ :: rest) fr H) : S (⟨dst, op, ty, pos, after, some (j, b)⟩ :: rest) fr H :=
  hl_guard hj hx hd (fun _ => h1) (fun h => by cases b <;> cases h)
theorem hl_pass {op : Op} {j d : Nat} {b x : Bool} (hj : (ops[j]?).bind (·.dst) = some d) (hx : fr d = .bool x) (hne : x = !b) (hd : dOk c.n dst = true)
    (h1 : S rest (updO fr dst undef) H) : S (⟨dst, op, ty, pos, after, some (j, b)⟩ :: rest) fr H :=
  hl_guard hj hx hd (fun h => by subst hne; cases b <;> cases h) (fun _ => h1)

theorem hl_passU {op : Op} {j d : Nat} {b : Bool} (hj : (ops[j]?).bind (·.dst) = some d) (hx : fr d = undef) (hd : dOk c.n dst = true)
    (h1 : S rest (updO fr dst undef) H) : S (⟨dst, op, ty, pos, after, some (j, b)⟩ :: rest) fr H := Stp.guardU hj hx hd h1

theorem hl_move {x : Operand} {v : Value} (hx : ev fr x = v) (hd : dOk c.n dst = true) (k : S rest (updO fr dst v) H) : S (⟨dst, .move x, ty, pos, after, none⟩ :: rest) fr H :=
  hl_pure hd v (fun w _ => by simp [execOp, hx]) k
theorem hl_assign {x : Operand} {v : Value} (hx : ev fr x = v) (hd : dOk c.n dst = true) (k : S rest (updO fr dst v) H) : S (⟨dst, .assign x, ty, pos, after, none⟩ :: rest) fr H :=
  hl_pure hd v (fun w _ => by simp [execOp, hx]) k
theorem hl_pick {x y z : Operand} {b : Bool} {u v : Value} (hx : ev fr x = .bool b) (hy : ev fr y = u) (hz : ev fr z = v) (hd : dOk c.n dst = true) (k : S rest (updO fr dst (if b then u else v)) H) :
    S (⟨dst, .pick x y z, ty, pos, after, none⟩ :: rest) fr H :=
  hl_pure hd _ (fun w _ => by simp [execOp, hx, hy, hz, asBool]) k
theorem hl_pickT {x y z : Operand} {u : Value} (hx : ev fr x = .bool true) (hy : ev fr y = u) (hd : dOk c.n dst = true) (k : S rest (updO fr dst u) H) :
    S (⟨dst, .pick x y z, ty, pos, after, none⟩ :: rest) fr H := hl_pick hx hy rfl hd k
theorem hl_pickF {x y z : Operand} {u : Value} (hx : ev fr x = .bool false) (hz : ev fr z = u) (hd : dOk c.n dst = true) (k : S rest (updO fr dst u) H) :
    S (⟨dst, .pick x y z, ty, pos, after, none⟩ :: rest) fr H := hl_pick hx rfl hz hd k
theorem hl_not {x : Operand} {t : TypeId} {b : Bool} (hx : ev fr x = .bool b) (hd : dOk c.n dst = true) (k : S rest (updO fr dst (.bool !b)) H) : S (⟨dst, .unOp .not t x, ty, pos, after, none⟩ :: rest) fr H :=
  hl_pure hd _ (fun w _ => by simp [execOp, hx, Op.unary]) k
theorem hl_neg {x : Operand} {t : TypeId} {k' : IntKind} {n : Int} (hx : ev fr x = .int k' n) (hd : dOk c.n dst = true) (k : S rest (updO fr dst (.int k' (k'.wrap (0 - n)))) H) : S (⟨dst, .unOp .neg t x, ty, pos, after, none⟩ :: rest) fr H :=
  hl_pure hd _ (fun w _ => by simp [execOp, hx, Op.unary, Op.intArith]) k
theorem hl_neg64 {x : Operand} {t : TypeId} {n : Int} (hx : ev fr x = .int .i64 n) (h1 : -9223372036854775807 ≤ n) (h2 : n ≤ 9223372036854775808) (hd : dOk c.n dst = true) (k : S rest (updO fr dst (.int .i64 (-n))) H) : S (⟨dst, .unOp .neg t x, ty, pos, after, none⟩ :: rest) fr H :=
  hl_neg hx hd (by rw [IntWalk.i64_in _ (by omega), Int.zero_sub]; exact k)
section
variable {x y : Operand} {t u : TypeId} {a b : Int}
theorem hl_bin (op : BinOp) {p q r : Value} (hx : ev fr x = p) (hy : ev fr y = q) (hd : dOk c.n dst = true) (hg : ∀ w, (eqGuard op t x y p q).run c.P w = .ok () w) (h : ∀ w, (binOp op t p q).run c.P w = .ok r w) (k : S rest (updO fr dst r) H) :
    S (⟨dst, .binOp op t x y u, ty, pos, after, none⟩ :: rest) fr H :=
  hl_pure hd _ (fun w _ => by simp [execOp, hx, hy, hg, h]) k
variable {i : IntKind}
theorem hl_add (hx : ev fr x = .int i a) (hy : ev fr y = .int i b) (hd : dOk c.n dst = true) (k : S rest (updO fr dst (.int i (i.wrap (a + b)))) H) : S (⟨dst, .binOp .add t x y u, ty, pos, after, none⟩ :: rest) fr H :=
  hl_bin .add hx hy hd (fun w => by simp [eqGuard_add]) (fun w => by simp [binOp_add, Op.intArith]) k
theorem hl_sub (hx : ev fr x = .int i a) (hy : ev fr y = .int i b) (hd : dOk c.n dst = true) (k : S rest (updO fr dst (.int i (i.wrap (a - b)))) H) : S (⟨dst, .binOp .sub t x y u, ty, pos, after, none⟩ :: rest) fr H :=
  hl_bin .sub hx hy hd (fun w => by simp [eqGuard_sub]) (fun w => by simp [binOp_sub, Op.intArith]) k
theorem hl_mul (hx : ev fr x = .int i a) (hy : ev fr y = .int i b) (hd : dOk c.n dst = true) (k : S rest (updO fr dst (.int i (i.wrap (a * b)))) H) : S (⟨dst, .binOp .mul t x y u, ty, pos, after, none⟩ :: rest) fr H :=
  hl_bin .mul hx hy hd (fun w => by simp [eqGuard_mul]) (fun w => by simp [binOp_mul, Op.intArith]) k
theorem hl_add64 (hx : ev fr x = .int .i64 a) (hy : ev fr y = .int .i64 b) (h1 : -9223372036854775808 ≤ a + b) (h2 : a + b ≤ 9223372036854775807) (hd : dOk c.n dst = true) (k : S rest (updO fr dst (.int .i64 (a + b))) H) : S (⟨dst, .binOp .add t x y u, ty, pos, after, none⟩ :: rest) fr H :=
  hl_add hx hy hd (by rw [IntWalk.i64_in _ ⟨h1, h2⟩]; exact k)
theorem hl_sub64 (hx : ev fr x = .int .i64 a) (hy : ev fr y = .int .i64 b) (h1 : -9223372036854775808 ≤ a - b) (h2 : a - b ≤ 9223372036854775807) (hd : dOk c.n dst = true) (k : S rest (updO fr dst (.int .i64 (a - b))) H) : S (⟨dst, .binOp .sub t x y u, ty, pos, after, none⟩ :: rest) fr H :=
  hl_sub hx hy hd (by rw [IntWalk.i64_in _ ⟨h1, h2⟩]; exact k)
theorem hl_mul64 (hx : ev fr x = .int .i64 a) (hy : ev fr y = .int .i64 b) (h1 : -9223372036854775808 ≤ a * b) (h2 : a * b ≤ 9223372036854775807) (hd : dOk c.n dst = true) (k : S rest (updO fr dst (.int .i64 (a * b))) H) : S (⟨dst, .binOp .mul t x y u, ty, pos, after, none⟩ :: rest) fr H :=
  hl_mul hx hy hd (by rw [IntWalk.i64_in _ ⟨h1, h2⟩]; exact k)
/-- Of two numerals. -/
theorem hl_add64e {r : Int} (hx : ev fr x = .int .i64 a) (hy : ev fr y = .int .i64 b) (hr : a + b = r) (h1 : -9223372036854775808 ≤ r) (h2 : r ≤ 9223372036854775807) (hd : dOk c.n dst = true) (k : S rest (updO fr dst (.int .i64 r)) H) : S (⟨dst, .binOp .add t x y u, ty, pos, after, none⟩ :: rest) fr H :=
  hl_add64 hx hy (by omega) (by omega) hd (by rw [hr]; exact k)
/-- Of two numerals. -/
theorem hl_sub64e {r : Int} (hx : ev fr x = .int .i64 a) (hy : ev fr y = .int .i64 b) (hr : a - b = r) (h1 : -9223372036854775808 ≤ r) (h2 : r ≤ 9223372036854775807) (hd : dOk c.n dst = true) (k : S rest (updO fr dst (.int .i64 r)) H) : S (⟨dst, .binOp .sub t x y u, ty, pos, after, none⟩ :: rest) fr H :=
  hl_sub64 hx hy (by omega) (by omega) hd (by rw [hr]; exact k)
/-- Of two numerals. -/
theorem hl_mul64e {r : Int} (hx : ev fr x = .int .i64 a) (hy : ev fr y = .int .i64 b) (hr : a * b = r) (h1 : -9223372036854775808 ≤ r) (h2 : r ≤ 9223372036854775807) (hd : dOk c.n dst = true) (k : S rest (updO fr dst (.int .i64 r)) H) : S (⟨dst, .binOp .mul t x y u, ty, pos, after, none⟩ :: rest) fr H :=
  hl_mul64 hx hy (by omega) (by omega) hd (by rw [hr]; exact k)
theorem hl_quo (hx : ev fr x = .int i a) (hy : ev fr y = .int i b) (hb : b ≠ 0) (hd : dOk c.n dst = true) (k : S rest (updO fr dst (.int i (i.wrap (a.tdiv b)))) H) : S (⟨dst, .binOp .quo t x y u, ty, pos, after, none⟩ :: rest) fr H :=
  hl_bin .quo hx hy hd (fun w => by simp [eqGuard_quo]) (fun w => by simp [binOp_quo, Op.intDiv, hb]) k
theorem hl_rem (hx : ev fr x = .int i a) (hy : ev fr y = .int i b) (hb : b ≠ 0) (hd : dOk c.n dst = true) (k : S rest (updO fr dst (.int i (a.tmod b))) H) : S (⟨dst, .binOp .rem t x y u, ty, pos, after, none⟩ :: rest) fr H :=
  hl_bin .rem hx hy hd (fun w => by simp [eqGuard_rem]) (fun w => by simp [binOp_rem, Op.intDiv, hb]) k
theorem hl_quo64 (hx : ev fr x = .int .i64 a) (hy : ev fr y = .int .i64 b) (ha : 0 ≤ a) (ha' : a ≤ 9223372036854775807) (hb : 0 < b) (hd : dOk c.n dst = true) (k : S rest (updO fr dst (.int .i64 (a / b))) H) : S (⟨dst, .binOp .quo t x y u, ty, pos, after, none⟩ :: rest) fr H :=
  hl_quo hx hy (by omega) hd (by
    rw [Int.tdiv_eq_ediv_of_nonneg ha, IntWalk.i64_in _ ⟨by have := Int.ediv_nonneg ha (Int.le_of_lt hb); omega, by have := Int.ediv_le_self b ha; omega⟩]; exact k)
theorem hl_rem64 (hx : ev fr x = .int i a) (hy : ev fr y = .int i b) (ha : 0 ≤ a) (hb : 0 < b) (hd : dOk c.n dst = true) (k : S rest (updO fr dst (.int i (a % b))) H) : S (⟨dst, .binOp .rem t x y u, ty, pos, after, none⟩ :: rest) fr H :=
  hl_rem hx hy (by omega) hd (by rw [Int.tmod_eq_emod_of_nonneg ha]; exact k)
theorem hl_eql (hx : ev fr x = .int i a) (hy : ev fr y = .int i b) (hd : dOk c.n dst = true) (k : S rest (updO fr dst (.bool (decide (a = b)))) H) : S (⟨dst, .binOp .eql t x y u, ty, pos, after, none⟩ :: rest) fr H :=
  hl_bin .eql hx hy hd (fun w => by simp [eqGuard_at_int]) (fun w => by simp only [binOp_eql, Sem.run_pure]; rfl) k
theorem hl_neq (hx : ev fr x = .int i a) (hy : ev fr y = .int i b) (hd : dOk c.n dst = true) (k : S rest (updO fr dst (.bool (!decide (a = b)))) H) : S (⟨dst, .binOp .neq t x y u, ty, pos, after, none⟩ :: rest) fr H :=
  hl_bin .neq hx hy hd (fun w => by simp [eqGuard_at_int]) (fun w => by simp only [binOp_neq, Sem.run_pure]; rfl) k
theorem hl_lss (hx : ev fr x = .int i a) (hy : ev fr y = .int i b) (hd : dOk c.n dst = true) (k : S rest (updO fr dst (.bool (decide (a < b)))) H) : S (⟨dst, .binOp .lss t x y u, ty, pos, after, none⟩ :: rest) fr H :=
  hl_bin .lss hx hy hd (fun w => by simp [eqGuard_lss]) (fun w => by simp [binOp_lss]) k
theorem hl_leq (hx : ev fr x = .int i a) (hy : ev fr y = .int i b) (hd : dOk c.n dst = true) (k : S rest (updO fr dst (.bool (decide (a ≤ b)))) H) : S (⟨dst, .binOp .leq t x y u, ty, pos, after, none⟩ :: rest) fr H :=
  hl_bin .leq hx hy hd (fun w => by simp [eqGuard_leq]) (fun w => by simp [binOp_leq]) k
theorem hl_gtr (hx : ev fr x = .int i a) (hy : ev fr y = .int i b) (hd : dOk c.n dst = true) (k : S rest (updO fr dst (.bool (decide (b < a)))) H) : S (⟨dst, .binOp .gtr t x y u, ty, pos, after, none⟩ :: rest) fr H :=
  hl_bin .gtr hx hy hd (fun w => by simp [eqGuard_gtr]) (fun w => by simp [binOp_gtr]) k
theorem hl_geq (hx : ev fr x = .int i a) (hy : ev fr y = .int i b) (hd : dOk c.n dst = true) (k : S rest (updO fr dst (.bool (decide (b ≤ a)))) H) : S (⟨dst, .binOp .geq t x y u, ty, pos, after, none⟩ :: rest) fr H :=
  hl_bin .geq hx hy hd (fun w => by simp [eqGuard_geq]) (fun w => by simp [binOp_geq]) k
theorem hl_bits (op : BinOp) (ho : op = .and ∨ op = .or ∨ op = .xor ∨ op = .andNot) (hx : ev fr x = .int i a) (hy : ev fr y = .int i b) (hd : dOk c.n dst = true) (k : S rest (updO fr dst (.int i (bits op i a b))) H) : S (⟨dst, .binOp op t x y u, ty, pos, after, none⟩ :: rest) fr H :=
  hl_bin op hx hy hd (fun w => by rcases ho with rfl | rfl | rfl | rfl <;> simp [eqGuard_and, eqGuard_or, eqGuard_xor, eqGuard_andNot])
    (fun w => by rcases ho with rfl | rfl | rfl | rfl <;> simp [binOp_and, binOp_or, binOp_xor, binOp_andNot, intBits_and, intBits_or, intBits_xor, intBits_andNot]) k
theorem hl_and (hx : ev fr x = .int i a) (hy : ev fr y = .int i b) (hd : dOk c.n dst = true) (k : S rest (updO fr dst (.int i (bits .and i a b))) H) : S (⟨dst, .binOp .and t x y u, ty, pos, after, none⟩ :: rest) fr H := hl_bits .and (.inl rfl) hx hy hd k
theorem hl_or (hx : ev fr x = .int i a) (hy : ev fr y = .int i b) (hd : dOk c.n dst = true) (k : S rest (updO fr dst (.int i (bits .or i a b))) H) : S (⟨dst, .binOp .or t x y u, ty, pos, after, none⟩ :: rest) fr H := hl_bits .or (.inr (.inl rfl)) hx hy hd k
theorem hl_xor (hx : ev fr x = .int i a) (hy : ev fr y = .int i b) (hd : dOk c.n dst = true) (k : S rest (updO fr dst (.int i (bits .xor i a b))) H) : S (⟨dst, .binOp .xor t x y u, ty, pos, after, none⟩ :: rest) fr H := hl_bits .xor (.inr (.inr (.inl rfl))) hx hy hd k
variable {yk : IntKind}
theorem hl_shr (hx : ev fr x = .int i a) (hy : ev fr y = .int yk b) (h0 : 0 ≤ b) (hd : dOk c.n dst = true) (k : S rest (updO fr dst (.int i (a.fdiv (2 ^ (min b.toNat i.bits))))) H) : S (⟨dst, .binOp .shr t x y u, ty, pos, after, none⟩ :: rest) fr H :=
  hl_bin .shr hx hy hd (fun w => by simp [eqGuard_shr]) (fun w => by simp [binOp_shr, Op.shift, Int.not_lt.2 h0]) k
theorem hl_shl (hx : ev fr x = .int i a) (hy : ev fr y = .int yk b) (h0 : 0 ≤ b) (hd : dOk c.n dst = true) (k : S rest (updO fr dst (.int i (i.wrap (a * 2 ^ (min b.toNat i.bits))))) H) : S (⟨dst, .binOp .shl t x y u, ty, pos, after, none⟩ :: rest) fr H :=
  hl_bin .shl hx hy hd (fun w => by simp [eqGuard_shl]) (fun w => by simp [binOp_shl, Op.shift, Int.not_lt.2 h0]) k
/-- A shift by a small number that is told. -/
theorem hl_shr' {m : Nat} (hx : ev fr x = .int i a) (hy : ev fr y = .int yk b) (hm : b = (m : Int)) (h1 : m ≤ i.bits) (hd : dOk c.n dst = true) (k : S rest (updO fr dst (.int i (a / 2 ^ m))) H) : S (⟨dst, .binOp .shr t x y u, ty, pos, after, none⟩ :: rest) fr H :=
  hl_shr hx hy (by omega) hd (by rw [hm, Int.toNat_natCast, Nat.min_eq_left h1, Int.fdiv_eq_ediv_of_nonneg _ (by exact_mod_cast Nat.zero_le (2 ^ m))]; exact k)
theorem hl_shl' {m : Nat} (hx : ev fr x = .int i a) (hy : ev fr y = .int yk b) (hm : b = (m : Int)) (h1 : m ≤ i.bits) (hd : dOk c.n dst = true) (k : S rest (updO fr dst (.int i (i.wrap (a * 2 ^ m)))) H) : S (⟨dst, .binOp .shl t x y u, ty, pos, after, none⟩ :: rest) fr H :=
  hl_shl hx hy (by omega) hd (by rw [hm, Int.toNat_natCast, Nat.min_eq_left h1]; exact k)
end
end
end

end Go.Proofs.Ytoobhebbgbhahaa
