/-
  The way of walking, more: regions whose order is open. Each operation ahead of the tail leaves what is told of memory as it was. No condition.
-/
import Derived.Test.YtoobhebbgbhahaaHm
namespace Go.Proofs.Ytoobhebbgbhahaa
open Go.RowKit

/-- The operation gives this value in every world of which the list tells the memory, and leaves such a world. -/
def YI (c : Cx) (ops : Array Oper) (H : List Ent) (o : Oper) (v : Value) (a : Act) : Prop :=
  (Region.wanted o (yielded ops a.tmps) = true ∧
    ((∀ w, Hp c.w0 c.B H w → ∃ w', (execOp a.eval o).run c.P w = .ok (.value v) w' ∧ Hp c.w0 c.B H w') ∨
     ∃ f args, ∀ w, Hp c.w0 c.B H w → (execOp a.eval o).run c.P w = .ok (.enter f args) w ∧ Calls c.P f args w (fun e w' => e = .returned v ∧ Hp c.w0 c.B H w'))) ∨
  (Region.wanted o (yielded ops a.tmps) = false ∧ v = undef)

section
variable {c : Cx} {Q : Pst} {fr : Fr} {H : List Ent} {ops : Array Oper} {md : Region.Mode}
theorem YI.of_same {o : Oper} {v : Value} {a a' : Act} (hy : YI c ops H o v a) (he : execOp a'.eval o = execOp a.eval o)
    (hw : Region.wanted o (yielded ops a'.tmps) = Region.wanted o (yielded ops a.tmps)) : YI c ops H o v a' := by
  unfold YI at *; rw [he, hw]; exact hy

def anyI (c : Cx) (ops : Array Oper) (md : Region.Mode) (H : List Ent) (n : Nat) (L : Array Bool → Act → Prop) : Nat → Array Bool → Act → Prop
  | 0, listed, a => L listed a
  | f + 1, listed, a => Region.ready md ops listed ≠ [] ∧ ∀ i ∈ Region.ready md ops listed, i < n ∧ ∃ o v, ops[i]? = some o ∧ YI c ops H o v a ∧ anyI c ops md H n L f (listed.setIfInBounds i true) (a.put o.dst v)

theorem any_of_head {n g : Nat} {L : Array Bool → Act → Prop} {Q' : Exit → Act → World → Prop} (hL : ∀ listed a w, Hp c.w0 c.B H w → L listed a → wpAny c.P md ops Q' g listed a w) :
    ∀ (f : Nat) (listed : Array Bool) (a : Act) (w : World), Hp c.w0 c.B H w → anyI c ops md H n L f listed a → wpAny c.P md ops Q' (f + g) listed a w
  | 0, listed, a, w, hw, h => by rw [Nat.zero_add]; exact hL _ _ _ hw h
  | f + 1, listed, a, w, hw, h => by
    rw [show f + 1 + g = (f + g) + 1 by omega]
    refine ⟨fun h0 => absurd h0 h.1, fun i hi => ?_⟩
    obtain ⟨_, o, v, ho, hy, hK⟩ := h.2 i hi
    unfold wpOp
    simp only [ho]
    rcases hy with ⟨hwd, hv | ⟨f', args, hv⟩⟩ | ⟨hwd, rfl⟩
    · rw [if_pos hwd]
      obtain ⟨w', h1, h2⟩ := hv w hw
      refine .inl ?_
      unfold Oper.wp
      rw [h1]
      exact any_of_head hL f _ _ _ h2 hK
    · rw [if_pos hwd]
      obtain ⟨h1, h2⟩ := hv w hw
      refine .inl ?_
      unfold Oper.wp
      rw [h1]
      exact h2.mono fun e w' ⟨he, hw'⟩ => by subst he; exact any_of_head hL f _ _ _ hw' hK
    · rw [if_neg (by simp [hwd])]
      exact any_of_head hL f _ _ _ hw hK

theorem anyI_first {n i : Nat} {oi : Oper} {v : Value} {L : Array Bool → Act → Prop} (hi : ops[i]? = some oi) (hsel : ∀ (j : Nat) (o : Oper) cs b, ops[j]? = some o → o.op ≠ .select cs b) (hin : i < n)
    (htail : ∀ listed, HeadInv md ops n listed → i ∈ Region.ready md ops listed → ∀ j ∈ Region.ready md ops listed, j < n)
    (hdone : ∀ listed a, L listed a → ∀ j ∈ Region.ready md ops listed, n ≤ j) :
    ∀ (f : Nat) (listed : Array Bool) (a : Act), HeadInv md ops n listed →
      (∀ j oj, ops[j]? = some oj → j ≠ i → listed.getD j true = false → (∀ e ∈ oj.after, Region.binds md e = true → e.on ≠ i) → oi.apart ops oj = true) →
      i ∈ Region.ready md ops listed → YI c ops H oi v a →
      anyI c ops md H n L f (listed.setIfInBounds i true) (a.put oi.dst v) → anyI c ops md H n L (f + 1) listed a := by
  intro f
  induction f with
  | zero =>
    intro listed a inv _ hr hy K
    refine ⟨fun h => (by rw [h] at hr; cases hr), fun j hj => ?_⟩
    have hjn := htail listed inv hr j hj
    refine ⟨hjn, ?_⟩
    by_cases hji : j = i
    · subst hji; exact ⟨oi, v, hi, hy, K⟩
    · have := hdone _ _ K j (ready_mono hj hji)
      omega
  | succ f ih =>
    intro listed a inv hfree hr hy K
    refine ⟨fun h => (by rw [h] at hr; cases hr), fun j hj => ?_⟩
    have hjn := htail listed inv hr j hj
    refine ⟨hjn, ?_⟩
    by_cases hji : j = i
    · subst hji; exact ⟨oi, v, hi, hy, K⟩
    · obtain ⟨_, oj, u, hoj, hyj, hK⟩ := K.2 j (ready_mono hj hji)
      obtain ⟨hjun, oj', hoj', hall⟩ := mem_ready.1 hj
      obtain rfl : oj' = oj := Option.some.inj (hoj'.symm.trans hoj)
      have hnot : ∀ e ∈ oj'.after, Region.binds md e = true → e.on ≠ i := fun e he hb heq => by
        have h1 := hall e he hb
        have h0 := (mem_ready.1 hr).1
        rw [heq, getD_both h0] at h1; cases h1
      obtain ⟨h1, h2, h3⟩ := Oper.apart_spec (hfree j oj' hoj hji hjun hnot)
      have hsi : ∀ cs b, oi.op ≠ .select cs b := fun cs b => hsel i oi cs b hi
      have hsj : ∀ cs b, oj'.op ≠ .select cs b := fun cs b => hsel j oj' cs b hoj
      refine ⟨oj', u, hoj, hyj.of_same (execOp_put oj' hsj a oi.dst v h1).symm (wanted_put oj' a oi.dst v h1).symm, ?_⟩
      refine ih (listed.setIfInBounds j true) _ (inv.set hj hjn) (fun k ok hk hki hun hno => ?_) (ready_mono hr (Ne.symm hji)) (hy.of_same (execOp_put oi hsi a oj'.dst u h3) (wanted_put oi a oj'.dst u h3)) ?_
      · refine hfree k ok hk hki ?_ hno
        by_cases hjk : j = k
        · subst hjk; exact hjun
        · rw [getD_set_ne true hjk] at hun; exact hun
      · rw [Array.setIfInBounds_comm _ _ hji, ← Act.put_comm a v u h2]
        exact hK

/-- The operations one behind the other, each as above. -/
def DI (c : Cx) (ops : Array Oper) (H : List Ent) (L : Act → Prop) : List Oper → Act → Prop
  | [], a => L a
  | o :: rest, a => ∃ v, YI c ops H o v a ∧ DI c ops H L rest (a.put o.dst v)

theorem anyI_lex {n g : Nat} {Lq : Act → Prop} (hsel : Region.noSelect ops = true) (htail : ∀ i, i < n → ∀ listed, HeadInv md ops n listed → i ∈ Region.ready md ops listed → ∀ j ∈ Region.ready md ops listed, j < n) :
    ∀ (l : List Oper) (k : Nat) (listed : Array Bool) (a : Act), (∀ j, j < l.length → l[j]? = ops[k + j]?) → k + l.length = n → HeadInv md ops n listed →
    Region.lexHead md ops g l.length k listed = true → DI c ops H Lq l a →
    anyI c ops md H n (fun listed' a' => Region.seqB md ops g n listed' = true ∧ Lq a') l.length listed a
  | [], k, listed, a, _, hk, _, hB, h => by
    have : k = n := by simpa using hk
    subst this
    exact ⟨by simpa [Region.lexHead] using hB, h⟩
  | o :: l, k, listed, a, hl, hk, inv, hB, h => by
    have h0 : ops[k]? = some o := by simpa using (hl 0 (by simp)).symm
    simp only [List.length_cons, Region.lexHead, Bool.and_eq_true] at hB
    obtain ⟨⟨hr, hf⟩, hB'⟩ := hB
    have hkn : k < n := by simp only [List.length_cons] at hk; omega
    have hr' : k ∈ Region.ready md ops listed := by simpa using hr
    obtain ⟨v, hy, hK⟩ := h
    exact anyI_first h0 (Region.noSelect_spec hsel) hkn (htail k hkn) (fun listed' a' hL => seqB_ready hL.1) l.length listed a inv (Region.free_spec h0 hf) hr' hy
      (anyI_lex hsel htail l (k + 1) _ _ (fun j hj => by have := hl (j + 1) (by simp; omega); simpa [Nat.add_assoc, Nat.add_comm 1 j] using this) (by simp only [List.length_cons] at hk; omega) (inv.set hr' hkn) hB' hK)

theorem wp_drawT {id : Nat} {Q : Exit → Act → World → Prop} {a : Act} {w : World} {l : List Oper} (n : Nat) (hm : c.P.follows .mixedOrders = true) (hB : Region.lexTailB .any l.toArray n = true) (hw : Hp c.w0 c.B H w)
    (h : DI c l.toArray H (fun a' => ∀ w', Hp c.w0 c.B H w' → wpList c.P l.toArray Q (l.drop n) a' w') (l.take n) a) : (Code.region id l.toArray true).wp c.P Q a w := by
  simp only [Region.lexTailB, Bool.and_eq_true, decide_eq_true_eq] at hB
  obtain ⟨⟨⟨⟨hsel, hn⟩, hs⟩, hc⟩, hlex⟩ := hB
  have hn' : n < l.length := by simpa using hn
  have htl : (l.take n).length = n := by simp; omega
  have hdl : (l.drop n).length = l.toArray.size - n := by simp
  have inv0 : HeadInv .any l.toArray n (Array.replicate l.toArray.size false) :=
    ⟨by simp, fun j oj _ hl => (by rw [getD_replicate_false] at hl; cases hl), fun t _ ht => getD_in (by simpa using ht) (getD_replicate_false _ _)⟩
  have K := anyI_lex (md := .any) (g := l.toArray.size - n) hsel (fun i hin listed inv hr j hj => by
      rcases Nat.lt_or_ge j n with h | h
      · exact h
      · exact absurd hj (tail_waits hs hc hn inv _ i rfl hin (mem_ready.1 hr).1 j h)) (l.take n) 0 _ a (fun j hj => by
    have hj' : j < n := by rw [htl] at hj; exact hj
    simp [hj']) (by simpa using htl) inv0 (by rw [htl]; exact hlex) h
  refine wp_region_any hm ?_
  have := any_of_head (Q' := Q) (g := l.toArray.size - n) (fun listed a' w' hw' hL => by
    have := wpAny_of_seq (md := .any) (Q' := Q) (l.drop n) n listed a' w' (fun j => by simp [List.getElem?_drop]) (by rw [hdl]; exact hL.1) (hL.2 w' hw')
    rwa [hdl] at this) _ _ _ _ (hw.grow (Below.refl _ _).drew) K
  rw [htl, show n + (l.toArray.size - n) = l.toArray.size by omega] at this
  exact this

theorem lexHead_of_from : ∀ (f k : Nat) (listed : Array Bool), Region.lexFrom md ops f k listed = true → Region.lexHead md ops 0 f k listed = true
  | 0, k, listed, h => by simpa [Region.lexFrom, Region.lexHead, Region.seqB] using h
  | f + 1, k, listed, h => by
    simp only [Region.lexFrom, Region.lexHead, Bool.and_eq_true] at *
    exact ⟨h.1, lexHead_of_from f _ _ h.2⟩
theorem wp_draw {id : Nat} {Q : Exit → Act → World → Prop} {a : Act} {w : World} {l : List Oper} (hm : c.P.follows .mixedOrders = true) (hB : Region.lexB .any l.toArray = true) (hw : Hp c.w0 c.B H w)
    (h : DI c l.toArray H (fun a' => ∀ w', Hp c.w0 c.B H w' → Q .normal a' w') l a) : (Code.region id l.toArray true).wp c.P Q a w := by
  simp only [Region.lexB, Bool.and_eq_true] at hB
  have inv0 : HeadInv .any l.toArray l.length (Array.replicate l.toArray.size false) :=
    ⟨by simp, fun j oj _ hl => (by rw [getD_replicate_false] at hl; cases hl), fun t h1 h2 => absurd h2 (by simp; omega)⟩
  have K := anyI_lex (md := .any) (g := 0) hB.1 (fun i hin listed inv hr j hj => by
      obtain ⟨_, o, ho, _⟩ := mem_ready.1 hj
      have := (Array.getElem?_eq_some_iff.1 ho).1
      simpa using this) l 0 _ a (fun j hj => by simp) (by simp) inv0 (lexHead_of_from _ _ _ (by simpa using hB.2)) h
  refine wp_region_any hm ?_
  have := any_of_head (Q' := Q) (g := 0) (fun listed a' w' hw' hL => ⟨by simpa [Region.seqB] using hL.1, hL.2 w' hw'⟩) _ _ _ _ (hw.grow (Below.refl _ _).drew) K
  simpa using this

/-! The same, of frames. -/
structure HD (c : Cx) (ops : Array Oper) (K : Fr → Prop) (l : List Oper) (fr : Fr) (H : List Ent) : Prop where
  of : ∀ a, Sees c.n a fr → DI c ops H (fun a' => ∃ fr', Sees c.n a' fr' ∧ K fr') l a
variable {rest : List Oper} {dst : Option Nat} {ty : TypeId} {pos : String} {after : Array Edge} {K : Fr → Prop}
theorem hd_nil (h : K fr) : HD c ops K [] fr H := ⟨fun _ hs => ⟨fr, hs, h⟩⟩
theorem DI.guard {op : Op} {L : Act → Prop} {a : Act} {j : Nat} {b : Bool} (hy : yielded ops a.tmps j = some b) (h : DI c ops H L (⟨dst, op, ty, pos, after, none⟩ :: rest) a) : DI c ops H L (⟨dst, op, ty, pos, after, some (j, b)⟩ :: rest) a := by
  obtain ⟨v, hv, hK⟩ := h
  refine ⟨v, ?_, hK⟩
  rcases hv with ⟨_, hv⟩ | ⟨hw, _⟩
  · exact .inl ⟨by simp [Region.wanted, hy], hv⟩
  · simp [Region.wanted] at hw
instance : Stp c ops (HD c ops K) where
  pure := fun hd v h k => ⟨fun a hs => ⟨v, .inl ⟨by simp [Region.wanted], .inl fun w hw => ⟨w, by rw [hs.eval]; exact h w hw, hw⟩⟩, k.of _ (hs.put hd v)⟩⟩
  guard := fun {fr H rest dst ty pos after op j d b x} hj hx hd h1 h2 => by
    constructor
    intro a hs
    have hy : yielded ops a.tmps j = some x := by
      have := hs.slot d
      rw [hx] at this
      simp [yielded, hj]
      have h3 : a.tmps[d]? = some (.bool x) := by
        rw [Array.getD_eq_getD_getElem?] at this
        cases h4 : a.tmps[d]? with
        | none => rw [h4] at this; simp [undef] at this
        | some u => rw [h4] at this; simpa using this
      simp [h3]
    by_cases e : x = b
    · subst e; exact ((h1 rfl).of a hs).guard hy
    · exact ⟨undef, .inr ⟨by simp [Region.wanted, hy, e], rfl⟩, (h2 (by cases x <;> cases b <;> simp_all)).of _ (hs.put hd undef)⟩
  guardU := fun hj hx hd h2 => ⟨fun a hs => ⟨undef, .inr ⟨by simp [Region.wanted, yielded_undef hs hj hx], rfl⟩, h2.of _ (hs.put hd undef)⟩⟩
/-- A call that hands back just this value, and of whose memory nothing need be told. -/
theorem hd_call {f : FuncId} {xs : List Operand} {ts : Array TypeId} {args : List Value} {v : Value} (hxs : evs fr xs = args) (hd : dOk c.n dst = true) (hf : Fn c.P c.w0 c.B f args H (fun u H' => u = v ∧ H' = H))
    (h : HD c ops K rest (updO fr dst v) H) : HD c ops K (⟨dst, .call { callee := .value (.func f), args := xs.toArray, argTypes := ts }, ty, pos, after, none⟩ :: rest) fr H := ⟨fun a hs => by
  obtain ⟨⟨fn, h1, h2, h3⟩, hc⟩ := hf
  refine ⟨v, .inl ⟨by simp [Region.wanted], .inr ⟨f, args.toArray, fun w hw => ⟨?_, (hc w hw).mono fun e w' ⟨u, H', he, hw', hu, hH⟩ => ⟨by rw [he, hu], by rw [← hH]; exact hw'⟩⟩⟩⟩, h.of _ (hs.put hd v)⟩
  have hargs : (xs.toArray.map a.eval) = args.toArray := by rw [hs.eval, ← hxs, evs_eq]; simp
  simp only [execOp, resolve, hargs]
  have h2' : ¬ (fn.name = "runtime.NumGoroutine") := by simpa using h2
  have h3' : ¬ (fn.body = none) := by intro h; rw [h] at h3; cases h3
  simp [Act.eval, Deferred.ofValue, invoke, callFunc, program, Sem.run, h1, h2', h3']⟩
theorem DI.mono {L L' : Act → Prop} (hL : ∀ a, L a → L' a) : ∀ {l : List Oper} {a : Act}, DI c ops H L l a → DI c ops H L' l a
  | [], _, h => hL _ h
  | _ :: _, _, ⟨v, h1, h2⟩ => ⟨v, h1, DI.mono hL h2⟩
theorem hc_draw {id : Nat} {l : List Oper} (hm : c.P.follows .mixedOrders = true) (hB : Region.lexB .any l.toArray = true) (h : HD c l.toArray (fun fr' => Q .normal fr' H) l fr H) : HC c (.region id l.toArray true) Q fr H := ⟨fun a w hs hw =>
  wp_draw hm hB hw ((h.of a hs).mono fun a' ⟨fr', hs', hQ⟩ w' hw' => ⟨fr', H, hs', hw', hQ⟩)⟩
/-- The last operations, from the n-th on, go in the text's order: those may write. -/
theorem hc_drawT {id : Nat} {l : List Oper} (n : Nat) (hm : c.P.follows .mixedOrders = true) (hB : Region.lexTailB .any l.toArray n = true) (h : HD c l.toArray (fun fr' => HL c l.toArray Q (l.drop n) fr' H) (l.take n) fr H) :
    HC c (.region id l.toArray true) Q fr H := ⟨fun a w hs hw =>
  wp_drawT n hm hB hw ((h.of a hs).mono fun a' ⟨fr', hs', hQ⟩ w' hw' => hQ.of a' w' hs' hw')⟩
/-- Only the last operation may write. -/
theorem hc_drawS {id : Nat} {l : List Oper} (hm : c.P.follows .mixedOrders = true) (hB : Region.lexTailB .any l.toArray (l.length - 1) = true) (h : HD c l.toArray (fun fr' => HL c l.toArray Q (l.drop (l.length - 1)) fr' H) (l.take (l.length - 1)) fr H) :
    HC c (.region id l.toArray true) Q fr H := hc_drawT _ hm hB h
end

end Go.Proofs.Ytoobhebbgbhahaa
