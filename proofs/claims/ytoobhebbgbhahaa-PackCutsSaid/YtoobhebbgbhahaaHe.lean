/-
  The way of walking, more: regions whose order is open and whose operations make or write memory. What reads only what stays is done first; the orders of the rest are gone through. No condition.
-/
import Derived.Test.YtoobhebbgbhahaaHl
namespace Go.Proofs.Ytoobhebbgbhahaa
open Go.RowKit

/-- Nothing but going on. -/
def noX : Pst := fun _ _ _ => False
/-- In the worlds of this call the one list tells what the other tells. -/
def ImpC (c : Cx) (H E : List Ent) : Prop := ∀ w, Hp c.w0 c.B H w → Hp c.w0 c.B E w
theorem ImpC.refl {c : Cx} {H : List Ent} : ImpC c H H := fun _ h => h
theorem ImpC.of {c : Cx} {H E : List Ent} (h : Imp H E) : ImpC c H E := fun _ hw => h _ _ _ hw

def HA (c : Cx) (ops : Array Oper) (E : List Ent) (K : Fr → List Ent → Prop) : Nat → Array Bool → Fr → List Ent → Prop
  | 0, listed, fr, H => ImpC c H E ∧ Region.ready .any ops listed = [] ∧ K fr H
  | f + 1, listed, fr, H => ImpC c H E ∧ Region.ready .any ops listed ≠ [] ∧
    ∀ i ∈ Region.ready .any ops listed, ∃ o, ops[i]? = some o ∧ HL c ops (thn (HA c ops E K f (listed.setIfInBounds i true)) noX) [o] fr H

section
variable {c : Cx} {Q : Pst} {fr : Fr} {E H F : List Ent} {ops : Array Oper} {K : Fr → List Ent → Prop} {N : Fr → Prop} {listed : Array Bool} {f n : Nat}

theorem HA.imp (h : HA c ops E K f listed fr H) : ImpC c H E := by cases f <;> exact h.1
theorem Sees.uniq {n : Nat} {a : Act} {fr fr' : Fr} (h : Sees n a fr) (h' : Sees n a fr') : fr = fr' := funext fun t => (h.slot t).symm.trans (h'.slot t)
theorem lft_no {K : Fr → List Ent → Prop} {e : Exit} {a : Act} {w : World} (h : lft c.n c.w0 c.B (thn K noX) e a w) (he : e ≠ .normal) : False := by
  obtain ⟨_, _, _, _, h⟩ := h
  cases e <;> first | exact he rfl | exact h
theorem wp_to {o : Oper} {a : Act} {w : World} {K1 K2 : Act → World → Prop} {Q1 Q2 : Exit → Act → World → Prop} (hQ : ∀ e a w, Q1 e a w → e = .normal) (h : ∀ a w, K1 a w → K2 a w) (hh : o.wp c.P a w K1 Q1) : o.wp c.P a w K2 Q2 := by
  unfold Oper.wp at *
  generalize (execOp a.eval o).run c.P w = r at *
  cases r with
  | ok n w' =>
    cases n <;> simp only [Oper.upon] at hh ⊢
    case value => exact h _ _ hh
    case skip => exact h _ _ hh
    case defer => exact h _ _ hh
    case enter =>
      refine hh.mono fun e w'' he => ?_
      cases e with
      | returned u => exact h _ _ he
      | panicked c => cases hQ _ _ _ he
      | outgrown => obtain ⟨_, _, he⟩ := he; cases hQ _ _ _ he
    case row => exact Rows.mono hh fun u w'' he => h _ _ he
  | halt x w' =>
    cases x <;> simp only [Oper.upon] at hh ⊢
    case panic => cases hQ _ _ _ hh
theorem hQ_lft {K : Fr → List Ent → Prop} : ∀ e a w, lft c.n c.w0 c.B (thn K noX) e a w → e = .normal := fun e a w h => by
  by_cases he : e = .normal
  · exact he
  · exact (lft_no h he).elim
/-- One operation in the text's order is that operation in any. -/
theorem op_of_hl {i : Nat} {o : Oper} {K : Fr → List Ent → Prop} {a : Act} {w : World} {K' : Act → World → Prop} {Q' : Exit → Act → World → Prop} (ho : ops[i]? = some o) (hs : Sees c.n a fr) (hw : Hp c.w0 c.B H w)
    (h : HL c ops (thn K noX) [o] fr H) (hK : ∀ a w fr H, Sees c.n a fr → Hp c.w0 c.B H w → K fr H → K' a w) : wpOp c.P ops Q' i K' a w := by
  have hl := h.of a w hs hw
  have hK1 : ∀ a w, lft c.n c.w0 c.B (thn K noX) .normal a w → K' a w := fun a w ⟨fr, H, h1, h2, h3⟩ => hK a w fr H h1 h2 h3
  unfold wpOp
  simp only [ho]
  unfold wpList at hl
  split
  · rename_i hwd
    rw [if_pos hwd] at hl
    rcases hl with hl | ⟨_, _, _, hl⟩
    · exact .inl (wp_to hQ_lft (fun a w h => hK1 a w h) hl)
    · exact (lft_no hl (by intro h; cases h)).elim
  · rename_i hwd
    rw [if_neg hwd] at hl
    exact hK1 _ _ hl
theorem HA.any (hQ : ∀ fr H, K fr H → Q .normal fr H) : ∀ (f : Nat) (listed : Array Bool) (fr : Fr) (H : List Ent) (a : Act) (w : World), HA c ops E K f listed fr H → Sees c.n a fr → Hp c.w0 c.B H w →
    wpAny c.P .any ops (lft c.n c.w0 c.B Q) f listed a w
  | 0, _, _, _, _, _, h, hs, hw => ⟨h.2.1, _, _, hs, hw, hQ _ _ h.2.2⟩
  | f + 1, _, _, _, _, _, h, hs, hw => ⟨fun h0 => absurd h0 h.2.1, fun i hi => by
      obtain ⟨o, ho, hl⟩ := h.2.2 i hi
      exact op_of_hl ho hs hw hl fun a w fr H h1 h2 h3 => HA.any hQ f _ _ _ _ _ h3 h1 h2⟩

/-- The operation gives this value, whatever stands in memory beside what stays, and leaves all that is told. -/
structure Quiet (c : Cx) (ops : Array Oper) (E : List Ent) (o : Oper) (v : Value) (fr : Fr) : Prop where
  of : ∀ a, Sees c.n a fr → ∀ H, ImpC c H E → YI c ops H o v a
def valAt (fr : Fr) : Option Nat → Value
  | some t => fr t
  | none => undef
theorem updO_back {d : Option Nat} {fr : Fr} {u : Value} : updO (updO fr d u) d (valAt fr d) = fr := by
  cases d with
  | none => rfl
  | some t => funext s; simp only [updO, upd, valAt]; split <;> simp_all
theorem Quiet.over {oi oj : Oper} {v u : Value} (hq : Quiet c ops E oi v fr) (hsi : ∀ cs b, oi.op ≠ .select cs b) (hd : dOk c.n oj.dst = true) (h3 : ∀ d, oj.dst = some d → d ∉ oi.looksAt ops) : Quiet c ops E oi v (updO fr oj.dst u) := by
  refine ⟨fun a hs H hi => ?_⟩
  have hs' := hs.put hd (valAt fr oj.dst)
  rw [updO_back] at hs'
  exact (hq.of _ hs' H hi).of_same (execOp_put oi hsi a oj.dst _ h3).symm (wanted_put oi a oj.dst _ h3).symm
theorem quiet_hl {i : Nat} {oi : Oper} {v : Value} (hd : dOk c.n oi.dst = true) (hq : Quiet c ops E oi v fr) (hi : ImpC c H E) (h : K (updO fr oi.dst v) H) : HL c ops (thn K noX) [oi] fr H := by
  refine ⟨fun a w hs hw => ?_⟩
  unfold wpList
  have hk : ∀ w', Hp c.w0 c.B H w' → wpList c.P ops (lft c.n c.w0 c.B (thn K noX)) [] (a.put oi.dst v) w' := fun w' hw' => ⟨_, _, hs.put hd v, hw', h⟩
  rcases hq.of a hs H hi with ⟨hwd, hv | ⟨f', args, hv⟩⟩ | ⟨hwd, rfl⟩
  · rw [if_pos hwd]
    obtain ⟨w', h1, h2⟩ := hv w hw
    refine .inl ?_
    unfold Oper.wp
    rw [h1]
    exact hk w' h2
  · rw [if_pos hwd]
    obtain ⟨h1, h2⟩ := hv w hw
    refine .inl ?_
    unfold Oper.wp
    rw [h1]
    exact h2.mono fun e w' ⟨he, hw'⟩ => by subst he; exact hk _ hw'
  · rw [if_neg (by simp [hwd])]
    exact hk w hw
theorem dOk_of {o : Oper} {K : Fr → List Ent → Prop} (_h : HL c ops (thn K noX) [o] fr H) : True := trivial
theorem hl_swap {oi oj : Oper} {v : Value} {K : Fr → List Ent → Prop} (hdi : dOk c.n oi.dst = true) (hdj : dOk c.n oj.dst = true) (hap : oi.apart ops oj = true) (hsj : ∀ cs b, oj.op ≠ .select cs b) (h : HL c ops (thn K noX) [oj] (updO fr oi.dst v) H) :
    HL c ops (thn (fun fr' H' => (∃ u, fr' = updO fr oj.dst u) ∧ K (updO fr' oi.dst v) H') noX) [oj] fr H := by
  obtain ⟨h1, h2, _⟩ := Oper.apart_spec hap
  refine ⟨fun a w hs hw => ?_⟩
  have hl := h.of (a.put oi.dst v) w (hs.put hdi v) hw
  have hk : ∀ u w', lft c.n c.w0 c.B (thn K noX) .normal ((a.put oi.dst v).put oj.dst u) w' →
      lft c.n c.w0 c.B (thn (fun fr' H' => (∃ u, fr' = updO fr oj.dst u) ∧ K (updO fr' oi.dst v) H') noX) .normal (a.put oj.dst u) w' := fun u w' ⟨fr2, H2, hs2, hw2, hk2⟩ => by
    refine ⟨_, H2, hs.put hdj u, hw2, ⟨u, rfl⟩, ?_⟩
    rw [Act.put_comm a v u h2] at hs2
    rw [((hs.put hdj u).put hdi v).uniq hs2]
    exact hk2
  unfold wpList at *
  rw [wanted_put oj a oi.dst v h1] at hl
  split
  · rename_i hwd
    rw [if_pos hwd] at hl
    rcases hl with hl | ⟨_, _, _, hl⟩
    · refine .inl ?_
      unfold Oper.wp at *
      rw [execOp_put oj hsj a oi.dst v h1] at hl
      generalize (execOp a.eval oj).run c.P w = r at *
      cases r with
      | ok n w' =>
        cases n <;> simp only [Oper.upon] at hl ⊢
        case value u => exact hk _ _ hl
        case skip => exact hk _ _ hl
        case defer d =>
          obtain ⟨_, _, hs3, _, _⟩ := hl
          have := hs3.defers
          cases hoj : oj.dst <;> cases hoi : oi.dst <;> simp [hoj, hoi, Act.put] at this
        case enter f args =>
          refine hl.mono fun e w'' he => ?_
          cases e with
          | returned u => exact hk _ _ he
          | panicked c => exact (lft_no he (by intro h; cases h)).elim
          | outgrown => obtain ⟨_, _, he⟩ := he; exact (lft_no he (by intro h; cases h)).elim
        case row row args => exact Rows.mono hl fun u w'' he => hk _ _ he
      | halt x w' =>
        cases x <;> simp only [Oper.upon] at hl ⊢
        case panic => exact (lft_no hl (by intro h; cases h)).elim
    · exact (lft_no hl (by intro h; cases h)).elim
  · rename_i hwd
    rw [if_neg hwd] at hl
    exact hk _ _ hl
theorem HL.mono1 {o : Oper} {K K' : Fr → List Ent → Prop} (h : HL c ops (thn K noX) [o] fr H) (hq : ∀ fr H, K fr H → K' fr H) : HL c ops (thn K' noX) [o] fr H := by
  refine ⟨fun a w hs hw => ?_⟩
  have h1 := h.of a w hs hw
  have hk : ∀ a w, lft c.n c.w0 c.B (thn K noX) .normal a w → lft c.n c.w0 c.B (thn K' noX) .normal a w := fun a w ⟨fr, H, h1, h2, h3⟩ => ⟨fr, H, h1, h2, hq _ _ h3⟩
  unfold wpList at h1 ⊢
  split
  · rename_i hwd
    rw [if_pos hwd] at h1
    rcases h1 with h1 | ⟨_, _, _, h1⟩
    · exact .inl (wp_to hQ_lft (fun a w h => hk a w h) h1)
    · exact (lft_no h1 (by intro h; cases h)).elim
  · rename_i hwd
    rw [if_neg hwd] at h1
    exact hk _ _ h1
def dstsB (n : Nat) (ops : Array Oper) : Bool := ops.all fun o => dOk n o.dst
theorem HA_first {i : Nat} {oi : Oper} {v : Value} (hi : ops[i]? = some oi) (hsel : Region.noSelect ops = true) (hds : dstsB c.n ops = true) :
    ∀ (f : Nat) (listed : Array Bool) (fr : Fr) (H : List Ent),
      (∀ j oj, ops[j]? = some oj → j ≠ i → listed.getD j true = false → (∀ e ∈ oj.after, Region.binds .any e = true → e.on ≠ i) → oi.apart ops oj = true) →
      i ∈ Region.ready .any ops listed → Quiet c ops E oi v fr → HA c ops E K f (listed.setIfInBounds i true) (updO fr oi.dst v) H → HA c ops E K (f + 1) listed fr H := by
  have hdo : ∀ (j : Nat) (o : Oper), ops[j]? = some o → dOk c.n o.dst = true := fun j o ho => Array.all_eq_true_iff_forall_mem.1 hds o (Array.mem_of_getElem? ho)
  intro f
  induction f with
  | zero =>
    intro listed fr H _ hr hq k
    refine ⟨k.1, fun h => (by rw [h] at hr; cases hr), fun j hj => ?_⟩
    by_cases hji : j = i
    · subst hji; exact ⟨oi, hi, quiet_hl (i := j) (hdo _ _ hi) hq k.1 k⟩
    · have := ready_mono hj hji
      rw [k.2.1] at this
      cases this
  | succ f ih =>
    intro listed fr H hfree hr hq k
    refine ⟨k.1, fun h => (by rw [h] at hr; cases hr), fun j hj => ?_⟩
    by_cases hji : j = i
    · subst hji; exact ⟨oi, hi, quiet_hl (i := j) (hdo _ _ hi) hq k.1 k⟩
    · obtain ⟨oj, hoj, hl⟩ := k.2.2 j (ready_mono hj hji)
      obtain ⟨hjun, oj', hoj', hall⟩ := mem_ready.1 hj
      obtain rfl : oj' = oj := Option.some.inj (hoj'.symm.trans hoj)
      have hnot : ∀ e ∈ oj'.after, Region.binds .any e = true → e.on ≠ i := fun e he hb heq => by
        have h1 := hall e he hb
        rw [heq, getD_both (mem_ready.1 hr).1] at h1
        cases h1
      have hap := hfree j oj' hoj hji hjun hnot
      obtain ⟨_, _, h3⟩ := Oper.apart_spec hap
      have hsi : ∀ cs b, oi.op ≠ .select cs b := fun cs b => Region.noSelect_spec hsel i oi cs b hi
      have hsj : ∀ cs b, oj'.op ≠ .select cs b := fun cs b => Region.noSelect_spec hsel j oj' cs b hoj
      refine ⟨oj', hoj, (hl_swap (hdo _ _ hi) (hdo _ _ hoj) hap hsj hl).mono1 fun fr' H' hk => ?_⟩
      obtain ⟨⟨u, rfl⟩, hk⟩ := hk
      refine ih (listed.setIfInBounds j true) _ _ (fun m om hm hmi hun hno => ?_) (ready_mono hr (Ne.symm hji)) (hq.over hsi (hdo _ _ hoj) h3) (by rw [Array.setIfInBounds_comm _ _ hji]; exact hk)
      refine hfree m om hm hmi ?_ hno
      by_cases hjm : j = m
      · subst hjm; exact hjun
      · rw [getD_set_ne true hjm] at hun; exact hun

/-! As it is used. E stays: memory that no operation of the region writes. -/
structure HAs (c : Cx) (ops : Array Oper) (E : List Ent) (K : Fr → List Ent → Prop) (n : Nat) (listed : Array Bool) (fr : Fr) (H : List Ent) : Prop where
  of : HA c ops E K n listed fr H
/-- Quiet operations one behind the other. -/
def QC (c : Cx) (ops : Array Oper) (N : Fr → Prop) (E : List Ent) : List Oper → Fr → Prop
  | [], fr => N fr
  | o :: l, fr => ∃ v, Quiet c ops E o v fr ∧ QC c ops N E l (updO fr o.dst v)
structure HQ (c : Cx) (ops : Array Oper) (N : Fr → Prop) (l : List Oper) (fr : Fr) (E : List Ent) : Prop where
  of : QC c ops N E l fr
theorem hq_nil (h : N fr) : HQ c ops N [] fr E := ⟨h⟩
instance : Stp c ops (HQ c ops N) where
  pure := fun _ v h k => ⟨⟨v, ⟨fun a hs H hi => .inl ⟨by simp [Region.wanted], .inl fun w hw => ⟨w, by rw [hs.eval]; exact h w (hi w hw), hw⟩⟩⟩, k.of⟩⟩
  guard := fun {fr H rest dst ty pos after op j d b x} hj hx _ h1 h2 => by
    constructor
    have hy : ∀ a, Sees c.n a fr → yielded ops a.tmps j = some x := fun a hs => by
      have := hs.slot d
      rw [hx] at this
      simp [yielded, hj]
      have h3 : a.tmps[d]? = some (.bool x) := by
        rw [Array.getD_eq_getD_getElem?] at this
        cases h4 : a.tmps[d]? with
        | none => rw [h4] at this; simp [undef] at this
        | some u => rw [h4] at this; simpa using this
      simp [h3]
    by_cases e : x = b
    · subst e
      obtain ⟨v, hq, k⟩ := (h1 rfl).of
      refine ⟨v, ⟨fun a hs H hi => ?_⟩, k⟩
      rcases hq.of a hs H hi with ⟨_, hv⟩ | ⟨hw, _⟩
      · exact .inl ⟨by simp [Region.wanted, hy a hs], hv⟩
      · simp [Region.wanted] at hw
    · exact ⟨undef, ⟨fun a hs H hi => .inr ⟨by simp [Region.wanted, hy a hs, e], rfl⟩⟩, (h2 (by cases x <;> cases b <;> simp_all)).of⟩
  guardU := fun hj hx _ h2 => ⟨⟨undef, ⟨fun a hs H hi => .inr ⟨by simp [Region.wanted, yielded_undef hs hj hx], rfl⟩⟩, h2.of⟩⟩
variable {rest : List Oper} {dst : Option Nat} {ty : TypeId} {pos : String} {after : Array Edge}
/-- A call that hands back just this value, whatever else stands in memory, and leaves all that is told. -/
theorem hq_call {f : FuncId} {xs : List Operand} {ts : Array TypeId} {args : List Value} {v : Value} (hxs : evs fr xs = args) (_hd : dOk c.n dst = true) (hf : ∀ H, ImpC c H E → Fn c.P c.w0 c.B f args H (fun u H' => u = v ∧ H' = H))
    (h : HQ c ops N rest (updO fr dst v) E) : HQ c ops N (⟨dst, .call { callee := .value (.func f), args := xs.toArray, argTypes := ts }, ty, pos, after, none⟩ :: rest) fr E := ⟨⟨v, ⟨fun a hs H hi => by
  obtain ⟨⟨fn, h1, h2, h3⟩, hc⟩ := hf H hi
  refine .inl ⟨by simp [Region.wanted], .inr ⟨f, args.toArray, fun w hw => ⟨?_, (hc w hw).mono fun e w' ⟨u, H', he, hw', hu, hH⟩ => ⟨by rw [he, hu], by rw [← hH]; exact hw'⟩⟩⟩⟩
  have hargs : (xs.toArray.map a.eval) = args.toArray := by rw [hs.eval, ← hxs, evs_eq]; simp
  simp only [execOp, resolve, hargs]
  have h2' : ¬ (fn.name = "runtime.NumGoroutine") := by simpa using h2
  have h3' : ¬ (fn.body = none) := by intro h; rw [h] at h3; cases h3
  simp [Act.eval, Deferred.ofValue, invoke, callFunc, program, Sem.run, h1, h2', h3']⟩, h.of⟩⟩
def setAll (listed : Array Bool) : List Nat → Array Bool
  | [] => listed
  | i :: is => setAll (listed.setIfInBounds i true) is
def quietB (ops : Array Oper) : Array Bool → List Nat → Bool
  | _, [] => true
  | listed, i :: is => (Region.ready .any ops listed).contains i && Region.free .any ops listed i && quietB ops (listed.setIfInBounds i true) is
/-- The operations at these places. -/
def pick (ops : Array Oper) : List Nat → List Oper
  | [] => []
  | i :: is => match ops[i]? with
    | some o => o :: pick ops is
    | none => pick ops is
theorem ha_quiet0 (hsel : Region.noSelect ops = true) (hds : dstsB c.n ops = true) : ∀ (is : List Nat) (listed : Array Bool) (fr : Fr), quietB ops listed is = true →
    QC c ops (fun fr' => HA c ops E K f (setAll listed is) fr' H) E (pick ops is) fr → HA c ops E K (is.length + f) listed fr H
  | [], listed, fr, _, h => by rw [List.length_nil, Nat.zero_add]; exact h
  | i :: is, listed, fr, hB, hk => by
    simp only [quietB, Bool.and_eq_true] at hB
    obtain ⟨⟨hr, hf⟩, hB⟩ := hB
    have hr : i ∈ Region.ready .any ops listed := by simpa using hr
    obtain ⟨_, o, ho, _⟩ := mem_ready.1 hr
    unfold pick at hk
    rw [ho] at hk
    obtain ⟨v, hq, hk⟩ := hk
    rw [List.length_cons, show is.length + 1 + f = (is.length + f) + 1 by omega]
    exact HA_first ho hsel hds _ _ _ _ (Region.free_spec ho hf) hr hq (ha_quiet0 hsel hds is _ _ hB hk)
theorem ha_quiet (is : List Nat) (hn : Nat.ble is.length n = true) (hB : (Region.noSelect ops && dstsB c.n ops && quietB ops listed is) = true)
    (h : HQ c ops (fun fr' => HAs c ops E K (n - is.length) (setAll listed is) fr' H) (pick ops is) fr E) : HAs c ops E K n listed fr H := by
  simp only [Bool.and_eq_true] at hB
  have hn := Nat.le_of_ble_eq_true hn
  have h2 : ∀ (l : List Oper) (fr : Fr), QC c ops (fun fr' => HAs c ops E K (n - is.length) (setAll listed is) fr' H) E l fr → QC c ops (fun fr' => HA c ops E K (n - is.length) (setAll listed is) fr' H) E l fr := by
    intro l
    induction l with
    | nil => exact fun fr h => h.of
    | cons o l ih => exact fun fr ⟨v, hq, hk⟩ => ⟨v, hq, ih _ hk⟩
  have := ha_quiet0 hB.1.1 hB.1.2 is listed fr hB.2 (h2 _ _ h.of)
  rw [show is.length + (n - is.length) = n by omega] at this
  exact ⟨this⟩
theorem ha_end (hn : n = 0) (hr : Region.ready .any ops listed = []) (hi : Imp H E) (h : K fr H) : HAs c ops E K n listed fr H := by subst hn; exact ⟨⟨.of hi, hr, h⟩⟩
theorem ha_fork {is : List Nat} (hn : Nat.blt 0 n = true) (hr : Region.ready .any ops listed = is) (hne : is ≠ []) (hi : Imp H E)
    (h : ∀ i ∈ is, ∃ o, ops[i]? = some o ∧ HL c ops (thn (HAs c ops E K (n - 1) (listed.setIfInBounds i true)) noX) [o] fr H) : HAs c ops E K n listed fr H := by
  have hn : 0 < n := by simpa using hn
  obtain ⟨m, rfl⟩ : ∃ m, n = m + 1 := ⟨n - 1, by omega⟩
  refine ⟨⟨.of hi, by rw [hr]; exact hne, fun i him => ?_⟩⟩
  rw [hr] at him
  obtain ⟨o, ho, hl⟩ := h i him
  exact ⟨o, ho, hl.mono1 fun fr H hk => hk.of⟩
theorem ha_fork1 (i : Nat) {o : Oper} (hn : Nat.blt 0 n = true) (hr : Region.ready .any ops listed = [i]) (ho : ops[i]? = some o) (hi : Imp H E)
    (h : HL c ops (thn (HAs c ops E K (n - 1) (listed.setIfInBounds i true)) noX) [o] fr H) : HAs c ops E K n listed fr H :=
  ha_fork hn hr (by simp) hi fun k hk => by
    simp only [List.mem_singleton] at hk; subst hk; exact ⟨o, ho, h⟩
theorem ha_fork2 (i j : Nat) {o p : Oper} (hn : Nat.blt 0 n = true) (hr : Region.ready .any ops listed = [i, j]) (ho : ops[i]? = some o) (hp : ops[j]? = some p) (hi : Imp H E)
    (h1 : HL c ops (thn (HAs c ops E K (n - 1) (listed.setIfInBounds i true)) noX) [o] fr H) (h2 : HL c ops (thn (HAs c ops E K (n - 1) (listed.setIfInBounds j true)) noX) [p] fr H) : HAs c ops E K n listed fr H :=
  ha_fork hn hr (by simp) hi fun k hk => by
    simp only [List.mem_cons, List.not_mem_nil, or_false] at hk
    rcases hk with rfl | rfl
    · exact ⟨o, ho, h1⟩
    · exact ⟨p, hp, h2⟩
theorem ha_fork3 (i j k : Nat) {o p q : Oper} (hn : Nat.blt 0 n = true) (hr : Region.ready .any ops listed = [i, j, k]) (ho : ops[i]? = some o) (hp : ops[j]? = some p) (hq : ops[k]? = some q) (hi : Imp H E)
    (h1 : HL c ops (thn (HAs c ops E K (n - 1) (listed.setIfInBounds i true)) noX) [o] fr H) (h2 : HL c ops (thn (HAs c ops E K (n - 1) (listed.setIfInBounds j true)) noX) [p] fr H)
    (h3 : HL c ops (thn (HAs c ops E K (n - 1) (listed.setIfInBounds k true)) noX) [q] fr H) : HAs c ops E K n listed fr H :=
  ha_fork hn hr (by simp) hi fun m hm => by
    simp only [List.mem_cons, List.not_mem_nil, or_false] at hm
    rcases hm with rfl | rfl | rfl
    · exact ⟨o, ho, h1⟩
    · exact ⟨p, hp, h2⟩
    · exact ⟨q, hq, h3⟩
/-- Where the orders meet again. -/
theorem hc_via {code : Code} {K : Fr → List Ent → Prop} (M : Fr → List Ent → Prop) (h1 : HC c code (thn M Q) fr H) (h2 : ∀ fr H, M fr H → K fr H) : HC c code (thn K Q) fr H :=
  h1.mono fun e fr H h => by cases e <;> first | exact h2 _ _ h | exact h
theorem hc_drawA (E : List Ent) {id : Nat} {l : List Oper} (hm : c.P.follows .mixedOrders = true)
    (h : HAs c l.toArray E (fun fr H => Q .normal fr H) l.length (Array.replicate l.length false) fr H) : HC c (.region id l.toArray true) Q fr H := ⟨fun a w hs hw => by
  refine wp_region_any hm ?_
  have := HA.any (Q := Q) (fun _ _ h => h) _ _ _ _ _ _ h.of hs (hw.grow (Below.refl _ _).drew)
  simpa using this⟩
end
end Go.Proofs.Ytoobhebbgbhahaa
