/-
  The way of walking, more: labels and jumps back to them. No condition.
-/
import Derived.Test.YtpeegklnkecajaaHs
import Derived.Scope
import Derived.ScopeJumps
namespace Go.Proofs.Ytpeegklnkecajaa
open Go.RowKit
theorem wp_scope_ghost {P : Program} {a : Act} {w : World} {Q : Exit → Act → World → Prop} {c rest : Code} (l : Nat) (I : Nat → Act → World → Prop) (hf : findLabel c l = some rest)
    (first : c.wp P (Exit.jump l (fun a w => ∃ m, I m a w) Q) a w)
    (pass : ∀ m a w, I m a w → rest.wp P (Exit.jump l (fun a' w' => ∃ m', m' < m ∧ I m' a' w') Q) a w) : (Code.scope c).wp P Q a w := by
  intro b k cs
  have hg : gotoIn l (.inScope c :: k) = some (.code rest :: .inScope c :: k) := by simp [gotoIn, hf]
  have key : ∀ n a w, I n a w → ∃ e a' w', Q e a' w' ∧ Arrives P (lone (b.at a (.code rest :: .inScope c :: k)) cs w) b k cs e a' w' := by
    intro n
    induction n using Nat.strongRecOn with
    | _ n ih =>
      intro a w hI
      obtain ⟨e, a₁, w₁, hq, harr⟩ := pass n a w hI b (.inScope c :: k) cs
      cases e with
      | normal => exact ⟨.normal, a₁, w₁, hq, Steps.trans harr (.one step_inScope)⟩
      | exit id => exact ⟨.exit id, a₁, w₁, hq, fun k' hk => harr k' (by simp [exitTo, hk])⟩
      | goto l' =>
        obtain ⟨rfl, m', hlt, hJ'⟩ := hq
        obtain ⟨e₂, a₂, w₂, hq₂, harr₂⟩ := ih m' hlt a₁ w₁ hJ'
        exact ⟨e₂, a₂, w₂, hq₂, .of_steps (harr _ hg) harr₂⟩
      | ret => exact ⟨_, a₁, w₁, hq, harr⟩
      | panic ch => exact ⟨_, a₁, w₁, hq, harr⟩
      | outgrown => exact ⟨_, a₁, w₁, hq, harr⟩
  obtain ⟨e, a₁, w₁, hq, harr⟩ := first b (.inScope c :: k) cs
  cases e with
  | normal => exact ⟨.normal, a₁, w₁, hq, .head step_scope (Steps.trans harr (.one step_inScope))⟩
  | exit id => exact ⟨.exit id, a₁, w₁, hq, fun k' hk => .head step_scope (harr k' (by simp [exitTo, hk]))⟩
  | goto l' =>
    obtain ⟨rfl, m', hJ'⟩ := hq
    obtain ⟨e₂, a₂, w₂, hq₂, harr₂⟩ := key m' a₁ w₁ hJ'
    exact ⟨e₂, a₂, w₂, hq₂, .of_steps (.head step_scope (harr _ hg)) harr₂⟩
  | ret => exact ⟨_, a₁, w₁, hq, .of_steps (.one step_scope) harr⟩
  | panic ch => exact ⟨_, a₁, w₁, hq, .of_steps (.one step_scope) harr⟩
  | outgrown => exact ⟨_, a₁, w₁, hq, .of_steps (.one step_scope) harr⟩
def jmp (l : Nat) (K : Fr → List Ent → Prop) (Q : Pst) : Pst
  | .goto l', fr, H => l' = l ∧ K fr H
  | e, fr, H => Q e fr H
section
variable {c : Cx} {Q : Pst} {fr : Fr} {H : List Ent}
theorem hc_label {l : Nat} (h : Q .normal fr H) : HC c (.label l) Q fr H := ⟨fun _ _ hs hh => wp_label ⟨_, _, hs, hh, h⟩⟩
theorem hc_goto {l : Nat} (h : Q (.goto l) fr H) : HC c (.goto l) Q fr H := ⟨fun _ _ hs hh => wp_goto ⟨_, _, hs, hh, h⟩⟩
/-- A scope through which the run goes back to one label: what holds at each jump, by a number that each pass lowers. -/
theorem hc_scope {b rest : Code} (l : Nat) (I : Nat → Fr → List Ent → Prop) (hf : findLabel b l = some rest) (first : HC c b (jmp l (fun fr H => ∃ m, I m fr H) Q) fr H)
    (pass : ∀ m fr H, I m fr H → HC c rest (jmp l (fun fr H => ∃ m', m' < m ∧ I m' fr H) Q) fr H) : HC c (.scope b) Q fr H := by
  constructor
  intro a w hs hh
  refine wp_scope_ghost l (fun m a w => ∃ fr H, Sees c.n a fr ∧ Hp c.w0 c.B H w ∧ I m fr H) hf (wp_mono (first.of a w hs hh) ?_) ?_
  · intro e a w ⟨f, k, x, y, z⟩
    cases e with
    | goto l' => obtain ⟨h1, m, h2⟩ := z; exact ⟨h1, m, f, k, x, y, h2⟩
    | _ => exact ⟨f, k, x, y, z⟩
  · rintro m a w ⟨fr, H, hs, hh, hI⟩
    refine wp_mono ((pass m fr H hI).of a w hs hh) ?_
    intro e a w ⟨f, k, x, y, z⟩
    cases e with
    | goto l' => obtain ⟨h1, m', h0, h2⟩ := z; exact ⟨h1, m', h0, f, k, x, y, h2⟩
    | _ => exact ⟨f, k, x, y, z⟩
/-- The same, the label ahead of all. -/
theorem hc_scopeS {r : Code} (l : Nat) (I : Nat → Fr → List Ent → Prop) (m0 : Nat) (h0 : I m0 fr H)
    (pass : ∀ m fr H, I m fr H → HC c r (jmp l (fun fr H => ∃ m', m' < m ∧ I m' fr H) Q) fr H) : HC c (.scope (.seq (.label l) r)) Q fr H :=
  hc_scope (rest := .seq .skip r) l I (by simp [findLabel])
    (hc_seq (hc_label ((pass m0 fr H h0).mono fun e fr H h => by
      cases e with
      | goto l' => obtain ⟨h1, m', _, h2⟩ := h; exact ⟨h1, m', h2⟩
      | _ => exact h)))
    (fun m fr H h => hc_seq (hc_skip (pass m fr H h)))
theorem thn_goto {K : Fr → List Ent → Prop} {l : Nat} (h : Q (.goto l) fr H) : thn K Q (.goto l) fr H := h
theorem inB_goto {id l : Nat} (h : Q (.goto l) fr H) : inB id Q (.goto l) fr H := h
theorem jmp_goto {K : Fr → List Ent → Prop} {l : Nat} (h : K fr H) : jmp l K Q (.goto l) fr H := ⟨rfl, h⟩
theorem jmp_ret {K : Fr → List Ent → Prop} {l : Nat} (h : Q .ret fr H) : jmp l K Q .ret fr H := h
theorem jmp_norm {K : Fr → List Ent → Prop} {l : Nat} (h : Q .normal fr H) : jmp l K Q .normal fr H := h
/-- A scope that the run goes through without a jump. -/
theorem hc_scope0 {b : Code} (h : HC c b (jmp 0 (fun _ _ => False) Q) fr H) (hno : ∀ l fr H, ¬ Q (.goto l) fr H := by intro l fr H h; exact h) : HC c (.scope b) Q fr H := by
  constructor
  intro a w hs hh
  refine wp_scope_straight (wp_mono (h.of a w hs hh) ?_)
  intro e a w ⟨f, k, x, y, z⟩
  cases e with
  | goto l' => exact z.2.elim
  | _ => exact ⟨f, k, x, y, z⟩
end
end Go.Proofs.Ytpeegklnkecajaa
