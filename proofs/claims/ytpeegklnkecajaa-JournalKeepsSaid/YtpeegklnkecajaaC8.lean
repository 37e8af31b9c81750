/-
  Rows under lists of blocks, first parts of lists, records one behind the other. No condition.
-/
import Derived.Test.YtpeegklnkecajaaC7
namespace Go.Proofs.Ytpeegklnkecajaa
open Go.RowKit
theorem Own.overL {e sz n : Nat} {v : Value} {C : List Value} {F H : List Ent} (o : Own e sz v n C F H) : ∀ X : List Ent, Own e sz v n C (X ++ F) (X ++ H)
  | [] => o
  | x :: X => (Own.overL o X).under x
section
variable {w0 : World} {B : Nat} {H : List Ent}
theorem PartsR.take {a : Option Addr} {len : Nat} {ps : List Part} (h : PartsR w0 B H a len ps) {k : Nat} (hk : k ≤ len) : PartsR w0 B H a k (ps.take k) :=
  ⟨by rw [List.length_take, h.eq]; omega, fun h0 => h.pos (by omega), by rw [List.map_take]; exact h.rd.take _, fun p hp => h.each p (List.mem_of_mem_take hp)⟩
theorem recs_take {L : List (List UInt8)} {k : Nat} (h : k < L.length) : recs (L.take (k + 1)) = recs (L.take k) ++ recB L[k] := by
  rw [List.take_succ_eq_append_getElem h, recs_append]
  simp [recs]
theorem length_recs {L : List (List UInt8)} {m : Nat} (h : ∀ p ∈ L, p.length ≤ m) : (recs L).length ≤ (m + 8) * L.length := by
  induction L with
  | nil => simp [recs]
  | cons p L ih =>
    have h1 := h p (by simp)
    have h2 := ih (fun q hq => h q (by simp [hq]))
    rw [recs_cons, List.length_append, length_recB, List.length_cons, Nat.mul_add]
    omega
end
end Go.Proofs.Ytpeegklnkecajaa
