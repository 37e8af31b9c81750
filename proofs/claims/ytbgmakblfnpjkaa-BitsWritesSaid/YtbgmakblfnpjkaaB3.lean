/-
  The statements' own functions of the bits: anchor, right, bitsOf. No condition.
-/
import Derived.Test.YtbgmakblfnpjkaaB2
namespace Go.Proofs.Ytbgmakblfnpjkaa
open Go.RowKit

/-- A number, and with how many bits it is written; or a filling. -/
structure Num where
  V : Int
  N : Int
  F : Bool
abbrev numV (x : Num) : List Value := [.int .i64 x.V, .int .i64 x.N, .bool x.F]
instance (v n : Int) : Decidable (Right v n) := by unfold Right; exact inferInstance
def Num.wf (x : Num) : Prop := (-9223372036854775808 ≤ x.V ∧ x.V ≤ 9223372036854775807) ∧ (-9223372036854775808 ≤ x.N ∧ x.N ≤ 9223372036854775807)

section
variable {w0 : World} {B : Nat} {F H : List Ent}
set_option maxHeartbeats 4000000 in
set_option maxRecDepth 100000 in
theorem anchor_fn : Fn Try.prog w0 B 8 [] H (fun v H' => v = .bool true ∧ H' = H) := by
  refine fn_intro Try.func8 rfl (by kernel_rfl) rfl ?_
  repeat (first | refine go_ ?_ | refine bx_ (fun _ => ?_))
  refine hc_rounds 3 ?_
  repeat (first | refine go_ ?_ | refine bx_ (fun _ => ?_))
  refine hl_call rfl rfl (new_fn false) (fun _ H' h' => ?_)
  obtain ⟨g, rfl, h⟩ := h'
  change WrB g false [] _ _ at h
  repeat (first | refine go_ ?_ | refine bx_ (fun _ => ?_))
  refine hl_call rfl rfl (Put_yes h (by decide) 1 1 (by decide) (by decide)) (fun _ H' h' => ?_)
  obtain ⟨rfl, h⟩ := h'
  repeat (first | refine go_ ?_ | refine bx_ (fun _ => ?_))
  refine hl_call rfl rfl (Put_yes h (by decide) 2 2 (by decide) (by decide)) (fun _ H' h' => ?_)
  obtain ⟨rfl, h⟩ := h'
  repeat (first | refine go_ ?_ | refine bx_ (fun _ => ?_))
  refine hl_call rfl rfl (Put_yes h (by decide) 5 3 (by decide) (by decide)) (fun _ H' h' => ?_)
  obtain ⟨rfl, h⟩ := h'
  repeat (first | refine go_ ?_ | refine bx_ (fun _ => ?_))
  refine hl_callv rfl rfl (Put_no _ 8 3 (by decide) (by decide) (by decide)) ?_
  repeat (first | refine go_ ?_ | refine bx_ (fun _ => ?_))
  refine hl_call rfl rfl (bytes_fn h (by decide)) (fun v H' h' => ?_)
  rw [show bytesOf false ([] ++ numBits 1 1 false ++ numBits 2 2 false ++ numBits 5 3 false) = [45] from by decide] at h'
  change Own _ 1 v 1 [.int .u8 45] _ _ at h'
  obtain ⟨gb, cap, rfl, h1, h2, h3, h4⟩ := h'.posn (by decide)
  refine HL.perm ?_ h4
  repeat (first | refine go_ ?_ | refine bx_ (fun _ => ?_))
  refine HL.imp ?_ (Imp.drop h.imp)
  repeat (first | refine go_ ?_ | refine bx_ (fun _ => ?_))
  refine hl_call rfl rfl (new_fn true) (fun _ H' h' => ?_)
  obtain ⟨g, rfl, h⟩ := h'
  change WrB g true [] _ _ at h
  repeat (first | refine go_ ?_ | refine bx_ (fun _ => ?_))
  refine hl_call rfl rfl (Put_yes h (by decide) 1 1 (by decide) (by decide)) (fun _ H' h' => ?_)
  obtain ⟨rfl, h⟩ := h'
  repeat (first | refine go_ ?_ | refine bx_ (fun _ => ?_))
  refine hl_call rfl rfl (Put_yes h (by decide) 2 2 (by decide) (by decide)) (fun _ H' h' => ?_)
  obtain ⟨rfl, h⟩ := h'
  repeat (first | refine go_ ?_ | refine bx_ (fun _ => ?_))
  refine hl_call rfl rfl (Put_yes h (by decide) 5 3 (by decide) (by decide)) (fun _ H' h' => ?_)
  obtain ⟨rfl, h⟩ := h'
  repeat (first | refine go_ ?_ | refine bx_ (fun _ => ?_))
  refine hl_callv rfl rfl (Put_no _ 8 3 (by decide) (by decide) (by decide)) ?_
  repeat (first | refine go_ ?_ | refine bx_ (fun _ => ?_))
  refine hl_call rfl rfl (bytes_fn h (by decide)) (fun v H' h' => ?_)
  rw [show bytesOf true ([] ++ numBits 1 1 true ++ numBits 2 2 true ++ numBits 5 3 true) = [212] from by decide] at h'
  change Own _ 1 v 1 [.int .u8 212] _ _ at h'
  obtain ⟨gb, cap, rfl, h1, h2, h3, h4⟩ := h'.posn (by decide)
  refine HL.perm ?_ h4
  repeat (first | refine go_ ?_ | refine bx_ (fun _ => ?_))
  refine fin1B rfl rfl ⟨rfl, rfl⟩ (Imp.drop (h.imp.trans (Imp.drop (Imp.refl _))))

theorem right_yes (v n : Int) (f : Bool) (h : Right v n) : Fn Try.prog w0 B 10 [.agg #[.int .i64 v, .int .i64 n, .bool f]] H (fun v H' => v = .bool true ∧ H' = H) := by
  obtain ⟨h1, h2, h3, h4⟩ := h
  obtain ⟨n, rfl⟩ := Int.eq_ofNat_of_zero_le h1
  rw [Int.toNat_natCast, show ((2 : Int) ^ n) = ((2 ^ n : Nat) : Int) by simp] at h4
  have hw := wrap_pow n (by omega)
  refine fn_intro Try.func10 rfl (by kernel_rfl) rfl ?_
  repeat (first | refine go_ ?_ | refine bx_ (fun _ => ?_))
  (refine hc_draw (by kernel_rfl) (by kernel_rfl) ?_; repeat (first | refine gd_ ?_ | (rw [hw])))
  repeat (first | refine go_ ?_ | refine bx_ (fun _ => ?_))
  exact fin1B rfl rfl ⟨rfl, rfl⟩
theorem right_no (v n : Int) (f : Bool) (h : ¬ Right v n) : Fn Try.prog w0 B 10 [.agg #[.int .i64 v, .int .i64 n, .bool f]] H (fun v H' => v = .bool false ∧ H' = H) := by
  unfold Right at h
  refine fn_intro Try.func10 rfl (by kernel_rfl) rfl ?_
  repeat (first | refine go_ ?_ | refine bx_ (fun _ => ?_))
  by_cases h1 : n < 0
  · (refine hc_draw (by kernel_rfl) (by kernel_rfl) ?_; repeat (first | refine gd_ ?_))
    repeat (first | refine go_ ?_ | refine bx_ (fun _ => ?_))
    exact fin1B rfl rfl ⟨rfl, rfl⟩
  · by_cases h2 : 24 < n
    · (refine hc_draw (by kernel_rfl) (by kernel_rfl) ?_; repeat (first | refine gd_ ?_))
      repeat (first | refine go_ ?_ | refine bx_ (fun _ => ?_))
      exact fin1B rfl rfl ⟨rfl, rfl⟩
    · by_cases h3 : v < 0
      · (refine hc_draw (by kernel_rfl) (by kernel_rfl) ?_; repeat (first | refine gd_ ?_))
        repeat (first | refine go_ ?_ | refine bx_ (fun _ => ?_))
        exact fin1B rfl rfl ⟨rfl, rfl⟩
      · obtain ⟨m, rfl⟩ := Int.eq_ofNat_of_zero_le (show 0 ≤ n by omega)
        have hw := wrap_pow m (by omega)
        rw [Int.toNat_natCast, show ((2 : Int) ^ m) = ((2 ^ m : Nat) : Int) by simp] at h
        (refine hc_draw (by kernel_rfl) (by kernel_rfl) ?_; repeat (first | refine gd_ ?_ | (rw [hw])))
        repeat (first | refine go_ ?_ | refine bx_ (fun _ => ?_))
        exact fin1B rfl rfl ⟨rfl, rfl⟩
end
end Go.Proofs.Ytbgmakblfnpjkaa
