/-
  Records: the program's and the document's. No condition.
-/
import Derived.Test.YtpeegklnkecajaaC3
namespace Go.Proofs.Ytpeegklnkecajaa
open Go.RowKit
def recB (l : List UInt8) : List UInt8 := be4 l.length ++ l ++ be4 (crc (be4 l.length ++ l)).toNat
theorem length_recB (l : List UInt8) : (recB l).length = l.length + 8 := by unfold recB; rw [List.length_append, List.length_append, length_be4, length_be4]; omega
section
variable {w0 : World} {B : Nat} {H : List Ent}
theorem BytR.ent {F : List Ent} {g k n c : Nat} {T : TypeId} {C : List Value} {l : List UInt8} (ht : Take H ⟨g, T, C, k⟩ F) (hC : C = l.map byteV) (hn : l.length = n) (hc : n ≤ c) (hs : c ≤ 9223372036854775807) : BytR w0 B H (some ⟨g, 0, none⟩) n c l :=
  ⟨hn, hc, hs, fun h => (by cases h), fun _ => ⟨_, _, rfl⟩, Rds.ent (c := ⟨Try.prog, 0, w0, B⟩) (n := C.length) ht (by rw [List.drop_zero, List.take_length, hC]) (fun u hu => by obtain ⟨x, _, rfl⟩ := List.mem_map.1 hu; rfl)⟩
set_option maxHeartbeats 8000000
set_option maxRecDepth 100000
theorem recordN_fn {a : Option Addr} {len cap : Nat} (hn : 8388608 < len) :
    Fn Try.prog w0 B 11 [.slice a len cap] H (fun v H' => v = .tuple #[.slice none 0 0, .int .i64 31] ∧ H' = H) := by
  refine fn_intro Try.func11 rfl (by kernel_rfl) rfl ?_
  repeat (first | refine go_ ?_ | refine bx_ (fun _ => ?_))
  exact fin2SI rfl rfl rfl ⟨rfl, rfl⟩
theorem record_fn {a : Option Addr} {len cap : Nat} {l : List UInt8} (h : BytR w0 B H a len cap l) (hn : len ≤ 8388608) :
    Fn Try.prog w0 B 11 [.slice a len cap] H (fun v H' => ∃ sv, v = .tuple #[sv, .int .i64 0] ∧ Own 5 1 sv (len + 8) ((recB l).map byteV) H H') := by
  have he := h.eq
  have hle := h.le
  have hsm := h.small
  refine fn_intro Try.func11 rfl (by kernel_rfl) rfl ?_
  repeat (first | refine go_ ?_ | refine bx_ (fun _ => ?_))
  refine hl_call rfl rfl (four_fn len (by omega)) (fun v M hv => ?_)
  obtain ⟨g1, rfl, rfl⟩ := hv
  repeat (first | refine go_ ?_ | refine bx_ (fun _ => ?_))
  rename_i g2
  have b1 : BytR w0 B (⟨g2, 22, [.slice (some ⟨g1, 0, none⟩) 4 4, .slice a len cap], 2 * 1⟩ :: ⟨g1, 5, (be4 len).map byteV, 4⟩ :: H) (some ⟨g1, 0, none⟩) 4 4 (be4 len) := BytR.ent (.there .here) rfl rfl (by decide) (by decide)
  have b2 := h.imp (show Imp (⟨g2, 22, [.slice (some ⟨g1, 0, none⟩) 4 4, .slice a len cap], 2 * 1⟩ :: ⟨g1, 5, (be4 len).map byteV, 4⟩ :: H) H from Imp.drop (Imp.drop (Imp.refl _)))
  have p2 := PartsR.ent (w0 := w0) (B := B) (n := 2) (H := ⟨g2, 22, [.slice (some ⟨g1, 0, none⟩) 4 4, .slice a len cap], 2 * 1⟩ :: ⟨g1, 5, (be4 len).map byteV, 4⟩ :: H) (ps := [⟨some ⟨g1, 0, none⟩, 4, 4, be4 len⟩, ⟨a, len, cap, l⟩]) .here rfl rfl (by
    intro p hp
    simp only [List.mem_cons, List.not_mem_nil, or_false] at hp
    rcases hp with rfl | rfl
    · exact b1
    · exact b2)
  refine hl_callv rfl rfl (crc_fn (cap := 2) (xs := be4 len ++ l) p2 (by decide) (by
    intro p hp
    simp only [List.mem_cons, List.not_mem_nil, or_false] at hp
    rcases hp with rfl | rfl <;> dsimp only <;> omega) (by simp)) ?_
  obtain ⟨cn, hcn⟩ : ∃ cn, cn = (crc (be4 len ++ l)).toNat := ⟨_, rfl⟩
  have hcl : cn < 4294967296 := by rw [hcn]; exact (crc (be4 len ++ l)).isLt
  rw [← hcn]
  repeat (first | refine go_ ?_ | refine bx_ (fun _ => ?_))
  refine hl_call rfl rfl (four_fn cn hcl) (fun v M hv => ?_)
  obtain ⟨g3, rfl, rfl⟩ := hv
  repeat (first | refine go_ ?_ | refine bx_ (fun _ => ?_))
  rename_i g4
  have p3 := PartsR.ent (w0 := w0) (B := B) (n := 3) (H := ⟨g4, 22, [.slice (some ⟨g1, 0, none⟩) 4 4, .slice a len cap, .slice (some ⟨g3, 0, none⟩) 4 4], 3 * 1⟩ :: ⟨g3, 5, (be4 cn).map byteV, 4⟩ :: ⟨g2, 22, [.slice (some ⟨g1, 0, none⟩) 4 4, .slice a len cap], 2 * 1⟩ :: ⟨g1, 5, (be4 len).map byteV, 4⟩ :: H) (ps := [⟨some ⟨g1, 0, none⟩, 4, 4, be4 len⟩, ⟨a, len, cap, l⟩, ⟨some ⟨g3, 0, none⟩, 4, 4, be4 cn⟩]) .here rfl rfl (by
    intro p hp
    simp only [List.mem_cons, List.not_mem_nil, or_false] at hp
    rcases hp with rfl | rfl | rfl
    · exact b1.imp (Imp.drop (Imp.drop (Imp.refl _)))
    · exact b2.imp (Imp.drop (Imp.drop (Imp.refl _)))
    · exact BytR.ent (.there .here) rfl rfl (Nat.le_refl _) (by show (4 : Nat) ≤ _; omega))
  have hfl : ([⟨some ⟨g1, 0, none⟩, 4, 4, be4 len⟩, ⟨a, len, cap, l⟩, ⟨some ⟨g3, 0, none⟩, 4, 4, be4 cn⟩] : List Part).flatMap (·.bs) = recB l := by
    unfold recB
    rw [he, ← hcn]
    simp
  have hsum : sumL ([⟨some ⟨g1, 0, none⟩, 4, 4, be4 len⟩, ⟨a, len, cap, l⟩, ⟨some ⟨g3, 0, none⟩, 4, 4, be4 cn⟩] : List Part) = len + 8 := by
    simp [sumL]; omega
  have C := concat_fn (cap := 3) p3 (by decide) (by rw [hsum]; omega)
  rw [hfl, hsum] at C
  refine hl_call rfl rfl C (fun v M o => ?_)
  obtain ⟨a5, c5, rfl, _, _⟩ := o.form
  obtain ⟨H2, hi, o2⟩ := o.past (F2 := H) (by repeat (first | exact List.Sublist.refl _ | refine List.Sublist.cons _ ?_))
  repeat (first | refine go_ ?_ | refine bx_ (fun _ => ?_))
  exact fin2SI rfl rfl rfl ⟨_, rfl, o2⟩ hi
theorem rrecord_fn {a : Option Addr} {len cap : Nat} {l : List UInt8} (h : BytR w0 B H a len cap l) (hn : len ≤ 8388608) :
    Fn Try.prog w0 B 14 [.slice a len cap] H (fun v H' => Own 5 1 v (len + 8) ((recB l).map byteV) H H') := by
  have he := h.eq
  refine fn_intro Try.func14 rfl (by kernel_rfl) rfl ?_
  repeat (first | refine go_ ?_ | refine bx_ (fun _ => ?_))
  refine hl_call rfl rfl (big_fn len (by omega)) (fun v M hv => ?_)
  obtain ⟨g1, rfl, rfl⟩ := hv
  repeat (first | refine go_ ?_ | refine bx_ (fun _ => ?_))
  refine hl_call rfl rfl (join_fn (BytR.ent .here rfl rfl (by decide) (by decide)) (h.imp (Imp.drop (Imp.refl _))) (by decide) (by omega)) (fun v M o => ?_)
  obtain ⟨a1, c1, rfl, hc1, hc2⟩ := o.form
  repeat (first | refine go_ ?_ | refine bx_ (fun _ => ?_))
  have ob : BytR w0 B M a1 (4 + len) c1 (be4 len ++ l) := BytR.own o
  refine hl_callv rfl rfl (rcrc_fn ob (by omega)) ?_
  obtain ⟨cn, hcn⟩ : ∃ cn, cn = (crc (be4 len ++ l)).toNat := ⟨_, rfl⟩
  have hcl : cn < 4294967296 := by rw [hcn]; exact (crc (be4 len ++ l)).isLt
  rw [← hcn]
  repeat (first | refine go_ ?_ | refine bx_ (fun _ => ?_))
  refine hl_call rfl rfl (big_fn cn hcl) (fun v M2 hv => ?_)
  obtain ⟨g3, rfl, rfl⟩ := hv
  repeat (first | refine go_ ?_ | refine bx_ (fun _ => ?_))
  have o3 := o.under ⟨g3, 5, (be4 cn).map byteV, 4⟩
  refine hl_append_own rfl rfl o3 (BytR.ent (n := 4) (c := 4) (l := be4 cn) .here rfl rfl (Nat.le_refl _) (by omega)).rd (by rw [List.length_map, length_be4]) rfl (by decide) (by omega) (by omega) rfl (fun v4 M4 o4 => ?_)
  obtain ⟨a4, c4, rfl, _, _⟩ := o4.form
  rw [← List.map_append, show be4 len ++ l ++ be4 cn = recB l by unfold recB; rw [he, ← hcn], show 4 + len + 4 = len + 8 by omega] at o4
  rw [show 4 + len + 4 = len + 8 by omega]
  obtain ⟨H2, hi, o2⟩ := o4.past (F2 := H) (by repeat (first | exact List.Sublist.refl _ | refine List.Sublist.cons _ ?_))
  repeat (first | refine go_ ?_ | refine bx_ (fun _ => ?_))
  exact fin1S rfl rfl o2 hi
end
end Go.Proofs.Ytpeegklnkecajaa
