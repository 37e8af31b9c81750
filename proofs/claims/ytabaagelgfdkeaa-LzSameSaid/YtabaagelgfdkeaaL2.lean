/-
  What is found without effort; the anchor. No condition.
-/
import Derived.Test.YtabaagelgfdkeaaL1
namespace Go.Proofs.Ytabaagelgfdkeaa
open Go.RowKit
abbrev byteF (b : List UInt8) : Nat → Int := fun j => ((b.getD j 0).toNat : Int)
/-- Bytes that stand in memory. -/
structure BArg (w0 : World) (B : Nat) (H : List Ent) (a : Option Addr) (n : Nat) (b : List UInt8) : Prop where
  len : b.length = n
  row : 0 < n → ∃ bb off, a = some ⟨bb, off, none⟩ ∧ Row w0 B H bb off n .u8 (byteF b)
theorem BArg.imp {w0 : World} {B : Nat} {H H' : List Ent} {a : Option Addr} {n : Nat} {b : List UInt8} (h : BArg w0 B H a n b) (hi : Imp H' H) : BArg w0 B H' a n b :=
  ⟨h.len, fun h0 => by obtain ⟨bb, off, e, r⟩ := h.row h0; exact ⟨bb, off, e, r.imp hi⟩⟩
theorem BArg.sl {w0 : World} {B : Nat} {H : List Ent} {a : Option Addr} {len cap : Nat} {l : List UInt8} (hB : w0.heap.size ≤ B) (h : Sl byteV w0 a len cap l) : BArg w0 B H a len l :=
  ⟨h.size_eq, fun h0 => by
    have e := h.size_eq
    obtain ⟨bb, off, rfl, _⟩ := h.row 0 (by omega)
    have := Row.of_rds (w0 := w0) (B := B) (E := H) (Rds.sl (c := ⟨Try.prog, 0, w0, B⟩) h hB (by simp [Value.oneCell', byteV]))
    rw [e] at this
    exact ⟨bb, off, rfl, this⟩⟩
theorem BArg.own {w0 : World} {B : Nat} {H F : List Ent} {a : Option Addr} {n c : Nat} {b : List UInt8} (o : Own 5 1 (.slice a n c) n (b.map byteV) F H) : BArg w0 B H a n b := by
  have hl : b.length = n := by have := o.len; simpa using this
  refine ⟨hl, fun h0 => ?_⟩
  obtain ⟨g, cap, e, _, _, _, _⟩ := o.posn h0
  cases e
  have := Row.of_rds (w0 := w0) (B := B) (E := H) (o.rds (c := ⟨Try.prog, 0, w0, B⟩) (by simp [Value.oneCell', byteV]))
  rw [hl] at this
  exact ⟨g, 0, rfl, this⟩
theorem map_take_succ {b : List UInt8} {k : Nat} (h : k < b.length) : (b.take (k + 1)).map litT = (b.take k).map litT ++ [litT (b.getD k 0)] := by
  rw [List.take_succ_eq_append_getElem h, List.map_append]
  simp [h]
theorem flat_snoc (l : List Tok) (t : Tok) : (l ++ [t]).flatMap tokV = l.flatMap tokV ++ tokV t := by simp
section
variable {w0 : World} {B : Nat} {H : List Ent}
set_option maxHeartbeats 4000000 in
theorem find0_fn {a : Option Addr} {n cap : Nat} {b : List UInt8} (hb : BArg w0 B H a n b) (h5 : n ≤ 100000) (eff : Int) (he : eff ≤ 0) :
    Fn Try.prog w0 B 11 [.slice a n cap, .int .i64 eff] H (fun v H' => Own 27 3 v n ((b.map litT).flatMap tokV) H H') := by
  have hl := hb.len
  refine fn_intro Try.func11 rfl (by kernel_rfl) rfl ?_
  repeat (first | refine go_ ?_ | refine bx_ (fun _ => ?_))
  refine hc_loopd (fun m fr M => ∃ k sv, k + m = n ∧ Agr fr [(0, .slice a n cap), (5, sv), (14, .slice a n cap), (15, .int .i64 (n : Int)), (16, .int .i64 (k : Int))] ∧ Own 27 3 sv k (((b.take k).map litT).flatMap tokV) H M) n ?_ ?_
  · exact ⟨0, .slice none 0 0, by omega, ⟨rfl, rfl, rfl, rfl, rfl, trivial⟩, Own.nil⟩
  rintro m fr M ⟨k, sv, hk, hf, o⟩
  obtain ⟨base, rfl⟩ := hf.out
  obtain ⟨sa, sc, rfl, hs1, hs2⟩ := o.form
  by_cases hlt : k < n
  · obtain ⟨bb, off, rfl, hrow⟩ := hb.row (by omega)
    have hrow := hrow.imp o.imp
    repeat (first | refine go_ ?_ | refine bx_ (fun _ => ?_))
    refine hl_append_own1 rfl rfl (o.under _) (Rds.ent (n := 3) .here rfl (by simp [Value.oneCell'])) rfl rfl (by decide) (by decide) (by omega) (by omega) rfl (fun gb cap' h1 h2 => HL.keep ?_ (.there .here))
    repeat (first | refine go_ ?_ | refine bx_ (fun _ => ?_))
    refine ⟨m - 1, by omega, _, Imp.refl _, k + 1, .slice (some ⟨gb, 0, none⟩) (k + 1) cap', by omega, ⟨rfl, rfl, rfl, rfl, rfl, trivial⟩, ?_⟩
    rw [map_take_succ (by omega), flat_snoc]
    exact Own.mk h1 h2 (by rw [List.length_append, length_flat]; simp; omega) (List.Perm.refl _)
  · obtain rfl : k = n := by omega
    rw [List.take_of_length_le (by omega)] at o
    repeat (first | refine go_ ?_ | refine bx_ (fun _ => ?_))
    exact fin1S rfl rfl o
set_option maxHeartbeats 4000000 in
theorem anchor_fn : Fn Try.prog w0 B 9 [] H (fun v H' => v = .bool true ∧ H' = H) := by
  refine fn_intro Try.func9 rfl (by kernel_rfl) rfl ?_
  repeat (first | refine go_ ?_ | refine bx_ (fun _ => ?_))
  refine hl_call rfl rfl (bytes_fn (l := [⟨0, 0, 97⟩, ⟨0, 0, 98⟩, ⟨4, 2, 0⟩]) rfl (fun _ => ⟨_, _, rfl⟩) (Rds.ent (c := ⟨Try.prog, 0, w0, B⟩) (n := 9) .here rfl (by simp [Value.oneCell'])) (by simp [Tok.wf]) (by decide) 100 (by decide)) (fun v M o => ?_)
  obtain ⟨sv, rfl, o⟩ := o
  rw [show lzB 100 [⟨0, 0, 97⟩, ⟨0, 0, 98⟩, ⟨4, 2, 0⟩] [] = ([97, 98, 97, 98, 97, 98], 0) from by decide] at o ⊢
  obtain ⟨g1, c1, rfl, hc1, hc2, _, hp⟩ := o.posn (by decide)
  refine HL.perm ?_ hp
  repeat (first | refine go_ ?_ | refine bx_ (fun _ => ?_))
  refine hl_call rfl rfl (bytes_fn (l := [⟨3, 1, 0⟩]) rfl (fun _ => ⟨_, _, rfl⟩) (Rds.ent (c := ⟨Try.prog, 0, w0, B⟩) (n := 3) .here rfl (by simp [Value.oneCell'])) (by simp [Tok.wf]) (by decide) 100 (by decide)) (fun v M o2 => ?_)
  obtain ⟨sv2, rfl, o2⟩ := o2
  rw [show lzB 100 [⟨3, 1, 0⟩] [] = ([], 22) from by decide] at o2 ⊢
  obtain ⟨a2, c2, rfl, _, _⟩ := o2.form
  refine HL.imp ?_ o2.imp
  repeat (first | refine go_ ?_ | refine bx_ (fun _ => ?_))
  refine hl_convStr (l := [97, 98, 97, 98, 97, 98]) rfl (Rds.ent (n := 6) (.there .here) rfl (by simp [Value.oneCell', byteV])) rfl ?_
  repeat (first | refine go_ ?_ | refine bx_ (fun _ => ?_) | refine hl_strEqT rfl rfl rfl rfl ?_)
  refine hl_convLit rfl .here rfl (by decide) rfl ?_
  repeat (first | refine go_ ?_ | refine bx_ (fun _ => ?_))
  refine hl_call rfl rfl (find0_fn (b := [97, 98]) ⟨rfl, fun _ => ⟨_, _, rfl, Row.of_rds (Rds.ent (c := ⟨Try.prog, 0, w0, B⟩) (n := 2) .here rfl (by simp [Value.oneCell', byteV]))⟩⟩ (by decide) 0 (by decide)) (fun v M o3 => ?_)
  obtain ⟨a3, c3, rfl, _, _⟩ := o3.form
  refine HL.imp ?_ o3.imp
  repeat (first | refine go_ ?_ | refine bx_ (fun _ => ?_))
  exact fin1B rfl rfl ⟨rfl, rfl⟩
end
end Go.Proofs.Ytabaagelgfdkeaa
