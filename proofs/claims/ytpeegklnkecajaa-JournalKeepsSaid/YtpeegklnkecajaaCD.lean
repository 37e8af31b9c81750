/-
  The document's scan again: its records lie in the bytes. No condition.
-/
import Derived.Test.YtpeegklnkecajaaC6
namespace Go.Proofs.Ytpeegklnkecajaa
open Go.RowKit
section
variable {w0 : World} {B : Nat} {H : List Ent}
set_option maxHeartbeats 8000000
set_option maxRecDepth 100000
theorem rscanE_fn {a : Option Addr} {len cap : Nat} {b : List UInt8} (h : BytR w0 B H a len cap b) (hn : len ≤ 1000000000) :
    Fn Try.prog w0 B 10 [.slice a len cap] H (fun v H' => ∃ (sv : Value) (ps : List Part) (Xo : List Ent), v = .tuple #[sv, .int .i64 ((scan b).2 : Int)] ∧ H' = Xo ++ H ∧ ps.map Part.bs = (scan b).1 ∧ (∀ F, Own 22 1 sv ps.length (ps.map partV) F (Xo ++ F)) ∧ ∀ p ∈ ps, ∀ E2, BytR w0 B E2 a len cap b → BytR w0 B E2 p.a p.len p.cap p.bs) := by
  have he := h.eq
  have hle := h.le
  have hsm := h.small
  refine fn_intro Try.func10 rfl (by kernel_rfl) rfl ?_
  repeat (first | refine go_ ?_ | refine bx_ (fun _ => ?_))
  refine hc_loopd (fun f fr M => ∃ (e : Nat) (ps : List Part) (Xo : List Ent) (v : Value), len + 1 ≤ f + e ∧ e ≤ len ∧ (ps.map Part.bs ++ (scanP b f e).1 = (scan b).1 ∧ (scanP b f e).2 = (scan b).2) ∧ (∀ F, Own 22 1 v ps.length (ps.map partV) F (Xo ++ F)) ∧ (∀ p ∈ ps, ∀ E2, BytR w0 B E2 a len cap b → BytR w0 B E2 p.a p.len p.cap p.bs) ∧ M = Xo ++ H ∧ ps.length ≤ e ∧
    Agr fr [(0, .slice a len cap), (4, v), (5, .int .i64 (e : Int))]) (b.length + 1) ?_ ?_
  · exact ⟨0, [], [], _, by omega, by omega, ⟨rfl, rfl⟩, fun _ => Own.nil, fun p hp => (by cases hp), rfl, Nat.le_refl _, rfl, rfl, rfl, trivial⟩
  rintro f fr M ⟨e, ps, Xo, v, hfe, hel, ⟨hs1, hs2⟩, ho, hb, rfl, hpe, hf⟩
  obtain ⟨base, rfl⟩ := hf.out
  clear hf
  obtain ⟨av, cv, rfl, hv1, hv2⟩ := (ho []).form
  have fin : stepN b e = none → ps.map Part.bs = (scan b).1 ∧ e = (scan b).2 := fun h => by
    rw [scanP_none h] at hs1 hs2
    exact ⟨by simpa using hs1, hs2⟩
  by_cases h8 : len < e + 8
  · obtain ⟨f1, f2⟩ := fin (by unfold stepN; rw [if_pos (by omega)])
    repeat (first | refine go_ ?_ | refine bx_ (fun _ => ?_))
    exact fin2SI rfl rfl rfl ⟨_, ps, Xo, by rw [← f2], rfl, f1, ho, hb⟩ (Imp.refl _)
  obtain ⟨bb, off, rfl⟩ := h.pos (by omega)
  obtain ⟨E, hE⟩ : ∃ E, E = Xo ++ H := ⟨_, rfl⟩
  have hEH : Imp E H := by rw [hE]; exact Imp.tail _ _
  have hbE := h.imp hEH
  have b1 := hbE.drop e 4 (by omega)
  obtain ⟨n, hnn⟩ : ∃ n, n = num4 (b.drop e) := ⟨_, rfl⟩
  have N1 := rnumber_fn b1
  rw [num4_take, ← hnn] at N1
  have hnl : n < 4294967296 := by rw [hnn]; exact num4_lt _
  rw [← hE]
  by_cases hbig : 8388608 < n
  · obtain ⟨f1, f2⟩ := fin (by unfold stepN; rw [if_neg (by omega), if_pos (by left; omega)])
    repeat (first | refine go_ ?_ | refine bx_ (fun _ => ?_))
    refine hl_sliceX (i := e) (j := e + 4) (kj := .i64) rfl rfl rfl (by omega) (by omega) (by omega) rfl ?_
    rw [show e + 4 - e = 4 by omega]
    repeat (first | refine go_ ?_ | refine bx_ (fun _ => ?_) | refine hl_callv rfl rfl (N1) ?_)
    exact fin2SI rfl rfl rfl ⟨_, ps, Xo, by rw [← f2], rfl, f1, ho, hb⟩ (by rw [hE]; exact Imp.refl _)
  by_cases hshort : len < e + 8 + n
  · obtain ⟨f1, f2⟩ := fin (by unfold stepN; rw [if_neg (by omega), if_pos (by right; omega)])
    repeat (first | refine go_ ?_ | refine bx_ (fun _ => ?_))
    refine hl_sliceX (i := e) (j := e + 4) (kj := .i64) rfl rfl rfl (by omega) (by omega) (by omega) rfl ?_
    rw [show e + 4 - e = 4 by omega]
    repeat (first | refine go_ ?_ | refine bx_ (fun _ => ?_) | refine hl_callv rfl rfl (N1) ?_)
    exact fin2SI rfl rfl rfl ⟨_, ps, Xo, by rw [← f2], rfl, f1, ho, hb⟩ (by rw [hE]; exact Imp.refl _)
  repeat (first | refine go_ ?_ | refine bx_ (fun _ => ?_))
  refine hl_sliceX (i := e) (j := e + 4) (kj := .i64) rfl rfl rfl (by omega) (by omega) (by omega) rfl ?_
  rw [show e + 4 - e = 4 by omega]
  repeat (first | refine go_ ?_ | refine bx_ (fun _ => ?_) | refine hl_callv rfl rfl (N1) ?_)
  refine hl_sliceX (i := e + 4) (j := e + 4 + n) (kj := .i64) rfl rfl rfl (by omega) (by omega) (by omega) rfl ?_
  rw [show e + 4 + n - (e + 4) = n by omega]
  have b2 : BytR w0 B E _ n _ (payl b e n) := hbE.drop (e + 4) n (by omega)
  have b3 := hbE.drop e (8 + n) (by omega)
  repeat (first | refine go_ ?_ | refine bx_ (fun _ => ?_))
  refine hc_meet (fun fr M => Agr fr [(0, .slice (some ⟨bb, off, none⟩) len cap), (4, .slice av ps.length cv), (5, .int .i64 (e : Int)), (6, .int .i64 (n : Int)), (7, .slice (some ⟨bb, off + (e + 4), none⟩) n (cap - (e + 4))), (48, .bool (!decide (recB (payl b e n) = (b.drop e).take (8 + n))))] ∧ Imp M E) ?_ ?_
  · refine hc_drawA E (by kernel_rfl) ?_
    refine ha_quiet [0, 2, 3, 4, 5, 6, 7, 8] (by rfl) (by kernel_rfl) ?_
    repeat (first | refine gd_ ?_ | refine hl_sliceX (i := e) (j := e + 8 + n) (kj := .i64) rfl rfl rfl (by omega) (by omega) (by omega) rfl ?_)
    refine ha_fork1 1 (by rfl) (by kernel_rfl) (by rfl) (by first | exact Imp.refl _ | exact Imp.drop (Imp.refl _) | exact Imp.drop (Imp.drop (Imp.refl _)) | exact Imp.drop (Imp.drop (Imp.drop (Imp.refl _))) | exact Imp.drop (Imp.drop (Imp.drop (Imp.drop (Imp.refl _)))) | exact Imp.drop (Imp.drop (Imp.drop (Imp.drop (Imp.drop (Imp.refl _))))) | exact Imp.drop (Imp.drop (Imp.drop (Imp.drop (Imp.drop (Imp.drop (Imp.refl _)))))) | exact Imp.drop (Imp.drop (Imp.drop (Imp.drop (Imp.drop (Imp.drop (Imp.drop (Imp.refl _))))))) | exact Imp.drop (Imp.drop (Imp.drop (Imp.drop (Imp.drop (Imp.drop (Imp.drop (Imp.drop (Imp.refl _)))))))) | assumption | exact Imp.drop2 (Imp.refl _) | exact Imp.drop2 (Imp.drop2 (Imp.refl _)) | exact Imp.drop (Imp.drop2 (Imp.refl _))) ?_
    · skip
      refine hl_call rfl rfl (rrecord_fn b2 (by omega)) (fun v5 M5 o5 => ?_)
      obtain ⟨a5, c5, rfl, _, _⟩ := o5.form
      have i5 := o5.imp
      repeat (first | refine op_ ?_ | refine bx_ (fun _ => ?_))
      refine ha_fork1 9 (by rfl) (by kernel_rfl) (by rfl) (by first | exact Imp.refl _ | exact Imp.drop (Imp.refl _) | exact Imp.drop (Imp.drop (Imp.refl _)) | exact Imp.drop (Imp.drop (Imp.drop (Imp.refl _))) | exact Imp.drop (Imp.drop (Imp.drop (Imp.drop (Imp.refl _)))) | exact Imp.drop (Imp.drop (Imp.drop (Imp.drop (Imp.drop (Imp.refl _))))) | exact Imp.drop (Imp.drop (Imp.drop (Imp.drop (Imp.drop (Imp.drop (Imp.refl _)))))) | exact Imp.drop (Imp.drop (Imp.drop (Imp.drop (Imp.drop (Imp.drop (Imp.drop (Imp.refl _))))))) | exact Imp.drop (Imp.drop (Imp.drop (Imp.drop (Imp.drop (Imp.drop (Imp.drop (Imp.drop (Imp.refl _)))))))) | assumption | exact Imp.drop2 (Imp.refl _) | exact Imp.drop2 (Imp.drop2 (Imp.refl _)) | exact Imp.drop (Imp.drop2 (Imp.refl _))) ?_
      · skip
        rw [show e + 8 + n - e = 8 + n by omega]
        refine hl_callv rfl rfl (same_fn (BytR.own o5) (b3.imp i5) (by omega)) ?_
        repeat (first | refine op_ ?_ | refine bx_ (fun _ => ?_))
        refine ha_quiet [10] (by rfl) (by kernel_rfl) ?_
        repeat (first | refine gd_ ?_ | refine hl_sliceX (i := e) (j := e + 8 + n) (kj := .i64) rfl rfl rfl (by omega) (by omega) (by omega) rfl ?_)
        refine ha_end (by rfl) (by kernel_rfl) (by first | exact Imp.refl _ | exact Imp.drop (Imp.refl _) | exact Imp.drop (Imp.drop (Imp.refl _)) | exact Imp.drop (Imp.drop (Imp.drop (Imp.refl _))) | exact Imp.drop (Imp.drop (Imp.drop (Imp.drop (Imp.refl _)))) | exact Imp.drop (Imp.drop (Imp.drop (Imp.drop (Imp.drop (Imp.refl _))))) | exact Imp.drop (Imp.drop (Imp.drop (Imp.drop (Imp.drop (Imp.drop (Imp.refl _)))))) | exact Imp.drop (Imp.drop (Imp.drop (Imp.drop (Imp.drop (Imp.drop (Imp.drop (Imp.refl _))))))) | exact Imp.drop (Imp.drop (Imp.drop (Imp.drop (Imp.drop (Imp.drop (Imp.drop (Imp.drop (Imp.refl _)))))))) | assumption | exact Imp.drop2 (Imp.refl _) | exact Imp.drop2 (Imp.drop2 (Imp.refl _)) | exact Imp.drop (Imp.drop2 (Imp.refl _))) ?_
        exact ⟨⟨rfl, rfl, rfl, rfl, rfl, rfl, trivial⟩, by assumption⟩
  rintro fr M3 ⟨hf, hi3⟩
  obtain ⟨base, rfl⟩ := hf.out
  clear hf
  refine HC.imp ?_ hi3
  have hiff := rec_iff hnn (b := b) (e := e) (by omega)
  by_cases hcr : (crc ((b.drop e).take (4 + n))).toNat = num4 (b.drop (e + 4 + n))
  rotate_left
  · obtain ⟨f1, f2⟩ := fin (by unfold stepN; rw [if_neg (by omega), if_neg (by omega), if_neg (by rw [← hnn]; exact hcr)])
    rw [decide_eq_false (fun h => hcr (hiff.1 h))]
    repeat (first | refine go_ ?_ | refine bx_ (fun _ => ?_))
    exact fin2SI rfl rfl rfl ⟨_, ps, Xo, by rw [← f2], rfl, f1, ho, hb⟩ (by rw [hE]; exact Imp.refl _)
  have hst : stepN b e = some n := by unfold stepN; rw [if_neg (by omega), if_neg (by omega), if_pos (by rw [← hnn]; exact hcr), ← hnn]
  rw [decide_eq_true (hiff.2 hcr)]
  obtain ⟨f', rfl⟩ : ∃ f', f = f' + 1 := ⟨f - 1, by omega⟩
  rw [scanP, hst] at hs1 hs2
  dsimp only at hs1 hs2
  repeat (first | refine go_ ?_ | refine bx_ (fun _ => ?_))
  rename_i gb
  have oo := ho H
  rw [← hE] at oo
  refine hl_append_own rfl rfl (oo.under ⟨gb, 22, [.slice (some ⟨bb, off + (e + 4), none⟩) n (cap - (e + 4))], 1 * 1⟩) (Rds.ent (n := 1) (l := [.slice (some ⟨bb, off + (e + 4), none⟩) n (cap - (e + 4))]) .here rfl (by simp [Value.oneCell'])) rfl rfl (by decide) (by omega) (by omega) rfl (fun v6 M6 o6 => ?_)
  obtain ⟨a6, c6, rfl, _, _⟩ := o6.form
  obtain ⟨Xo2, hp6, ho6⟩ := o6.permE
  repeat (first | refine go_ ?_ | refine bx_ (fun _ => ?_))
  refine ⟨f', by omega, Xo2 ++ H, Imp.perm hp6 (Imp.sub (List.Sublist.append (List.Sublist.refl _) (List.sublist_cons_self _ _))), e + 8 + n, ps ++ [⟨some ⟨bb, off + (e + 4), none⟩, n, cap - (e + 4), payl b e n⟩], Xo2, _, by omega, by omega, ⟨by rw [List.map_append, List.append_assoc]; exact hs1, hs2⟩, fun F => by rw [List.map_append, List.length_append]; exact ho6 F, fun p hp => ?_, rfl, by rw [List.length_append, List.length_singleton]; omega, rfl, rfl, Eq.trans (b := .int .i64 ((e : Int) + (8 + (n : Int)))) rfl (by congr 1; omega), trivial⟩
  rcases List.mem_append.1 hp with hp | hp
  · exact hb p hp
  · simp only [List.mem_singleton] at hp
    subst hp
    exact fun E2 h2 => h2.drop (e + 4) n (by omega)
end
end Go.Proofs.Ytpeegklnkecajaa
