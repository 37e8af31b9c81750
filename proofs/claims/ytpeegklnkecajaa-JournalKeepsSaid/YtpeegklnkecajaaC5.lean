/-
  Scans. No condition.
-/
import Derived.Test.YtpeegklnkecajaaC4
import Derived.Test.YtpeegklnkecajaaHj
namespace Go.Proofs.Ytpeegklnkecajaa
open Go.RowKit
def stepN (b : List UInt8) (e : Nat) : Option Nat :=
  if b.length < e + 8 then none
  else if 8388608 < num4 (b.drop e) ∨ b.length < e + 8 + num4 (b.drop e) then none
  else if (crc ((b.drop e).take (4 + num4 (b.drop e)))).toNat = num4 (b.drop (e + 4 + num4 (b.drop e))) then some (num4 (b.drop e)) else none
def payl (b : List UInt8) (e n : Nat) : List UInt8 := (b.drop (e + 4)).take n
def scanP (b : List UInt8) : Nat → Nat → List (List UInt8) × Nat
  | 0, e => ([], e)
  | f + 1, e => match stepN b e with
    | none => ([], e)
    | some n => (payl b e n :: (scanP b f (e + 8 + n)).1, (scanP b f (e + 8 + n)).2)
def scan (b : List UInt8) : List (List UInt8) × Nat := scanP b (b.length + 1) 0
theorem stepN_some {b : List UInt8} {e n : Nat} (h : stepN b e = some n) : n = num4 (b.drop e) ∧ e + 8 + n ≤ b.length ∧ n ≤ 8388608 ∧ (crc ((b.drop e).take (4 + n))).toNat = num4 (b.drop (e + 4 + n)) := by
  unfold stepN at h
  split at h
  · cases h
  · split at h
    · cases h
    · split at h
      · cases h
        exact ⟨rfl, by omega, by omega, by assumption⟩
      · cases h
section
variable {w0 : World} {B : Nat} {H : List Ent}
set_option maxHeartbeats 8000000
set_option maxRecDepth 100000
theorem scanP_none {b : List UInt8} {f e : Nat} (h : stepN b e = none) : scanP b f e = ([], e) := by
  cases f with
  | zero => rfl
  | succ f => rw [scanP, h]
theorem BytR.impC {c : Cx} {E M : List Ent} {a : Option Addr} {len cap : Nat} {l : List UInt8} (h : BytR c.w0 c.B E a len cap l) (hi : ImpC c M E) : BytR c.w0 c.B M a len cap l := ⟨h.eq, h.le, h.small, h.nil, h.pos, h.rd.weak fun w hw => hi w hw⟩
/-- A list of slices made by the call: the row, the blocks of its cells. -/
structure PMade (w0 : World) (B : Nat) (v : Value) (ps : List Part) (Xo Zc : List Ent) : Prop where
  row : ∀ F, Own 22 1 v ps.length (ps.map partV) F (Xo ++ F)
  each : ∀ p ∈ ps, ∀ R, BytR w0 B (Zc ++ R) p.a p.len p.cap p.bs
theorem PMade.nil : PMade w0 B (.slice none 0 0) [] [] [] := ⟨fun _ => Own.nil, fun p hp => by cases hp⟩
theorem one_part (ps : List Part) : ∀ u ∈ ps.map partV, u.oneCell' = true := fun u hu => by obtain ⟨x, _, rfl⟩ := List.mem_map.1 hu; rfl
theorem PMade.read {v : Value} {ps : List Part} {Xo Zc : List Ent} (h : PMade w0 B v ps Xo Zc) : ∃ a c, v = .slice a ps.length c ∧ (ps.length ≤ c ∧ c ≤ 9223372036854775807 ∧ (a = none → c = 0)) ∧ ∀ R, PartsR w0 B ((Xo ++ Zc) ++ R) a ps.length ps := by
  obtain ⟨a, c, rfl, h1, h2⟩ := (h.row []).form
  refine ⟨a, c, rfl, ⟨h1, h2, fun hn => ?_⟩, fun R => ⟨rfl, fun h0 => by obtain ⟨g, c, e, _⟩ := (h.row []).posn h0; cases e; exact ⟨_, _, rfl⟩, ?_, fun p hp => ?_⟩⟩
  · rcases h.row [] with ⟨h1, _⟩ | ⟨g, cap, h1, _⟩
    · injection h1
    · injection h1 with h1; rw [hn] at h1; cases h1
  · rw [List.append_assoc]
    exact (h.row (Zc ++ R)).rds (c := ⟨Try.prog, 0, w0, B⟩) (one_part ps)
  · rw [List.append_assoc]
    exact (h.each p hp R).imp (Imp.tail _ _)
/-- One more, of its own. -/
theorem PMade.snoc {v v2 : Value} {ps : List Part} {Xo Xo2 Zc Xc : List Ent} {a : Option Addr} {n c : Nat} {bs : List UInt8} (h : PMade w0 B v ps Xo Zc) (hc : ∀ F, Own 5 1 (.slice a n c) n (bs.map byteV) F (Xc ++ F))
    (h2 : ∀ F, Own 22 1 v2 (ps.length + 1) (ps.map partV ++ [.slice a n c]) F (Xo2 ++ F)) : PMade w0 B v2 (ps ++ [⟨a, n, c, bs⟩]) Xo2 (Xc ++ Zc) :=
  ⟨fun F => by
    have := h2 F
    rw [List.map_append, List.length_append]
    exact this, fun p hp R => by
    rw [List.append_assoc]
    rcases List.mem_append.1 hp with hp | hp
    · exact (h.each p hp R).imp (Imp.tail _ _)
    · simp only [List.mem_singleton] at hp
      subst hp
      exact BytR.own (hc _)⟩
theorem scan_fn {a : Option Addr} {len cap : Nat} {b : List UInt8} (h : BytR w0 B H a len cap b) (hn : len ≤ 1000000000) :
    Fn Try.prog w0 B 9 [.slice a len cap] H (fun v H' => ∃ sv ps Xo Zc, v = .tuple #[sv, .int .i64 ((scan b).2 : Int)] ∧ H' = Xo ++ (Zc ++ H) ∧ ps.map Part.bs = (scan b).1 ∧ PMade w0 B sv ps Xo Zc) := by
  have he := h.eq
  have hle := h.le
  have hsm := h.small
  refine fn_intro Try.func9 rfl (by kernel_rfl) rfl ?_
  repeat (first | refine go_ ?_ | refine bx_ (fun _ => ?_))
  refine hc_scopeS 0 (fun f fr M => ∃ e ps Xo Zc v, len + 1 ≤ f + e ∧ e ≤ len ∧ (ps.map Part.bs ++ (scanP b f e).1 = (scan b).1 ∧ (scanP b f e).2 = (scan b).2) ∧ PMade w0 B v ps Xo Zc ∧ Imp M (Xo ++ (Zc ++ H)) ∧ ps.length ≤ e ∧
    Agr fr [(0, .slice a len cap), (2, v), (3, .int .i64 (e : Int))]) (b.length + 1) ?_ ?_
  · exact ⟨0, [], [], [], _, by omega, by omega, ⟨rfl, rfl⟩, PMade.nil, Imp.refl _, Nat.le_refl _, rfl, rfl, rfl, trivial⟩
  rintro f fr M ⟨e, ps, Xo, Zc, v, hfe, hel, ⟨hs1, hs2⟩, hpm, hi, hpe, hf⟩
  obtain ⟨base, rfl⟩ := hf.out
  clear hf
  refine HC.imp ?_ hi
  obtain ⟨av, cv, rfl, ⟨hv1, hv2, _⟩, _⟩ := hpm.read
  have fin : stepN b e = none → ps.map Part.bs = (scan b).1 ∧ e = (scan b).2 := fun h => by
    rw [scanP_none h] at hs1 hs2
    exact ⟨by simpa using hs1, hs2⟩
  by_cases h8 : len < e + 8
  · obtain ⟨f1, f2⟩ := fin (by unfold stepN; rw [if_pos (by omega)])
    repeat (first | refine go_ ?_ | refine bx_ (fun _ => ?_) | refine jmp_ret ?_)
    exact fin2SI rfl rfl rfl ⟨_, ps, Xo, Zc, by rw [← f2], rfl, f1, hpm⟩ (Imp.refl _)
  obtain ⟨bb, off, rfl⟩ := h.pos (by omega)
  obtain ⟨E, hE⟩ : ∃ E, E = Xo ++ (Zc ++ H) := ⟨_, rfl⟩
  rw [← hE]
  have hEH : Imp E H := by rw [hE]; exact fun _ _ _ hw => Imp.tail _ _ _ _ _ (Imp.tail _ _ _ _ _ hw)
  have hbE := h.imp hEH
  have b1 := hbE.drop e (len - e) (by omega)
  rw [List.take_of_length_le (by rw [List.length_drop]; omega)] at b1
  obtain ⟨n, hnn⟩ : ∃ n, n = num4 (b.drop e) := ⟨_, rfl⟩
  have N1 := number_fn b1 (by omega)
  rw [← hnn] at N1
  have hnl : n < 4294967296 := by rw [hnn]; exact num4_lt _
  repeat (first | refine go_ ?_ | refine bx_ (fun _ => ?_))
  refine hl_sliceX (i := e) (j := len) (kj := .i64) rfl rfl rfl (by omega) hle (by omega) rfl ?_
  by_cases hbig : 8388608 < n
  · obtain ⟨f1, f2⟩ := fin (by unfold stepN; rw [if_neg (by omega), if_pos (by left; omega)])
    repeat (first | refine go_ ?_ | refine bx_ (fun _ => ?_) | refine hl_callv rfl rfl (N1) ?_ | refine jmp_ret ?_)
    exact fin2SI rfl rfl rfl ⟨_, ps, Xo, Zc, by rw [← f2], rfl, f1, hpm⟩ (by rw [hE]; exact Imp.refl _)
  by_cases hshort : len < e + 8 + n
  · obtain ⟨f1, f2⟩ := fin (by unfold stepN; rw [if_neg (by omega), if_pos (by right; omega)])
    repeat (first | refine go_ ?_ | refine bx_ (fun _ => ?_) | refine hl_callv rfl rfl (N1) ?_ | refine jmp_ret ?_)
    exact fin2SI rfl rfl rfl ⟨_, ps, Xo, Zc, by rw [← f2], rfl, f1, hpm⟩ (by rw [hE]; exact Imp.refl _)
  repeat (first | refine go_ ?_ | refine bx_ (fun _ => ?_) | refine hl_callv rfl rfl (N1) ?_)
  refine hl_sliceX (i := e) (j := e + 4 + n) (kj := .i64) rfl rfl rfl (by omega) (by omega) (by omega) rfl ?_
  rw [show e + 4 + n - e = 4 + n by omega]
  have b2 := hbE.drop e (4 + n) (by omega)
  have b3 := hbE.drop (e + 4 + n) (len - (e + 4 + n)) (by omega)
  rw [List.take_of_length_le (by rw [List.length_drop]; omega)] at b3
  have N3 := fun (M : List Ent) (hi : ImpC ⟨Try.prog, Try.f9.ntmps, w0, B⟩ M E) => number_fn (b3.impC hi) (by omega)
  repeat (first | refine go_ ?_ | refine bx_ (fun _ => ?_))
  refine hc_meet (fun fr M => Agr fr [(0, .slice (some ⟨bb, off, none⟩) len cap), (2, .slice av ps.length cv), (3, .int .i64 (e : Int)), (4, .int .i64 (n : Int)), (5, .slice (some ⟨bb, off + e, none⟩) (4 + n) (cap - e)), (47, .bool (!decide (((crc ((b.drop e).take (4 + n))).toNat : Int) = (num4 (b.drop (e + 4 + n)) : Int))))] ∧ Imp M E) ?_ ?_
  · refine hc_drawA E (by kernel_rfl) ?_
    refine ha_quiet [0, 3, 4, 5, 6, 7, 8] (by rfl) (by kernel_rfl) ?_
    repeat (first | refine gd_ ?_ | refine hl_sliceX (i := e + 4 + n) (j := len) (kj := .i64) rfl rfl rfl (by omega) hle (by omega) rfl ?_ | refine hq_call rfl rfl (fun H hi => N3 H hi) ?_)
    refine ha_fork1 1 (by rfl) (by kernel_rfl) (by rfl) (by first | exact Imp.refl _ | exact Imp.drop (Imp.refl _) | exact Imp.drop (Imp.drop (Imp.refl _)) | exact Imp.drop (Imp.drop (Imp.drop (Imp.refl _))) | exact Imp.drop (Imp.drop (Imp.drop (Imp.drop (Imp.refl _)))) | exact Imp.drop (Imp.drop (Imp.drop (Imp.drop (Imp.drop (Imp.refl _))))) | exact Imp.drop (Imp.drop (Imp.drop (Imp.drop (Imp.drop (Imp.drop (Imp.refl _)))))) | exact Imp.drop (Imp.drop (Imp.drop (Imp.drop (Imp.drop (Imp.drop (Imp.drop (Imp.refl _))))))) | exact Imp.drop (Imp.drop (Imp.drop (Imp.drop (Imp.drop (Imp.drop (Imp.drop (Imp.drop (Imp.refl _)))))))) | assumption | exact Imp.drop2 (Imp.refl _) | exact Imp.drop2 (Imp.drop2 (Imp.refl _)) | exact Imp.drop (Imp.drop2 (Imp.refl _))) ?_
    · skip
      repeat (first | refine op_ ?_ | refine bx_ (fun _ => ?_))
      refine ha_fork1 2 (by rfl) (by kernel_rfl) (by rfl) (by first | exact Imp.refl _ | exact Imp.drop (Imp.refl _) | exact Imp.drop (Imp.drop (Imp.refl _)) | exact Imp.drop (Imp.drop (Imp.drop (Imp.refl _))) | exact Imp.drop (Imp.drop (Imp.drop (Imp.drop (Imp.refl _)))) | exact Imp.drop (Imp.drop (Imp.drop (Imp.drop (Imp.drop (Imp.refl _))))) | exact Imp.drop (Imp.drop (Imp.drop (Imp.drop (Imp.drop (Imp.drop (Imp.refl _)))))) | exact Imp.drop (Imp.drop (Imp.drop (Imp.drop (Imp.drop (Imp.drop (Imp.drop (Imp.refl _))))))) | exact Imp.drop (Imp.drop (Imp.drop (Imp.drop (Imp.drop (Imp.drop (Imp.drop (Imp.drop (Imp.refl _)))))))) | assumption | exact Imp.drop2 (Imp.refl _) | exact Imp.drop2 (Imp.drop2 (Imp.refl _)) | exact Imp.drop (Imp.drop2 (Imp.refl _))) ?_
      · skip
        rename_i g5
        refine hl_callv rfl rfl (crc_fn (cap := 1) (xs := (b.drop e).take (4 + n)) (PartsR.ent (n := 1) (ps := [⟨some ⟨bb, off + e, none⟩, 4 + n, cap - e, (b.drop e).take (4 + n)⟩]) .here rfl rfl (fun p hp => by
          simp only [List.mem_singleton] at hp
          subst hp
          exact b2.imp (Imp.drop (Imp.refl _)))) (by decide) (fun p hp => by
          simp only [List.mem_singleton] at hp
          subst hp
          dsimp only
          omega) (by simp)) ?_
        repeat (first | refine op_ ?_ | refine bx_ (fun _ => ?_))
        refine ha_quiet [9, 10] (by rfl) (by kernel_rfl) ?_
        repeat (first | refine gd_ ?_ | refine hl_sliceX (i := e + 4 + n) (j := len) (kj := .i64) rfl rfl rfl (by omega) hle (by omega) rfl ?_ | refine hq_call rfl rfl (fun H hi => N3 H hi) ?_)
        refine ha_end (by rfl) (by kernel_rfl) (by first | exact Imp.refl _ | exact Imp.drop (Imp.refl _) | exact Imp.drop (Imp.drop (Imp.refl _)) | exact Imp.drop (Imp.drop (Imp.drop (Imp.refl _))) | exact Imp.drop (Imp.drop (Imp.drop (Imp.drop (Imp.refl _)))) | exact Imp.drop (Imp.drop (Imp.drop (Imp.drop (Imp.drop (Imp.refl _))))) | exact Imp.drop (Imp.drop (Imp.drop (Imp.drop (Imp.drop (Imp.drop (Imp.refl _)))))) | exact Imp.drop (Imp.drop (Imp.drop (Imp.drop (Imp.drop (Imp.drop (Imp.drop (Imp.refl _))))))) | exact Imp.drop (Imp.drop (Imp.drop (Imp.drop (Imp.drop (Imp.drop (Imp.drop (Imp.drop (Imp.refl _)))))))) | assumption | exact Imp.drop2 (Imp.refl _) | exact Imp.drop2 (Imp.drop2 (Imp.refl _)) | exact Imp.drop (Imp.drop2 (Imp.refl _))) ?_
        exact ⟨⟨rfl, rfl, rfl, rfl, rfl, rfl, trivial⟩, Imp.drop (Imp.refl _)⟩
  rintro fr M3 ⟨hf, hi3⟩
  obtain ⟨base, rfl⟩ := hf.out
  clear hf
  refine HC.imp ?_ hi3
  by_cases hcr : (crc ((b.drop e).take (4 + n))).toNat = num4 (b.drop (e + 4 + n))
  rotate_left
  · obtain ⟨f1, f2⟩ := fin (by unfold stepN; rw [if_neg (by omega), if_neg (by omega), if_neg (by rw [← hnn]; exact hcr)])
    rw [show decide (((crc ((b.drop e).take (4 + n))).toNat : Int) = (num4 (b.drop (e + 4 + n)) : Int)) = false from decide_eq_false (by omega)]
    repeat (first | refine go_ ?_ | refine bx_ (fun _ => ?_) | refine jmp_ret ?_)
    exact fin2SI rfl rfl rfl ⟨_, ps, Xo, Zc, by rw [← f2], rfl, f1, hpm⟩ (by rw [hE]; exact Imp.refl _)
  have hst : stepN b e = some n := by unfold stepN; rw [if_neg (by omega), if_neg (by omega), if_pos (by rw [← hnn]; exact hcr), ← hnn]
  rw [show decide (((crc ((b.drop e).take (4 + n))).toNat : Int) = (num4 (b.drop (e + 4 + n)) : Int)) = true from decide_eq_true (by omega)]
  obtain ⟨f', rfl⟩ : ∃ f', f = f' + 1 := ⟨f - 1, by omega⟩
  rw [scanP, hst] at hs1 hs2
  dsimp only at hs1 hs2
  repeat (first | refine go_ ?_ | refine bx_ (fun _ => ?_))
  refine hl_sliceX (i := 4) (j := 4 + n) (kj := .i64) rfl rfl rfl (by omega) (by omega) (by omega) rfl ?_
  rw [show 4 + n - 4 = n by omega]
  have b4 := b2.drop 4 n (by omega)
  rw [show (((b.drop e).take (4 + n)).drop 4).take n = payl b e n by
    unfold payl
    rw [List.drop_take, List.drop_drop, List.take_take]
    congr 1
    omega] at b4
  repeat (first | refine go_ ?_ | refine bx_ (fun _ => ?_))
  refine hl_call rfl rfl (clone_fn b4.eq (by omega) b4.rd) (fun v M4 o => ?_)
  obtain ⟨a9, c9, rfl, _, _⟩ := o.form
  obtain ⟨Xc, hpc, hoc⟩ := o.permE
  refine HL.perm ?_ hpc
  rw [hE]
  refine HL.perm ?_ (app_swap Xc Xo (Zc ++ H))
  have oo := hpm.row (Xc ++ (Zc ++ H))
  repeat (first | refine go_ ?_ | refine bx_ (fun _ => ?_))
  rename_i gb
  refine hl_append_own rfl rfl (oo.under ⟨gb, 22, [.slice a9 n c9], 1 * 1⟩) (Rds.ent (n := 1) (l := [.slice a9 n c9]) .here rfl (by simp [Value.oneCell'])) rfl rfl (by decide) (by omega) (by omega) rfl (fun v6 M6 o6 => ?_)
  obtain ⟨a6, c6, rfl, _, _⟩ := o6.form
  obtain ⟨Xo2, hp6, ho6⟩ := o6.permE
  repeat (first | refine go_ ?_ | refine bx_ (fun _ => ?_) | refine hc_goto ?_ | refine thn_goto ?_ | refine jmp_goto ?_)
  refine ⟨f', by omega, e + 8 + n, ps ++ [⟨a9, n, c9, payl b e n⟩], Xo2, Xc ++ Zc, _, by omega, by omega, ⟨by rw [List.map_append, List.append_assoc]; exact hs1, hs2⟩, hpm.snoc hoc ho6, ?_, by rw [List.length_append, List.length_singleton]; omega, rfl, rfl, Eq.trans (b := .int .i64 ((e : Int) + ((n : Int) + 8))) rfl (by congr 1; omega), trivial⟩
  refine Imp.perm hp6 (Imp.sub (List.Sublist.append (List.Sublist.refl _) ?_))
  rw [List.append_assoc]
  exact List.sublist_cons_self _ _
end
end Go.Proofs.Ytpeegklnkecajaa
