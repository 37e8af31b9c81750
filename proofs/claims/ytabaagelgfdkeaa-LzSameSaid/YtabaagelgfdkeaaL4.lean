/-
  What Find finds. No condition.
-/
import Derived.Test.YtabaagelgfdkeaaL3
import Derived.Test.YtabaagelgfdkeaaLQ
namespace Go.Proofs.Ytabaagelgfdkeaa
open Go.RowKit
section
variable {w0 : World} {B : Nat} {H : List Ent}
theorem one_toks (l : List Tok) : ∀ u ∈ l.flatMap tokV, u.oneCell' = true := by
  intro u hu
  obtain ⟨t, _, ht⟩ := List.mem_flatMap.1 hu
  simp only [List.mem_cons, List.not_mem_nil, or_false] at ht
  rcases ht with rfl | rfl | rfl <;> rfl
set_option maxHeartbeats 8000000 in
set_option maxRecDepth 100000 in
theorem find1_fn {a : Option Addr} {n cap : Nat} {b : List UInt8} (hb : BArg w0 B H a n b) (hcap : n ≤ cap) (h5 : n ≤ 100000) (eff : Int) (he : 0 < eff) (heb : eff ≤ 9223372036854775807) (e : Nat) (hee : (e : Int) = min eff 64) :
    Fn Try.prog w0 B 11 [.slice a n cap, .int .i64 eff] H (fun v H' => Own 27 3 v (found b e).length ((found b e).flatMap tokV) H H') := by
  have hl := hb.len
  refine fn_intro Try.func11 rfl (by kernel_rfl) rfl ?_
  have e1 : 1 ≤ e := by omega
  have e2 : e ≤ 64 := by omega
  repeat (first | refine go_ ?_ | refine bx_ (fun _ => ?_))
  rw [← hee]
  repeat (first | refine go_ ?_ | refine bx_ (fun _ => ?_))
  have t1 : List.replicate 4096 (Value.int .i64 0) = tab 4096 (firstF b 0) := (tab_zero 4096).symm
  have t2 : List.replicate n (Value.int .i64 0) = tab n (aheadF b 0) := (tab_zero n).symm.trans (tab_congr fun k _ => by unfold aheadF; rw [if_neg (by omega)])
  refine hc_meet (fun fr M => ∃ gf g1 g2, Agr fr [(0, .slice a n cap), (1, .int .i64 (e : Int)), (5, .slice none 0 0), (8, .pointer (some ⟨gf, 0, none⟩))] ∧ M.Perm (Fd gf g1 g2 a n cap b 0 H)) ?_ ?_
  · refine hc_drawA H (by kernel_rfl) ?_
    unfold Fd
    rw [← t1, ← t2]
    refine ha_quiet [0, 2, 3] (by rfl) (by kernel_rfl) ?_
    repeat (first | refine gd_ ?_)
    refine ha_fork2 1 4 (by rfl) (by kernel_rfl) (by rfl) (by rfl) (by first | exact Imp.refl _ | exact Imp.drop (Imp.refl _) | exact Imp.drop (Imp.drop (Imp.refl _)) | exact Imp.drop (Imp.drop (Imp.drop (Imp.refl _))) | exact Imp.drop (Imp.drop (Imp.drop (Imp.drop (Imp.refl _)))) | exact Imp.drop (Imp.drop (Imp.drop (Imp.drop (Imp.drop (Imp.refl _))))) | exact Imp.drop (Imp.drop (Imp.drop (Imp.drop (Imp.drop (Imp.drop (Imp.refl _)))))) | exact Imp.drop (Imp.drop (Imp.drop (Imp.drop (Imp.drop (Imp.drop (Imp.drop (Imp.refl _))))))) | exact Imp.drop (Imp.drop (Imp.drop (Imp.drop (Imp.drop (Imp.drop (Imp.drop (Imp.drop (Imp.refl _)))))))) | assumption | exact Imp.drop2 (Imp.refl _) | exact Imp.drop2 (Imp.drop2 (Imp.refl _)) | exact Imp.drop (Imp.drop2 (Imp.refl _))) ?_ ?_
    · skip
      refine hl_make1 (n := 4096) rfl rfl rfl (by decide) (by decide) rfl (fun g1 => ?_)
      repeat (first | refine op_ ?_ | refine bx_ (fun _ => ?_))
      refine ha_fork1 4 (by rfl) (by kernel_rfl) (by rfl) (by first | exact Imp.refl _ | exact Imp.drop (Imp.refl _) | exact Imp.drop (Imp.drop (Imp.refl _)) | exact Imp.drop (Imp.drop (Imp.drop (Imp.refl _))) | exact Imp.drop (Imp.drop (Imp.drop (Imp.drop (Imp.refl _)))) | exact Imp.drop (Imp.drop (Imp.drop (Imp.drop (Imp.drop (Imp.refl _))))) | exact Imp.drop (Imp.drop (Imp.drop (Imp.drop (Imp.drop (Imp.drop (Imp.refl _)))))) | exact Imp.drop (Imp.drop (Imp.drop (Imp.drop (Imp.drop (Imp.drop (Imp.drop (Imp.refl _))))))) | exact Imp.drop (Imp.drop (Imp.drop (Imp.drop (Imp.drop (Imp.drop (Imp.drop (Imp.drop (Imp.refl _)))))))) | assumption | exact Imp.drop2 (Imp.refl _) | exact Imp.drop2 (Imp.drop2 (Imp.refl _)) | exact Imp.drop (Imp.drop2 (Imp.refl _))) ?_
      · skip
        refine hl_make1 (n := n) rfl rfl rfl (by omega) (by omega) rfl (fun g2 => ?_)
        repeat (first | refine op_ ?_ | refine bx_ (fun _ => ?_))
        refine ha_quiet [5] (by rfl) (by kernel_rfl) ?_
        repeat (first | refine gd_ ?_)
        refine ha_fork1 6 (by rfl) (by kernel_rfl) (by rfl) (by first | exact Imp.refl _ | exact Imp.drop (Imp.refl _) | exact Imp.drop (Imp.drop (Imp.refl _)) | exact Imp.drop (Imp.drop (Imp.drop (Imp.refl _))) | exact Imp.drop (Imp.drop (Imp.drop (Imp.drop (Imp.refl _)))) | exact Imp.drop (Imp.drop (Imp.drop (Imp.drop (Imp.drop (Imp.refl _))))) | exact Imp.drop (Imp.drop (Imp.drop (Imp.drop (Imp.drop (Imp.drop (Imp.refl _)))))) | exact Imp.drop (Imp.drop (Imp.drop (Imp.drop (Imp.drop (Imp.drop (Imp.drop (Imp.refl _))))))) | exact Imp.drop (Imp.drop (Imp.drop (Imp.drop (Imp.drop (Imp.drop (Imp.drop (Imp.drop (Imp.refl _)))))))) | assumption | exact Imp.drop2 (Imp.refl _) | exact Imp.drop2 (Imp.drop2 (Imp.refl _)) | exact Imp.drop (Imp.drop2 (Imp.refl _))) ?_
        · skip
          refine hl_boxA rfl rfl (fun gf => ?_)
          repeat (first | refine op_ ?_ | refine bx_ (fun _ => ?_))
          refine ha_quiet [7] (by rfl) (by kernel_rfl) ?_
          repeat (first | refine gd_ ?_)
          refine ha_end (by rfl) (by kernel_rfl) (by first | exact Imp.refl _ | exact Imp.drop (Imp.refl _) | exact Imp.drop (Imp.drop (Imp.refl _)) | exact Imp.drop (Imp.drop (Imp.drop (Imp.refl _))) | exact Imp.drop (Imp.drop (Imp.drop (Imp.drop (Imp.refl _)))) | exact Imp.drop (Imp.drop (Imp.drop (Imp.drop (Imp.drop (Imp.refl _))))) | exact Imp.drop (Imp.drop (Imp.drop (Imp.drop (Imp.drop (Imp.drop (Imp.refl _)))))) | exact Imp.drop (Imp.drop (Imp.drop (Imp.drop (Imp.drop (Imp.drop (Imp.drop (Imp.refl _))))))) | exact Imp.drop (Imp.drop (Imp.drop (Imp.drop (Imp.drop (Imp.drop (Imp.drop (Imp.drop (Imp.refl _)))))))) | assumption | exact Imp.drop2 (Imp.refl _) | exact Imp.drop2 (Imp.drop2 (Imp.refl _)) | exact Imp.drop (Imp.drop2 (Imp.refl _))) ?_
          exact ⟨gf, g1, g2, ⟨rfl, rfl, rfl, rfl, trivial⟩, by first | exact List.Perm.refl _ | exact (List.Perm.swap _ _ _).cons _⟩
    · skip
      refine hl_make1 (n := n) rfl rfl rfl (by omega) (by omega) rfl (fun g2 => ?_)
      repeat (first | refine op_ ?_ | refine bx_ (fun _ => ?_))
      refine ha_fork1 1 (by rfl) (by kernel_rfl) (by rfl) (by first | exact Imp.refl _ | exact Imp.drop (Imp.refl _) | exact Imp.drop (Imp.drop (Imp.refl _)) | exact Imp.drop (Imp.drop (Imp.drop (Imp.refl _))) | exact Imp.drop (Imp.drop (Imp.drop (Imp.drop (Imp.refl _)))) | exact Imp.drop (Imp.drop (Imp.drop (Imp.drop (Imp.drop (Imp.refl _))))) | exact Imp.drop (Imp.drop (Imp.drop (Imp.drop (Imp.drop (Imp.drop (Imp.refl _)))))) | exact Imp.drop (Imp.drop (Imp.drop (Imp.drop (Imp.drop (Imp.drop (Imp.drop (Imp.refl _))))))) | exact Imp.drop (Imp.drop (Imp.drop (Imp.drop (Imp.drop (Imp.drop (Imp.drop (Imp.drop (Imp.refl _)))))))) | assumption | exact Imp.drop2 (Imp.refl _) | exact Imp.drop2 (Imp.drop2 (Imp.refl _)) | exact Imp.drop (Imp.drop2 (Imp.refl _))) ?_
      · skip
        refine hl_make1 (n := 4096) rfl rfl rfl (by decide) (by decide) rfl (fun g1 => ?_)
        repeat (first | refine op_ ?_ | refine bx_ (fun _ => ?_))
        refine ha_quiet [5] (by rfl) (by kernel_rfl) ?_
        repeat (first | refine gd_ ?_)
        refine ha_fork1 6 (by rfl) (by kernel_rfl) (by rfl) (by first | exact Imp.refl _ | exact Imp.drop (Imp.refl _) | exact Imp.drop (Imp.drop (Imp.refl _)) | exact Imp.drop (Imp.drop (Imp.drop (Imp.refl _))) | exact Imp.drop (Imp.drop (Imp.drop (Imp.drop (Imp.refl _)))) | exact Imp.drop (Imp.drop (Imp.drop (Imp.drop (Imp.drop (Imp.refl _))))) | exact Imp.drop (Imp.drop (Imp.drop (Imp.drop (Imp.drop (Imp.drop (Imp.refl _)))))) | exact Imp.drop (Imp.drop (Imp.drop (Imp.drop (Imp.drop (Imp.drop (Imp.drop (Imp.refl _))))))) | exact Imp.drop (Imp.drop (Imp.drop (Imp.drop (Imp.drop (Imp.drop (Imp.drop (Imp.drop (Imp.refl _)))))))) | assumption | exact Imp.drop2 (Imp.refl _) | exact Imp.drop2 (Imp.drop2 (Imp.refl _)) | exact Imp.drop (Imp.drop2 (Imp.refl _))) ?_
        · skip
          refine hl_boxA rfl rfl (fun gf => ?_)
          repeat (first | refine op_ ?_ | refine bx_ (fun _ => ?_))
          refine ha_quiet [7] (by rfl) (by kernel_rfl) ?_
          repeat (first | refine gd_ ?_)
          refine ha_end (by rfl) (by kernel_rfl) (by first | exact Imp.refl _ | exact Imp.drop (Imp.refl _) | exact Imp.drop (Imp.drop (Imp.refl _)) | exact Imp.drop (Imp.drop (Imp.drop (Imp.refl _))) | exact Imp.drop (Imp.drop (Imp.drop (Imp.drop (Imp.refl _)))) | exact Imp.drop (Imp.drop (Imp.drop (Imp.drop (Imp.drop (Imp.refl _))))) | exact Imp.drop (Imp.drop (Imp.drop (Imp.drop (Imp.drop (Imp.drop (Imp.refl _)))))) | exact Imp.drop (Imp.drop (Imp.drop (Imp.drop (Imp.drop (Imp.drop (Imp.drop (Imp.refl _))))))) | exact Imp.drop (Imp.drop (Imp.drop (Imp.drop (Imp.drop (Imp.drop (Imp.drop (Imp.drop (Imp.refl _)))))))) | assumption | exact Imp.drop2 (Imp.refl _) | exact Imp.drop2 (Imp.drop2 (Imp.refl _)) | exact Imp.drop (Imp.drop2 (Imp.refl _))) ?_
          exact ⟨gf, g1, g2, ⟨rfl, rfl, rfl, rfl, trivial⟩, by first | exact List.Perm.refl _ | exact (List.Perm.swap _ _ _).cons _⟩
  rintro fr M ⟨gf, g1, g2, hf, hp⟩
  obtain ⟨base, rfl⟩ := hf.out
  repeat (first | refine go_ ?_ | refine bx_ (fun _ => ?_))
  refine hc_loop (fun m fr M => ∃ p f toks sv Z, m + p = n ∧ n ≤ p + f ∧ toks.length + f ≤ n ∧ toks ++ findF b e f p = found b e ∧ Agr fr [(0, .slice a n cap), (1, .int .i64 (e : Int)), (5, sv), (8, .pointer (some ⟨gf, 0, none⟩)), (9, .int .i64 (p : Int))] ∧ M.Perm (Fd gf g1 g2 a n cap b p (Z ++ H)) ∧ ∀ F, Own 27 3 sv toks.length (toks.flatMap tokV) F (Z ++ F)) n ?_ ?_
  · exact ⟨0, n, [], .slice none 0 0, [], by omega, by omega, by simp, by unfold found; rw [hl]; rfl, ⟨rfl, rfl, rfl, rfl, rfl, trivial⟩, hp, fun F => Own.nil⟩
  clear hf hp base t1 t2
  rintro m fr M ⟨p, f, toks, sv, Z, hm, hf1, hf2, hF, hf, hp, o⟩
  obtain ⟨base, rfl⟩ := hf.out
  obtain ⟨sa, sc, rfl, hs1, hs2⟩ := (o []).form
  by_cases hpn : p < n
  · obtain ⟨bb, off, rfl, hrow⟩ := hb.row (by omega)
    obtain ⟨f, rfl⟩ : ∃ f', f = f' + 1 := ⟨f - 1, by omega⟩
    rw [findF, if_pos (by omega)] at hF
    refine HC.perm ?_ hp
    clear hp
    have hrowZ : ∀ Z, Row w0 B (Z ++ H) bb off n .u8 (byteF b) := fun Z => hrow.imp (Imp.tail Z H)
    have hg := best_good b e p
    obtain ⟨L, hL⟩ : ∃ L, L = (best b e p).1 := ⟨_, rfl⟩
    obtain ⟨D, hD⟩ : ∃ D, D = (best b e p).2 := ⟨_, rfl⟩
    have hbest := best_fn (w0 := w0) (B := B) (R := Z ++ H) (gf := gf) (g1 := g1) (g2 := g2) (cap := cap) hl (hrowZ Z) hpn h5 hcap e e1 e2
    rw [← hL, ← hD] at hbest hF hg
    clear hL hD
    have hswap : ∀ x : Ent, (x :: Fd gf g1 g2 (some ⟨bb, off, none⟩) n cap b p (Z ++ H)).Perm (Z ++ (x :: Fd gf g1 g2 (some ⟨bb, off, none⟩) n cap b p H)) := fun x => app_swap [_, _, _, _] Z H
    by_cases hL0 : L = 0
    · subst hL0
      rw [if_pos rfl] at hF
      repeat (first | refine go_ ?_ | refine bx_ (fun _ => ?_) | refine hl_callv rfl rfl (hbest) ?_)
      have hrow' := hrowZ Z
      repeat (first | refine go_ ?_ | refine bx_ (fun _ => ?_))
      refine hl_append_own1 rfl rfl ((o _).perm (hswap _)) (Rds.ent (n := 3) .here rfl (by simp [Value.oneCell'])) rfl rfl (by decide) (by decide) (by omega) (by omega) rfl (fun go cap' h1 h2 => HL.keep ?_ (.there .here))
      refine HL.perm ?_ (List.perm_middle (l₁ := [_, _, _]) (l₂ := H)).symm
      change HL _ _ _ _ _ (Fd gf g1 g2 (some ⟨bb, off, none⟩) n cap b p ([_] ++ H))
      have hrow1 := hrowZ [⟨go, 27, toks.flatMap tokV ++ tokV (litT (b.getD p 0)), cap' * 3⟩]
      have o1 : ∀ F, Own 27 3 (.slice (some ⟨go, 0, none⟩) (toks ++ [(litT (b.getD p 0))]).length cap') (toks ++ [(litT (b.getD p 0))]).length ((toks ++ [(litT (b.getD p 0))]).flatMap tokV) F ([⟨go, 27, toks.flatMap tokV ++ tokV (litT (b.getD p 0)), cap' * 3⟩] ++ F) := fun F => by
        rw [flat_snoc, List.length_append, List.length_singleton]
        exact Own.mk h1 h2 (by rw [List.length_append, length_flat]; simp; omega) (List.Perm.refl _)
      rw [List.length_append, List.length_singleton] at o1
      repeat (first | refine go_ ?_ | refine bx_ (fun _ => ?_))
      refine hl_call rfl rfl (add_fn hl hrow1 hpn h5 hcap) (fun v M' hM => ?_)
      subst hM
      repeat (first | refine go_ ?_ | refine bx_ (fun _ => ?_))
      exact ⟨m - 1, by omega, p + 1, f, toks ++ [litT (b.getD p 0)], .slice (some ⟨go, 0, none⟩) (toks.length + 1) cap', [_], by omega, by omega, by rw [List.length_append, List.length_singleton]; omega, by rw [List.append_assoc]; exact hF, ⟨rfl, rfl, rfl, rfl, rfl, trivial⟩, List.Perm.refl _, by rw [List.length_append, List.length_singleton]; exact o1⟩
    · rw [if_neg hL0] at hF
      rcases hg with ⟨hg1, _⟩ | ⟨hg1, hg2, hg3, hg4, hg5, hg6, _⟩
      · exact absurd hg1 hL0
      repeat (first | refine go_ ?_ | refine bx_ (fun _ => ?_) | refine hl_callv rfl rfl (hbest) ?_)
      refine hl_append_own1 rfl rfl ((o _).perm (hswap _)) (Rds.ent (n := 3) .here rfl (by simp [Value.oneCell'])) rfl rfl (by decide) (by decide) (by omega) (by omega) rfl (fun go cap' h1 h2 => HL.keep ?_ (.there .here))
      refine HL.perm ?_ (List.perm_middle (l₁ := [_, _, _]) (l₂ := H)).symm
      change HL _ _ _ _ _ (Fd gf g1 g2 (some ⟨bb, off, none⟩) n cap b p ([_] ++ H))
      have hrow1 := hrowZ [⟨go, 27, toks.flatMap tokV ++ tokV (⟨(L : Int), (D : Int), 0⟩ : Tok), cap' * 3⟩]
      have o1 : ∀ F, Own 27 3 (.slice (some ⟨go, 0, none⟩) (toks ++ [(⟨(L : Int), (D : Int), 0⟩ : Tok)]).length cap') (toks ++ [(⟨(L : Int), (D : Int), 0⟩ : Tok)]).length ((toks ++ [(⟨(L : Int), (D : Int), 0⟩ : Tok)]).flatMap tokV) F ([⟨go, 27, toks.flatMap tokV ++ tokV (⟨(L : Int), (D : Int), 0⟩ : Tok), cap' * 3⟩] ++ F) := fun F => by
        rw [flat_snoc, List.length_append, List.length_singleton]
        exact Own.mk h1 h2 (by rw [List.length_append, length_flat]; simp; omega) (List.Perm.refl _)
      rw [List.length_append, List.length_singleton] at o1
      repeat (first | refine go_ ?_ | refine bx_ (fun _ => ?_))
      refine hc_loop (fun m2 fr M => ∃ j, j + m2 = L ∧ Agr fr [(0, .slice (some ⟨bb, off, none⟩) n cap), (1, .int .i64 (e : Int)), (5, .slice (some ⟨go, 0, none⟩) (toks.length + 1) cap'), (8, .pointer (some ⟨gf, 0, none⟩)), (9, .int .i64 ((p + j : Nat) : Int)), (68, .int .i64 (L : Int)), (69, .int .i64 (j : Int))]
        ∧ M = Fd gf g1 g2 (some ⟨bb, off, none⟩) n cap b (p + j) ([⟨go, 27, toks.flatMap tokV ++ tokV (⟨(L : Int), (D : Int), 0⟩ : Tok), cap' * 3⟩] ++ H)) L ?_ ?_
      · exact ⟨0, by omega, ⟨rfl, rfl, rfl, rfl, rfl, rfl, rfl, trivial⟩, rfl⟩
      clear hf base hbest
      rintro m2 fr M ⟨j, hj, hf, rfl⟩
      obtain ⟨base, rfl⟩ := hf.out
      by_cases hjL : j < L
      · repeat (first | refine go_ ?_ | refine bx_ (fun _ => ?_))
        refine hl_call rfl rfl (add_fn hl hrow1 (by omega) h5 hcap) (fun v M' hM => ?_)
        subst hM
        repeat (first | refine go_ ?_ | refine bx_ (fun _ => ?_))
        exact ⟨m2 - 1, by omega, j + 1, by omega, ⟨rfl, rfl, rfl, rfl, rfl, rfl, rfl, trivial⟩, rfl⟩
      · obtain rfl : j = L := by omega
        repeat (first | refine go_ ?_ | refine bx_ (fun _ => ?_))
        exact ⟨m - j, by omega, p + j, f, toks ++ [(⟨(j : Int), (D : Int), 0⟩ : Tok)], .slice (some ⟨go, 0, none⟩) (toks.length + 1) cap', [_], by omega, by omega, by rw [List.length_append, List.length_singleton]; omega, by rw [List.append_assoc]; exact hF, ⟨rfl, rfl, rfl, rfl, rfl, trivial⟩, List.Perm.refl _, by rw [List.length_append, List.length_singleton]; exact o1⟩
  · have hfin : toks = found b e := by
      rw [← hF]
      cases f with
      | zero => simp [findF]
      | succ f => rw [findF, if_neg (by omega), List.append_nil]
    subst hfin
    repeat (first | refine go_ ?_ | refine bx_ (fun _ => ?_))
    exact fin1S rfl rfl (o H) (Imp.perm hp (Imp.drop (Imp.drop (Imp.drop (Imp.refl _)))))
/-- Whatever the effort. -/
def tk (b : List UInt8) (eff : Int) : List Tok := if eff ≤ 0 then b.map litT else found b (min eff 64).toNat
theorem length_tk (b : List UInt8) (eff : Int) : (tk b eff).length ≤ b.length := by
  unfold tk
  split
  · simp
  · exact length_findF _ _ _ _
theorem wf_tk (b : List UInt8) (eff : Int) (h : b.length ≤ 100000) : ∀ x ∈ tk b eff, x.wf := by
  unfold tk
  split
  · intro x hx
    obtain ⟨c, _, rfl⟩ := List.mem_map.1 hx
    simp [Tok.wf, litT]
  · exact wf_findF _ _ _ _ h
theorem lzB_tk (b : List UInt8) (eff most : Int) (hm : 0 ≤ most) : lzB most (tk b eff) [] = if (b.length : Int) ≤ most then (b, 0) else ([], 24) := by
  unfold tk
  split
  · rw [lzB_lits b most [] (by simpa using hm)]; simp
  · exact lzB_found b _ most hm
theorem find_fn {a : Option Addr} {n cap : Nat} {b : List UInt8} (hb : BArg w0 B H a n b) (hcap : n ≤ cap) (h5 : n ≤ 100000) (eff : Int) (heb : eff ≤ 9223372036854775807) :
    Fn Try.prog w0 B 11 [.slice a n cap, .int .i64 eff] H (fun v H' => Own 27 3 v (tk b eff).length ((tk b eff).flatMap tokV) H H') := by
  unfold tk
  by_cases he : eff ≤ 0
  · rw [if_pos he, List.length_map, hb.len]
    exact find0_fn hb h5 eff he
  · rw [if_neg he]
    exact find1_fn hb hcap h5 eff (by omega) heb _ (by omega)
end
end Go.Proofs.Ytabaagelgfdkeaa
