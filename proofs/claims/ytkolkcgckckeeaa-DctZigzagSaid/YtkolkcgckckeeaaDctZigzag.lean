/-
  The statement DctZigzag holds, whatever the number.
-/
import Derived.Test.YtkolkcgckckeeaaD5
import Derived.Test.YtkolkcgckckeeaaOpenArr
namespace Go.Proofs.Ytkolkcgckckeeaa.dctZigzag
open Go.RowKit

/-- Turned round from both ends. -/
def rv (f : Nat → Int) (n i k : Nat) : Int := if k < i ∨ n ≤ k + i then f (n - 1 - k) else f k
section
variable {w0 : World} {B : Nat} {H F : List Ent}
set_option maxHeartbeats 8000000 in
theorem reverse_fn (g n cap kk : Nat) (f : Nat → Int) (hn : n ≤ 1000) : Fn Try.prog w0 B 30 [.slice (some ⟨g, 0, none⟩) n cap] (⟨g, 3, tab n f, kk⟩ :: F) (fun _ H' => H' = ⟨g, 3, tab n (fun k => f (n - 1 - k)), kk⟩ :: F) := by
  refine fn_intro Try.func30 rfl (by kernel_rfl) rfl ?_
  repeat (first | refine go_ ?_ | refine bx_ (fun _ => ?_))
  refine hc_loop (fun z fr M => ∃ i, i + z = n ∧ 2 * i ≤ n + 1 ∧ Agr fr [(0, .slice (some ⟨g, 0, none⟩) n cap), (2, .int .i64 (i : Int)), (3, .int .i64 ((n : Int) - 1 - i))] ∧ M = ⟨g, 3, tab n (rv f n i), kk⟩ :: F) n ?_ ?_
  · refine ⟨0, by omega, by omega, ⟨rfl, rfl, ?_, trivial⟩, ?_⟩
    · show Value.int .i64 ((n : Int) - 1) = Value.int .i64 ((n : Int) - 1 - (0 : Nat)); congr 1; omega
    · rw [show tab n f = tab n (rv f n 0) from tab_congr fun k hk => by unfold rv; rw [if_neg (by omega)]]
  rintro z fr M ⟨i, hi, h2, hf, rfl⟩
  obtain ⟨base, rfl⟩ := hf.out
  clear hf
  by_cases hlt : 2 * i + 1 < n
  · have e1 : (n : Int) - 1 - (i : Int) = ((n - 1 - i : Nat) : Int) := by omega
    have v1 : (tab n (rv f n i))[n - 1 - i]? = some (.int .i64 (f (n - 1 - i))) := by rw [tab_get (by omega)]; unfold rv; rw [if_neg (by omega)]
    have v2 : (tab n (rv f n i))[i]? = some (.int .i64 (f i)) := by rw [tab_get (by omega)]; unfold rv; rw [if_neg (by omega)]
    have s1 : (tab n (rv f n i)).set i (.int .i64 (f (n - 1 - i))) = tab n (fun k => if k = i then f (n - 1 - i) else rv f n i k) := tab_set fun j _ => rfl
    have s2 : (tab n (fun k => if k = i then f (n - 1 - i) else rv f n i k)).set (n - 1 - i) (.int .i64 (f i)) = tab n (rv f n (i + 1)) := tab_set fun j hj => by
      unfold rv
      by_cases h1 : j = n - 1 - i
      · rw [if_pos h1, if_pos (by omega)]; congr 1; omega
      · rw [if_neg h1]
        by_cases h3 : j = i
        · subst h3; rw [if_pos rfl, if_pos (by omega)]
        · rw [if_neg h3]
          by_cases h4 : j < i ∨ n ≤ j + i
          · rw [if_pos h4, if_pos (by omega)]
          · rw [if_neg h4, if_neg (by omega)]
    rw [e1]
    repeat (first | refine go_ ?_ | refine bx_ (fun _ => ?_))
    refine hc_meet (fun fr M => Agr fr [(0, .slice (some ⟨g, 0, none⟩) n cap), (2, .int .i64 (i : Int)), (3, .int .i64 ((n - 1 - i : Nat) : Int))] ∧ M = ⟨g, 3, tab n (rv f n (i + 1)), kk⟩ :: F) ?_ ?_
    · refine hc_drawA F (by kernel_rfl) ?_
      refine ha_quiet [0, 1, 2, 3, 4, 5, 6, 8, 9, 10] (by rfl) (by kernel_rfl) ?_
      repeat (first | refine gd_ ?_)
      refine ha_fork2 7 11 (by rfl) (by kernel_rfl) (by rfl) (by rfl) (by first | exact Imp.refl _ | exact Imp.drop (Imp.refl _) | exact Imp.drop (Imp.drop (Imp.refl _)) | exact Imp.drop (Imp.drop (Imp.drop (Imp.refl _))) | exact Imp.drop (Imp.drop (Imp.drop (Imp.drop (Imp.refl _)))) | exact Imp.drop (Imp.drop (Imp.drop (Imp.drop (Imp.drop (Imp.refl _))))) | exact Imp.drop (Imp.drop (Imp.drop (Imp.drop (Imp.drop (Imp.drop (Imp.refl _)))))) | exact Imp.drop (Imp.drop (Imp.drop (Imp.drop (Imp.drop (Imp.drop (Imp.drop (Imp.refl _))))))) | exact Imp.drop (Imp.drop (Imp.drop (Imp.drop (Imp.drop (Imp.drop (Imp.drop (Imp.drop (Imp.refl _))))))))) ?_ ?_
      · skip
        repeat (first | refine op_ ?_ | refine bx_ (fun _ => ?_))
        refine ha_fork1 11 (by rfl) (by kernel_rfl) (by rfl) (by first | exact Imp.refl _ | exact Imp.drop (Imp.refl _) | exact Imp.drop (Imp.drop (Imp.refl _)) | exact Imp.drop (Imp.drop (Imp.drop (Imp.refl _))) | exact Imp.drop (Imp.drop (Imp.drop (Imp.drop (Imp.refl _)))) | exact Imp.drop (Imp.drop (Imp.drop (Imp.drop (Imp.drop (Imp.refl _))))) | exact Imp.drop (Imp.drop (Imp.drop (Imp.drop (Imp.drop (Imp.drop (Imp.refl _)))))) | exact Imp.drop (Imp.drop (Imp.drop (Imp.drop (Imp.drop (Imp.drop (Imp.drop (Imp.refl _))))))) | exact Imp.drop (Imp.drop (Imp.drop (Imp.drop (Imp.drop (Imp.drop (Imp.drop (Imp.drop (Imp.refl _))))))))) ?_
        · skip
          repeat (first | refine op_ ?_ | refine bx_ (fun _ => ?_))
          refine ha_quiet [12] (by rfl) (by kernel_rfl) ?_
          repeat (first | refine gd_ ?_)
          refine ha_fork1 13 (by rfl) (by kernel_rfl) (by rfl) (by first | exact Imp.refl _ | exact Imp.drop (Imp.refl _) | exact Imp.drop (Imp.drop (Imp.refl _)) | exact Imp.drop (Imp.drop (Imp.drop (Imp.refl _))) | exact Imp.drop (Imp.drop (Imp.drop (Imp.drop (Imp.refl _)))) | exact Imp.drop (Imp.drop (Imp.drop (Imp.drop (Imp.drop (Imp.refl _))))) | exact Imp.drop (Imp.drop (Imp.drop (Imp.drop (Imp.drop (Imp.drop (Imp.refl _)))))) | exact Imp.drop (Imp.drop (Imp.drop (Imp.drop (Imp.drop (Imp.drop (Imp.drop (Imp.refl _))))))) | exact Imp.drop (Imp.drop (Imp.drop (Imp.drop (Imp.drop (Imp.drop (Imp.drop (Imp.drop (Imp.refl _))))))))) ?_
          · skip
            repeat (first | refine op_ ?_ | refine bx_ (fun _ => ?_))
            refine ha_quiet [14] (by rfl) (by kernel_rfl) ?_
            repeat (first | refine gd_ ?_)
            refine ha_fork1 15 (by rfl) (by kernel_rfl) (by rfl) (by first | exact Imp.refl _ | exact Imp.drop (Imp.refl _) | exact Imp.drop (Imp.drop (Imp.refl _)) | exact Imp.drop (Imp.drop (Imp.drop (Imp.refl _))) | exact Imp.drop (Imp.drop (Imp.drop (Imp.drop (Imp.refl _)))) | exact Imp.drop (Imp.drop (Imp.drop (Imp.drop (Imp.drop (Imp.refl _))))) | exact Imp.drop (Imp.drop (Imp.drop (Imp.drop (Imp.drop (Imp.drop (Imp.refl _)))))) | exact Imp.drop (Imp.drop (Imp.drop (Imp.drop (Imp.drop (Imp.drop (Imp.drop (Imp.refl _))))))) | exact Imp.drop (Imp.drop (Imp.drop (Imp.drop (Imp.drop (Imp.drop (Imp.drop (Imp.drop (Imp.refl _))))))))) ?_
            · skip
              repeat (first | refine op_ ?_ | refine bx_ (fun _ => ?_))
              refine ha_end (by rfl) (by kernel_rfl) (by first | exact Imp.refl _ | exact Imp.drop (Imp.refl _) | exact Imp.drop (Imp.drop (Imp.refl _)) | exact Imp.drop (Imp.drop (Imp.drop (Imp.refl _))) | exact Imp.drop (Imp.drop (Imp.drop (Imp.drop (Imp.refl _)))) | exact Imp.drop (Imp.drop (Imp.drop (Imp.drop (Imp.drop (Imp.refl _))))) | exact Imp.drop (Imp.drop (Imp.drop (Imp.drop (Imp.drop (Imp.drop (Imp.refl _)))))) | exact Imp.drop (Imp.drop (Imp.drop (Imp.drop (Imp.drop (Imp.drop (Imp.drop (Imp.refl _))))))) | exact Imp.drop (Imp.drop (Imp.drop (Imp.drop (Imp.drop (Imp.drop (Imp.drop (Imp.drop (Imp.refl _))))))))) ?_
              exact ⟨⟨rfl, rfl, rfl, trivial⟩, by rw [s1, s2]⟩
      · skip
        repeat (first | refine op_ ?_ | refine bx_ (fun _ => ?_))
        refine ha_fork1 7 (by rfl) (by kernel_rfl) (by rfl) (by first | exact Imp.refl _ | exact Imp.drop (Imp.refl _) | exact Imp.drop (Imp.drop (Imp.refl _)) | exact Imp.drop (Imp.drop (Imp.drop (Imp.refl _))) | exact Imp.drop (Imp.drop (Imp.drop (Imp.drop (Imp.refl _)))) | exact Imp.drop (Imp.drop (Imp.drop (Imp.drop (Imp.drop (Imp.refl _))))) | exact Imp.drop (Imp.drop (Imp.drop (Imp.drop (Imp.drop (Imp.drop (Imp.refl _)))))) | exact Imp.drop (Imp.drop (Imp.drop (Imp.drop (Imp.drop (Imp.drop (Imp.drop (Imp.refl _))))))) | exact Imp.drop (Imp.drop (Imp.drop (Imp.drop (Imp.drop (Imp.drop (Imp.drop (Imp.drop (Imp.refl _))))))))) ?_
        · skip
          repeat (first | refine op_ ?_ | refine bx_ (fun _ => ?_))
          refine ha_quiet [12] (by rfl) (by kernel_rfl) ?_
          repeat (first | refine gd_ ?_)
          refine ha_fork1 13 (by rfl) (by kernel_rfl) (by rfl) (by first | exact Imp.refl _ | exact Imp.drop (Imp.refl _) | exact Imp.drop (Imp.drop (Imp.refl _)) | exact Imp.drop (Imp.drop (Imp.drop (Imp.refl _))) | exact Imp.drop (Imp.drop (Imp.drop (Imp.drop (Imp.refl _)))) | exact Imp.drop (Imp.drop (Imp.drop (Imp.drop (Imp.drop (Imp.refl _))))) | exact Imp.drop (Imp.drop (Imp.drop (Imp.drop (Imp.drop (Imp.drop (Imp.refl _)))))) | exact Imp.drop (Imp.drop (Imp.drop (Imp.drop (Imp.drop (Imp.drop (Imp.drop (Imp.refl _))))))) | exact Imp.drop (Imp.drop (Imp.drop (Imp.drop (Imp.drop (Imp.drop (Imp.drop (Imp.drop (Imp.refl _))))))))) ?_
          · skip
            repeat (first | refine op_ ?_ | refine bx_ (fun _ => ?_))
            refine ha_quiet [14] (by rfl) (by kernel_rfl) ?_
            repeat (first | refine gd_ ?_)
            refine ha_fork1 15 (by rfl) (by kernel_rfl) (by rfl) (by first | exact Imp.refl _ | exact Imp.drop (Imp.refl _) | exact Imp.drop (Imp.drop (Imp.refl _)) | exact Imp.drop (Imp.drop (Imp.drop (Imp.refl _))) | exact Imp.drop (Imp.drop (Imp.drop (Imp.drop (Imp.refl _)))) | exact Imp.drop (Imp.drop (Imp.drop (Imp.drop (Imp.drop (Imp.refl _))))) | exact Imp.drop (Imp.drop (Imp.drop (Imp.drop (Imp.drop (Imp.drop (Imp.refl _)))))) | exact Imp.drop (Imp.drop (Imp.drop (Imp.drop (Imp.drop (Imp.drop (Imp.drop (Imp.refl _))))))) | exact Imp.drop (Imp.drop (Imp.drop (Imp.drop (Imp.drop (Imp.drop (Imp.drop (Imp.drop (Imp.refl _))))))))) ?_
            · skip
              repeat (first | refine op_ ?_ | refine bx_ (fun _ => ?_))
              refine ha_end (by rfl) (by kernel_rfl) (by first | exact Imp.refl _ | exact Imp.drop (Imp.refl _) | exact Imp.drop (Imp.drop (Imp.refl _)) | exact Imp.drop (Imp.drop (Imp.drop (Imp.refl _))) | exact Imp.drop (Imp.drop (Imp.drop (Imp.drop (Imp.refl _)))) | exact Imp.drop (Imp.drop (Imp.drop (Imp.drop (Imp.drop (Imp.refl _))))) | exact Imp.drop (Imp.drop (Imp.drop (Imp.drop (Imp.drop (Imp.drop (Imp.refl _)))))) | exact Imp.drop (Imp.drop (Imp.drop (Imp.drop (Imp.drop (Imp.drop (Imp.drop (Imp.refl _))))))) | exact Imp.drop (Imp.drop (Imp.drop (Imp.drop (Imp.drop (Imp.drop (Imp.drop (Imp.drop (Imp.refl _))))))))) ?_
              exact ⟨⟨rfl, rfl, rfl, trivial⟩, by rw [s1, s2]⟩
    clear base
    rintro fr M ⟨hf, rfl⟩
    obtain ⟨base, rfl⟩ := hf.out
    clear hf
    repeat (first | refine go_ ?_ | refine bx_ (fun _ => ?_))
    refine ⟨z - 1, by omega, i + 1, by omega, by omega, ⟨rfl, rfl, ?_, trivial⟩, rfl⟩
    show Value.int .i64 (((n - 1 - i : Nat) : Int) - 1) = Value.int .i64 ((n : Int) - 1 - ((i + 1 : Nat) : Int)); congr 1; omega
  · repeat (first | refine go_ ?_ | refine bx_ (fun _ => ?_))
    refine fin0 rfl ?_
    rw [show tab n (fun k => f (n - 1 - k)) = tab n (rv f n i) from tab_congr fun k hk => by
      unfold rv
      by_cases h : k < i ∨ n ≤ k + i
      · rw [if_pos h]
      · rw [if_neg h]; congr 1; omega]

/-! The order -/
def zzL : List Int := [0, 1, 8, 16, 9, 2, 3, 10, 17, 24, 32, 25, 18, 11, 4, 5, 12, 19, 26, 33, 40, 48, 41, 34, 27, 20, 13, 6, 7, 14, 21, 28, 35, 42, 49, 56, 57, 50, 43, 36, 29, 22, 15, 23, 30, 37, 44, 51, 58, 59, 52, 45, 38, 31, 39, 46, 53, 60, 61, 54, 47, 55, 62, 63]
def zz (i : Nat) : Int := zzL.getD i 0
/-- Where a line's first number stands, and how long it is. -/
def low (n : Nat) : Nat := if n < 8 then 0 else n - 7
def cnt (n : Nat) : Nat := if n < 8 then n + 1 else 15 - n
def att (n : Nat) : Nat := [0, 1, 3, 6, 10, 15, 21, 28, 36, 43, 49, 54, 58, 61, 63, 64].getD n 0
def lin (n k : Nat) : Int := 7 * ((low n + k : Nat) : Int) + n
theorem att_next : ∀ n : Fin 15, att (n.val + 1) = att n.val + cnt n.val := by decide
theorem att_le : ∀ n : Fin 16, att n.val ≤ 64 := by decide
theorem lin_zz : ∀ n : Fin 15, ∀ k : Fin 8, k.val < cnt n.val → zz (att n.val + k.val) = if n.val % 2 = 0 then lin n.val (cnt n.val - 1 - k.val) else lin n.val k.val := by decide +kernel
/-- How many of a line stand ahead of v. -/
def ahead (n v : Nat) : Nat := min (v - low n) (cnt n)
theorem tab_snoc (n : Nat) (f : Nat → Int) : tab n f ++ [.int .i64 (f n)] = tab (n + 1) f := by unfold tab; rw [List.range_succ, List.map_append]; rfl

set_option maxHeartbeats 8000000 in
set_option maxRecDepth 100000 in
theorem zigzag_fn : Fn Try.prog w0 B 20 [] H (fun v H' => v = .agg (tab 64 zz).toArray ∧ H' = H) := by
  refine fn_intro Try.func20 rfl (by kernel_rfl) rfl ?_
  repeat (first | refine go_ ?_ | refine bx_ (fun _ => ?_))
  rename_i g0
  refine hc_loopd (fun z fr M => ∃ n, n + z = 15 ∧ Agr fr [(0, .pointer (some ⟨g0, 0, none⟩)), (1, .int .i64 (att n : Int)), (6, .int .i64 (n : Int))] ∧ M = ⟨g0, 27, tab 64 (dsel zz (att n)), 64⟩ :: H) 15 ?_ ?_
  · exact ⟨0, by omega, ⟨rfl, rfl, rfl, trivial⟩, rfl⟩
  rintro y fr M ⟨n, hy, hf, rfl⟩
  obtain ⟨base, rfl⟩ := hf.out
  clear hf
  by_cases hlt : n < 15
  · repeat (first | refine go_ ?_ | refine bx_ (fun _ => ?_))
    refine hc_loop (fun z fr M => ∃ v sl, v + z = 8 ∧ Agr fr [(0, .pointer (some ⟨g0, 0, none⟩)), (1, .int .i64 (att n : Int)), (6, .int .i64 (n : Int)), (2, .int .i64 (n : Int)), (3, sl), (9, .int .i64 (v : Int))] ∧ Own 3 1 sl (ahead n v) (tab (ahead n v) (lin n)) (⟨g0, 27, tab 64 (dsel zz (att n)), 64⟩ :: H) M) 8 ?_ ?_
    · refine ⟨0, _, by omega, ⟨rfl, rfl, rfl, rfl, rfl, rfl, trivial⟩, ?_⟩
      have : ahead n 0 = 0 := by unfold ahead; omega
      rw [this]
      exact Own.nil
    clear base
    rintro z fr M ⟨v, sl, hz, hf, ho⟩
    obtain ⟨base, rfl⟩ := hf.out
    clear hf
    obtain ⟨a, cap, rfl, hc1, hc2⟩ := ho.form
    by_cases hv : v < 8
    · by_cases h1 : n < v
      · have e : ahead n (v + 1) = ahead n v := by unfold ahead cnt low; split <;> omega
        repeat (first | refine go_ ?_ | refine bx_ (fun _ => ?_))
        exact ⟨z - 1, by omega, v + 1, _, by omega, ⟨rfl, rfl, rfl, rfl, rfl, rfl, trivial⟩, by rw [e]; exact ho⟩
      by_cases h2 : n < v + 8
      · have e : ahead n (v + 1) = ahead n v + 1 := by unfold ahead cnt low; split <;> omega
        have e2 : lin n (ahead n v) = 8 * (v : Int) + ((n : Int) - (v : Int)) := by unfold lin ahead cnt low; split <;> omega
        have hle : ahead n v ≤ 8 := by unfold ahead cnt; split <;> omega
        repeat (first | refine go_ ?_ | refine bx_ (fun _ => ?_))
        refine hl_append_own1 rfl rfl (ho.under _) (Rds.ent (n := 1) .here rfl (by simp [Value.oneCell'])) rfl rfl (by decide) (by decide) (by omega) (by omega) rfl (fun gb cap' h3 h4 => HL.keep ?_ (.there .here))
        repeat (first | refine go_ ?_ | refine bx_ (fun _ => ?_))
        refine ⟨z - 1, by omega, v + 1, .slice (some ⟨gb, 0, none⟩) (ahead n v + 1) cap', by omega, ⟨rfl, rfl, rfl, rfl, rfl, rfl, trivial⟩, ?_⟩
        have hm : tab (ahead n v) (lin n) ++ List.take 1 (List.drop 0 [.int .i64 (8 * (v : Int) + ((n : Int) - (v : Int)))]) = tab (ahead n v + 1) (lin n) := by rw [← e2]; exact tab_snoc _ _
        rw [hm, e]
        exact Own.mk h3 h4 (by rw [length_tab]; omega) (List.Perm.refl _)
      · have e : ahead n (v + 1) = ahead n v := by unfold ahead cnt low; split <;> omega
        repeat (first | refine go_ ?_ | refine bx_ (fun _ => ?_))
        exact ⟨z - 1, by omega, v + 1, _, by omega, ⟨rfl, rfl, rfl, rfl, rfl, rfl, trivial⟩, by rw [e]; exact ho⟩
    · obtain rfl : v = 8 := by omega
      have e : ahead n 8 = cnt n := by unfold ahead cnt low; split <;> omega
      rw [e] at ho ⊢
      have hc8 : cnt n ≤ 8 := by unfold cnt; split <;> omega
      have hc0 : 0 < cnt n := by unfold cnt; split <;> omega
      obtain ⟨g, cap', he, _, _, _, hp⟩ := ho.posn hc0
      cases he
      refine HC.perm ?_ hp
      have ha := att_next ⟨n, hlt⟩
      have ha2 := att_le ⟨n + 1, by omega⟩
      have hl := lin_zz ⟨n, hlt⟩
      dsimp only at ha ha2 hl
      generalize hcn : cnt n = q at *
      have hfin : ∀ (f : Nat → Int), (∀ k, k < q → f k = zz (att n + k)) → (tab 64 (dsel zz (att n))).take (att n) ++ (tab q f).take q ++ (tab 64 (dsel zz (att n))).drop (att n + q) = tab 64 (dsel zz (att (n + 1))) := fun f hf => by
        rw [List.take_of_length_le (l := tab q f) (i := q) (Nat.le_of_eq (length_tab _ _))]
        refine tab_splice (n := 64) (i := att n) (m := q) (show att n + q ≤ 64 by omega) (fun j hj => ?_)
        unfold dsel
        by_cases h1 : att n ≤ j ∧ j < att n + q
        · rw [if_pos h1, if_pos (by omega), hf _ (by omega)]; congr 1; omega
        · rw [if_neg h1]
          by_cases h2 : j < att n
          · rw [if_pos h2, if_pos (by omega)]
          · rw [if_neg h2, if_neg (by omega)]
      have ep : (n : Int) % 2 = ((n % 2 : Nat) : Int) := by omega
      by_cases hev : n % 2 = 0
      · repeat (first | refine go_ ?_ | refine bx_ (fun _ => ?_))
        refine hl_call rfl rfl (reverse_fn g q cap _ (lin n) (by omega)) (fun _ M' hM => ?_)
        subst hM
        repeat (first | refine go_ ?_ | refine bx_ (fun _ => ?_))
        refine hl_sliceArr (ki := .i64) (kj := .i64) (i := att n) (j := 64) rfl rfl rfl (by omega) (by omega) rfl (fun off ho' => ?_)
        obtain rfl : off = att n := by have := ho' (by omega); omega
        repeat (first | refine go_ ?_ | refine bx_ (fun _ => ?_))
        refine hl_copy1 (l := tab q (fun k => lin n (q - 1 - k))) (m := q) rfl rfl (.there .here) (Rds.ent (n := q) .here (by rw [List.drop_zero, List.take_of_length_le (by rw [length_tab]; omega)]) tab_one) (length_tab _ _) (fun h => by cases h) (by omega) (by rw [length_tab]; omega) rfl ?_
        rw [hfin _ (fun k hk => by rw [hl ⟨k, by omega⟩ hk, if_pos hev])]
        repeat (first | refine go_ ?_ | refine bx_ (fun _ => ?_))
        refine ⟨y - 1, by omega, _, Imp.perm (List.Perm.swap _ _ _) (Imp.drop (Imp.refl _)), n + 1, by omega, ⟨rfl, ?_, rfl, trivial⟩, rfl⟩
        rw [ha]; rfl
      · repeat (first | refine go_ ?_ | refine bx_ (fun _ => ?_))
        refine hl_sliceArr (ki := .i64) (kj := .i64) (i := att n) (j := 64) rfl rfl rfl (by omega) (by omega) rfl (fun off ho' => ?_)
        obtain rfl : off = att n := by have := ho' (by omega); omega
        repeat (first | refine go_ ?_ | refine bx_ (fun _ => ?_))
        refine hl_copy1 (l := tab q (lin n)) (m := q) rfl rfl (.there .here) (Rds.ent (n := q) .here (by rw [List.drop_zero, List.take_of_length_le (by rw [length_tab]; omega)]) tab_one) (length_tab _ _) (fun h => by cases h) (by omega) (by rw [length_tab]; omega) rfl ?_
        rw [hfin _ (fun k hk => by rw [hl ⟨k, by omega⟩ hk, if_neg hev])]
        repeat (first | refine go_ ?_ | refine bx_ (fun _ => ?_))
        refine ⟨y - 1, by omega, _, Imp.perm (List.Perm.swap _ _ _) (Imp.drop (Imp.refl _)), n + 1, by omega, ⟨rfl, ?_, rfl, trivial⟩, rfl⟩
        rw [ha]; rfl
  · obtain rfl : n = 15 := by omega
    have h64 : tab 64 (dsel zz (att 15)) = tab 64 zz := dsel_end zz 64
    rw [h64]
    repeat (first | refine go_ ?_ | refine bx_ (fun _ => ?_))
    exact finC rfl rfl .here (length_tab _ _) ⟨rfl, rfl⟩

def uu (i : Nat) : Int := ([0, 1, 0, 0, 1, 2, 3, 2, 1, 0, 0, 1, 2, 3, 4, 5, 4, 3, 2, 1, 0, 0, 1, 2, 3, 4, 5, 6, 7, 6, 5, 4, 3, 2, 1, 0, 1, 2, 3, 4, 5, 6, 7, 7, 6, 5, 4, 3, 2, 3, 4, 5, 6, 7, 7, 6, 5, 4, 5, 6, 7, 7, 6, 7, 7] : List Int).getD i 0
def vv (i : Nat) : Int := ([0, 0, 1, 2, 1, 0, 0, 1, 2, 3, 4, 3, 2, 1, 0, 0, 1, 2, 3, 4, 5, 6, 5, 4, 3, 2, 1, 0, 0, 1, 2, 3, 4, 5, 6, 7, 7, 6, 5, 4, 3, 2, 1, 2, 3, 4, 5, 6, 7, 7, 6, 5, 4, 3, 4, 5, 6, 7, 7, 6, 5, 6, 7, 7, 8] : List Int).getD i 0
def nextU (u v : Int) : Int := if (u + v) % 2 = 0 then (if u = 7 then u else if v = 0 then u + 1 else u + 1) else (if v = 7 then u + 1 else if u = 0 then u else u - 1)
def nextV (u v : Int) : Int := if (u + v) % 2 = 0 then (if u = 7 then v + 1 else if v = 0 then v else v - 1) else (if v = 7 then v else if u = 0 then v + 1 else v + 1)
theorem uv_next : ∀ i : Fin 64, uu (i.val + 1) = nextU (uu i.val) (vv i.val) ∧ vv (i.val + 1) = nextV (uu i.val) (vv i.val) ∧ zz i.val = 8 * vv i.val + uu i.val ∧ 0 ≤ uu i.val ∧ uu i.val ≤ 7 ∧ 0 ≤ vv i.val ∧ vv i.val ≤ 7 := by decide +kernel
set_option maxHeartbeats 8000000 in
set_option maxRecDepth 100000 in
theorem refZ_fn : Fn Try.prog w0 B 21 [] H (fun v H' => v = .agg (tab 64 zz).toArray ∧ H' = H) := by
  refine fn_intro Try.func21 rfl (by kernel_rfl) rfl ?_
  repeat (first | refine go_ ?_ | refine bx_ (fun _ => ?_))
  rename_i g0 g1
  refine hc_loop (fun z fr M => ∃ i, i + z = 64 ∧ Agr fr [(0, .pointer (some ⟨g0, 0, none⟩)), (1, .pointer (some ⟨g1, 0, none⟩)), (2, .int .i64 (uu i)), (3, .int .i64 (vv i)), (4, .int .i64 (i : Int))] ∧ M = ⟨g1, 27, tab 64 (dsel zz i), 64⟩ :: ⟨g0, 27, tab 64 (fun _ => 0), 64⟩ :: H) 64 ?_ ?_
  · exact ⟨0, by omega, ⟨rfl, rfl, rfl, rfl, rfl, trivial⟩, rfl⟩
  rintro y fr M ⟨i, hy, hf, rfl⟩
  obtain ⟨base, rfl⟩ := hf.out
  clear hf
  by_cases hlt : i < 64
  · obtain ⟨e1, e2, e3, b1, b2, b3, b4⟩ := uv_next ⟨i, hlt⟩
    dsimp only at e1 e2 e3 b1 b2 b3 b4
    have hset := dsel_set zz 64 i
    rw [e3] at hset
    generalize uu i = u at *
    generalize vv i = v at *
    by_cases h1 : (u + v) % 2 = 0
    · by_cases h2 : u = 7
      · have e4 : nextU u v = u := by unfold nextU; rw [if_pos h1, if_pos h2]
        have e5 : nextV u v = v + 1 := by unfold nextV; rw [if_pos h1, if_pos h2]
        rw [e4] at e1
        rw [e5] at e2
        repeat (first | rw [hset] | refine go1_ ?_ | refine bx_ (fun _ => ?_))
        exact ⟨y - 1, by omega, i + 1, by omega, ⟨rfl, rfl, by rw [e1]; rfl, by rw [e2]; rfl, rfl, trivial⟩, rfl⟩
      · by_cases h3 : v = 0
        · have e4 : nextU u v = u + 1 := by unfold nextU; rw [if_pos h1, if_neg h2, if_pos h3]
          have e5 : nextV u v = v := by unfold nextV; rw [if_pos h1, if_neg h2, if_pos h3]
          rw [e4] at e1
          rw [e5] at e2
          repeat (first | rw [hset] | refine go1_ ?_ | refine bx_ (fun _ => ?_))
          exact ⟨y - 1, by omega, i + 1, by omega, ⟨rfl, rfl, by rw [e1]; rfl, by rw [e2]; rfl, rfl, trivial⟩, rfl⟩
        · have e4 : nextU u v = u + 1 := by unfold nextU; rw [if_pos h1, if_neg h2, if_neg h3]
          have e5 : nextV u v = v - 1 := by unfold nextV; rw [if_pos h1, if_neg h2, if_neg h3]
          rw [e4] at e1
          rw [e5] at e2
          repeat (first | rw [hset] | refine go1_ ?_ | refine bx_ (fun _ => ?_))
          exact ⟨y - 1, by omega, i + 1, by omega, ⟨rfl, rfl, by rw [e1]; rfl, by rw [e2]; rfl, rfl, trivial⟩, rfl⟩
    · by_cases h2 : v = 7
      · have e4 : nextU u v = u + 1 := by unfold nextU; rw [if_neg h1, if_pos h2]
        have e5 : nextV u v = v := by unfold nextV; rw [if_neg h1, if_pos h2]
        rw [e4] at e1
        rw [e5] at e2
        repeat (first | rw [hset] | refine go1_ ?_ | refine bx_ (fun _ => ?_))
        exact ⟨y - 1, by omega, i + 1, by omega, ⟨rfl, rfl, by rw [e1]; rfl, by rw [e2]; rfl, rfl, trivial⟩, rfl⟩
      · by_cases h3 : u = 0
        · have e4 : nextU u v = u := by unfold nextU; rw [if_neg h1, if_neg h2, if_pos h3]
          have e5 : nextV u v = v + 1 := by unfold nextV; rw [if_neg h1, if_neg h2, if_pos h3]
          rw [e4] at e1
          rw [e5] at e2
          repeat (first | rw [hset] | refine go1_ ?_ | refine bx_ (fun _ => ?_))
          exact ⟨y - 1, by omega, i + 1, by omega, ⟨rfl, rfl, by rw [e1]; rfl, by rw [e2]; rfl, rfl, trivial⟩, rfl⟩
        · have e4 : nextU u v = u - 1 := by unfold nextU; rw [if_neg h1, if_neg h2, if_neg h3]
          have e5 : nextV u v = v + 1 := by unfold nextV; rw [if_neg h1, if_neg h2, if_neg h3]
          rw [e4] at e1
          rw [e5] at e2
          repeat (first | rw [hset] | refine go1_ ?_ | refine bx_ (fun _ => ?_))
          exact ⟨y - 1, by omega, i + 1, by omega, ⟨rfl, rfl, by rw [e1]; rfl, by rw [e2]; rfl, rfl, trivial⟩, rfl⟩
  · obtain rfl : i = 64 := by omega
    rw [dsel_end]
    repeat (first | refine go_ ?_ | refine bx_ (fun _ => ?_))
    exact finC rfl rfl .here (length_tab _ _) ⟨rfl, rfl⟩

/-- How often a number stands among the first. -/
def often (a : Int) : Nat → Nat
  | 0 => 0
  | k + 1 => often a k + (if zz k = a then 1 else 0)
theorem often_le (a : Int) : ∀ k, often a k ≤ k
  | 0 => Nat.le_refl _
  | k + 1 => by have := often_le a k; unfold often; split <;> omega
theorem once : ∀ a : Fin 64, often (a.val : Int) 64 = 1 := by decide +kernel
set_option maxHeartbeats 8000000 in
set_option maxRecDepth 100000 in
theorem law (a : Int) : Fn Try.prog w0 B 9 [.int .i64 a] H (fun u _ => u = .bool true) := by
  refine fn_intro Try.func9 rfl (by kernel_rfl) rfl ?_
  repeat (first | refine go_ ?_ | refine bx_ (fun _ => ?_) | refine hl_callv rfl rfl (anchor_fn) ?_ | refine hl_callv rfl rfl (zigzag_fn) ?_)
  refine hc_draw (by kernel_rfl) (by kernel_rfl) ?_
  repeat (first | refine gd_ ?_ | refine hd_call rfl rfl (refZ_fn) ?_ | refine hl_neTabF rfl rfl (fun _ _ => rfl) rfl ?_)
  by_cases h1 : a < 0
  · repeat (first | refine go_ ?_ | refine bx_ (fun _ => ?_))
    exact fin1B rfl rfl rfl
  by_cases h2 : 63 < a
  · repeat (first | refine go_ ?_ | refine bx_ (fun _ => ?_))
    exact fin1B rfl rfl rfl
  repeat (first | refine go_ ?_ | refine bx_ (fun _ => ?_))
  rename_i g3
  refine hc_loop (fun z fr M => ∃ k, k + z = 64 ∧ Agr fr [(0, .int .i64 a), (4, .int .i64 ((often a k : Nat) : Int)), (19, .agg (tab 64 zz).toArray), (20, .int .i64 (k : Int))] ∧ M = ⟨g3, 27, tab 64 zz, 64⟩ :: H) 64 ?_ ?_
  · exact ⟨0, by omega, ⟨rfl, rfl, rfl, rfl, trivial⟩, rfl⟩
  rintro y fr M ⟨k, hy, hf, rfl⟩
  obtain ⟨base, rfl⟩ := hf.out
  clear hf
  by_cases hlt : k < 64
  · have hol := often_le a k
    by_cases h3 : zz k = a
    · have ho : often a (k + 1) = often a k + 1 := by simp [often, h3]
      repeat (first | refine go_ ?_ | refine bx_ (fun _ => ?_))
      exact ⟨y - 1, by omega, k + 1, by omega, ⟨rfl, by rw [ho]; rfl, rfl, rfl, trivial⟩, rfl⟩
    · have ho : often a (k + 1) = often a k := by simp [often, h3]
      repeat (first | refine go_ ?_ | refine bx_ (fun _ => ?_))
      exact ⟨y - 1, by omega, k + 1, by omega, ⟨rfl, by rw [ho]; rfl, rfl, rfl, trivial⟩, rfl⟩
  · obtain rfl : k = 64 := by omega
    have ho := once ⟨a.toNat, by omega⟩
    rw [show ((a.toNat : Nat) : Int) = a by omega] at ho
    rw [ho]
    repeat (first | refine go_ ?_ | refine bx_ (fun _ => ?_))
    exact fin1B rfl rfl rfl
end
theorem walk (a : Int) (w : World) (_ : -9223372036854775808 ≤ a ∧ a ≤ 9223372036854775807) :
    Calls Try.prog 9 #[.int .i64 a] w fun e w' => e = .returned (.bool true) ∧ Below w.heap.size w w' :=
  calls_of_fn (law a) fun _ _ h => h

/-! The step to the statement (written by program). -/
open Go.ChangeShapes Go.WideShapes Go.ChangeAt
set_option maxRecDepth 100000 in
theorem lifted (os : Os) (started : os.Started) (H : Type) (enc : TypeId × Value → H) :
    ReturnsInHanded {} Try.checked os 9 .any (Rows.dctZigzagSpec.pre6 enc Try.prog Try.f9 Rows.dctZigzagRow.domain false) (Rows.dctZigzagSpec.post enc Try.prog Try.f9 false true false false) := by
  refine returnsInHanded_of_change (C := Try.checked) own started (by kernel_rfl) Try.func9
    (ChangeSpec.witness6 (enc := enc) (C := Try.checked) false ⟨#[], #[.int .i64 0], []⟩ 8 (by kernel_rfl) (by kernel_rfl) (by kernel_rfl) (by kernel_rfl)) ?_
  intro W base args ds gs before hval0 hW hcnd _
  have hval : ∀ (j : Nat) t v, Try.f9.params[j]? = some t → args[j]? = some v → Value.okWide Try.prog W .any base t v := hval0
  have hW' := hW
  obtain ⟨p, q, hA0, hV, rfl, hfz, hnd⟩ := hW
  have hA : DataW.TrodAll enc Try.prog W 0 (fun _ => true) true Try.f9.params.toList args.toList ds p := hA0
  rw [Try.params9] at hA hval
  obtain ⟨v0, vs0, d0, ds0, p0, q0, hargs, rfl, rfl, h0, r0⟩ := trodAll_cons hA
  obtain ⟨rfl, rfl, rfl⟩ := trodAll_nil r0
  obtain rfl : args = #[v0] := by cases args; simp_all
  obtain ⟨rfl, rfl⟩ := trodVars_none hV
  have k0 := h0
  have lt0 : ∀ x ∈ p0, x.block < W.heap.size := by obtain ⟨m, hm⟩ := k0; exact DataW.trod_lt m _ _ _ hm
  obtain ⟨a0, rfl, _, _, w0⟩ := open_int Try.underlying3 (hval 0 3 v0 rfl rfl) h0
  have w0 := wf_i64 w0
  clear hA0 hval0
  refine (walk a0 W w0).mono fun e W' ⟨he, bel⟩ => ?_
  subst he
  exact ⟨_, rfl, _, _, _, [], _, [], hW', trodAll_mk1 (shut_bool Try.underlying4 _), (trodAll_cons_mk (Below.trod laidOut (by kernel_rfl) (of_decide_eq_true (by kernel_rfl)) k0 bel lt0) trodAll_mk0), rfl, bel.frame _, fun h => by cases h⟩

theorem over : Rows.dctZigzagRow.holds Try.pinned (OpenSpec.ofChange Rows.dctZigzagSpec) :=
  OpenClaim.holds_of_wide 9 Try.f9 rfl rfl rfl rfl rfl rfl rfl ⟨rfl, rfl, rfl, rfl, rfl⟩ rfl rfl rfl rfl rfl (by kernel_rfl) Try.func9 (by kernel_rfl)
    (of_decide_eq_true (by kernel_rfl)) (by unfold Func.isWrapper; first | (rw [if_pos (by decide +kernel)]; kernel_rfl) | (rw [if_neg (by decide +kernel)]; exact ⟨rfl, rfl⟩))
    (fun os started H enc _ => lifted os started H enc)

/-- The statement. -/
theorem proved : Rows.DctZigzagSaid := over
#print axioms proved
end Go.Proofs.Ytkolkcgckckeeaa.dctZigzag
