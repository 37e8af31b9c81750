/-
  The statement DctSums holds, whatever the two blocks.
-/
import Derived.Test.YtkolkcgckckeeaaD5
import Derived.Test.YtkolkcgckckeeaaOpenArr
namespace Go.Proofs.Ytkolkcgckckeeaa.dctSums
open Go.RowKit

theorem half_sum (c : Nat → Nat → Int) (a b s : Nat → Int) (h : ∀ i, i < 64 → s i = a i + b i) (i : Nat) (hi : i < 64) : half c s i 8 = half c a i 8 + half c b i 8 := by
  unfold half
  rw [← sumZ_add]
  exact sumZ_congr 8 fun x hx => by rw [h _ (by omega), Int.add_mul]
theorem full_sum (c d : Nat → Nat → Int) (a b s : Nat → Int) (h : ∀ i, i < 64 → s i = a i + b i) (i : Nat) (hi : i < 64) : full c d s i 8 = full c d a i 8 + full c d b i 8 := by
  unfold full
  rw [← sumZ_add]
  exact sumZ_congr 8 fun x hx => by rw [half_sum c a b s h _ (by omega), Int.add_mul]
theorem fwd_near (a b s : Nat → Int) (h : ∀ i, i < 64 → s i = a i + b i) (i : Nat) (hi : i < 64) : -1 ≤ fwd s i - fwd a i - fwd b i ∧ fwd s i - fwd a i - fwd b i ≤ 1 := by
  unfold fwd near26
  rw [full_sum _ _ a b s h i hi]
  omega
theorem zero64 : (List.replicate 64 (Value.int .i64 0)) = tab 64 (fun _ => 0) := (tab_zero 64).symm
theorem fwd_zero (i : Nat) (_hi : i < 64) : fwd (fun _ => 0) i = 0 := by
  have h1 : full cF cG (fun _ => 0) i 8 = 0 := by
    unfold full half
    simp only [Int.zero_mul, sumZ_zero]
  unfold fwd near26; rw [h1]; rfl
theorem bck_zero (i : Nat) (_hi : i < 64) : bck (fun _ => 0) i = 0 := by
  have h1 : full dF dG (fun _ => 0) i 8 = 0 := by
    unfold full half
    simp only [Int.zero_mul, sumZ_zero]
  unfold bck near26; rw [h1]; rfl
theorem dsel2_set (a b : Nat → Int) (k : Nat) : (tab 64 (dsel (fun i => a i + b i) k)).set k (.int .i64 (a k + b k)) = tab 64 (dsel (fun i => a i + b i) (k + 1)) := dsel_set (fun i => a i + b i) 64 k

set_option maxHeartbeats 8000000 in
set_option maxRecDepth 100000 in
theorem law {w0 : World} {B : Nat} {H : List Ent} (a b : Nat → Int) : Fn Try.prog w0 B 6 [.agg (tab 64 a).toArray, .agg (tab 64 b).toArray] H (fun u _ => u = .bool true) := by
  refine fn_intro Try.func6 rfl (by kernel_rfl) rfl ?_
  repeat (first | refine go_ ?_ | refine bx_ (fun _ => ?_) | refine hl_callv rfl rfl (anchor_fn) ?_)
  refine hl_call rfl rfl (within_fn a 262144 (by omega)) (fun v M hv => ?_)
  obtain ⟨⟨rfl, ha⟩ | ⟨rfl, _⟩, rfl⟩ := hv
  rotate_left
  · repeat (first | refine go_ ?_ | refine bx_ (fun _ => ?_))
    exact fin1B rfl rfl rfl
  repeat (first | refine go_ ?_ | refine bx_ (fun _ => ?_))
  refine hl_call rfl rfl (within_fn b 262144 (by omega)) (fun v M hv => ?_)
  obtain ⟨⟨rfl, hb⟩ | ⟨rfl, _⟩, rfl⟩ := hv
  rotate_left
  · repeat (first | refine go_ ?_ | refine bx_ (fun _ => ?_))
    exact fin1B rfl rfl rfl
  have ha1 : Small a := fun i hi => by have := ha i hi; omega
  have hb1 : Small b := fun i hi => by have := hb i hi; omega
  have hs1 : Small (fun i => a i + b i) := fun i hi => by have := ha i hi; have := hb i hi; dsimp only; omega
  repeat (first | refine go_ ?_ | refine bx_ (fun _ => ?_))
  rename_i ga gb gs
  refine hc_loop (fun z fr M => ∃ k, k + z = 64 ∧ Agr fr [(2, .pointer (some ⟨ga, 0, none⟩)), (3, .pointer (some ⟨gb, 0, none⟩)), (5, .pointer (some ⟨gs, 0, none⟩)), (22, .int .i64 (k : Int))] ∧ M = ⟨gs, 27, tab 64 (dsel (fun i => a i + b i) k), 64⟩ :: ⟨gb, 27, tab 64 b, 64⟩ :: ⟨ga, 27, tab 64 a, 64⟩ :: H) 64 ?_ ?_
  · exact ⟨0, by omega, ⟨rfl, rfl, rfl, rfl, trivial⟩, rfl⟩
  rintro z fr M ⟨k, hk, hf, rfl⟩
  obtain ⟨base, rfl⟩ := hf.out
  clear hf
  by_cases hlt : k < 64
  · have hset := dsel2_set a b k
    have := ha k hlt
    have := hb k hlt
    repeat (first | refine go_ ?_ | refine bx_ (fun _ => ?_))
    refine hc_drawS (by kernel_rfl) (by kernel_rfl) ?_
    repeat (first | refine gd_ ?_)
    repeat (first | rw [hset] | refine go1_ ?_ | refine bx_ (fun _ => ?_))
    exact ⟨z - 1, by omega, k + 1, by omega, ⟨rfl, rfl, rfl, rfl, trivial⟩, rfl⟩
  obtain rfl : k = 64 := by omega
  rw [dsel_end]
  clear hlt hk
  obtain ⟨s, hs⟩ : ∃ s, s = fun i => a i + b i := ⟨_, rfl⟩
  rw [← hs] at hs1 ⊢
  repeat (first | refine go_ ?_ | refine bx_ (fun _ => ?_))
  refine hc_via (fun fr M => ∃ g7 g8 g9, Agr fr [(7, .pointer (some ⟨g7, 0, none⟩)), (8, .pointer (some ⟨g8, 0, none⟩)), (9, .pointer (some ⟨g9, 0, none⟩))] ∧
    M.Perm (⟨g9, 27, tab 64 (fwd s), 64⟩ :: ⟨g8, 27, tab 64 (fwd b), 64⟩ :: ⟨g7, 27, tab 64 (fwd a), 64⟩ :: ⟨gs, 27, tab 64 s, 64⟩ :: ⟨gb, 27, tab 64 b, 64⟩ :: ⟨ga, 27, tab 64 a, 64⟩ :: H)) ?_ ?_
  · refine hc_drawA (⟨gs, 27, tab 64 s, 64⟩ :: ⟨gb, 27, tab 64 b, 64⟩ :: ⟨ga, 27, tab 64 a, 64⟩ :: H) (by kernel_rfl) ?_
    refine ha_quiet [0, 1, 2, 3, 4, 5] (by rfl) (by kernel_rfl) ?_
    repeat (first | refine gd_ ?_ | refine hq_call rfl rfl (fun H _ => forward_fn a ha1) ?_ | refine hq_call rfl rfl (fun H _ => forward_fn b hb1) ?_ | refine hq_call rfl rfl (fun H _ => forward_fn s hs1) ?_)
    refine ha_fork3 6 7 8 (by rfl) (by kernel_rfl) (by rfl) (by rfl) (by rfl) (by first | exact Imp.refl _ | exact Imp.drop (Imp.refl _) | exact Imp.drop (Imp.drop (Imp.refl _)) | exact Imp.drop (Imp.drop (Imp.drop (Imp.refl _))) | exact Imp.drop (Imp.drop (Imp.drop (Imp.drop (Imp.refl _)))) | exact Imp.drop (Imp.drop (Imp.drop (Imp.drop (Imp.drop (Imp.refl _))))) | exact Imp.drop (Imp.drop (Imp.drop (Imp.drop (Imp.drop (Imp.drop (Imp.refl _)))))) | exact Imp.drop (Imp.drop (Imp.drop (Imp.drop (Imp.drop (Imp.drop (Imp.drop (Imp.refl _))))))) | exact Imp.drop (Imp.drop (Imp.drop (Imp.drop (Imp.drop (Imp.drop (Imp.drop (Imp.drop (Imp.refl _))))))))) ?_ ?_ ?_
    · skip
      repeat (first | refine op_ ?_ | refine bx_ (fun _ => ?_))
      refine ha_fork2 7 8 (by rfl) (by kernel_rfl) (by rfl) (by rfl) (by first | exact Imp.refl _ | exact Imp.drop (Imp.refl _) | exact Imp.drop (Imp.drop (Imp.refl _)) | exact Imp.drop (Imp.drop (Imp.drop (Imp.refl _))) | exact Imp.drop (Imp.drop (Imp.drop (Imp.drop (Imp.refl _)))) | exact Imp.drop (Imp.drop (Imp.drop (Imp.drop (Imp.drop (Imp.refl _))))) | exact Imp.drop (Imp.drop (Imp.drop (Imp.drop (Imp.drop (Imp.drop (Imp.refl _)))))) | exact Imp.drop (Imp.drop (Imp.drop (Imp.drop (Imp.drop (Imp.drop (Imp.drop (Imp.refl _))))))) | exact Imp.drop (Imp.drop (Imp.drop (Imp.drop (Imp.drop (Imp.drop (Imp.drop (Imp.drop (Imp.refl _))))))))) ?_ ?_
      · skip
        repeat (first | refine op_ ?_ | refine bx_ (fun _ => ?_))
        refine ha_fork1 8 (by rfl) (by kernel_rfl) (by rfl) (by first | exact Imp.refl _ | exact Imp.drop (Imp.refl _) | exact Imp.drop (Imp.drop (Imp.refl _)) | exact Imp.drop (Imp.drop (Imp.drop (Imp.refl _))) | exact Imp.drop (Imp.drop (Imp.drop (Imp.drop (Imp.refl _)))) | exact Imp.drop (Imp.drop (Imp.drop (Imp.drop (Imp.drop (Imp.refl _))))) | exact Imp.drop (Imp.drop (Imp.drop (Imp.drop (Imp.drop (Imp.drop (Imp.refl _)))))) | exact Imp.drop (Imp.drop (Imp.drop (Imp.drop (Imp.drop (Imp.drop (Imp.drop (Imp.refl _))))))) | exact Imp.drop (Imp.drop (Imp.drop (Imp.drop (Imp.drop (Imp.drop (Imp.drop (Imp.drop (Imp.refl _))))))))) ?_
        · skip
          repeat (first | refine op_ ?_ | refine bx_ (fun _ => ?_))
          refine ha_fork1 9 (by rfl) (by kernel_rfl) (by rfl) (by first | exact Imp.refl _ | exact Imp.drop (Imp.refl _) | exact Imp.drop (Imp.drop (Imp.refl _)) | exact Imp.drop (Imp.drop (Imp.drop (Imp.refl _))) | exact Imp.drop (Imp.drop (Imp.drop (Imp.drop (Imp.refl _)))) | exact Imp.drop (Imp.drop (Imp.drop (Imp.drop (Imp.drop (Imp.refl _))))) | exact Imp.drop (Imp.drop (Imp.drop (Imp.drop (Imp.drop (Imp.drop (Imp.refl _)))))) | exact Imp.drop (Imp.drop (Imp.drop (Imp.drop (Imp.drop (Imp.drop (Imp.drop (Imp.refl _))))))) | exact Imp.drop (Imp.drop (Imp.drop (Imp.drop (Imp.drop (Imp.drop (Imp.drop (Imp.drop (Imp.refl _))))))))) ?_
          · skip
            repeat (first | refine op_ ?_ | refine bx_ (fun _ => ?_))
            refine ha_fork1 10 (by rfl) (by kernel_rfl) (by rfl) (by first | exact Imp.refl _ | exact Imp.drop (Imp.refl _) | exact Imp.drop (Imp.drop (Imp.refl _)) | exact Imp.drop (Imp.drop (Imp.drop (Imp.refl _))) | exact Imp.drop (Imp.drop (Imp.drop (Imp.drop (Imp.refl _)))) | exact Imp.drop (Imp.drop (Imp.drop (Imp.drop (Imp.drop (Imp.refl _))))) | exact Imp.drop (Imp.drop (Imp.drop (Imp.drop (Imp.drop (Imp.drop (Imp.refl _)))))) | exact Imp.drop (Imp.drop (Imp.drop (Imp.drop (Imp.drop (Imp.drop (Imp.drop (Imp.refl _))))))) | exact Imp.drop (Imp.drop (Imp.drop (Imp.drop (Imp.drop (Imp.drop (Imp.drop (Imp.drop (Imp.refl _))))))))) ?_
            · skip
              repeat (first | refine op_ ?_ | refine bx_ (fun _ => ?_))
              refine ha_fork1 11 (by rfl) (by kernel_rfl) (by rfl) (by first | exact Imp.refl _ | exact Imp.drop (Imp.refl _) | exact Imp.drop (Imp.drop (Imp.refl _)) | exact Imp.drop (Imp.drop (Imp.drop (Imp.refl _))) | exact Imp.drop (Imp.drop (Imp.drop (Imp.drop (Imp.refl _)))) | exact Imp.drop (Imp.drop (Imp.drop (Imp.drop (Imp.drop (Imp.refl _))))) | exact Imp.drop (Imp.drop (Imp.drop (Imp.drop (Imp.drop (Imp.drop (Imp.refl _)))))) | exact Imp.drop (Imp.drop (Imp.drop (Imp.drop (Imp.drop (Imp.drop (Imp.drop (Imp.refl _))))))) | exact Imp.drop (Imp.drop (Imp.drop (Imp.drop (Imp.drop (Imp.drop (Imp.drop (Imp.drop (Imp.refl _))))))))) ?_
              · skip
                repeat (first | refine op_ ?_ | refine bx_ (fun _ => ?_))
                refine ha_end (by rfl) (by kernel_rfl) (by first | exact Imp.refl _ | exact Imp.drop (Imp.refl _) | exact Imp.drop (Imp.drop (Imp.refl _)) | exact Imp.drop (Imp.drop (Imp.drop (Imp.refl _))) | exact Imp.drop (Imp.drop (Imp.drop (Imp.drop (Imp.refl _)))) | exact Imp.drop (Imp.drop (Imp.drop (Imp.drop (Imp.drop (Imp.refl _))))) | exact Imp.drop (Imp.drop (Imp.drop (Imp.drop (Imp.drop (Imp.drop (Imp.refl _)))))) | exact Imp.drop (Imp.drop (Imp.drop (Imp.drop (Imp.drop (Imp.drop (Imp.drop (Imp.refl _))))))) | exact Imp.drop (Imp.drop (Imp.drop (Imp.drop (Imp.drop (Imp.drop (Imp.drop (Imp.drop (Imp.refl _))))))))) ?_
                exact ⟨_, _, _, ⟨rfl, rfl, rfl, trivial⟩, List.Perm.refl _⟩
      · skip
        repeat (first | refine op_ ?_ | refine bx_ (fun _ => ?_))
        refine ha_fork1 7 (by rfl) (by kernel_rfl) (by rfl) (by first | exact Imp.refl _ | exact Imp.drop (Imp.refl _) | exact Imp.drop (Imp.drop (Imp.refl _)) | exact Imp.drop (Imp.drop (Imp.drop (Imp.refl _))) | exact Imp.drop (Imp.drop (Imp.drop (Imp.drop (Imp.refl _)))) | exact Imp.drop (Imp.drop (Imp.drop (Imp.drop (Imp.drop (Imp.refl _))))) | exact Imp.drop (Imp.drop (Imp.drop (Imp.drop (Imp.drop (Imp.drop (Imp.refl _)))))) | exact Imp.drop (Imp.drop (Imp.drop (Imp.drop (Imp.drop (Imp.drop (Imp.drop (Imp.refl _))))))) | exact Imp.drop (Imp.drop (Imp.drop (Imp.drop (Imp.drop (Imp.drop (Imp.drop (Imp.drop (Imp.refl _))))))))) ?_
        · skip
          repeat (first | refine op_ ?_ | refine bx_ (fun _ => ?_))
          refine ha_fork1 9 (by rfl) (by kernel_rfl) (by rfl) (by first | exact Imp.refl _ | exact Imp.drop (Imp.refl _) | exact Imp.drop (Imp.drop (Imp.refl _)) | exact Imp.drop (Imp.drop (Imp.drop (Imp.refl _))) | exact Imp.drop (Imp.drop (Imp.drop (Imp.drop (Imp.refl _)))) | exact Imp.drop (Imp.drop (Imp.drop (Imp.drop (Imp.drop (Imp.refl _))))) | exact Imp.drop (Imp.drop (Imp.drop (Imp.drop (Imp.drop (Imp.drop (Imp.refl _)))))) | exact Imp.drop (Imp.drop (Imp.drop (Imp.drop (Imp.drop (Imp.drop (Imp.drop (Imp.refl _))))))) | exact Imp.drop (Imp.drop (Imp.drop (Imp.drop (Imp.drop (Imp.drop (Imp.drop (Imp.drop (Imp.refl _))))))))) ?_
          · skip
            repeat (first | refine op_ ?_ | refine bx_ (fun _ => ?_))
            refine ha_fork1 10 (by rfl) (by kernel_rfl) (by rfl) (by first | exact Imp.refl _ | exact Imp.drop (Imp.refl _) | exact Imp.drop (Imp.drop (Imp.refl _)) | exact Imp.drop (Imp.drop (Imp.drop (Imp.refl _))) | exact Imp.drop (Imp.drop (Imp.drop (Imp.drop (Imp.refl _)))) | exact Imp.drop (Imp.drop (Imp.drop (Imp.drop (Imp.drop (Imp.refl _))))) | exact Imp.drop (Imp.drop (Imp.drop (Imp.drop (Imp.drop (Imp.drop (Imp.refl _)))))) | exact Imp.drop (Imp.drop (Imp.drop (Imp.drop (Imp.drop (Imp.drop (Imp.drop (Imp.refl _))))))) | exact Imp.drop (Imp.drop (Imp.drop (Imp.drop (Imp.drop (Imp.drop (Imp.drop (Imp.drop (Imp.refl _))))))))) ?_
            · skip
              repeat (first | refine op_ ?_ | refine bx_ (fun _ => ?_))
              refine ha_fork1 11 (by rfl) (by kernel_rfl) (by rfl) (by first | exact Imp.refl _ | exact Imp.drop (Imp.refl _) | exact Imp.drop (Imp.drop (Imp.refl _)) | exact Imp.drop (Imp.drop (Imp.drop (Imp.refl _))) | exact Imp.drop (Imp.drop (Imp.drop (Imp.drop (Imp.refl _)))) | exact Imp.drop (Imp.drop (Imp.drop (Imp.drop (Imp.drop (Imp.refl _))))) | exact Imp.drop (Imp.drop (Imp.drop (Imp.drop (Imp.drop (Imp.drop (Imp.refl _)))))) | exact Imp.drop (Imp.drop (Imp.drop (Imp.drop (Imp.drop (Imp.drop (Imp.drop (Imp.refl _))))))) | exact Imp.drop (Imp.drop (Imp.drop (Imp.drop (Imp.drop (Imp.drop (Imp.drop (Imp.drop (Imp.refl _))))))))) ?_
              · skip
                repeat (first | refine op_ ?_ | refine bx_ (fun _ => ?_))
                refine ha_end (by rfl) (by kernel_rfl) (by first | exact Imp.refl _ | exact Imp.drop (Imp.refl _) | exact Imp.drop (Imp.drop (Imp.refl _)) | exact Imp.drop (Imp.drop (Imp.drop (Imp.refl _))) | exact Imp.drop (Imp.drop (Imp.drop (Imp.drop (Imp.refl _)))) | exact Imp.drop (Imp.drop (Imp.drop (Imp.drop (Imp.drop (Imp.refl _))))) | exact Imp.drop (Imp.drop (Imp.drop (Imp.drop (Imp.drop (Imp.drop (Imp.refl _)))))) | exact Imp.drop (Imp.drop (Imp.drop (Imp.drop (Imp.drop (Imp.drop (Imp.drop (Imp.refl _))))))) | exact Imp.drop (Imp.drop (Imp.drop (Imp.drop (Imp.drop (Imp.drop (Imp.drop (Imp.drop (Imp.refl _))))))))) ?_
                exact ⟨_, _, _, ⟨rfl, rfl, rfl, trivial⟩, List.Perm.refl _⟩
    · skip
      repeat (first | refine op_ ?_ | refine bx_ (fun _ => ?_))
      refine ha_fork2 6 8 (by rfl) (by kernel_rfl) (by rfl) (by rfl) (by first | exact Imp.refl _ | exact Imp.drop (Imp.refl _) | exact Imp.drop (Imp.drop (Imp.refl _)) | exact Imp.drop (Imp.drop (Imp.drop (Imp.refl _))) | exact Imp.drop (Imp.drop (Imp.drop (Imp.drop (Imp.refl _)))) | exact Imp.drop (Imp.drop (Imp.drop (Imp.drop (Imp.drop (Imp.refl _))))) | exact Imp.drop (Imp.drop (Imp.drop (Imp.drop (Imp.drop (Imp.drop (Imp.refl _)))))) | exact Imp.drop (Imp.drop (Imp.drop (Imp.drop (Imp.drop (Imp.drop (Imp.drop (Imp.refl _))))))) | exact Imp.drop (Imp.drop (Imp.drop (Imp.drop (Imp.drop (Imp.drop (Imp.drop (Imp.drop (Imp.refl _))))))))) ?_ ?_
      · skip
        repeat (first | refine op_ ?_ | refine bx_ (fun _ => ?_))
        refine ha_fork1 8 (by rfl) (by kernel_rfl) (by rfl) (by first | exact Imp.refl _ | exact Imp.drop (Imp.refl _) | exact Imp.drop (Imp.drop (Imp.refl _)) | exact Imp.drop (Imp.drop (Imp.drop (Imp.refl _))) | exact Imp.drop (Imp.drop (Imp.drop (Imp.drop (Imp.refl _)))) | exact Imp.drop (Imp.drop (Imp.drop (Imp.drop (Imp.drop (Imp.refl _))))) | exact Imp.drop (Imp.drop (Imp.drop (Imp.drop (Imp.drop (Imp.drop (Imp.refl _)))))) | exact Imp.drop (Imp.drop (Imp.drop (Imp.drop (Imp.drop (Imp.drop (Imp.drop (Imp.refl _))))))) | exact Imp.drop (Imp.drop (Imp.drop (Imp.drop (Imp.drop (Imp.drop (Imp.drop (Imp.drop (Imp.refl _))))))))) ?_
        · skip
          repeat (first | refine op_ ?_ | refine bx_ (fun _ => ?_))
          refine ha_fork1 9 (by rfl) (by kernel_rfl) (by rfl) (by first | exact Imp.refl _ | exact Imp.drop (Imp.refl _) | exact Imp.drop (Imp.drop (Imp.refl _)) | exact Imp.drop (Imp.drop (Imp.drop (Imp.refl _))) | exact Imp.drop (Imp.drop (Imp.drop (Imp.drop (Imp.refl _)))) | exact Imp.drop (Imp.drop (Imp.drop (Imp.drop (Imp.drop (Imp.refl _))))) | exact Imp.drop (Imp.drop (Imp.drop (Imp.drop (Imp.drop (Imp.drop (Imp.refl _)))))) | exact Imp.drop (Imp.drop (Imp.drop (Imp.drop (Imp.drop (Imp.drop (Imp.drop (Imp.refl _))))))) | exact Imp.drop (Imp.drop (Imp.drop (Imp.drop (Imp.drop (Imp.drop (Imp.drop (Imp.drop (Imp.refl _))))))))) ?_
          · skip
            repeat (first | refine op_ ?_ | refine bx_ (fun _ => ?_))
            refine ha_fork1 10 (by rfl) (by kernel_rfl) (by rfl) (by first | exact Imp.refl _ | exact Imp.drop (Imp.refl _) | exact Imp.drop (Imp.drop (Imp.refl _)) | exact Imp.drop (Imp.drop (Imp.drop (Imp.refl _))) | exact Imp.drop (Imp.drop (Imp.drop (Imp.drop (Imp.refl _)))) | exact Imp.drop (Imp.drop (Imp.drop (Imp.drop (Imp.drop (Imp.refl _))))) | exact Imp.drop (Imp.drop (Imp.drop (Imp.drop (Imp.drop (Imp.drop (Imp.refl _)))))) | exact Imp.drop (Imp.drop (Imp.drop (Imp.drop (Imp.drop (Imp.drop (Imp.drop (Imp.refl _))))))) | exact Imp.drop (Imp.drop (Imp.drop (Imp.drop (Imp.drop (Imp.drop (Imp.drop (Imp.drop (Imp.refl _))))))))) ?_
            · skip
              repeat (first | refine op_ ?_ | refine bx_ (fun _ => ?_))
              refine ha_fork1 11 (by rfl) (by kernel_rfl) (by rfl) (by first | exact Imp.refl _ | exact Imp.drop (Imp.refl _) | exact Imp.drop (Imp.drop (Imp.refl _)) | exact Imp.drop (Imp.drop (Imp.drop (Imp.refl _))) | exact Imp.drop (Imp.drop (Imp.drop (Imp.drop (Imp.refl _)))) | exact Imp.drop (Imp.drop (Imp.drop (Imp.drop (Imp.drop (Imp.refl _))))) | exact Imp.drop (Imp.drop (Imp.drop (Imp.drop (Imp.drop (Imp.drop (Imp.refl _)))))) | exact Imp.drop (Imp.drop (Imp.drop (Imp.drop (Imp.drop (Imp.drop (Imp.drop (Imp.refl _))))))) | exact Imp.drop (Imp.drop (Imp.drop (Imp.drop (Imp.drop (Imp.drop (Imp.drop (Imp.drop (Imp.refl _))))))))) ?_
              · skip
                repeat (first | refine op_ ?_ | refine bx_ (fun _ => ?_))
                refine ha_end (by rfl) (by kernel_rfl) (by first | exact Imp.refl _ | exact Imp.drop (Imp.refl _) | exact Imp.drop (Imp.drop (Imp.refl _)) | exact Imp.drop (Imp.drop (Imp.drop (Imp.refl _))) | exact Imp.drop (Imp.drop (Imp.drop (Imp.drop (Imp.refl _)))) | exact Imp.drop (Imp.drop (Imp.drop (Imp.drop (Imp.drop (Imp.refl _))))) | exact Imp.drop (Imp.drop (Imp.drop (Imp.drop (Imp.drop (Imp.drop (Imp.refl _)))))) | exact Imp.drop (Imp.drop (Imp.drop (Imp.drop (Imp.drop (Imp.drop (Imp.drop (Imp.refl _))))))) | exact Imp.drop (Imp.drop (Imp.drop (Imp.drop (Imp.drop (Imp.drop (Imp.drop (Imp.drop (Imp.refl _))))))))) ?_
                exact ⟨_, _, _, ⟨rfl, rfl, rfl, trivial⟩, List.Perm.refl _⟩
      · skip
        repeat (first | refine op_ ?_ | refine bx_ (fun _ => ?_))
        refine ha_fork1 6 (by rfl) (by kernel_rfl) (by rfl) (by first | exact Imp.refl _ | exact Imp.drop (Imp.refl _) | exact Imp.drop (Imp.drop (Imp.refl _)) | exact Imp.drop (Imp.drop (Imp.drop (Imp.refl _))) | exact Imp.drop (Imp.drop (Imp.drop (Imp.drop (Imp.refl _)))) | exact Imp.drop (Imp.drop (Imp.drop (Imp.drop (Imp.drop (Imp.refl _))))) | exact Imp.drop (Imp.drop (Imp.drop (Imp.drop (Imp.drop (Imp.drop (Imp.refl _)))))) | exact Imp.drop (Imp.drop (Imp.drop (Imp.drop (Imp.drop (Imp.drop (Imp.drop (Imp.refl _))))))) | exact Imp.drop (Imp.drop (Imp.drop (Imp.drop (Imp.drop (Imp.drop (Imp.drop (Imp.drop (Imp.refl _))))))))) ?_
        · skip
          repeat (first | refine op_ ?_ | refine bx_ (fun _ => ?_))
          refine ha_fork1 9 (by rfl) (by kernel_rfl) (by rfl) (by first | exact Imp.refl _ | exact Imp.drop (Imp.refl _) | exact Imp.drop (Imp.drop (Imp.refl _)) | exact Imp.drop (Imp.drop (Imp.drop (Imp.refl _))) | exact Imp.drop (Imp.drop (Imp.drop (Imp.drop (Imp.refl _)))) | exact Imp.drop (Imp.drop (Imp.drop (Imp.drop (Imp.drop (Imp.refl _))))) | exact Imp.drop (Imp.drop (Imp.drop (Imp.drop (Imp.drop (Imp.drop (Imp.refl _)))))) | exact Imp.drop (Imp.drop (Imp.drop (Imp.drop (Imp.drop (Imp.drop (Imp.drop (Imp.refl _))))))) | exact Imp.drop (Imp.drop (Imp.drop (Imp.drop (Imp.drop (Imp.drop (Imp.drop (Imp.drop (Imp.refl _))))))))) ?_
          · skip
            repeat (first | refine op_ ?_ | refine bx_ (fun _ => ?_))
            refine ha_fork1 10 (by rfl) (by kernel_rfl) (by rfl) (by first | exact Imp.refl _ | exact Imp.drop (Imp.refl _) | exact Imp.drop (Imp.drop (Imp.refl _)) | exact Imp.drop (Imp.drop (Imp.drop (Imp.refl _))) | exact Imp.drop (Imp.drop (Imp.drop (Imp.drop (Imp.refl _)))) | exact Imp.drop (Imp.drop (Imp.drop (Imp.drop (Imp.drop (Imp.refl _))))) | exact Imp.drop (Imp.drop (Imp.drop (Imp.drop (Imp.drop (Imp.drop (Imp.refl _)))))) | exact Imp.drop (Imp.drop (Imp.drop (Imp.drop (Imp.drop (Imp.drop (Imp.drop (Imp.refl _))))))) | exact Imp.drop (Imp.drop (Imp.drop (Imp.drop (Imp.drop (Imp.drop (Imp.drop (Imp.drop (Imp.refl _))))))))) ?_
            · skip
              repeat (first | refine op_ ?_ | refine bx_ (fun _ => ?_))
              refine ha_fork1 11 (by rfl) (by kernel_rfl) (by rfl) (by first | exact Imp.refl _ | exact Imp.drop (Imp.refl _) | exact Imp.drop (Imp.drop (Imp.refl _)) | exact Imp.drop (Imp.drop (Imp.drop (Imp.refl _))) | exact Imp.drop (Imp.drop (Imp.drop (Imp.drop (Imp.refl _)))) | exact Imp.drop (Imp.drop (Imp.drop (Imp.drop (Imp.drop (Imp.refl _))))) | exact Imp.drop (Imp.drop (Imp.drop (Imp.drop (Imp.drop (Imp.drop (Imp.refl _)))))) | exact Imp.drop (Imp.drop (Imp.drop (Imp.drop (Imp.drop (Imp.drop (Imp.drop (Imp.refl _))))))) | exact Imp.drop (Imp.drop (Imp.drop (Imp.drop (Imp.drop (Imp.drop (Imp.drop (Imp.drop (Imp.refl _))))))))) ?_
              · skip
                repeat (first | refine op_ ?_ | refine bx_ (fun _ => ?_))
                refine ha_end (by rfl) (by kernel_rfl) (by first | exact Imp.refl _ | exact Imp.drop (Imp.refl _) | exact Imp.drop (Imp.drop (Imp.refl _)) | exact Imp.drop (Imp.drop (Imp.drop (Imp.refl _))) | exact Imp.drop (Imp.drop (Imp.drop (Imp.drop (Imp.refl _)))) | exact Imp.drop (Imp.drop (Imp.drop (Imp.drop (Imp.drop (Imp.refl _))))) | exact Imp.drop (Imp.drop (Imp.drop (Imp.drop (Imp.drop (Imp.drop (Imp.refl _)))))) | exact Imp.drop (Imp.drop (Imp.drop (Imp.drop (Imp.drop (Imp.drop (Imp.drop (Imp.refl _))))))) | exact Imp.drop (Imp.drop (Imp.drop (Imp.drop (Imp.drop (Imp.drop (Imp.drop (Imp.drop (Imp.refl _))))))))) ?_
                exact ⟨_, _, _, ⟨rfl, rfl, rfl, trivial⟩, List.Perm.refl _⟩
    · skip
      repeat (first | refine op_ ?_ | refine bx_ (fun _ => ?_))
      refine ha_fork2 6 7 (by rfl) (by kernel_rfl) (by rfl) (by rfl) (by first | exact Imp.refl _ | exact Imp.drop (Imp.refl _) | exact Imp.drop (Imp.drop (Imp.refl _)) | exact Imp.drop (Imp.drop (Imp.drop (Imp.refl _))) | exact Imp.drop (Imp.drop (Imp.drop (Imp.drop (Imp.refl _)))) | exact Imp.drop (Imp.drop (Imp.drop (Imp.drop (Imp.drop (Imp.refl _))))) | exact Imp.drop (Imp.drop (Imp.drop (Imp.drop (Imp.drop (Imp.drop (Imp.refl _)))))) | exact Imp.drop (Imp.drop (Imp.drop (Imp.drop (Imp.drop (Imp.drop (Imp.drop (Imp.refl _))))))) | exact Imp.drop (Imp.drop (Imp.drop (Imp.drop (Imp.drop (Imp.drop (Imp.drop (Imp.drop (Imp.refl _))))))))) ?_ ?_
      · skip
        repeat (first | refine op_ ?_ | refine bx_ (fun _ => ?_))
        refine ha_fork1 7 (by rfl) (by kernel_rfl) (by rfl) (by first | exact Imp.refl _ | exact Imp.drop (Imp.refl _) | exact Imp.drop (Imp.drop (Imp.refl _)) | exact Imp.drop (Imp.drop (Imp.drop (Imp.refl _))) | exact Imp.drop (Imp.drop (Imp.drop (Imp.drop (Imp.refl _)))) | exact Imp.drop (Imp.drop (Imp.drop (Imp.drop (Imp.drop (Imp.refl _))))) | exact Imp.drop (Imp.drop (Imp.drop (Imp.drop (Imp.drop (Imp.drop (Imp.refl _)))))) | exact Imp.drop (Imp.drop (Imp.drop (Imp.drop (Imp.drop (Imp.drop (Imp.drop (Imp.refl _))))))) | exact Imp.drop (Imp.drop (Imp.drop (Imp.drop (Imp.drop (Imp.drop (Imp.drop (Imp.drop (Imp.refl _))))))))) ?_
        · skip
          repeat (first | refine op_ ?_ | refine bx_ (fun _ => ?_))
          refine ha_fork1 9 (by rfl) (by kernel_rfl) (by rfl) (by first | exact Imp.refl _ | exact Imp.drop (Imp.refl _) | exact Imp.drop (Imp.drop (Imp.refl _)) | exact Imp.drop (Imp.drop (Imp.drop (Imp.refl _))) | exact Imp.drop (Imp.drop (Imp.drop (Imp.drop (Imp.refl _)))) | exact Imp.drop (Imp.drop (Imp.drop (Imp.drop (Imp.drop (Imp.refl _))))) | exact Imp.drop (Imp.drop (Imp.drop (Imp.drop (Imp.drop (Imp.drop (Imp.refl _)))))) | exact Imp.drop (Imp.drop (Imp.drop (Imp.drop (Imp.drop (Imp.drop (Imp.drop (Imp.refl _))))))) | exact Imp.drop (Imp.drop (Imp.drop (Imp.drop (Imp.drop (Imp.drop (Imp.drop (Imp.drop (Imp.refl _))))))))) ?_
          · skip
            repeat (first | refine op_ ?_ | refine bx_ (fun _ => ?_))
            refine ha_fork1 10 (by rfl) (by kernel_rfl) (by rfl) (by first | exact Imp.refl _ | exact Imp.drop (Imp.refl _) | exact Imp.drop (Imp.drop (Imp.refl _)) | exact Imp.drop (Imp.drop (Imp.drop (Imp.refl _))) | exact Imp.drop (Imp.drop (Imp.drop (Imp.drop (Imp.refl _)))) | exact Imp.drop (Imp.drop (Imp.drop (Imp.drop (Imp.drop (Imp.refl _))))) | exact Imp.drop (Imp.drop (Imp.drop (Imp.drop (Imp.drop (Imp.drop (Imp.refl _)))))) | exact Imp.drop (Imp.drop (Imp.drop (Imp.drop (Imp.drop (Imp.drop (Imp.drop (Imp.refl _))))))) | exact Imp.drop (Imp.drop (Imp.drop (Imp.drop (Imp.drop (Imp.drop (Imp.drop (Imp.drop (Imp.refl _))))))))) ?_
            · skip
              repeat (first | refine op_ ?_ | refine bx_ (fun _ => ?_))
              refine ha_fork1 11 (by rfl) (by kernel_rfl) (by rfl) (by first | exact Imp.refl _ | exact Imp.drop (Imp.refl _) | exact Imp.drop (Imp.drop (Imp.refl _)) | exact Imp.drop (Imp.drop (Imp.drop (Imp.refl _))) | exact Imp.drop (Imp.drop (Imp.drop (Imp.drop (Imp.refl _)))) | exact Imp.drop (Imp.drop (Imp.drop (Imp.drop (Imp.drop (Imp.refl _))))) | exact Imp.drop (Imp.drop (Imp.drop (Imp.drop (Imp.drop (Imp.drop (Imp.refl _)))))) | exact Imp.drop (Imp.drop (Imp.drop (Imp.drop (Imp.drop (Imp.drop (Imp.drop (Imp.refl _))))))) | exact Imp.drop (Imp.drop (Imp.drop (Imp.drop (Imp.drop (Imp.drop (Imp.drop (Imp.drop (Imp.refl _))))))))) ?_
              · skip
                repeat (first | refine op_ ?_ | refine bx_ (fun _ => ?_))
                refine ha_end (by rfl) (by kernel_rfl) (by first | exact Imp.refl _ | exact Imp.drop (Imp.refl _) | exact Imp.drop (Imp.drop (Imp.refl _)) | exact Imp.drop (Imp.drop (Imp.drop (Imp.refl _))) | exact Imp.drop (Imp.drop (Imp.drop (Imp.drop (Imp.refl _)))) | exact Imp.drop (Imp.drop (Imp.drop (Imp.drop (Imp.drop (Imp.refl _))))) | exact Imp.drop (Imp.drop (Imp.drop (Imp.drop (Imp.drop (Imp.drop (Imp.refl _)))))) | exact Imp.drop (Imp.drop (Imp.drop (Imp.drop (Imp.drop (Imp.drop (Imp.drop (Imp.refl _))))))) | exact Imp.drop (Imp.drop (Imp.drop (Imp.drop (Imp.drop (Imp.drop (Imp.drop (Imp.drop (Imp.refl _))))))))) ?_
                exact ⟨_, _, _, ⟨rfl, rfl, rfl, trivial⟩, List.Perm.refl _⟩
      · skip
        repeat (first | refine op_ ?_ | refine bx_ (fun _ => ?_))
        refine ha_fork1 6 (by rfl) (by kernel_rfl) (by rfl) (by first | exact Imp.refl _ | exact Imp.drop (Imp.refl _) | exact Imp.drop (Imp.drop (Imp.refl _)) | exact Imp.drop (Imp.drop (Imp.drop (Imp.refl _))) | exact Imp.drop (Imp.drop (Imp.drop (Imp.drop (Imp.refl _)))) | exact Imp.drop (Imp.drop (Imp.drop (Imp.drop (Imp.drop (Imp.refl _))))) | exact Imp.drop (Imp.drop (Imp.drop (Imp.drop (Imp.drop (Imp.drop (Imp.refl _)))))) | exact Imp.drop (Imp.drop (Imp.drop (Imp.drop (Imp.drop (Imp.drop (Imp.drop (Imp.refl _))))))) | exact Imp.drop (Imp.drop (Imp.drop (Imp.drop (Imp.drop (Imp.drop (Imp.drop (Imp.drop (Imp.refl _))))))))) ?_
        · skip
          repeat (first | refine op_ ?_ | refine bx_ (fun _ => ?_))
          refine ha_fork1 9 (by rfl) (by kernel_rfl) (by rfl) (by first | exact Imp.refl _ | exact Imp.drop (Imp.refl _) | exact Imp.drop (Imp.drop (Imp.refl _)) | exact Imp.drop (Imp.drop (Imp.drop (Imp.refl _))) | exact Imp.drop (Imp.drop (Imp.drop (Imp.drop (Imp.refl _)))) | exact Imp.drop (Imp.drop (Imp.drop (Imp.drop (Imp.drop (Imp.refl _))))) | exact Imp.drop (Imp.drop (Imp.drop (Imp.drop (Imp.drop (Imp.drop (Imp.refl _)))))) | exact Imp.drop (Imp.drop (Imp.drop (Imp.drop (Imp.drop (Imp.drop (Imp.drop (Imp.refl _))))))) | exact Imp.drop (Imp.drop (Imp.drop (Imp.drop (Imp.drop (Imp.drop (Imp.drop (Imp.drop (Imp.refl _))))))))) ?_
          · skip
            repeat (first | refine op_ ?_ | refine bx_ (fun _ => ?_))
            refine ha_fork1 10 (by rfl) (by kernel_rfl) (by rfl) (by first | exact Imp.refl _ | exact Imp.drop (Imp.refl _) | exact Imp.drop (Imp.drop (Imp.refl _)) | exact Imp.drop (Imp.drop (Imp.drop (Imp.refl _))) | exact Imp.drop (Imp.drop (Imp.drop (Imp.drop (Imp.refl _)))) | exact Imp.drop (Imp.drop (Imp.drop (Imp.drop (Imp.drop (Imp.refl _))))) | exact Imp.drop (Imp.drop (Imp.drop (Imp.drop (Imp.drop (Imp.drop (Imp.refl _)))))) | exact Imp.drop (Imp.drop (Imp.drop (Imp.drop (Imp.drop (Imp.drop (Imp.drop (Imp.refl _))))))) | exact Imp.drop (Imp.drop (Imp.drop (Imp.drop (Imp.drop (Imp.drop (Imp.drop (Imp.drop (Imp.refl _))))))))) ?_
            · skip
              repeat (first | refine op_ ?_ | refine bx_ (fun _ => ?_))
              refine ha_fork1 11 (by rfl) (by kernel_rfl) (by rfl) (by first | exact Imp.refl _ | exact Imp.drop (Imp.refl _) | exact Imp.drop (Imp.drop (Imp.refl _)) | exact Imp.drop (Imp.drop (Imp.drop (Imp.refl _))) | exact Imp.drop (Imp.drop (Imp.drop (Imp.drop (Imp.refl _)))) | exact Imp.drop (Imp.drop (Imp.drop (Imp.drop (Imp.drop (Imp.refl _))))) | exact Imp.drop (Imp.drop (Imp.drop (Imp.drop (Imp.drop (Imp.drop (Imp.refl _)))))) | exact Imp.drop (Imp.drop (Imp.drop (Imp.drop (Imp.drop (Imp.drop (Imp.drop (Imp.refl _))))))) | exact Imp.drop (Imp.drop (Imp.drop (Imp.drop (Imp.drop (Imp.drop (Imp.drop (Imp.drop (Imp.refl _))))))))) ?_
              · skip
                repeat (first | refine op_ ?_ | refine bx_ (fun _ => ?_))
                refine ha_end (by rfl) (by kernel_rfl) (by first | exact Imp.refl _ | exact Imp.drop (Imp.refl _) | exact Imp.drop (Imp.drop (Imp.refl _)) | exact Imp.drop (Imp.drop (Imp.drop (Imp.refl _))) | exact Imp.drop (Imp.drop (Imp.drop (Imp.drop (Imp.refl _)))) | exact Imp.drop (Imp.drop (Imp.drop (Imp.drop (Imp.drop (Imp.refl _))))) | exact Imp.drop (Imp.drop (Imp.drop (Imp.drop (Imp.drop (Imp.drop (Imp.refl _)))))) | exact Imp.drop (Imp.drop (Imp.drop (Imp.drop (Imp.drop (Imp.drop (Imp.drop (Imp.refl _))))))) | exact Imp.drop (Imp.drop (Imp.drop (Imp.drop (Imp.drop (Imp.drop (Imp.drop (Imp.drop (Imp.refl _))))))))) ?_
                exact ⟨_, _, _, ⟨rfl, rfl, rfl, trivial⟩, List.Perm.refl _⟩
  clear base
  rintro fr M ⟨g7, g8, g9, hf, hp⟩
  obtain ⟨base, rfl⟩ := hf.out
  refine HC.perm ?_ hp
  clear hf hp
  repeat (first | refine go_ ?_ | refine bx_ (fun _ => ?_))
  refine hc_loop (fun z fr M => ∃ k, k + z = 64 ∧ Agr fr [(7, .pointer (some ⟨g7, 0, none⟩)), (8, .pointer (some ⟨g8, 0, none⟩)), (9, .pointer (some ⟨g9, 0, none⟩)), (41, .int .i64 (k : Int))] ∧
    M = (⟨g9, 27, tab 64 (fwd s), 64⟩ :: ⟨g8, 27, tab 64 (fwd b), 64⟩ :: ⟨g7, 27, tab 64 (fwd a), 64⟩ :: ⟨gs, 27, tab 64 s, 64⟩ :: ⟨gb, 27, tab 64 b, 64⟩ :: ⟨ga, 27, tab 64 a, 64⟩ :: H)) 64 ?_ ?_
  · exact ⟨0, by omega, ⟨rfl, rfl, rfl, rfl, trivial⟩, rfl⟩
  clear base
  rintro z fr M ⟨k, hk, hf, rfl⟩
  obtain ⟨base, rfl⟩ := hf.out
  clear hf
  by_cases hlt : k < 64
  · have hn := fwd_near a b s (fun i _ => by rw [hs]) k hlt
    have f1 := full_bd cofF cofG ha1 hlt (show 8 ≤ 8 by omega)
    have f2 := full_bd cofF cofG hb1 hlt (show 8 ≤ 8 by omega)
    have f3 := full_bd cofF cofG hs1 hlt (show 8 ≤ 8 by omega)
    have e1 : fwd a k = (full cF cG a k 8 + 33554432) / 67108864 := rfl
    have e2 : fwd b k = (full cF cG b k 8 + 33554432) / 67108864 := rfl
    have e3 : fwd s k = (full cF cG s k 8 + 33554432) / 67108864 := rfl
    repeat (first | refine go_ ?_ | refine bx_ (fun _ => ?_))
    refine hc_draw (by kernel_rfl) (by kernel_rfl) ?_
    repeat (first | refine gd_ ?_)
    repeat (first | refine go_ ?_ | refine bx_ (fun _ => ?_))
    exact ⟨z - 1, by omega, k + 1, by omega, ⟨rfl, rfl, rfl, rfl, trivial⟩, rfl⟩
  · have hz : Small (fun _ => 0) := fun _ _ => by dsimp only; omega
    repeat (first | refine go_ ?_ | refine bx_ (fun _ => ?_) | refine hl_callv rfl rfl (forward_fn (fun _ => 0) hz) ?_ | refine hl_callv rfl rfl (back_fn (fun _ => 0) hz) ?_ | refine hl_eqTabT (g := fun _ => 0) rfl rfl fwd_zero rfl ?_ | refine hl_eqTabT (g := fun _ => 0) rfl rfl bck_zero rfl ?_)
    exact fin1B rfl rfl rfl
theorem walk (l1 l2 : List Int) (w : World) (h1 : l1.length = 64) (_ : ∀ x ∈ l1, -9223372036854775808 ≤ x ∧ x ≤ 9223372036854775807) (h2 : l2.length = 64) (_ : ∀ x ∈ l2, -9223372036854775808 ≤ x ∧ x ≤ 9223372036854775807) :
    Calls Try.prog 6 #[arrV l1, arrV l2] w fun e w' => e = .returned (.bool true) ∧ Below w.heap.size w w' := by
  have e1 : arrV l1 = .agg (tab 64 (fun k => l1.getD k 0)).toArray := by unfold arrV; rw [map_tab, h1]
  have e2 : arrV l2 = .agg (tab 64 (fun k => l2.getD k 0)).toArray := by unfold arrV; rw [map_tab, h2]
  rw [e1, e2]
  exact calls_of_fn (law _ _) fun _ _ h => h

/-! The step to the statement (written by program). -/
open Go.ChangeShapes Go.WideShapes Go.ChangeAt
set_option maxRecDepth 100000 in
theorem lifted (os : Os) (started : os.Started) (H : Type) (enc : TypeId × Value → H) :
    ReturnsInHanded {} Try.checked os 6 .any (Rows.dctSumsSpec.pre6 enc Try.prog Try.f6 Rows.dctSumsRow.domain false) (Rows.dctSumsSpec.post enc Try.prog Try.f6 false true false false) := by
  refine returnsInHanded_of_change (C := Try.checked) own started (by kernel_rfl) Try.func6
    (ChangeSpec.witness6 (enc := enc) (C := Try.checked) false ⟨#[], #[.agg #[.int .i64 0, .int .i64 0, .int .i64 0, .int .i64 0, .int .i64 0, .int .i64 0, .int .i64 0, .int .i64 0, .int .i64 0, .int .i64 0, .int .i64 0, .int .i64 0, .int .i64 0, .int .i64 0, .int .i64 0, .int .i64 0, .int .i64 0, .int .i64 0, .int .i64 0, .int .i64 0, .int .i64 0, .int .i64 0, .int .i64 0, .int .i64 0, .int .i64 0, .int .i64 0, .int .i64 0, .int .i64 0, .int .i64 0, .int .i64 0, .int .i64 0, .int .i64 0, .int .i64 0, .int .i64 0, .int .i64 0, .int .i64 0, .int .i64 0, .int .i64 0, .int .i64 0, .int .i64 0, .int .i64 0, .int .i64 0, .int .i64 0, .int .i64 0, .int .i64 0, .int .i64 0, .int .i64 0, .int .i64 0, .int .i64 0, .int .i64 0, .int .i64 0, .int .i64 0, .int .i64 0, .int .i64 0, .int .i64 0, .int .i64 0, .int .i64 0, .int .i64 0, .int .i64 0, .int .i64 0, .int .i64 0, .int .i64 0, .int .i64 0, .int .i64 0], .agg #[.int .i64 0, .int .i64 0, .int .i64 0, .int .i64 0, .int .i64 0, .int .i64 0, .int .i64 0, .int .i64 0, .int .i64 0, .int .i64 0, .int .i64 0, .int .i64 0, .int .i64 0, .int .i64 0, .int .i64 0, .int .i64 0, .int .i64 0, .int .i64 0, .int .i64 0, .int .i64 0, .int .i64 0, .int .i64 0, .int .i64 0, .int .i64 0, .int .i64 0, .int .i64 0, .int .i64 0, .int .i64 0, .int .i64 0, .int .i64 0, .int .i64 0, .int .i64 0, .int .i64 0, .int .i64 0, .int .i64 0, .int .i64 0, .int .i64 0, .int .i64 0, .int .i64 0, .int .i64 0, .int .i64 0, .int .i64 0, .int .i64 0, .int .i64 0, .int .i64 0, .int .i64 0, .int .i64 0, .int .i64 0, .int .i64 0, .int .i64 0, .int .i64 0, .int .i64 0, .int .i64 0, .int .i64 0, .int .i64 0, .int .i64 0, .int .i64 0, .int .i64 0, .int .i64 0, .int .i64 0, .int .i64 0, .int .i64 0, .int .i64 0, .int .i64 0]], []⟩ 8 (by kernel_rfl) (by kernel_rfl) (by kernel_rfl) (by kernel_rfl)) ?_
  intro W base args ds gs before hval0 hW hcnd _
  have hval : ∀ (j : Nat) t v, Try.f6.params[j]? = some t → args[j]? = some v → Value.okWide Try.prog W .any base t v := hval0
  have hW' := hW
  obtain ⟨p, q, hA0, hV, rfl, hfz, hnd⟩ := hW
  have hA : DataW.TrodAll enc Try.prog W 0 (fun _ => true) true Try.f6.params.toList args.toList ds p := hA0
  rw [Try.params6] at hA hval
  obtain ⟨v0, vs0, d0, ds0, p0, q0, hargs, rfl, rfl, h0, r0⟩ := trodAll_cons hA
  obtain ⟨v1, vs1, d1, ds1, p1, q1, rfl, rfl, rfl, h1, r1⟩ := trodAll_cons r0
  obtain ⟨rfl, rfl, rfl⟩ := trodAll_nil r1
  obtain rfl : args = #[v0, v1] := by cases args; simp_all
  obtain ⟨rfl, rfl⟩ := trodVars_none hV
  have k0 := h0
  have lt0 : ∀ x ∈ p0, x.block < W.heap.size := by obtain ⟨m, hm⟩ := k0; exact DataW.trod_lt m _ _ _ hm
  obtain ⟨l0, rfl, n0, b0⟩ := open_array Try.underlying27 Try.underlying3 (by kernel_rfl) (by kernel_rfl) (hval 0 27 v0 rfl rfl) k0
  have k1 := h1
  have lt1 : ∀ x ∈ p1, x.block < W.heap.size := by obtain ⟨m, hm⟩ := k1; exact DataW.trod_lt m _ _ _ hm
  obtain ⟨l1, rfl, n1, b1⟩ := open_array Try.underlying27 Try.underlying3 (by kernel_rfl) (by kernel_rfl) (hval 1 27 v1 rfl rfl) k1
  clear hA0 hval0
  refine (walk l0 l1 W n0 b0 n1 b1).mono fun e W' ⟨he, bel⟩ => ?_
  subst he
  exact ⟨_, rfl, _, _, _, [], _, [], hW', trodAll_mk1 (shut_bool Try.underlying4 _), (trodAll_cons_mk (Below.trod laidOut (by kernel_rfl) (of_decide_eq_true (by kernel_rfl)) k0 bel lt0) (trodAll_cons_mk (Below.trod laidOut (by kernel_rfl) (of_decide_eq_true (by kernel_rfl)) k1 bel lt1) trodAll_mk0)), rfl, bel.frame _, fun h => by cases h⟩

theorem over : Rows.dctSumsRow.holds Try.pinned (OpenSpec.ofChange Rows.dctSumsSpec) :=
  OpenClaim.holds_of_wide 6 Try.f6 rfl rfl rfl rfl rfl rfl rfl ⟨rfl, rfl, rfl, rfl, rfl⟩ rfl rfl rfl rfl rfl (by kernel_rfl) Try.func6 (by kernel_rfl)
    (of_decide_eq_true (by kernel_rfl)) (by unfold Func.isWrapper; first | (rw [if_pos (by decide +kernel)]; kernel_rfl) | (rw [if_neg (by decide +kernel)]; exact ⟨rfl, rfl⟩))
    (fun os started H enc _ => lifted os started H enc)

/-- The statement. -/
theorem proved : Rows.DctSumsSaid := over
#print axioms proved
end Go.Proofs.Ytkolkcgckckeeaa.dctSums
