/-
  Pictures seen through maps: the whole picture. No condition.
-/
import Derived.Test.YtbgdligfdfhbkaaA5
namespace Go.Proofs.Ytbgdligfdfhbkaa
open Go.RowKit

/-- Done up to here. -/
def dsel (h : Nat → Int) (i j : Nat) : Int := if j < i then h j else 0
theorem dsel_set (h : Nat → Int) (n i : Nat) : (tab n (dsel h i)).set i (.int .i64 (h i)) = tab n (dsel h (i + 1)) := tab_set fun j _ => by
  unfold dsel
  by_cases e : j = i
  · subst e; simp
  · by_cases h1 : j < i
    · rw [if_neg e, if_pos h1, if_pos (by omega)]
    · rw [if_neg e, if_neg h1, if_neg (by omega)]
theorem dsel_end (h : Nat → Int) (n : Nat) : tab n (dsel h n) = tab n h := tab_congr fun j hj => by unfold dsel; rw [if_pos hj]

def Sz (w h : Int) : Prop := 0 ≤ w ∧ w ≤ 32768 ∧ 0 ≤ h ∧ h ≤ 32768 ∧ w * h ≤ 4194304
instance (w h : Int) : Decidable (Sz w h) := by unfold Sz; exact inferInstance
/-- The error of seeing. -/
def seeE (m : Nat → Int) (W H : Int) (n : Nat) (f : Nat → Int) (w h : Int) : Int :=
  if (backR m).2 ≠ 0 then (backR m).2 else if ¬ Sz w h then 31 else if ¬ PicR W H n f then 25 else 0
/-- What is seen, pixel by pixel. -/
def seenZ (m : Nat → Int) (W H : Int) (f : Nat → Int) (w : Int) (sm : Bool) (i : Nat) : Int := seeZ (backR m).1 W.toNat H.toNat f sm ((i : Int) % w) ((i : Int) / w)
def SeeR (m : Nat → Int) (W H : Int) (n : Nat) (f : Nat → Int) (w h : Int) (sm : Bool) (M : List Ent) (r : Value) (M' : List Ent) : Prop :=
  (seeE m W H n f w h ≠ 0 ∧ r = .tuple #[picV 0 0 none 0 0, .int .i64 (seeE m W H n f w h)] ∧ M' = M) ∨
  (seeE m W H n f w h = 0 ∧ ∃ sl, Own 3 1 sl (w * h).toNat (tab (w * h).toNat (seenZ m W H f w sm)) M M' ∧ r = .tuple #[.agg [.int .i64 w, .int .i64 h, sl].toArray, .int .i64 0])
theorem back_ok {m : Nat → Int} (h : (backR m).2 = 0) : Rt (backR m).1 := by
  unfold backR at *
  split at h
  · split at h
    · simp at h
    · split at h
      · split at h
        · rename_i h1 h2 h3 h4
          rw [if_pos h1, if_neg h2, if_pos h3, if_pos h4]; exact h4
        · simp at h
      · simp at h
  · simp at h
theorem back_e (m : Nat → Int) : (backR m).2 = 0 ∨ (backR m).2 = 31 ∨ (backR m).2 = 33 := by
  unfold backR
  split
  · split
    · simp
    · split
      · split <;> simp
      · simp
  · simp
section
variable {w0 : World} {B : Nat} {M : List Ent}
set_option maxHeartbeats 16000000 in
set_option maxRecDepth 100000 in
theorem see_fn (W H : Int) {a : Option Addr} {n cap : Nat} {f : Nat → Int} (p : Nums w0 B M a n f) (m : Nat → Int) (hm : Sm m) (w h : Int) (sm : Bool) :
    Fn Try.prog w0 B 15 [picV W H a n cap, mapV m, .int .i64 w, .int .i64 h, .bool sm] M (fun r M' => SeeR m W H n f w h sm M r M') := by
  have hbk : ∀ E, Fn Try.prog w0 B 13 [.agg (tab 6 m).toArray] E (fun v H' => v = .tuple #[.agg (tab 6 (backR m).1).toArray, .int .i64 (backR m).2] ∧ H' = E) := fun E => back_fn m hm
  have hbe := back_e m
  refine fn_intro Try.func15 rfl (by kernel_rfl) rfl ?_
  unfold picV mapV
  by_cases h1 : (backR m).2 ≠ 0
  · have he : seeE m W H n f w h = (backR m).2 := if_pos h1
    repeat (first | refine go_ ?_ | refine bx_ (fun _ => ?_) | refine hl_callv rfl rfl (hbk _) ?_)
    exact finCI rfl rfl .here rfl rfl (.inl ⟨by rw [he]; exact h1, by rw [he]; rfl, rfl⟩) (by exact Imp.drop (Imp.drop (Imp.drop (Imp.drop (Imp.refl _)))))
  replace h1 := Classical.not_not.1 h1
  have hrb := back_ok h1
  by_cases h2 : ¬ Sz w h
  · have he : seeE m W H n f w h = 31 := by unfold seeE; rw [if_neg (by simp [h1]), if_pos h2]
    have hout : SeeR m W H n f w h sm M (.tuple #[picV 0 0 none 0 0, .int .i64 31]) M := .inl ⟨by rw [he]; decide, by rw [he], rfl⟩
    unfold Sz at h2
    by_cases c1 : w < 0
    · repeat (first | refine go_ ?_ | refine bx_ (fun _ => ?_) | refine hl_callv rfl rfl (hbk _) ?_)
      exact finCI rfl rfl .here rfl rfl hout (by exact Imp.drop (Imp.drop (Imp.drop (Imp.drop (Imp.refl _)))))
    by_cases c2 : 32768 < w
    · repeat (first | refine go_ ?_ | refine bx_ (fun _ => ?_) | refine hl_callv rfl rfl (hbk _) ?_)
      exact finCI rfl rfl .here rfl rfl hout (by exact Imp.drop (Imp.drop (Imp.drop (Imp.drop (Imp.refl _)))))
    by_cases c3 : h < 0
    · repeat (first | refine go_ ?_ | refine bx_ (fun _ => ?_) | refine hl_callv rfl rfl (hbk _) ?_)
      exact finCI rfl rfl .here rfl rfl hout (by exact Imp.drop (Imp.drop (Imp.drop (Imp.drop (Imp.refl _)))))
    by_cases c4 : 32768 < h
    · repeat (first | refine go_ ?_ | refine bx_ (fun _ => ?_) | refine hl_callv rfl rfl (hbk _) ?_)
      exact finCI rfl rfl .here rfl rfl hout (by exact Imp.drop (Imp.drop (Imp.drop (Imp.drop (Imp.refl _)))))
    have hwh := mul_bd (a := w) (b := h) (M := 32768) (N := 32768) (by omega) (by omega)
    have c5 : 4194304 < w * h := by omega
    repeat (first | refine go_ ?_ | refine bx_ (fun _ => ?_) | refine hl_callv rfl rfl (hbk _) ?_)
    exact finCI rfl rfl .here rfl rfl hout (by exact Imp.drop (Imp.drop (Imp.drop (Imp.drop (Imp.refl _)))))
  replace h2 := Classical.not_not.1 h2
  obtain ⟨c1, c2, c3, c4, c5⟩ := id h2
  have hwh0 : 0 ≤ w * h := Int.mul_nonneg c1 c3
  repeat (first | refine go_ ?_ | refine bx_ (fun _ => ?_) | refine hl_callv rfl rfl (hbk _) ?_)
  refine hl_call rfl rfl (pright_fn W H (p.imp (by first | exact Imp.refl _ | exact Imp.drop (Imp.refl _) | exact Imp.drop (Imp.drop (Imp.refl _)) | exact Imp.drop (Imp.drop (Imp.drop (Imp.refl _))) | exact Imp.drop (Imp.drop (Imp.drop (Imp.drop (Imp.refl _)))) | exact Imp.drop (Imp.drop (Imp.drop (Imp.drop (Imp.drop (Imp.refl _))))) | exact Imp.drop (Imp.drop (Imp.drop (Imp.drop (Imp.drop (Imp.drop (Imp.refl _)))))) | exact Imp.drop (Imp.drop (Imp.drop (Imp.drop (Imp.drop (Imp.drop (Imp.drop (Imp.refl _))))))) | exact Imp.drop (Imp.drop (Imp.drop (Imp.drop (Imp.drop (Imp.drop (Imp.drop (Imp.drop (Imp.refl _))))))))))) (fun r M' hr => ?_)
  obtain ⟨⟨rfl, h3⟩ | ⟨rfl, h3⟩, rfl⟩ := hr
  rotate_left
  · have he : seeE m W H n f w h = 25 := by unfold seeE; rw [if_neg (by simp [h1]), if_neg (by simp [h2]), if_pos h3]
    repeat (first | refine go_ ?_ | refine bx_ (fun _ => ?_))
    exact finCI rfl rfl .here rfl rfl (.inl ⟨by rw [he]; decide, by rw [he]; rfl, rfl⟩) (by exact Imp.drop (Imp.drop (Imp.drop (Imp.drop (Imp.refl _)))))
  have he : seeE m W H n f w h = 0 := by unfold seeE; rw [if_neg (by simp [h1]), if_neg (by simp [h2]), if_neg (by simp [h3])]
  obtain ⟨N, hN⟩ : ∃ N : Nat, w * h = (N : Int) := ⟨(w * h).toNat, by omega⟩
  have hNs : N ≤ 4194304 := by omega
  have hpic := p.pic h3
  have hW0 := h3.1
  have hH0 := h3.2.2.1
  have hNt : (w * h).toNat = N := by rw [hN]; rfl
  unfold SeeR
  rw [hNt, he]
  have hsz : ∀ i : Nat, i < N → 0 < w ∧ 0 ≤ (i : Int) % w ∧ (i : Int) % w ≤ 32768 ∧ 0 ≤ (i : Int) / w ∧ (i : Int) / w ≤ 32768 := fun i hi => by
    have hw0 : 0 < w := by
      rcases Int.lt_or_eq_of_le c1 with h | h
      · exact h
      · rw [← h, Int.zero_mul] at hN; omega
    have h1 := Int.emod_nonneg (i : Int) (show w ≠ 0 by omega)
    have h2 := Int.emod_lt_of_pos (i : Int) hw0
    have h3 : 0 ≤ (i : Int) / w := Int.ediv_nonneg (by omega) c1
    have h4 : (i : Int) / w < h := Int.ediv_lt_of_lt_mul hw0 (by rw [Int.mul_comm]; omega)
    omega
  repeat (first | rw [hN] | refine go1_ ?_ | refine bx_ (fun _ => ?_))
  refine hl_make1 (n := N) rfl rfl rfl (by omega) (by omega) rfl (fun g => ?_)
  have hz : List.replicate N (Value.int .i64 0) = tab N (dsel (seenZ m W H f w sm) 0) := by rw [← tab_zero]; exact tab_congr fun j _ => by unfold dsel; simp
  rw [hz]
  repeat (first | refine go_ ?_ | refine bx_ (fun _ => ?_))
  rename_i g5 g6 g10 g12 g14
  have hAt : ∀ E, Imp E M → ∀ i : Nat, i < N → Fn Try.prog w0 B 19 [.agg [.int .i64 W, .int .i64 H, .slice a n cap].toArray, .agg (tab 6 (backR m).1).toArray, .int .i64 ((i : Int) % w), .int .i64 ((i : Int) / w), .bool sm] E (fun r M' => r = .int .i64 (seenZ m W H f w sm i) ∧ M' = E) := fun E hE i hi => by
    obtain ⟨_, q1, q2, q3, q4⟩ := hsz i hi
    have := At_fn (cap := cap) (hpic.imp hE) (backR m).1 hrb _ _ ⟨q1, q2⟩ ⟨q3, q4⟩ sm
    rw [Int.toNat_of_nonneg hW0, Int.toNat_of_nonneg hH0] at this
    exact this
  clear hbk hbe h1 hrb he hz hNt h3 hpic hW0 hH0 h2
  refine hc_loop (fun z fr X => ∃ k, k + z = N ∧ Agr fr [(2, .int .i64 w), (4, .bool sm), (5, .pointer (some ⟨g5, 0, none⟩)), (10, .pointer (some ⟨g10, 0, none⟩)), (12, .pointer (some ⟨g12, 0, none⟩)), (14, .pointer (some ⟨g14, 0, none⟩)), (62, .int .i64 (N : Int)), (63, .int .i64 (k : Int))] ∧
    X.Perm (⟨g, 3, tab N (dsel (seenZ m W H f w sm) k), N * 1⟩ :: ⟨g14, 34, [.int .i64 w, .int .i64 h, .slice (some ⟨g, 0, none⟩) N N], 3⟩ :: ⟨g12, 23, tab 6 (backR m).1, 6⟩ :: ⟨g10, 34, [.int .i64 0, .int .i64 0, .slice none 0 0], 3⟩ :: ⟨g6, 23, tab 6 m, 6⟩ :: ⟨g5, 34, [.int .i64 W, .int .i64 H, .slice a n cap], 3⟩ :: M)) N ?_ ?_
  · exact ⟨0, by omega, ⟨rfl, rfl, rfl, rfl, rfl, rfl, rfl, rfl, trivial⟩, List.Perm.swap _ _ _⟩
  rintro z fr X ⟨k, hk, hf, hp⟩
  obtain ⟨base, rfl⟩ := hf.out
  clear hf
  refine HC.perm ?_ hp
  clear hp
  by_cases hlt : k < N
  · obtain ⟨q0, q1, q2, q3, q4⟩ := hsz k hlt
    have hset := dsel_set (seenZ m W H f w sm) N k
    have hAtk := hAt (⟨g, 3, tab N (dsel (seenZ m W H f w sm) k), N * 1⟩ :: ⟨g14, 34, [.int .i64 w, .int .i64 h, .slice (some ⟨g, 0, none⟩) N N], 3⟩ :: ⟨g12, 23, tab 6 (backR m).1, 6⟩ :: ⟨g10, 34, [.int .i64 0, .int .i64 0, .slice none 0 0], 3⟩ :: ⟨g6, 23, tab 6 m, 6⟩ :: ⟨g5, 34, [.int .i64 W, .int .i64 H, .slice a n cap], 3⟩ :: M) (by exact (by first | exact Imp.refl _ | exact Imp.drop (Imp.refl _) | exact Imp.drop (Imp.drop (Imp.refl _)) | exact Imp.drop (Imp.drop (Imp.drop (Imp.refl _))) | exact Imp.drop (Imp.drop (Imp.drop (Imp.drop (Imp.refl _)))) | exact Imp.drop (Imp.drop (Imp.drop (Imp.drop (Imp.drop (Imp.refl _))))) | exact Imp.drop (Imp.drop (Imp.drop (Imp.drop (Imp.drop (Imp.drop (Imp.refl _)))))) | exact Imp.drop (Imp.drop (Imp.drop (Imp.drop (Imp.drop (Imp.drop (Imp.drop (Imp.refl _))))))) | exact Imp.drop (Imp.drop (Imp.drop (Imp.drop (Imp.drop (Imp.drop (Imp.drop (Imp.drop (Imp.refl _)))))))))) k hlt
    repeat (first | refine go_ ?_ | refine bx_ (fun _ => ?_))
    refine hc_drawS (by kernel_rfl) (by kernel_rfl) ?_
    repeat (first | refine gd_ ?_ | refine hd_call rfl rfl (hAtk) ?_)
    repeat (first | rw [hset] | refine go1_ ?_ | refine bx_ (fun _ => ?_))
    exact ⟨z - 1, by omega, k + 1, by omega, ⟨rfl, rfl, rfl, rfl, rfl, rfl, rfl, rfl, trivial⟩, List.Perm.refl _⟩
  · obtain rfl : k = N := by omega
    rw [dsel_end]
    repeat (first | refine go_ ?_ | refine bx_ (fun _ => ?_))
    refine finCI rfl rfl .here rfl rfl (.inr ⟨rfl, _, Own.mk (g := g) (Nat.le_refl k) (by omega) (by rw [length_tab]; omega) (List.Perm.refl _), rfl⟩) ?_
    exact Imp.drop (Imp.perm (List.Perm.swap _ _ _) (Imp.drop (Imp.drop2 (Imp.drop2 (Imp.drop2 (Imp.refl _))))))
end
end Go.Proofs.Ytbgdligfdfhbkaa
