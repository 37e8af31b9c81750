/-
  Lasso: the box's contract. No condition.
-/
import Derived.Test.YtdofcjmnnmmecaaKE
namespace Go.Proofs.Ytdofcjmnnmmecaa
open Go.RowKit
theorem fin5I {P : Program} {fn : Func} {R : Value → List Ent → Prop} {fr : Fr} {H H2 : List Ent} {t1 t2 t3 t4 t5 : Nat} {a1 a2 a3 a4 a5 : Int} (hr : fn.results.toList = [.tmp t1, .tmp t2, .tmp t3, .tmp t4, .tmp t5]) (h1 : fr t1 = .int .i64 a1) (h2 : fr t2 = .int .i64 a2) (h3 : fr t3 = .int .i64 a3) (h4 : fr t4 = .int .i64 a4) (h5 : fr t5 = .int .i64 a5)
    (h : R (.tuple #[.int .i64 a1, .int .i64 a2, .int .i64 a3, .int .i64 a4, .int .i64 a5]) H2) (hi : Imp H H2) : Pfn P fn R .ret fr H :=
  ⟨.inr rfl, [fr t1, fr t2, fr t3, fr t4, fr t5], H2, by rw [hr]; exact .tmp (.tmp (.tmp (.tmp (.tmp .nil)))), hi, by rw [h1, h2, h3, h4, h5]; exact h⟩
def loR (f : Nat → Int) : Nat → Int
  | 0 => f 0
  | k + 1 => min (loR f k) (f k)
def hiR (f : Nat → Int) : Nat → Int
  | 0 => f 0
  | k + 1 => max (hiR f k) (f k)
theorem loR_le (f : Nat → Int) : ∀ k i, i < k → loR f k ≤ f i
  | k + 1, i, h => by
    rw [loR]
    by_cases h2 : i < k
    · have := loR_le f k i h2; omega
    · obtain rfl : i = k := by omega
      omega
theorem le_hiR (f : Nat → Int) : ∀ k i, i < k → f i ≤ hiR f k
  | k + 1, i, h => by
    rw [hiR]
    by_cases h2 : i < k
    · have := le_hiR f k i h2; omega
    · obtain rfl : i = k := by omega
      omega
theorem loR_bd {f : Nat → Int} {a b : Int} : ∀ k, (∀ i, i < k ∨ i = 0 → a ≤ f i ∧ f i ≤ b) → a ≤ loR f k ∧ loR f k ≤ b
  | 0, h => h 0 (.inr rfl)
  | k + 1, h => by
    have h1 := loR_bd k fun i hi => h i (by omega)
    have h2 := h k (by omega)
    rw [loR]; omega
theorem hiR_bd {f : Nat → Int} {a b : Int} : ∀ k, (∀ i, i < k ∨ i = 0 → a ≤ f i ∧ f i ≤ b) → a ≤ hiR f k ∧ hiR f k ≤ b
  | 0, h => h 0 (.inr rfl)
  | k + 1, h => by
    have h1 := hiR_bd k fun i hi => h i (by omega)
    have h2 := h k (by omega)
    rw [hiR]; omega
theorem loR_mem (f : Nat → Int) : ∀ k, 0 < k → ∃ i, i < k ∧ loR f k = f i
  | 1, _ => ⟨0, by omega, by simp [loR]⟩
  | k + 2, _ => by
    obtain ⟨i, hi, h⟩ := loR_mem f (k + 1) (by omega)
    rw [loR]
    by_cases h2 : loR f (k + 1) ≤ f (k + 1)
    · exact ⟨i, by omega, by omega⟩
    · exact ⟨k + 1, by omega, by omega⟩
theorem hiR_mem (f : Nat → Int) : ∀ k, 0 < k → ∃ i, i < k ∧ hiR f k = f i
  | 1, _ => ⟨0, by omega, by simp [hiR]⟩
  | k + 2, _ => by
    obtain ⟨i, hi, h⟩ := hiR_mem f (k + 1) (by omega)
    rw [hiR]
    by_cases h2 : f (k + 1) ≤ hiR f (k + 1)
    · exact ⟨i, by omega, by omega⟩
    · exact ⟨k + 1, by omega, by omega⟩
theorem Imp.drop3 {a b x : Ent} {F : List Ent} : Imp (a :: b :: x :: F) (a :: b :: F) := fun _ _ _ h => (h.perm (show (a :: b :: x :: F).Perm (x :: a :: b :: F) from ((List.Perm.cons a (List.Perm.swap x b F)).trans (List.Perm.swap x a (b :: F))))).drop
def boxV (l : List Pt) : List Int := [loR (fun i => (nth l i).x) l.length, loR (fun i => (nth l i).y) l.length, hiR (fun i => (nth l i).x) l.length - loR (fun i => (nth l i).x) l.length, hiR (fun i => (nth l i).y) l.length - loR (fun i => (nth l i).y) l.length]
set_option maxHeartbeats 8000000
set_option maxRecDepth 100000
theorem boxN_fn {w0 : World} {B : Nat} {H : List Ent} {a : Option Addr} {len cap : Nat} {l : List Pt} (hl : PtR w0 B H a len l) (h5 : len ≤ 9223372036854775806) (hok : okS l [] = false) :
    Fn Try.prog w0 B 21 [.slice a len cap] H (fun v H' => v = .tuple #[.int .i64 0, .int .i64 0, .int .i64 0, .int .i64 0, .int .i64 31] ∧ H' = H) := by
  refine fn_intro Try.func21 rfl (by kernel_rfl) rfl ?_
  have C := check_fn (cap := cap) (cap2 := 0) hl PtR.zero h5 (by decide)
  rw [hok, show errV false = 31 from rfl] at C
  repeat (first | refine go_ ?_ | refine bx_ (fun _ => ?_) | refine hl_callv rfl rfl (C) ?_)
  exact fin5I rfl rfl rfl rfl rfl rfl ⟨rfl, rfl⟩ (Imp.refl _)
theorem boxY_fn {w0 : World} {B : Nat} {H : List Ent} {a : Option Addr} {len cap : Nat} {l : List Pt} (hl : PtR w0 B H a len l) (hok : okS l [] = true) :
    Fn Try.prog w0 B 21 [.slice a len cap] H (fun v H' => v = .tuple #[.int .i64 (loR (fun i => (nth l i).x) len), .int .i64 (loR (fun i => (nth l i).y) len), .int .i64 (hiR (fun i => (nth l i).x) len - loR (fun i => (nth l i).x) len), .int .i64 (hiR (fun i => (nth l i).y) len - loR (fun i => (nth l i).y) len), .int .i64 0] ∧ H' = H) := by
  refine fn_intro Try.func21 rfl (by kernel_rfl) rfl ?_
  obtain ⟨hr, _, h3, h256⟩ := okS_right hok
  have e1 := hl.eq
  have C := check_fn (cap := cap) (cap2 := 0) hl PtR.zero (by omega) (by decide)
  rw [hok, show errV true = 0 from rfl] at C
  obtain ⟨bb, off, rfl⟩ := hl.pos (by omega)
  have p0 := hl.at' (k := 0) (by omega)
  repeat (first | refine go_ ?_ | refine bx_ (fun _ => ?_) | refine hl_callv rfl rfl (C) ?_)
  refine hc_meet (fun fr M => ∃ g8 g9, Agr fr [(0, .slice (some ⟨bb, off, none⟩) len cap), (8, .pointer (some ⟨g8, 0, none⟩)), (9, .pointer (some ⟨g9, 0, none⟩))]
    ∧ M = ⟨g9, 34, [.int .i64 (nth l 0).x, .int .i64 (nth l 0).y], 2⟩ :: ⟨g8, 34, [.int .i64 (nth l 0).x, .int .i64 (nth l 0).y], 2⟩ :: H) ?_ ?_
  · refine hc_drawA H (by kernel_rfl) ?_
    refine ha_quiet [0, 1, 2, 3, 4, 5] (by rfl) (by kernel_rfl) ?_
    repeat (first | refine gd_ ?_ | refine hl_loadRN (off := off) (j := 0 * 2) rfl hl.rd (Imp.refl _) p0 rfl rfl ?_)
    refine ha_fork2 6 7 (by rfl) (by kernel_rfl) (by rfl) (by rfl) (by first | exact Imp.refl _ | exact Imp.drop (Imp.refl _) | exact Imp.drop (Imp.drop (Imp.refl _)) | exact Imp.drop (Imp.drop (Imp.drop (Imp.refl _))) | exact Imp.drop (Imp.drop (Imp.drop (Imp.drop (Imp.refl _)))) | exact Imp.drop (Imp.drop (Imp.drop (Imp.drop (Imp.drop (Imp.refl _))))) | exact Imp.drop (Imp.drop (Imp.drop (Imp.drop (Imp.drop (Imp.drop (Imp.refl _)))))) | exact Imp.drop (Imp.drop (Imp.drop (Imp.drop (Imp.drop (Imp.drop (Imp.drop (Imp.refl _))))))) | exact Imp.drop (Imp.drop (Imp.drop (Imp.drop (Imp.drop (Imp.drop (Imp.drop (Imp.drop (Imp.refl _)))))))) | assumption | exact Imp.drop2 (Imp.refl _) | exact Imp.drop2 (Imp.drop2 (Imp.refl _)) | exact Imp.drop (Imp.drop2 (Imp.refl _))) ?_ ?_
    · skip
      repeat (first | refine op_ ?_ | refine bx_ (fun _ => ?_))
      refine ha_fork1 7 (by rfl) (by kernel_rfl) (by rfl) (by first | exact Imp.refl _ | exact Imp.drop (Imp.refl _) | exact Imp.drop (Imp.drop (Imp.refl _)) | exact Imp.drop (Imp.drop (Imp.drop (Imp.refl _))) | exact Imp.drop (Imp.drop (Imp.drop (Imp.drop (Imp.refl _)))) | exact Imp.drop (Imp.drop (Imp.drop (Imp.drop (Imp.drop (Imp.refl _))))) | exact Imp.drop (Imp.drop (Imp.drop (Imp.drop (Imp.drop (Imp.drop (Imp.refl _)))))) | exact Imp.drop (Imp.drop (Imp.drop (Imp.drop (Imp.drop (Imp.drop (Imp.drop (Imp.refl _))))))) | exact Imp.drop (Imp.drop (Imp.drop (Imp.drop (Imp.drop (Imp.drop (Imp.drop (Imp.drop (Imp.refl _)))))))) | assumption | exact Imp.drop2 (Imp.refl _) | exact Imp.drop2 (Imp.drop2 (Imp.refl _)) | exact Imp.drop (Imp.drop2 (Imp.refl _))) ?_
      · skip
        repeat (first | refine op_ ?_ | refine bx_ (fun _ => ?_))
        refine ha_fork1 8 (by rfl) (by kernel_rfl) (by rfl) (by first | exact Imp.refl _ | exact Imp.drop (Imp.refl _) | exact Imp.drop (Imp.drop (Imp.refl _)) | exact Imp.drop (Imp.drop (Imp.drop (Imp.refl _))) | exact Imp.drop (Imp.drop (Imp.drop (Imp.drop (Imp.refl _)))) | exact Imp.drop (Imp.drop (Imp.drop (Imp.drop (Imp.drop (Imp.refl _))))) | exact Imp.drop (Imp.drop (Imp.drop (Imp.drop (Imp.drop (Imp.drop (Imp.refl _)))))) | exact Imp.drop (Imp.drop (Imp.drop (Imp.drop (Imp.drop (Imp.drop (Imp.drop (Imp.refl _))))))) | exact Imp.drop (Imp.drop (Imp.drop (Imp.drop (Imp.drop (Imp.drop (Imp.drop (Imp.drop (Imp.refl _)))))))) | assumption | exact Imp.drop2 (Imp.refl _) | exact Imp.drop2 (Imp.drop2 (Imp.refl _)) | exact Imp.drop (Imp.drop2 (Imp.refl _))) ?_
        · skip
          repeat (first | refine op_ ?_ | refine bx_ (fun _ => ?_))
          refine ha_fork1 9 (by rfl) (by kernel_rfl) (by rfl) (by first | exact Imp.refl _ | exact Imp.drop (Imp.refl _) | exact Imp.drop (Imp.drop (Imp.refl _)) | exact Imp.drop (Imp.drop (Imp.drop (Imp.refl _))) | exact Imp.drop (Imp.drop (Imp.drop (Imp.drop (Imp.refl _)))) | exact Imp.drop (Imp.drop (Imp.drop (Imp.drop (Imp.drop (Imp.refl _))))) | exact Imp.drop (Imp.drop (Imp.drop (Imp.drop (Imp.drop (Imp.drop (Imp.refl _)))))) | exact Imp.drop (Imp.drop (Imp.drop (Imp.drop (Imp.drop (Imp.drop (Imp.drop (Imp.refl _))))))) | exact Imp.drop (Imp.drop (Imp.drop (Imp.drop (Imp.drop (Imp.drop (Imp.drop (Imp.drop (Imp.refl _)))))))) | assumption | exact Imp.drop2 (Imp.refl _) | exact Imp.drop2 (Imp.drop2 (Imp.refl _)) | exact Imp.drop (Imp.drop2 (Imp.refl _))) ?_
          · skip
            repeat (first | refine op_ ?_ | refine bx_ (fun _ => ?_))
            refine ha_end (by rfl) (by kernel_rfl) (by first | exact Imp.refl _ | exact Imp.drop (Imp.refl _) | exact Imp.drop (Imp.drop (Imp.refl _)) | exact Imp.drop (Imp.drop (Imp.drop (Imp.refl _))) | exact Imp.drop (Imp.drop (Imp.drop (Imp.drop (Imp.refl _)))) | exact Imp.drop (Imp.drop (Imp.drop (Imp.drop (Imp.drop (Imp.refl _))))) | exact Imp.drop (Imp.drop (Imp.drop (Imp.drop (Imp.drop (Imp.drop (Imp.refl _)))))) | exact Imp.drop (Imp.drop (Imp.drop (Imp.drop (Imp.drop (Imp.drop (Imp.drop (Imp.refl _))))))) | exact Imp.drop (Imp.drop (Imp.drop (Imp.drop (Imp.drop (Imp.drop (Imp.drop (Imp.drop (Imp.refl _)))))))) | assumption | exact Imp.drop2 (Imp.refl _) | exact Imp.drop2 (Imp.drop2 (Imp.refl _)) | exact Imp.drop (Imp.drop2 (Imp.refl _))) ?_
            exact ⟨_, _, ⟨rfl, rfl, rfl, trivial⟩, rfl⟩
    · skip
      repeat (first | refine op_ ?_ | refine bx_ (fun _ => ?_))
      refine ha_fork1 6 (by rfl) (by kernel_rfl) (by rfl) (by first | exact Imp.refl _ | exact Imp.drop (Imp.refl _) | exact Imp.drop (Imp.drop (Imp.refl _)) | exact Imp.drop (Imp.drop (Imp.drop (Imp.refl _))) | exact Imp.drop (Imp.drop (Imp.drop (Imp.drop (Imp.refl _)))) | exact Imp.drop (Imp.drop (Imp.drop (Imp.drop (Imp.drop (Imp.refl _))))) | exact Imp.drop (Imp.drop (Imp.drop (Imp.drop (Imp.drop (Imp.drop (Imp.refl _)))))) | exact Imp.drop (Imp.drop (Imp.drop (Imp.drop (Imp.drop (Imp.drop (Imp.drop (Imp.refl _))))))) | exact Imp.drop (Imp.drop (Imp.drop (Imp.drop (Imp.drop (Imp.drop (Imp.drop (Imp.drop (Imp.refl _)))))))) | assumption | exact Imp.drop2 (Imp.refl _) | exact Imp.drop2 (Imp.drop2 (Imp.refl _)) | exact Imp.drop (Imp.drop2 (Imp.refl _))) ?_
      · skip
        repeat (first | refine op_ ?_ | refine bx_ (fun _ => ?_))
        refine ha_fork1 8 (by rfl) (by kernel_rfl) (by rfl) (by first | exact Imp.refl _ | exact Imp.drop (Imp.refl _) | exact Imp.drop (Imp.drop (Imp.refl _)) | exact Imp.drop (Imp.drop (Imp.drop (Imp.refl _))) | exact Imp.drop (Imp.drop (Imp.drop (Imp.drop (Imp.refl _)))) | exact Imp.drop (Imp.drop (Imp.drop (Imp.drop (Imp.drop (Imp.refl _))))) | exact Imp.drop (Imp.drop (Imp.drop (Imp.drop (Imp.drop (Imp.drop (Imp.refl _)))))) | exact Imp.drop (Imp.drop (Imp.drop (Imp.drop (Imp.drop (Imp.drop (Imp.drop (Imp.refl _))))))) | exact Imp.drop (Imp.drop (Imp.drop (Imp.drop (Imp.drop (Imp.drop (Imp.drop (Imp.drop (Imp.refl _)))))))) | assumption | exact Imp.drop2 (Imp.refl _) | exact Imp.drop2 (Imp.drop2 (Imp.refl _)) | exact Imp.drop (Imp.drop2 (Imp.refl _))) ?_
        · skip
          repeat (first | refine op_ ?_ | refine bx_ (fun _ => ?_))
          refine ha_fork1 9 (by rfl) (by kernel_rfl) (by rfl) (by first | exact Imp.refl _ | exact Imp.drop (Imp.refl _) | exact Imp.drop (Imp.drop (Imp.refl _)) | exact Imp.drop (Imp.drop (Imp.drop (Imp.refl _))) | exact Imp.drop (Imp.drop (Imp.drop (Imp.drop (Imp.refl _)))) | exact Imp.drop (Imp.drop (Imp.drop (Imp.drop (Imp.drop (Imp.refl _))))) | exact Imp.drop (Imp.drop (Imp.drop (Imp.drop (Imp.drop (Imp.drop (Imp.refl _)))))) | exact Imp.drop (Imp.drop (Imp.drop (Imp.drop (Imp.drop (Imp.drop (Imp.drop (Imp.refl _))))))) | exact Imp.drop (Imp.drop (Imp.drop (Imp.drop (Imp.drop (Imp.drop (Imp.drop (Imp.drop (Imp.refl _)))))))) | assumption | exact Imp.drop2 (Imp.refl _) | exact Imp.drop2 (Imp.drop2 (Imp.refl _)) | exact Imp.drop (Imp.drop2 (Imp.refl _))) ?_
          · skip
            repeat (first | refine op_ ?_ | refine bx_ (fun _ => ?_))
            refine ha_end (by rfl) (by kernel_rfl) (by first | exact Imp.refl _ | exact Imp.drop (Imp.refl _) | exact Imp.drop (Imp.drop (Imp.refl _)) | exact Imp.drop (Imp.drop (Imp.drop (Imp.refl _))) | exact Imp.drop (Imp.drop (Imp.drop (Imp.drop (Imp.refl _)))) | exact Imp.drop (Imp.drop (Imp.drop (Imp.drop (Imp.drop (Imp.refl _))))) | exact Imp.drop (Imp.drop (Imp.drop (Imp.drop (Imp.drop (Imp.drop (Imp.refl _)))))) | exact Imp.drop (Imp.drop (Imp.drop (Imp.drop (Imp.drop (Imp.drop (Imp.drop (Imp.refl _))))))) | exact Imp.drop (Imp.drop (Imp.drop (Imp.drop (Imp.drop (Imp.drop (Imp.drop (Imp.drop (Imp.refl _)))))))) | assumption | exact Imp.drop2 (Imp.refl _) | exact Imp.drop2 (Imp.drop2 (Imp.refl _)) | exact Imp.drop (Imp.drop2 (Imp.refl _))) ?_
            exact ⟨_, _, ⟨rfl, rfl, rfl, trivial⟩, rfl⟩
  rintro fr M ⟨g8, g9, hf, rfl⟩
  obtain ⟨base, rfl⟩ := hf.out
  clear hf
  obtain ⟨fx, hfx⟩ : ∃ f : Nat → Int, f = fun i => (nth l i).x := ⟨_, rfl⟩
  obtain ⟨fy, hfy⟩ : ∃ f : Nat → Int, f = fun i => (nth l i).y := ⟨_, rfl⟩
  have bx : ∀ k, k ≤ len → (-1048576 ≤ loR fx k ∧ loR fx k ≤ 1048576) ∧ (-1048576 ≤ hiR fx k ∧ hiR fx k ≤ 1048576) := fun k hk => by
    have : ∀ i, i < k ∨ i = 0 → -1048576 ≤ fx i ∧ fx i ≤ 1048576 := fun i hi => by rw [hfx]; dsimp only; exact (by have := hr _ (nth_mem (l := l) (i := i) (by omega)); unfold Pt.right at this; omega)
    exact ⟨loR_bd k this, hiR_bd k this⟩
  have bY : ∀ k, k ≤ len → (-1048576 ≤ loR fy k ∧ loR fy k ≤ 1048576) ∧ (-1048576 ≤ hiR fy k ∧ hiR fy k ≤ 1048576) := fun k hk => by
    have : ∀ i, i < k ∨ i = 0 → -1048576 ≤ fy i ∧ fy i ≤ 1048576 := fun i hi => by rw [hfy]; dsimp only; exact (by have := hr _ (nth_mem (l := l) (i := i) (by omega)); unfold Pt.right at this; omega)
    exact ⟨loR_bd k this, hiR_bd k this⟩
  repeat (first | refine go_ ?_ | refine bx_ (fun _ => ?_))
  refine hc_loopd (fun q fr M => ∃ k, k + q = len ∧ Agr fr [(8, .pointer (some ⟨g8, 0, none⟩)), (9, .pointer (some ⟨g9, 0, none⟩)), (23, .slice (some ⟨bb, off, none⟩) len cap), (24, .int .i64 (len : Int)), (25, .int .i64 (k : Int))]
    ∧ M = ⟨g9, 34, [.int .i64 (hiR fx k), .int .i64 (hiR fy k)], 2⟩ :: ⟨g8, 34, [.int .i64 (loR fx k), .int .i64 (loR fy k)], 2⟩ :: H) len ?_ ?_
  · exact ⟨0, by omega, ⟨rfl, rfl, rfl, rfl, rfl, trivial⟩, by rw [hfx, hfy]; rfl⟩
  clear base
  rintro q fr M ⟨k, hk, hf, rfl⟩
  obtain ⟨base, rfl⟩ := hf.out
  clear hf
  by_cases hlt : k < len
  · have hp := hl.at' hlt
    have ex : (nth l k).x = fx k := by rw [hfx]
    have ey : (nth l k).y = fy k := by rw [hfy]
    rw [ex, ey] at hp
    repeat (first | refine go_ ?_ | refine bx_ (fun _ => ?_))
    refine hl_loadRN (E := H) rfl hl.rd (Imp.drop (Imp.drop (Imp.refl _))) hp rfl rfl ?_
    repeat (first | refine go_ ?_ | refine bx_ (fun _ => ?_))
    exact ⟨q - 1, by omega, _, Imp.drop3, k + 1, by omega, ⟨rfl, rfl, rfl, rfl, rfl, trivial⟩, rfl⟩
  · obtain rfl : k = len := by omega
    have hbx := bx k (by omega)
    have hby := bY k (by omega)
    rw [← hfx, ← hfy]
    repeat (first | refine go_ ?_ | refine bx_ (fun _ => ?_))
    (refine hc_draw (by kernel_rfl) (by kernel_rfl) ?_; repeat (first | refine gd_ ?_))
    repeat (first | refine go_ ?_ | refine bx_ (fun _ => ?_))
    exact fin5I rfl rfl rfl rfl rfl rfl ⟨rfl, rfl⟩ (Imp.drop (Imp.drop (Imp.refl _)))
end Go.Proofs.Ytdofcjmnnmmecaa
