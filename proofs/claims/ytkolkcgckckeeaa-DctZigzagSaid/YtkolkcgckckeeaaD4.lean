/-
  Blocks as waves: the document's own sums. No condition.
-/
import Derived.Test.YtkolkcgckckeeaaD3
namespace Go.Proofs.Ytkolkcgckckeeaa
open Go.RowKit

def rF1 (u i : Nat) : Int := cA (8 * u + i % 8)
def rF2 (v i : Nat) : Int := cA (8 * v + i / 8)
def rB1 (x i : Nat) : Int := cA (8 * (i % 8) + x)
def rB2 (y i : Nat) : Int := cA (8 * (i / 8) + y)
def rsum (e d : Nat → Nat → Int) (s : Nat → Int) (u v k : Nat) : Int := 33554432 + sumZ (fun i => s i * e u i * d v i) k
def Cor (e : Nat → Nat → Int) : Prop := ∀ u i, u < 8 → i < 64 → -4096 ≤ e u i ∧ e u i ≤ 4096
theorem corF1 : Cor rF1 := fun u i _ _ => cA_bd (by omega)
theorem corF2 : Cor rF2 := fun u i _ _ => cA_bd (by omega)
theorem corB1 : Cor rB1 := fun u i _ _ => cA_bd (by omega)
theorem corB2 : Cor rB2 := fun u i _ _ => cA_bd (by omega)
theorem rsum_bd {e d : Nat → Nat → Int} {s : Nat → Int} {u v k : Nat} (he : Cor e) (hd : Cor d) (hs : Small s) (hu : u < 8) (hv : v < 8) (hk : k ≤ 64) : -18014398543036416 ≤ rsum e d s u v k ∧ rsum e d s u v k ≤ 18014398543036416 := by
  have := sumZ_bd (f := fun i => s i * e u i * d v i) (M := 16777216 * 4096 * 4096) (by decide) k (fun i hi => mul_bd (mul_bd (hs i (by omega)) (he u i hu (by omega))) (hd v i hv (by omega)))
  unfold rsum
  omega
/-- The sum in rows. -/
theorem rows_sum (f : Nat → Int) (a b : Nat → Int) : sumZ (fun i => f i * a (i % 8) * b (i / 8)) 64 = sumZ (fun y => sumZ (fun x => f (y * 8 + x) * a x) 8 * b y) 8 := by
  rw [show 64 = 8 * 8 from rfl, sumZ_split]
  refine sumZ_congr 8 fun y hy => ?_
  rw [← sumZ_mulr]
  refine sumZ_congr 8 fun x hx => ?_
  rw [show (y * 8 + x) % 8 = x by omega, show (y * 8 + x) / 8 = y by omega]
theorem fwd_ref (s : Nat → Int) (u v : Nat) (hu : u < 8) (_hv : v < 8) : rsum rF1 rF2 s u v 64 / 67108864 = fwd s (8 * v + u) := by
  unfold rsum fwd near26
  have h := rows_sum s (fun x => cA (8 * u + x)) (fun y => cA (8 * v + y))
  have e : sumZ (fun i => s i * rF1 u i * rF2 v i) 64 = full cF cG s (8 * v + u) 8 := by
    refine Eq.trans h ?_
    unfold full
    refine sumZ_congr 8 fun y hy => ?_
    congr 1
    · unfold half
      refine sumZ_congr 8 fun x hx => ?_
      congr 1
      · congr 1; omega
      · unfold cF; congr 1; omega
    · unfold cG; congr 1; omega
  rw [e]
  congr 1
  omega
theorem bck_ref (s : Nat → Int) (u v : Nat) (hu : u < 8) (_hv : v < 8) : rsum rB1 rB2 s u v 64 / 67108864 = bck s (8 * v + u) := by
  unfold rsum bck near26
  have h := rows_sum s (fun x => cA (8 * x + u)) (fun y => cA (8 * y + v))
  have e : sumZ (fun i => s i * rB1 u i * rB2 v i) 64 = full dF dG s (8 * v + u) 8 := by
    refine Eq.trans h ?_
    unfold full
    refine sumZ_congr 8 fun y hy => ?_
    congr 1
    · unfold half
      refine sumZ_congr 8 fun x hx => ?_
      congr 1
      · congr 1; omega
      · unfold dF; congr 1; omega
    · unfold dG; congr 1; omega
  rw [e]
  congr 1
  omega

section
variable {w0 : World} {B : Nat} {H : List Ent}
set_option maxHeartbeats 8000000 in
set_option maxRecDepth 100000 in
theorem refF_fn (s : Nat → Int) (hs : Small s) : Fn Try.prog w0 B 17 [.agg (tab 64 s).toArray] H (fun v H' => v = .agg (tab 64 (fwd s)).toArray ∧ H' = H) := by
  refine fn_intro Try.func17 rfl (by kernel_rfl) rfl ?_
  repeat (first | refine go_ ?_ | refine bx_ (fun _ => ?_) | refine hl_callv rfl rfl (All_fn) ?_)
  rename_i g1 g2 g3 g4
  refine hc_loop (fun m fr M => ∃ v, v + m = 8 ∧ Agr fr [(1, .pointer (some ⟨g1, 0, none⟩)), (2, .pointer (some ⟨g2, 0, none⟩)), (3, .pointer (some ⟨g3, 0, none⟩)), (4, .pointer (some ⟨g4, 0, none⟩)), (5, .int .i64 (v : Int))] ∧ M = (⟨g4, 27, tab 64 (dsel (fwd s) (8 * v)), 64⟩ :: ⟨g3, 27, tab 64 cA, 64⟩ :: ⟨g2, 27, tab 64 (fun _ => 0), 64⟩ :: ⟨g1, 27, tab 64 s, 64⟩ :: H)) 8 ?_ ?_
  · exact ⟨0, by omega, ⟨rfl, rfl, rfl, rfl, rfl, trivial⟩, rfl⟩
  rintro m fr M ⟨v, hv, hf, rfl⟩
  obtain ⟨base, rfl⟩ := hf.out
  clear hf
  by_cases hvt : v < 8
  · repeat (first | refine go_ ?_ | refine bx_ (fun _ => ?_))
    refine hc_loop (fun m fr M => ∃ u, u + m = 8 ∧ Agr fr [(1, .pointer (some ⟨g1, 0, none⟩)), (2, .pointer (some ⟨g2, 0, none⟩)), (3, .pointer (some ⟨g3, 0, none⟩)), (4, .pointer (some ⟨g4, 0, none⟩)), (5, .int .i64 (v : Int)), (6, .int .i64 (u : Int))] ∧ M = (⟨g4, 27, tab 64 (dsel (fwd s) (8 * v + u)), 64⟩ :: ⟨g3, 27, tab 64 cA, 64⟩ :: ⟨g2, 27, tab 64 (fun _ => 0), 64⟩ :: ⟨g1, 27, tab 64 s, 64⟩ :: H)) 8 ?_ ?_
    · exact ⟨0, by omega, ⟨rfl, rfl, rfl, rfl, rfl, rfl, trivial⟩, rfl⟩
    clear base
    rintro m2 fr M ⟨u, hu, hf, rfl⟩
    obtain ⟨base, rfl⟩ := hf.out
    clear hf
    by_cases hut : u < 8
    · repeat (first | refine go_ ?_ | refine bx_ (fun _ => ?_))
      refine hc_loop (fun m fr M => ∃ i, i + m = 64 ∧ Agr fr [(1, .pointer (some ⟨g1, 0, none⟩)), (2, .pointer (some ⟨g2, 0, none⟩)), (3, .pointer (some ⟨g3, 0, none⟩)), (4, .pointer (some ⟨g4, 0, none⟩)), (5, .int .i64 (v : Int)), (6, .int .i64 (u : Int)), (7, .int .i64 (rsum rF1 rF2 s u v i)), (8, .int .i64 (i : Int))] ∧ M = (⟨g4, 27, tab 64 (dsel (fwd s) (8 * v + u)), 64⟩ :: ⟨g3, 27, tab 64 cA, 64⟩ :: ⟨g2, 27, tab 64 (fun _ => 0), 64⟩ :: ⟨g1, 27, tab 64 s, 64⟩ :: H)) 64 ?_ ?_
      · exact ⟨0, by omega, ⟨rfl, rfl, rfl, rfl, rfl, rfl, rfl, rfl, trivial⟩, rfl⟩
      clear base
      rintro m3 fr M ⟨i, hi, hf, rfl⟩
      obtain ⟨base, rfl⟩ := hf.out
      clear hf
      by_cases hil : i < 64
      · have b0 := hs i hil
        have b1 := corF1 u i hut hil
        have b2 := corF2 v i hvt hil
        have b3 := mul_bd b0 b1
        have b4 := mul_bd b3 b2
        have b5 := rsum_bd corF1 corF2 hs hut hvt (show i ≤ 64 by omega)
        have b6 := rsum_bd corF1 corF2 hs hut hvt (show i + 1 ≤ 64 by omega)
        have e1 : rsum rF1 rF2 s u v i + s i * rF1 u i * rF2 v i = rsum rF1 rF2 s u v (i + 1) := by unfold rsum; rw [sumZ]; omega
        have hv1 : (tab 64 cA)[8 * u + i % 8]? = some (.int .i64 (rF1 u i)) := by rw [tab_get (by omega)]; rfl
        have hv2 : (tab 64 cA)[8 * v + i / 8]? = some (.int .i64 (rF2 v i)) := by rw [tab_get (by omega)]; rfl
        repeat (first | refine go_ ?_ | refine bx_ (fun _ => ?_))
        refine hc_draw (by kernel_rfl) (by kernel_rfl) ?_
        repeat (first | rw [show 8 * (u : Int) + ((i : Int) % 8) = ((8 * u + i % 8 : Nat) : Int) by omega] | rw [show 8 * (v : Int) + ((i : Int) / 8) = ((8 * v + i / 8 : Nat) : Int) by omega] | rw [e1] | refine gd1_ ?_)
        repeat (first | refine go_ ?_ | refine bx_ (fun _ => ?_))
        exact ⟨m3 - 1, by omega, i + 1, by omega, ⟨rfl, rfl, rfl, rfl, rfl, rfl, rfl, rfl, trivial⟩, rfl⟩
      · obtain rfl : i = 64 := by omega
        have b5 := rsum_bd corF1 corF2 hs hut hvt (show 64 ≤ 64 by omega)
        have hset := dsel_set (fwd s) 64 (8 * v + u)
        rw [← fwd_ref s u v hut hvt] at hset
        repeat (first | rw [show 8 * (v : Int) + (u : Int) = ((8 * v + u : Nat) : Int) by omega] | rw [hset] | refine go1_ ?_ | refine bx_ (fun _ => ?_) | refine hl_callv rfl rfl (down_fn _ _ (by omega) (by omega)) ?_)
        exact ⟨m2 - 1, by omega, u + 1, by omega, ⟨rfl, rfl, rfl, rfl, rfl, rfl, trivial⟩, rfl⟩
    · obtain rfl : u = 8 := by omega
      repeat (first | refine go_ ?_ | refine bx_ (fun _ => ?_))
      exact ⟨m - 1, by omega, v + 1, by omega, ⟨rfl, rfl, rfl, rfl, rfl, trivial⟩, rfl⟩
  · obtain rfl : v = 8 := by omega
    rw [show (8 * 8 : Nat) = 64 from rfl, dsel_end]
    repeat (first | refine go_ ?_ | refine bx_ (fun _ => ?_))
    exact finC rfl rfl .here (length_tab _ _) ⟨rfl, rfl⟩
set_option maxHeartbeats 8000000 in
set_option maxRecDepth 100000 in
theorem refB_fn (s : Nat → Int) (hs : Small s) : Fn Try.prog w0 B 19 [.agg (tab 64 s).toArray] H (fun v H' => v = .agg (tab 64 (bck s)).toArray ∧ H' = H) := by
  refine fn_intro Try.func19 rfl (by kernel_rfl) rfl ?_
  repeat (first | refine go_ ?_ | refine bx_ (fun _ => ?_) | refine hl_callv rfl rfl (All_fn) ?_)
  rename_i g1 g2 g3 g4
  refine hc_loop (fun m fr M => ∃ v, v + m = 8 ∧ Agr fr [(1, .pointer (some ⟨g1, 0, none⟩)), (2, .pointer (some ⟨g2, 0, none⟩)), (3, .pointer (some ⟨g3, 0, none⟩)), (4, .pointer (some ⟨g4, 0, none⟩)), (5, .int .i64 (v : Int))] ∧ M = (⟨g4, 27, tab 64 (dsel (bck s) (8 * v)), 64⟩ :: ⟨g3, 27, tab 64 cA, 64⟩ :: ⟨g2, 27, tab 64 (fun _ => 0), 64⟩ :: ⟨g1, 27, tab 64 s, 64⟩ :: H)) 8 ?_ ?_
  · exact ⟨0, by omega, ⟨rfl, rfl, rfl, rfl, rfl, trivial⟩, rfl⟩
  rintro m fr M ⟨v, hv, hf, rfl⟩
  obtain ⟨base, rfl⟩ := hf.out
  clear hf
  by_cases hvt : v < 8
  · repeat (first | refine go_ ?_ | refine bx_ (fun _ => ?_))
    refine hc_loop (fun m fr M => ∃ u, u + m = 8 ∧ Agr fr [(1, .pointer (some ⟨g1, 0, none⟩)), (2, .pointer (some ⟨g2, 0, none⟩)), (3, .pointer (some ⟨g3, 0, none⟩)), (4, .pointer (some ⟨g4, 0, none⟩)), (5, .int .i64 (v : Int)), (6, .int .i64 (u : Int))] ∧ M = (⟨g4, 27, tab 64 (dsel (bck s) (8 * v + u)), 64⟩ :: ⟨g3, 27, tab 64 cA, 64⟩ :: ⟨g2, 27, tab 64 (fun _ => 0), 64⟩ :: ⟨g1, 27, tab 64 s, 64⟩ :: H)) 8 ?_ ?_
    · exact ⟨0, by omega, ⟨rfl, rfl, rfl, rfl, rfl, rfl, trivial⟩, rfl⟩
    clear base
    rintro m2 fr M ⟨u, hu, hf, rfl⟩
    obtain ⟨base, rfl⟩ := hf.out
    clear hf
    by_cases hut : u < 8
    · repeat (first | refine go_ ?_ | refine bx_ (fun _ => ?_))
      refine hc_loop (fun m fr M => ∃ i, i + m = 64 ∧ Agr fr [(1, .pointer (some ⟨g1, 0, none⟩)), (2, .pointer (some ⟨g2, 0, none⟩)), (3, .pointer (some ⟨g3, 0, none⟩)), (4, .pointer (some ⟨g4, 0, none⟩)), (5, .int .i64 (v : Int)), (6, .int .i64 (u : Int)), (7, .int .i64 (rsum rB1 rB2 s u v i)), (8, .int .i64 (i : Int))] ∧ M = (⟨g4, 27, tab 64 (dsel (bck s) (8 * v + u)), 64⟩ :: ⟨g3, 27, tab 64 cA, 64⟩ :: ⟨g2, 27, tab 64 (fun _ => 0), 64⟩ :: ⟨g1, 27, tab 64 s, 64⟩ :: H)) 64 ?_ ?_
      · exact ⟨0, by omega, ⟨rfl, rfl, rfl, rfl, rfl, rfl, rfl, rfl, trivial⟩, rfl⟩
      clear base
      rintro m3 fr M ⟨i, hi, hf, rfl⟩
      obtain ⟨base, rfl⟩ := hf.out
      clear hf
      by_cases hil : i < 64
      · have b0 := hs i hil
        have b1 := corB1 u i hut hil
        have b2 := corB2 v i hvt hil
        have b3 := mul_bd b0 b1
        have b4 := mul_bd b3 b2
        have b5 := rsum_bd corB1 corB2 hs hut hvt (show i ≤ 64 by omega)
        have b6 := rsum_bd corB1 corB2 hs hut hvt (show i + 1 ≤ 64 by omega)
        have e1 : rsum rB1 rB2 s u v i + s i * rB1 u i * rB2 v i = rsum rB1 rB2 s u v (i + 1) := by unfold rsum; rw [sumZ]; omega
        have hv1 : (tab 64 cA)[8 * (i % 8) + u]? = some (.int .i64 (rB1 u i)) := by rw [tab_get (by omega)]; rfl
        have hv2 : (tab 64 cA)[8 * (i / 8) + v]? = some (.int .i64 (rB2 v i)) := by rw [tab_get (by omega)]; rfl
        repeat (first | refine go_ ?_ | refine bx_ (fun _ => ?_))
        refine hc_draw (by kernel_rfl) (by kernel_rfl) ?_
        repeat (first | rw [show 8 * (((i : Int) % 8)) + (u : Int) = ((8 * (i % 8) + u : Nat) : Int) by omega] | rw [show 8 * (((i : Int) / 8)) + (v : Int) = ((8 * (i / 8) + v : Nat) : Int) by omega] | rw [e1] | refine gd1_ ?_)
        repeat (first | refine go_ ?_ | refine bx_ (fun _ => ?_))
        exact ⟨m3 - 1, by omega, i + 1, by omega, ⟨rfl, rfl, rfl, rfl, rfl, rfl, rfl, rfl, trivial⟩, rfl⟩
      · obtain rfl : i = 64 := by omega
        have b5 := rsum_bd corB1 corB2 hs hut hvt (show 64 ≤ 64 by omega)
        have hset := dsel_set (bck s) 64 (8 * v + u)
        rw [← bck_ref s u v hut hvt] at hset
        repeat (first | rw [show 8 * (v : Int) + (u : Int) = ((8 * v + u : Nat) : Int) by omega] | rw [hset] | refine go1_ ?_ | refine bx_ (fun _ => ?_) | refine hl_callv rfl rfl (down_fn _ _ (by omega) (by omega)) ?_)
        exact ⟨m2 - 1, by omega, u + 1, by omega, ⟨rfl, rfl, rfl, rfl, rfl, rfl, trivial⟩, rfl⟩
    · obtain rfl : u = 8 := by omega
      repeat (first | refine go_ ?_ | refine bx_ (fun _ => ?_))
      exact ⟨m - 1, by omega, v + 1, by omega, ⟨rfl, rfl, rfl, rfl, rfl, trivial⟩, rfl⟩
  · obtain rfl : v = 8 := by omega
    rw [show (8 * 8 : Nat) = 64 from rfl, dsel_end]
    repeat (first | refine go_ ?_ | refine bx_ (fun _ => ?_))
    exact finC rfl rfl .here (length_tab _ _) ⟨rfl, rfl⟩
end
end Go.Proofs.Ytkolkcgckckeeaa
