/-
  Maps of the plane: the back map, the product. No condition.
-/
import Derived.Test.YtbgdligfdfhbkaaA1
namespace Go.Proofs.Ytbgdligfdfhbkaa
open Go.RowKit

def L6 (a b c d e f : Int) (k : Nat) : Int := [a, b, c, d, e, f].getD k 0
def Z6 : Nat → Int := fun _ => 0
def det (m : Nat → Int) : Int := m 0 * m 3 - m 1 * m 2
def four (m : Nat → Int) : Nat → Int := L6 (rndZ (m 3 * 4294967296) (det m)) (rndZ (-m 1 * 4294967296) (det m)) (rndZ (-m 2 * 4294967296) (det m)) (rndZ (m 0 * 4294967296) (det m)) 0 0
def backZ (m : Nat → Int) : Nat → Int :=
  L6 (four m 0) (four m 1) (four m 2) (four m 3) (near16 (-(four m 0 * m 4 + four m 1 * m 5))) (near16 (-(four m 2 * m 4 + four m 3 * m 5)))
def backR (m : Nat → Int) : (Nat → Int) × Int :=
  if Rt m then (if det m = 0 then (Z6, 33) else if Rt (four m) then (if Rt (backZ m) then (backZ m, 0) else (Z6, 33)) else (Z6, 33)) else (Z6, 31)
def timesZ (m n : Nat → Int) : Nat → Int :=
  L6 (near16 (m 0 * n 0 + m 1 * n 2)) (near16 (m 0 * n 1 + m 1 * n 3)) (near16 (m 2 * n 0 + m 3 * n 2)) (near16 (m 2 * n 1 + m 3 * n 3)) (near16 (m 0 * n 4 + m 1 * n 5) + m 4) (near16 (m 2 * n 4 + m 3 * n 5) + m 5)
def timesR (m n : Nat → Int) : (Nat → Int) × Int := if Rt m ∧ Rt n then (if Rt (timesZ m n) then (timesZ m n, 0) else (Z6, 31)) else (Z6, 31)
theorem L6_sm {a b c d e f : Int} (ha : Big a) (hb : Big b) (hc : Big c) (hd : Big d) (he : Big e) (hf : Big f) : Sm (L6 a b c d e f) := fun i hi => by
  unfold Big at *
  match i, hi with
  | 0, _ => show -9223372036854775808 ≤ a ∧ a ≤ 9223372036854775807; omega
  | 1, _ => show -9223372036854775808 ≤ b ∧ b ≤ 9223372036854775807; omega
  | 2, _ => show -9223372036854775808 ≤ c ∧ c ≤ 9223372036854775807; omega
  | 3, _ => show -9223372036854775808 ≤ d ∧ d ≤ 9223372036854775807; omega
  | 4, _ => show -9223372036854775808 ≤ e ∧ e ≤ 9223372036854775807; omega
  | 5, _ => show -9223372036854775808 ≤ f ∧ f ≤ 9223372036854775807; omega
theorem rnd_big {n d : Int} (hn : Mid n) (hd : Mid d) (h0 : d ≠ 0) : Big (rndZ n d) := by
  unfold rndZ
  unfold Mid at hn hd
  split
  · exact ediv_big (by unfold Big; omega) (by omega)
  · exact ediv_big (by unfold Big; omega) (by omega)
section
variable {w0 : World} {B : Nat} {H : List Ent}
theorem lit6 (a b c d e f : Int) : [Value.int .i64 a, .int .i64 b, .int .i64 c, .int .i64 d, .int .i64 e, .int .i64 f] = tab 6 (L6 a b c d e f) := rfl
set_option maxHeartbeats 8000000 in
set_option maxRecDepth 100000 in
theorem back_fn (m : Nat → Int) (hs : Sm m) : Fn Try.prog w0 B 13 [mapV m] H (fun v H' => v = .tuple #[mapV (backR m).1, .int .i64 (backR m).2] ∧ H' = H) := by
  refine fn_intro Try.func13 rfl (by kernel_rfl) rfl ?_
  unfold mapV
  unfold backR
  by_cases h1 : ¬ Rt m
  · rw [if_neg h1]
    repeat (first | refine go_ ?_ | refine bx_ (fun _ => ?_) | refine hl_callv rfl rfl (rightN m hs h1) ?_)
    exact finCI rfl rfl .here rfl rfl ⟨rfl, rfl⟩
  replace h1 := Classical.not_not.1 h1
  rw [if_pos h1]
  have b0 := h1.1 0 (by omega)
  have b1 := h1.1 1 (by omega)
  have b2 := h1.1 2 (by omega)
  have b3 := h1.1 3 (by omega)
  have b4 := h1.2 4 (by omega) (by omega)
  have b5 := h1.2 5 (by omega) (by omega)
  have p1 := mul_bd b0 b3
  have p2 := mul_bd b1 b2
  have hdm : Mid (det m) := by unfold Mid det; omega
  have hde : m 0 * m 3 - m 1 * m 2 = det m := rfl
  by_cases h2 : det m = 0
  · rw [if_pos h2]
    repeat (first | rw [hde] | refine go1_ ?_ | refine bx_ (fun _ => ?_) | refine hl_callv rfl rfl (rightY m hs h1) ?_)
    exact finCI rfl rfl .here rfl rfl ⟨rfl, rfl⟩
  rw [if_neg h2]
  have q0 := rnd_big (n := m 3 * 4294967296) (by unfold Mid; omega) hdm h2
  have q1 := rnd_big (n := -m 1 * 4294967296) (by unfold Mid; omega) hdm h2
  have q2 := rnd_big (n := -m 2 * 4294967296) (by unfold Mid; omega) hdm h2
  have q3 := rnd_big (n := m 0 * 4294967296) (by unfold Mid; omega) hdm h2
  have z0 : Big 0 := by unfold Big; omega
  have hs4 : Sm (four m) := L6_sm q0 q1 q2 q3 z0 z0
  repeat (first | rw [hde] | refine go1_ ?_ | refine bx_ (fun _ => ?_) | refine hl_callv rfl rfl (rightY m hs h1) ?_)
  rename_i g1 g2
  refine hc_meet (fun fr M => ∃ g5, Agr fr [(1, .pointer (some ⟨g1, 0, none⟩)), (2, .pointer (some ⟨g2, 0, none⟩)), (5, .pointer (some ⟨g5, 0, none⟩))] ∧ M = ⟨g5, 23, tab 6 (four m), 6⟩ :: ⟨g2, 23, tab 6 Z6, 6⟩ :: ⟨g1, 23, tab 6 m, 6⟩ :: H) ?_ ?_
  · refine hc_drawA (⟨g1, 23, tab 6 m, 6⟩ :: H) (by kernel_rfl) ?_
    refine ha_quiet [0, 1, 2, 3, 4, 5, 6, 7, 8, 9, 10, 11, 12, 13, 14, 15, 16, 17, 18, 19, 20, 21, 22] (by rfl) (by kernel_rfl) ?_
    repeat (first | rw [show (2 : Int) ^ 32 = 4294967296 from rfl] | refine gd1_ ?_ | refine hq_call rfl rfl (fun H _ => round_fn _ _ (by unfold Mid; omega) hdm h2) ?_)
    refine ha_fork1 23 (by rfl) (by kernel_rfl) (by rfl) (by first | exact Imp.refl _ | exact Imp.drop (Imp.refl _) | exact Imp.drop (Imp.drop (Imp.refl _)) | exact Imp.drop (Imp.drop (Imp.drop (Imp.refl _))) | exact Imp.drop (Imp.drop (Imp.drop (Imp.drop (Imp.refl _)))) | exact Imp.drop (Imp.drop (Imp.drop (Imp.drop (Imp.drop (Imp.refl _))))) | exact Imp.drop (Imp.drop (Imp.drop (Imp.drop (Imp.drop (Imp.drop (Imp.refl _)))))) | exact Imp.drop (Imp.drop (Imp.drop (Imp.drop (Imp.drop (Imp.drop (Imp.drop (Imp.refl _))))))) | exact Imp.drop (Imp.drop (Imp.drop (Imp.drop (Imp.drop (Imp.drop (Imp.drop (Imp.drop (Imp.refl _)))))))) | assumption | exact Imp.drop2 (Imp.refl _) | exact Imp.drop2 (Imp.drop2 (Imp.refl _)) | exact Imp.drop (Imp.drop2 (Imp.refl _))) ?_
    · skip
      repeat (first | refine op_ ?_ | refine bx_ (fun _ => ?_))
      refine ha_fork1 24 (by rfl) (by kernel_rfl) (by rfl) (by first | exact Imp.refl _ | exact Imp.drop (Imp.refl _) | exact Imp.drop (Imp.drop (Imp.refl _)) | exact Imp.drop (Imp.drop (Imp.drop (Imp.refl _))) | exact Imp.drop (Imp.drop (Imp.drop (Imp.drop (Imp.refl _)))) | exact Imp.drop (Imp.drop (Imp.drop (Imp.drop (Imp.drop (Imp.refl _))))) | exact Imp.drop (Imp.drop (Imp.drop (Imp.drop (Imp.drop (Imp.drop (Imp.refl _)))))) | exact Imp.drop (Imp.drop (Imp.drop (Imp.drop (Imp.drop (Imp.drop (Imp.drop (Imp.refl _))))))) | exact Imp.drop (Imp.drop (Imp.drop (Imp.drop (Imp.drop (Imp.drop (Imp.drop (Imp.drop (Imp.refl _)))))))) | assumption | exact Imp.drop2 (Imp.refl _) | exact Imp.drop2 (Imp.drop2 (Imp.refl _)) | exact Imp.drop (Imp.drop2 (Imp.refl _))) ?_
      · skip
        repeat (first | refine op_ ?_ | refine bx_ (fun _ => ?_))
        refine ha_end (by rfl) (by kernel_rfl) (by first | exact Imp.refl _ | exact Imp.drop (Imp.refl _) | exact Imp.drop (Imp.drop (Imp.refl _)) | exact Imp.drop (Imp.drop (Imp.drop (Imp.refl _))) | exact Imp.drop (Imp.drop (Imp.drop (Imp.drop (Imp.refl _)))) | exact Imp.drop (Imp.drop (Imp.drop (Imp.drop (Imp.drop (Imp.refl _))))) | exact Imp.drop (Imp.drop (Imp.drop (Imp.drop (Imp.drop (Imp.drop (Imp.refl _)))))) | exact Imp.drop (Imp.drop (Imp.drop (Imp.drop (Imp.drop (Imp.drop (Imp.drop (Imp.refl _))))))) | exact Imp.drop (Imp.drop (Imp.drop (Imp.drop (Imp.drop (Imp.drop (Imp.drop (Imp.drop (Imp.refl _)))))))) | assumption | exact Imp.drop2 (Imp.refl _) | exact Imp.drop2 (Imp.drop2 (Imp.refl _)) | exact Imp.drop (Imp.drop2 (Imp.refl _))) ?_
        exact ⟨_, ⟨rfl, rfl, rfl, trivial⟩, rfl⟩
  rintro fr M ⟨g5, hf, rfl⟩
  obtain ⟨base, rfl⟩ := hf.out
  clear hf
  by_cases h3 : ¬ Rt (four m)
  · rw [if_neg h3]
    repeat (first | refine go_ ?_ | refine bx_ (fun _ => ?_) | refine hl_callv rfl rfl (rightN (four m) hs4 h3) ?_)
    exact finCI rfl rfl .here rfl rfl ⟨rfl, rfl⟩
  replace h3 := Classical.not_not.1 h3
  rw [if_pos h3]
  have c0 := h3.1 0 (by omega)
  have c1 := h3.1 1 (by omega)
  have c2 := h3.1 2 (by omega)
  have c3 := h3.1 3 (by omega)
  have r1 := mul_bd c0 b4
  have r2 := mul_bd c1 b5
  have r3 := mul_bd c2 b4
  have r4 := mul_bd c3 b5
  have hz4 : four m 4 = 0 := rfl
  have hz5 : four m 5 = 0 := rfl
  have hsb : Sm (backZ m) := L6_sm (by unfold Big; omega) (by unfold Big; omega) (by unfold Big; omega) (by unfold Big; omega) (by unfold Big near16; omega) (by unfold Big near16; omega)
  have s1 : ((tab 6 (four m)).set 4 (.int .i64 (near16 (-(four m 0 * m 4 + four m 1 * m 5))))).set 5 (.int .i64 (near16 (-(four m 2 * m 4 + four m 3 * m 5)))) = tab 6 (backZ m) := rfl
  have v2 : ((tab 6 (four m)).set 4 (.int .i64 (near16 (-(four m 0 * m 4 + four m 1 * m 5)))))[2]? = some (.int .i64 (four m 2)) := rfl
  have v3 : ((tab 6 (four m)).set 4 (.int .i64 (near16 (-(four m 0 * m 4 + four m 1 * m 5)))))[3]? = some (.int .i64 (four m 3)) := rfl
  by_cases h4 : Rt (backZ m)
  · rw [if_pos h4]
    repeat (first | rw [s1] | refine go1_ ?_ | refine bx_ (fun _ => ?_) | refine hl_callv rfl rfl (rightY (four m) hs4 h3) ?_ | refine hl_callv rfl rfl (near_fn _ (by unfold Near; omega)) ?_ | refine hl_callv rfl rfl (rightY (backZ m) hsb h4) ?_)
    exact finCI rfl rfl .here rfl rfl ⟨rfl, rfl⟩
  · rw [if_neg h4]
    repeat (first | rw [s1] | refine go1_ ?_ | refine bx_ (fun _ => ?_) | refine hl_callv rfl rfl (rightY (four m) hs4 h3) ?_ | refine hl_callv rfl rfl (near_fn _ (by unfold Near; omega)) ?_ | refine hl_callv rfl rfl (rightN (backZ m) hsb h4) ?_)
    exact finCI rfl rfl .here rfl rfl ⟨rfl, rfl⟩
set_option maxHeartbeats 8000000 in
set_option maxRecDepth 100000 in
theorem rback_fn (m : Nat → Int) (hs : Sm m) : Fn Try.prog w0 B 14 [mapV m] H (fun v H' => v = .tuple #[mapV (backR m).1, .int .i64 (backR m).2] ∧ H' = H) := by
  refine fn_intro Try.func14 rfl (by kernel_rfl) rfl ?_
  unfold mapV
  unfold backR
  by_cases h1 : ¬ Rt m
  · rw [if_neg h1]
    repeat (first | refine go_ ?_ | refine bx_ (fun _ => ?_) | refine hl_callv rfl rfl (rrightN m hs h1) ?_)
    exact finCI rfl rfl .here rfl rfl ⟨rfl, rfl⟩
  replace h1 := Classical.not_not.1 h1
  rw [if_pos h1]
  have b0 := h1.1 0 (by omega)
  have b1 := h1.1 1 (by omega)
  have b2 := h1.1 2 (by omega)
  have b3 := h1.1 3 (by omega)
  have b4 := h1.2 4 (by omega) (by omega)
  have b5 := h1.2 5 (by omega) (by omega)
  have p1 := mul_bd b0 b3
  have p2 := mul_bd b1 b2
  have hdm : Mid (det m) := by unfold Mid det; omega
  have hde : m 0 * m 3 - m 1 * m 2 = det m := rfl
  by_cases h2 : det m = 0
  · rw [if_pos h2]
    repeat (first | rw [hde] | refine go1_ ?_ | refine bx_ (fun _ => ?_) | refine hl_callv rfl rfl (rrightY m hs h1) ?_)
    exact finCI rfl rfl .here rfl rfl ⟨rfl, rfl⟩
  rw [if_neg h2]
  have q0 := rnd_big (n := m 3 * 4294967296) (by unfold Mid; omega) hdm h2
  have q1 := rnd_big (n := -m 1 * 4294967296) (by unfold Mid; omega) hdm h2
  have q2 := rnd_big (n := -m 2 * 4294967296) (by unfold Mid; omega) hdm h2
  have q3 := rnd_big (n := m 0 * 4294967296) (by unfold Mid; omega) hdm h2
  have z0 : Big 0 := by unfold Big; omega
  have hs4 : Sm (four m) := L6_sm q0 q1 q2 q3 z0 z0
  repeat (first | rw [hde] | refine go1_ ?_ | refine bx_ (fun _ => ?_) | refine hl_callv rfl rfl (rrightY m hs h1) ?_)
  rename_i g1 g2
  refine hc_meet (fun fr M => ∃ g5, Agr fr [(1, .pointer (some ⟨g1, 0, none⟩)), (2, .pointer (some ⟨g2, 0, none⟩)), (6, .pointer (some ⟨g5, 0, none⟩))] ∧ M = ⟨g5, 28, tab 6 (four m), 6⟩ :: ⟨g2, 28, tab 6 Z6, 6⟩ :: ⟨g1, 28, tab 6 m, 6⟩ :: H) ?_ ?_
  · refine hc_drawA (⟨g1, 28, tab 6 m, 6⟩ :: H) (by kernel_rfl) ?_
    refine ha_quiet [0, 1, 2, 3, 4, 5, 6, 7, 8, 9, 10, 11, 12, 13, 14, 15, 16, 17, 18, 19, 20, 21, 22, 23, 24, 25, 26] (by rfl) (by kernel_rfl) ?_
    repeat (first | refine gd_ ?_ | refine hq_call rfl rfl (fun H _ => rround_fn _ _ (by unfold Mid; omega) hdm h2) ?_)
    refine ha_fork1 27 (by rfl) (by kernel_rfl) (by rfl) (by first | exact Imp.refl _ | exact Imp.drop (Imp.refl _) | exact Imp.drop (Imp.drop (Imp.refl _)) | exact Imp.drop (Imp.drop (Imp.drop (Imp.refl _))) | exact Imp.drop (Imp.drop (Imp.drop (Imp.drop (Imp.refl _)))) | exact Imp.drop (Imp.drop (Imp.drop (Imp.drop (Imp.drop (Imp.refl _))))) | exact Imp.drop (Imp.drop (Imp.drop (Imp.drop (Imp.drop (Imp.drop (Imp.refl _)))))) | exact Imp.drop (Imp.drop (Imp.drop (Imp.drop (Imp.drop (Imp.drop (Imp.drop (Imp.refl _))))))) | exact Imp.drop (Imp.drop (Imp.drop (Imp.drop (Imp.drop (Imp.drop (Imp.drop (Imp.drop (Imp.refl _)))))))) | assumption | exact Imp.drop2 (Imp.refl _) | exact Imp.drop2 (Imp.drop2 (Imp.refl _)) | exact Imp.drop (Imp.drop2 (Imp.refl _))) ?_
    · skip
      repeat (first | refine op_ ?_ | refine bx_ (fun _ => ?_))
      refine ha_fork1 28 (by rfl) (by kernel_rfl) (by rfl) (by first | exact Imp.refl _ | exact Imp.drop (Imp.refl _) | exact Imp.drop (Imp.drop (Imp.refl _)) | exact Imp.drop (Imp.drop (Imp.drop (Imp.refl _))) | exact Imp.drop (Imp.drop (Imp.drop (Imp.drop (Imp.refl _)))) | exact Imp.drop (Imp.drop (Imp.drop (Imp.drop (Imp.drop (Imp.refl _))))) | exact Imp.drop (Imp.drop (Imp.drop (Imp.drop (Imp.drop (Imp.drop (Imp.refl _)))))) | exact Imp.drop (Imp.drop (Imp.drop (Imp.drop (Imp.drop (Imp.drop (Imp.drop (Imp.refl _))))))) | exact Imp.drop (Imp.drop (Imp.drop (Imp.drop (Imp.drop (Imp.drop (Imp.drop (Imp.drop (Imp.refl _)))))))) | assumption | exact Imp.drop2 (Imp.refl _) | exact Imp.drop2 (Imp.drop2 (Imp.refl _)) | exact Imp.drop (Imp.drop2 (Imp.refl _))) ?_
      · skip
        repeat (first | refine op_ ?_ | refine bx_ (fun _ => ?_))
        refine ha_end (by rfl) (by kernel_rfl) (by first | exact Imp.refl _ | exact Imp.drop (Imp.refl _) | exact Imp.drop (Imp.drop (Imp.refl _)) | exact Imp.drop (Imp.drop (Imp.drop (Imp.refl _))) | exact Imp.drop (Imp.drop (Imp.drop (Imp.drop (Imp.refl _)))) | exact Imp.drop (Imp.drop (Imp.drop (Imp.drop (Imp.drop (Imp.refl _))))) | exact Imp.drop (Imp.drop (Imp.drop (Imp.drop (Imp.drop (Imp.drop (Imp.refl _)))))) | exact Imp.drop (Imp.drop (Imp.drop (Imp.drop (Imp.drop (Imp.drop (Imp.drop (Imp.refl _))))))) | exact Imp.drop (Imp.drop (Imp.drop (Imp.drop (Imp.drop (Imp.drop (Imp.drop (Imp.drop (Imp.refl _)))))))) | assumption | exact Imp.drop2 (Imp.refl _) | exact Imp.drop2 (Imp.drop2 (Imp.refl _)) | exact Imp.drop (Imp.drop2 (Imp.refl _))) ?_
        exact ⟨_, ⟨rfl, rfl, rfl, trivial⟩, rfl⟩
  rintro fr M ⟨g5, hf, rfl⟩
  obtain ⟨base, rfl⟩ := hf.out
  clear hf
  by_cases h3 : ¬ Rt (four m)
  · rw [if_neg h3]
    repeat (first | refine go_ ?_ | refine bx_ (fun _ => ?_) | refine hl_callv rfl rfl (rrightN (four m) hs4 h3) ?_)
    exact finCI rfl rfl .here rfl rfl ⟨rfl, rfl⟩
  replace h3 := Classical.not_not.1 h3
  rw [if_pos h3]
  have c0 := h3.1 0 (by omega)
  have c1 := h3.1 1 (by omega)
  have c2 := h3.1 2 (by omega)
  have c3 := h3.1 3 (by omega)
  have r1 := mul_bd c0 b4
  have r2 := mul_bd c1 b5
  have r3 := mul_bd c2 b4
  have r4 := mul_bd c3 b5
  have hz4 : four m 4 = 0 := rfl
  have hz5 : four m 5 = 0 := rfl
  have hsb : Sm (backZ m) := L6_sm (by unfold Big; omega) (by unfold Big; omega) (by unfold Big; omega) (by unfold Big; omega) (by unfold Big near16; omega) (by unfold Big near16; omega)
  have s1 : ((tab 6 (four m)).set 4 (.int .i64 (near16 (-(four m 0 * m 4 + four m 1 * m 5))))).set 5 (.int .i64 (near16 (-(four m 2 * m 4 + four m 3 * m 5)))) = tab 6 (backZ m) := rfl
  have v2 : ((tab 6 (four m)).set 4 (.int .i64 (near16 (-(four m 0 * m 4 + four m 1 * m 5)))))[2]? = some (.int .i64 (four m 2)) := rfl
  have v3 : ((tab 6 (four m)).set 4 (.int .i64 (near16 (-(four m 0 * m 4 + four m 1 * m 5)))))[3]? = some (.int .i64 (four m 3)) := rfl
  by_cases h4 : Rt (backZ m)
  · rw [if_pos h4]
    repeat (first | rw [s1] | refine go1_ ?_ | refine bx_ (fun _ => ?_) | refine hl_callv rfl rfl (rrightY (four m) hs4 h3) ?_ | refine hl_callv rfl rfl (rnear_fn _ (by unfold Near; omega)) ?_ | refine hl_callv rfl rfl (rrightY (backZ m) hsb h4) ?_)
    exact finCI rfl rfl .here rfl rfl ⟨rfl, rfl⟩
  · rw [if_neg h4]
    repeat (first | rw [s1] | refine go1_ ?_ | refine bx_ (fun _ => ?_) | refine hl_callv rfl rfl (rrightY (four m) hs4 h3) ?_ | refine hl_callv rfl rfl (rnear_fn _ (by unfold Near; omega)) ?_ | refine hl_callv rfl rfl (rrightN (backZ m) hsb h4) ?_)
    exact finCI rfl rfl .here rfl rfl ⟨rfl, rfl⟩
theorem one_fn : Fn Try.prog w0 B 23 [] H (fun v H' => v = mapV (L6 65536 0 0 65536 0 0) ∧ H' = H) := by
  refine fn_intro Try.func23 rfl (by kernel_rfl) rfl ?_
  repeat (first | refine go_ ?_ | refine bx_ (fun _ => ?_))
  exact finC rfl rfl .here rfl ⟨rfl, rfl⟩
set_option maxHeartbeats 8000000 in
set_option maxRecDepth 100000 in
theorem times_fn (m n : Nat → Int) (hm : Sm m) (hn : Sm n) : Fn Try.prog w0 B 24 [mapV m, mapV n] H (fun v H' => v = .tuple #[mapV (timesR m n).1, .int .i64 (timesR m n).2] ∧ H' = H) := by
  refine fn_intro Try.func24 rfl (by kernel_rfl) rfl ?_
  unfold mapV
  unfold timesR
  by_cases h1 : ¬ Rt m
  · rw [if_neg (fun h => h1 h.1)]
    repeat (first | refine go_ ?_ | refine bx_ (fun _ => ?_) | refine hl_callv rfl rfl (rightN m hm h1) ?_)
    exact finCI rfl rfl .here rfl rfl ⟨rfl, rfl⟩
  replace h1 := Classical.not_not.1 h1
  by_cases h2 : ¬ Rt n
  · rw [if_neg (fun h => h2 h.2)]
    repeat (first | refine go_ ?_ | refine bx_ (fun _ => ?_) | refine hl_callv rfl rfl (rightY m hm h1) ?_ | refine hl_callv rfl rfl (rightN n hn h2) ?_)
    exact finCI rfl rfl .here rfl rfl ⟨rfl, rfl⟩
  replace h2 := Classical.not_not.1 h2
  rw [if_pos ⟨h1, h2⟩]
  have m0 := h1.1 0 (by omega)
  have m1 := h1.1 1 (by omega)
  have m2 := h1.1 2 (by omega)
  have m3 := h1.1 3 (by omega)
  have m4 := h1.2 4 (by omega) (by omega)
  have m5 := h1.2 5 (by omega) (by omega)
  have n0 := h2.1 0 (by omega)
  have n1 := h2.1 1 (by omega)
  have n2 := h2.1 2 (by omega)
  have n3 := h2.1 3 (by omega)
  have n4 := h2.2 4 (by omega) (by omega)
  have n5 := h2.2 5 (by omega) (by omega)
  have p00 := mul_bd m0 n0
  have p12 := mul_bd m1 n2
  have p01 := mul_bd m0 n1
  have p13 := mul_bd m1 n3
  have p20 := mul_bd m2 n0
  have p32 := mul_bd m3 n2
  have p21 := mul_bd m2 n1
  have p33 := mul_bd m3 n3
  have p04 := mul_bd m0 n4
  have p15 := mul_bd m1 n5
  have p24 := mul_bd m2 n4
  have p35 := mul_bd m3 n5
  have hst : Sm (timesZ m n) := L6_sm (by unfold Big near16; omega) (by unfold Big near16; omega) (by unfold Big near16; omega) (by unfold Big near16; omega) (by unfold Big near16; omega) (by unfold Big near16; omega)
  have l1 : ∀ x : Int, Near x → -9223372036854775808 ≤ near16 x + m 4 ∧ near16 x + m 4 ≤ 9223372036854775807 := fun x hx => by unfold Near near16 at *; omega
  have l2 : ∀ x : Int, Near x → -9223372036854775808 ≤ near16 x + m 5 ∧ near16 x + m 5 ≤ 9223372036854775807 := fun x hx => by unfold Near near16 at *; omega
  have k1 := l1 (m 0 * n 4 + m 1 * n 5) (by unfold Near; omega)
  have k2 := l2 (m 2 * n 4 + m 3 * n 5) (by unfold Near; omega)
  repeat (first | refine go_ ?_ | refine bx_ (fun _ => ?_) | refine hl_callv rfl rfl (rightY m hm h1) ?_ | refine hl_callv rfl rfl (rightY n hn h2) ?_)
  rename_i g2 g3 g4
  refine hc_meet (fun fr M => ∃ g6, Agr fr [(4, .pointer (some ⟨g4, 0, none⟩)), (6, .pointer (some ⟨g6, 0, none⟩))] ∧ M = ⟨g6, 23, tab 6 (timesZ m n), 6⟩ :: ⟨g4, 23, tab 6 Z6, 6⟩ :: ⟨g3, 23, tab 6 n, 6⟩ :: ⟨g2, 23, tab 6 m, 6⟩ :: H) ?_ ?_
  · refine hc_drawA (⟨g3, 23, tab 6 n, 6⟩ :: ⟨g2, 23, tab 6 m, 6⟩ :: H) (by kernel_rfl) ?_
    refine ha_quiet [0, 1, 2, 3, 4, 5, 6, 7, 8, 9, 10, 11, 12, 13, 14, 15, 16, 17, 18, 19, 20, 21, 22, 23, 24, 25, 26, 27, 28, 29, 30, 31, 32, 33, 34, 35, 36, 37, 38, 39, 40, 41, 42, 43, 44, 45, 46, 47, 48, 49, 50, 51, 52, 53, 54, 55, 56, 57, 58, 59, 60, 61, 62, 63, 64, 65, 66, 67, 68, 69, 70, 71, 72, 73, 74, 75, 76, 77, 78] (by rfl) (by kernel_rfl) ?_
    repeat (first | refine gd_ ?_ | refine hq_call rfl rfl (fun H _ => near_fn _ (by unfold Near; omega)) ?_)
    refine ha_fork1 79 (by rfl) (by kernel_rfl) (by rfl) (by first | exact Imp.refl _ | exact Imp.drop (Imp.refl _) | exact Imp.drop (Imp.drop (Imp.refl _)) | exact Imp.drop (Imp.drop (Imp.drop (Imp.refl _))) | exact Imp.drop (Imp.drop (Imp.drop (Imp.drop (Imp.refl _)))) | exact Imp.drop (Imp.drop (Imp.drop (Imp.drop (Imp.drop (Imp.refl _))))) | exact Imp.drop (Imp.drop (Imp.drop (Imp.drop (Imp.drop (Imp.drop (Imp.refl _)))))) | exact Imp.drop (Imp.drop (Imp.drop (Imp.drop (Imp.drop (Imp.drop (Imp.drop (Imp.refl _))))))) | exact Imp.drop (Imp.drop (Imp.drop (Imp.drop (Imp.drop (Imp.drop (Imp.drop (Imp.drop (Imp.refl _)))))))) | assumption | exact Imp.drop2 (Imp.refl _) | exact Imp.drop2 (Imp.drop2 (Imp.refl _)) | exact Imp.drop (Imp.drop2 (Imp.refl _))) ?_
    · skip
      repeat (first | refine op_ ?_ | refine bx_ (fun _ => ?_))
      refine ha_fork1 80 (by rfl) (by kernel_rfl) (by rfl) (by first | exact Imp.refl _ | exact Imp.drop (Imp.refl _) | exact Imp.drop (Imp.drop (Imp.refl _)) | exact Imp.drop (Imp.drop (Imp.drop (Imp.refl _))) | exact Imp.drop (Imp.drop (Imp.drop (Imp.drop (Imp.refl _)))) | exact Imp.drop (Imp.drop (Imp.drop (Imp.drop (Imp.drop (Imp.refl _))))) | exact Imp.drop (Imp.drop (Imp.drop (Imp.drop (Imp.drop (Imp.drop (Imp.refl _)))))) | exact Imp.drop (Imp.drop (Imp.drop (Imp.drop (Imp.drop (Imp.drop (Imp.drop (Imp.refl _))))))) | exact Imp.drop (Imp.drop (Imp.drop (Imp.drop (Imp.drop (Imp.drop (Imp.drop (Imp.drop (Imp.refl _)))))))) | assumption | exact Imp.drop2 (Imp.refl _) | exact Imp.drop2 (Imp.drop2 (Imp.refl _)) | exact Imp.drop (Imp.drop2 (Imp.refl _))) ?_
      · skip
        repeat (first | refine op_ ?_ | refine bx_ (fun _ => ?_))
        refine ha_end (by rfl) (by kernel_rfl) (by first | exact Imp.refl _ | exact Imp.drop (Imp.refl _) | exact Imp.drop (Imp.drop (Imp.refl _)) | exact Imp.drop (Imp.drop (Imp.drop (Imp.refl _))) | exact Imp.drop (Imp.drop (Imp.drop (Imp.drop (Imp.refl _)))) | exact Imp.drop (Imp.drop (Imp.drop (Imp.drop (Imp.drop (Imp.refl _))))) | exact Imp.drop (Imp.drop (Imp.drop (Imp.drop (Imp.drop (Imp.drop (Imp.refl _)))))) | exact Imp.drop (Imp.drop (Imp.drop (Imp.drop (Imp.drop (Imp.drop (Imp.drop (Imp.refl _))))))) | exact Imp.drop (Imp.drop (Imp.drop (Imp.drop (Imp.drop (Imp.drop (Imp.drop (Imp.drop (Imp.refl _)))))))) | assumption | exact Imp.drop2 (Imp.refl _) | exact Imp.drop2 (Imp.drop2 (Imp.refl _)) | exact Imp.drop (Imp.drop2 (Imp.refl _))) ?_
        exact ⟨_, ⟨rfl, rfl, trivial⟩, rfl⟩
  rintro fr M ⟨g6, hf, rfl⟩
  obtain ⟨base, rfl⟩ := hf.out
  clear hf
  by_cases h4 : Rt (timesZ m n)
  · rw [if_pos h4]
    repeat (first | refine go_ ?_ | refine bx_ (fun _ => ?_) | refine hl_callv rfl rfl (rightY (timesZ m n) hst h4) ?_)
    exact finCI rfl rfl .here rfl rfl ⟨rfl, rfl⟩
  · rw [if_neg h4]
    repeat (first | refine go_ ?_ | refine bx_ (fun _ => ?_) | refine hl_callv rfl rfl (rightN (timesZ m n) hst h4) ?_)
    exact finCI rfl rfl .here rfl rfl ⟨rfl, rfl⟩
end
end Go.Proofs.Ytbgdligfdfhbkaa
