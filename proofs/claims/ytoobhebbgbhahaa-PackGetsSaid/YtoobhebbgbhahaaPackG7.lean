/-
  Maps of the plane: the back map, the product. No condition.
-/
import Derived.Test.YtoobhebbgbhahaaPackG6
namespace Go.Proofs.Ytoobhebbgbhahaa
open Go.RowKit

def L6 (a b c d e f : Int) (k : Nat) : Int := [a, b, c, d, e, f].getD k 0
def Z6 : Nat → Int := fun _ => 0
def det (m : Nat → Int) : Int := m 0 * m 3 - m 1 * m 2
def four (m : Nat → Int) : Nat → Int := L6 (rndZ (m 3 * 4294967296) (det m)) (rndZ (-m 1 * 4294967296) (det m)) (rndZ (-m 2 * 4294967296) (det m)) (rndZ (m 0 * 4294967296) (det m)) 0 0
def backZ (m : Nat → Int) : Nat → Int :=
  L6 (four m 0) (four m 1) (four m 2) (four m 3) (near16 (-(four m 0 * m 4 + four m 1 * m 5))) (near16 (-(four m 2 * m 4 + four m 3 * m 5)))
def backR (m : Nat → Int) : (Nat → Int) × Int :=
  if Rt m then (if det m = 0 then (Z6, 33) else if Rt (four m) then (if Rt (backZ m) then (backZ m, 0) else (Z6, 33)) else (Z6, 33)) else (Z6, 31)
def timesZ (m n : Nat → Int) : Nat → Int :=
  L6 (near16 (m 0 * n 0 + m 1 * n 2)) (near16 (m 0 * n 1 + m 1 * n 3)) (near16 (m 2 * n 0 + m 3 * n 2)) (near16 (m 2 * n 1 + m 3 * n 3)) (near16 (m 0 * n 4 + m 1 * n 5) + m 4) (near16 (m 2 * n 4 + m 3 * n 5) + m 5)
def timesR (m n : Nat → Int) : (Nat → Int) × Int := if Rt m ∧ Rt n then (if Rt (timesZ m n) then (timesZ m n, 0) else (Z6, 31)) else (Z6, 31)
theorem L6_sm {a b c d e f : Int} (ha : Big a) (hb : Big b) (hc : Big c) (hd : Big d) (he : Big e) (hf : Big f) : Sm (L6 a b c d e f) := fun i hi => by
  unfold Big at *
  match i, hi with
  | 0, _ => show -9223372036854775808 ≤ a ∧ a ≤ 9223372036854775807; omega
  | 1, _ => show -9223372036854775808 ≤ b ∧ b ≤ 9223372036854775807; omega
  | 2, _ => show -9223372036854775808 ≤ c ∧ c ≤ 9223372036854775807; omega
  | 3, _ => show -9223372036854775808 ≤ d ∧ d ≤ 9223372036854775807; omega
  | 4, _ => show -9223372036854775808 ≤ e ∧ e ≤ 9223372036854775807; omega
  | 5, _ => show -9223372036854775808 ≤ f ∧ f ≤ 9223372036854775807; omega
theorem rnd_big {n d : Int} (hn : Mid n) (hd : Mid d) (h0 : d ≠ 0) : Big (rndZ n d) := by
  unfold rndZ
  unfold Mid at hn hd
  split
  · exact ediv_big (by unfold Big; omega) (by omega)
  · exact ediv_big (by unfold Big; omega) (by omega)
section
variable {w0 : World} {B : Nat} {H : List Ent}
theorem lit6 (a b c d e f : Int) : [Value.int .i64 a, .int .i64 b, .int .i64 c, .int .i64 d, .int .i64 e, .int .i64 f] = tab 6 (L6 a b c d e f) := rfl
set_option maxHeartbeats 8000000 in
set_option maxRecDepth 100000 in
theorem back_fn (m : Nat → Int) (hs : Sm m) : Fn Try.prog w0 B 71 [mapV m] H (fun v H' => v = .tuple #[mapV (backR m).1, .int .i64 (backR m).2] ∧ H' = H) := by
  refine fn_intro Try.func71 rfl (by kernel_rfl) rfl ?_
  unfold mapV
  unfold backR
  by_cases h1 : ¬ Rt m
  · rw [if_neg h1]
    repeat (first | refine go_ ?_ | refine bx_ (fun _ => ?_) | refine hl_callv rfl rfl (rightN m hs h1) ?_)
    exact finCI rfl rfl .here rfl rfl ⟨rfl, rfl⟩
  replace h1 := Classical.not_not.1 h1
  rw [if_pos h1]
  have b0 := h1.1 0 (by omega)
  have b1 := h1.1 1 (by omega)
  have b2 := h1.1 2 (by omega)
  have b3 := h1.1 3 (by omega)
  have b4 := h1.2 4 (by omega) (by omega)
  have b5 := h1.2 5 (by omega) (by omega)
  have p1 := mul_bd b0 b3
  have p2 := mul_bd b1 b2
  have hdm : Mid (det m) := by unfold Mid det; omega
  have hde : m 0 * m 3 - m 1 * m 2 = det m := rfl
  by_cases h2 : det m = 0
  · rw [if_pos h2]
    repeat (first | rw [hde] | refine go1_ ?_ | refine bx_ (fun _ => ?_) | refine hl_callv rfl rfl (rightY m hs h1) ?_)
    exact finCI rfl rfl .here rfl rfl ⟨rfl, rfl⟩
  rw [if_neg h2]
  have q0 := rnd_big (n := m 3 * 4294967296) (by unfold Mid; omega) hdm h2
  have q1 := rnd_big (n := -m 1 * 4294967296) (by unfold Mid; omega) hdm h2
  have q2 := rnd_big (n := -m 2 * 4294967296) (by unfold Mid; omega) hdm h2
  have q3 := rnd_big (n := m 0 * 4294967296) (by unfold Mid; omega) hdm h2
  have z0 : Big 0 := by unfold Big; omega
  have hs4 : Sm (four m) := L6_sm q0 q1 q2 q3 z0 z0
  repeat (first | rw [hde] | refine go1_ ?_ | refine bx_ (fun _ => ?_) | refine hl_callv rfl rfl (rightY m hs h1) ?_)
  rename_i g1 g2
  refine hc_meet (fun fr M => ∃ g5, Agr fr [(1, .pointer (some ⟨g1, 0, none⟩)), (2, .pointer (some ⟨g2, 0, none⟩)), (5, .pointer (some ⟨g5, 0, none⟩))] ∧ M = ⟨g5, 25, tab 6 (four m), 6⟩ :: ⟨g2, 25, tab 6 Z6, 6⟩ :: ⟨g1, 25, tab 6 m, 6⟩ :: H) ?_ ?_
  · refine hc_drawA (⟨g1, 25, tab 6 m, 6⟩ :: H) (by kernel_rfl) ?_
    refine ha_quiet [0, 1, 2, 3, 4, 5, 6, 7, 8, 9, 10, 11, 12, 13, 14, 15, 16, 17, 18, 19, 20, 21, 22] (by rfl) (by kernel_rfl) ?_
    repeat (first | rw [show (2 : Int) ^ 32 = 4294967296 from rfl] | refine gd1_ ?_ | refine hq_call rfl rfl (fun H _ => round_fn _ _ (by unfold Mid; omega) hdm h2) ?_)
    refine ha_fork1 23 (by rfl) (by kernel_rfl) (by rfl) (by first | exact Imp.refl _ | exact Imp.drop (Imp.refl _) | exact Imp.drop (Imp.drop (Imp.refl _)) | exact Imp.drop (Imp.drop (Imp.drop (Imp.refl _))) | exact Imp.drop (Imp.drop (Imp.drop (Imp.drop (Imp.refl _)))) | exact Imp.drop (Imp.drop (Imp.drop (Imp.drop (Imp.drop (Imp.refl _))))) | exact Imp.drop (Imp.drop (Imp.drop (Imp.drop (Imp.drop (Imp.drop (Imp.refl _)))))) | exact Imp.drop (Imp.drop (Imp.drop (Imp.drop (Imp.drop (Imp.drop (Imp.drop (Imp.refl _))))))) | exact Imp.drop (Imp.drop (Imp.drop (Imp.drop (Imp.drop (Imp.drop (Imp.drop (Imp.drop (Imp.refl _)))))))) | assumption | exact Imp.drop (by assumption) | exact Imp.drop (Imp.drop (by assumption)) | exact imp_nil _ | exact Imp.drop2 (Imp.refl _) | exact Imp.drop2 (Imp.drop2 (Imp.refl _)) | exact Imp.drop (Imp.drop2 (Imp.refl _))) ?_
    · skip
      repeat (first | refine op_ ?_ | refine bx_ (fun _ => ?_))
      refine ha_fork1 24 (by rfl) (by kernel_rfl) (by rfl) (by first | exact Imp.refl _ | exact Imp.drop (Imp.refl _) | exact Imp.drop (Imp.drop (Imp.refl _)) | exact Imp.drop (Imp.drop (Imp.drop (Imp.refl _))) | exact Imp.drop (Imp.drop (Imp.drop (Imp.drop (Imp.refl _)))) | exact Imp.drop (Imp.drop (Imp.drop (Imp.drop (Imp.drop (Imp.refl _))))) | exact Imp.drop (Imp.drop (Imp.drop (Imp.drop (Imp.drop (Imp.drop (Imp.refl _)))))) | exact Imp.drop (Imp.drop (Imp.drop (Imp.drop (Imp.drop (Imp.drop (Imp.drop (Imp.refl _))))))) | exact Imp.drop (Imp.drop (Imp.drop (Imp.drop (Imp.drop (Imp.drop (Imp.drop (Imp.drop (Imp.refl _)))))))) | assumption | exact Imp.drop (by assumption) | exact Imp.drop (Imp.drop (by assumption)) | exact imp_nil _ | exact Imp.drop2 (Imp.refl _) | exact Imp.drop2 (Imp.drop2 (Imp.refl _)) | exact Imp.drop (Imp.drop2 (Imp.refl _))) ?_
      · skip
        repeat (first | refine op_ ?_ | refine bx_ (fun _ => ?_))
        refine ha_end (by rfl) (by kernel_rfl) (by first | exact Imp.refl _ | exact Imp.drop (Imp.refl _) | exact Imp.drop (Imp.drop (Imp.refl _)) | exact Imp.drop (Imp.drop (Imp.drop (Imp.refl _))) | exact Imp.drop (Imp.drop (Imp.drop (Imp.drop (Imp.refl _)))) | exact Imp.drop (Imp.drop (Imp.drop (Imp.drop (Imp.drop (Imp.refl _))))) | exact Imp.drop (Imp.drop (Imp.drop (Imp.drop (Imp.drop (Imp.drop (Imp.refl _)))))) | exact Imp.drop (Imp.drop (Imp.drop (Imp.drop (Imp.drop (Imp.drop (Imp.drop (Imp.refl _))))))) | exact Imp.drop (Imp.drop (Imp.drop (Imp.drop (Imp.drop (Imp.drop (Imp.drop (Imp.drop (Imp.refl _)))))))) | assumption | exact Imp.drop (by assumption) | exact Imp.drop (Imp.drop (by assumption)) | exact imp_nil _ | exact Imp.drop2 (Imp.refl _) | exact Imp.drop2 (Imp.drop2 (Imp.refl _)) | exact Imp.drop (Imp.drop2 (Imp.refl _))) ?_
        exact ⟨_, ⟨rfl, rfl, rfl, trivial⟩, rfl⟩
  rintro fr M ⟨g5, hf, rfl⟩
  obtain ⟨base, rfl⟩ := hf.out
  clear hf
  by_cases h3 : ¬ Rt (four m)
  · rw [if_neg h3]
    repeat (first | refine go_ ?_ | refine bx_ (fun _ => ?_) | refine hl_callv rfl rfl (rightN (four m) hs4 h3) ?_)
    exact finCI rfl rfl .here rfl rfl ⟨rfl, rfl⟩
  replace h3 := Classical.not_not.1 h3
  rw [if_pos h3]
  have c0 := h3.1 0 (by omega)
  have c1 := h3.1 1 (by omega)
  have c2 := h3.1 2 (by omega)
  have c3 := h3.1 3 (by omega)
  have r1 := mul_bd c0 b4
  have r2 := mul_bd c1 b5
  have r3 := mul_bd c2 b4
  have r4 := mul_bd c3 b5
  have hz4 : four m 4 = 0 := rfl
  have hz5 : four m 5 = 0 := rfl
  have hsb : Sm (backZ m) := L6_sm (by unfold Big; omega) (by unfold Big; omega) (by unfold Big; omega) (by unfold Big; omega) (by unfold Big near16; omega) (by unfold Big near16; omega)
  have s1 : ((tab 6 (four m)).set 4 (.int .i64 (near16 (-(four m 0 * m 4 + four m 1 * m 5))))).set 5 (.int .i64 (near16 (-(four m 2 * m 4 + four m 3 * m 5)))) = tab 6 (backZ m) := rfl
  have v2 : ((tab 6 (four m)).set 4 (.int .i64 (near16 (-(four m 0 * m 4 + four m 1 * m 5)))))[2]? = some (.int .i64 (four m 2)) := rfl
  have v3 : ((tab 6 (four m)).set 4 (.int .i64 (near16 (-(four m 0 * m 4 + four m 1 * m 5)))))[3]? = some (.int .i64 (four m 3)) := rfl
  by_cases h4 : Rt (backZ m)
  · rw [if_pos h4]
    repeat (first | rw [s1] | refine go1_ ?_ | refine bx_ (fun _ => ?_) | refine hl_callv rfl rfl (rightY (four m) hs4 h3) ?_ | refine hl_callv rfl rfl (near_fn _ (by unfold Near; omega)) ?_ | refine hl_callv rfl rfl (rightY (backZ m) hsb h4) ?_)
    exact finCI rfl rfl .here rfl rfl ⟨rfl, rfl⟩
  · rw [if_neg h4]
    repeat (first | rw [s1] | refine go1_ ?_ | refine bx_ (fun _ => ?_) | refine hl_callv rfl rfl (rightY (four m) hs4 h3) ?_ | refine hl_callv rfl rfl (near_fn _ (by unfold Near; omega)) ?_ | refine hl_callv rfl rfl (rightN (backZ m) hsb h4) ?_)
    exact finCI rfl rfl .here rfl rfl ⟨rfl, rfl⟩
set_option maxHeartbeats 8000000 in
set_option maxRecDepth 100000 in
theorem rback_fn (m : Nat → Int) (hs : Sm m) : Fn Try.prog w0 B 89 [mapV m] H (fun v H' => v = .tuple #[mapV (backR m).1, .int .i64 (backR m).2] ∧ H' = H) := by
  refine fn_intro Try.func89 rfl (by kernel_rfl) rfl ?_
  unfold mapV
  unfold backR
  by_cases h1 : ¬ Rt m
  · rw [if_neg h1]
    repeat (first | refine go_ ?_ | refine bx_ (fun _ => ?_) | refine hl_callv rfl rfl (rrightN m hs h1) ?_)
    exact finCI rfl rfl .here rfl rfl ⟨rfl, rfl⟩
  replace h1 := Classical.not_not.1 h1
  rw [if_pos h1]
  have b0 := h1.1 0 (by omega)
  have b1 := h1.1 1 (by omega)
  have b2 := h1.1 2 (by omega)
  have b3 := h1.1 3 (by omega)
  have b4 := h1.2 4 (by omega) (by omega)
  have b5 := h1.2 5 (by omega) (by omega)
  have p1 := mul_bd b0 b3
  have p2 := mul_bd b1 b2
  have hdm : Mid (det m) := by unfold Mid det; omega
  have hde : m 0 * m 3 - m 1 * m 2 = det m := rfl
  by_cases h2 : det m = 0
  · rw [if_pos h2]
    repeat (first | rw [hde] | refine go1_ ?_ | refine bx_ (fun _ => ?_) | refine hl_callv rfl rfl (rrightY m hs h1) ?_)
    exact finCI rfl rfl .here rfl rfl ⟨rfl, rfl⟩
  rw [if_neg h2]
  have q0 := rnd_big (n := m 3 * 4294967296) (by unfold Mid; omega) hdm h2
  have q1 := rnd_big (n := -m 1 * 4294967296) (by unfold Mid; omega) hdm h2
  have q2 := rnd_big (n := -m 2 * 4294967296) (by unfold Mid; omega) hdm h2
  have q3 := rnd_big (n := m 0 * 4294967296) (by unfold Mid; omega) hdm h2
  have z0 : Big 0 := by unfold Big; omega
  have hs4 : Sm (four m) := L6_sm q0 q1 q2 q3 z0 z0
  repeat (first | rw [hde] | refine go1_ ?_ | refine bx_ (fun _ => ?_) | refine hl_callv rfl rfl (rrightY m hs h1) ?_)
  rename_i g1 g2
  refine hc_meet (fun fr M => ∃ g5, Agr fr [(1, .pointer (some ⟨g1, 0, none⟩)), (2, .pointer (some ⟨g2, 0, none⟩)), (6, .pointer (some ⟨g5, 0, none⟩))] ∧ M = ⟨g5, 37, tab 6 (four m), 6⟩ :: ⟨g2, 37, tab 6 Z6, 6⟩ :: ⟨g1, 37, tab 6 m, 6⟩ :: H) ?_ ?_
  · refine hc_drawA (⟨g1, 37, tab 6 m, 6⟩ :: H) (by kernel_rfl) ?_
    refine ha_quiet [0, 1, 2, 3, 4, 5, 6, 7, 8, 9, 10, 11, 12, 13, 14, 15, 16, 17, 18, 19, 20, 21, 22, 23, 24, 25, 26] (by rfl) (by kernel_rfl) ?_
    repeat (first | refine gd_ ?_ | refine hq_call rfl rfl (fun H _ => rround_fn _ _ (by unfold Mid; omega) hdm h2) ?_)
    refine ha_fork1 27 (by rfl) (by kernel_rfl) (by rfl) (by first | exact Imp.refl _ | exact Imp.drop (Imp.refl _) | exact Imp.drop (Imp.drop (Imp.refl _)) | exact Imp.drop (Imp.drop (Imp.drop (Imp.refl _))) | exact Imp.drop (Imp.drop (Imp.drop (Imp.drop (Imp.refl _)))) | exact Imp.drop (Imp.drop (Imp.drop (Imp.drop (Imp.drop (Imp.refl _))))) | exact Imp.drop (Imp.drop (Imp.drop (Imp.drop (Imp.drop (Imp.drop (Imp.refl _)))))) | exact Imp.drop (Imp.drop (Imp.drop (Imp.drop (Imp.drop (Imp.drop (Imp.drop (Imp.refl _))))))) | exact Imp.drop (Imp.drop (Imp.drop (Imp.drop (Imp.drop (Imp.drop (Imp.drop (Imp.drop (Imp.refl _)))))))) | assumption | exact Imp.drop (by assumption) | exact Imp.drop (Imp.drop (by assumption)) | exact imp_nil _ | exact Imp.drop2 (Imp.refl _) | exact Imp.drop2 (Imp.drop2 (Imp.refl _)) | exact Imp.drop (Imp.drop2 (Imp.refl _))) ?_
    · skip
      repeat (first | refine op_ ?_ | refine bx_ (fun _ => ?_))
      refine ha_fork1 28 (by rfl) (by kernel_rfl) (by rfl) (by first | exact Imp.refl _ | exact Imp.drop (Imp.refl _) | exact Imp.drop (Imp.drop (Imp.refl _)) | exact Imp.drop (Imp.drop (Imp.drop (Imp.refl _))) | exact Imp.drop (Imp.drop (Imp.drop (Imp.drop (Imp.refl _)))) | exact Imp.drop (Imp.drop (Imp.drop (Imp.drop (Imp.drop (Imp.refl _))))) | exact Imp.drop (Imp.drop (Imp.drop (Imp.drop (Imp.drop (Imp.drop (Imp.refl _)))))) | exact Imp.drop (Imp.drop (Imp.drop (Imp.drop (Imp.drop (Imp.drop (Imp.drop (Imp.refl _))))))) | exact Imp.drop (Imp.drop (Imp.drop (Imp.drop (Imp.drop (Imp.drop (Imp.drop (Imp.drop (Imp.refl _)))))))) | assumption | exact Imp.drop (by assumption) | exact Imp.drop (Imp.drop (by assumption)) | exact imp_nil _ | exact Imp.drop2 (Imp.refl _) | exact Imp.drop2 (Imp.drop2 (Imp.refl _)) | exact Imp.drop (Imp.drop2 (Imp.refl _))) ?_
      · skip
        repeat (first | refine op_ ?_ | refine bx_ (fun _ => ?_))
        refine ha_end (by rfl) (by kernel_rfl) (by first | exact Imp.refl _ | exact Imp.drop (Imp.refl _) | exact Imp.drop (Imp.drop (Imp.refl _)) | exact Imp.drop (Imp.drop (Imp.drop (Imp.refl _))) | exact Imp.drop (Imp.drop (Imp.drop (Imp.drop (Imp.refl _)))) | exact Imp.drop (Imp.drop (Imp.drop (Imp.drop (Imp.drop (Imp.refl _))))) | exact Imp.drop (Imp.drop (Imp.drop (Imp.drop (Imp.drop (Imp.drop (Imp.refl _)))))) | exact Imp.drop (Imp.drop (Imp.drop (Imp.drop (Imp.drop (Imp.drop (Imp.drop (Imp.refl _))))))) | exact Imp.drop (Imp.drop (Imp.drop (Imp.drop (Imp.drop (Imp.drop (Imp.drop (Imp.drop (Imp.refl _)))))))) | assumption | exact Imp.drop (by assumption) | exact Imp.drop (Imp.drop (by assumption)) | exact imp_nil _ | exact Imp.drop2 (Imp.refl _) | exact Imp.drop2 (Imp.drop2 (Imp.refl _)) | exact Imp.drop (Imp.drop2 (Imp.refl _))) ?_
        exact ⟨_, ⟨rfl, rfl, rfl, trivial⟩, rfl⟩
  rintro fr M ⟨g5, hf, rfl⟩
  obtain ⟨base, rfl⟩ := hf.out
  clear hf
  by_cases h3 : ¬ Rt (four m)
  · rw [if_neg h3]
    repeat (first | refine go_ ?_ | refine bx_ (fun _ => ?_) | refine hl_callv rfl rfl (rrightN (four m) hs4 h3) ?_)
    exact finCI rfl rfl .here rfl rfl ⟨rfl, rfl⟩
  replace h3 := Classical.not_not.1 h3
  rw [if_pos h3]
  have c0 := h3.1 0 (by omega)
  have c1 := h3.1 1 (by omega)
  have c2 := h3.1 2 (by omega)
  have c3 := h3.1 3 (by omega)
  have r1 := mul_bd c0 b4
  have r2 := mul_bd c1 b5
  have r3 := mul_bd c2 b4
  have r4 := mul_bd c3 b5
  have hz4 : four m 4 = 0 := rfl
  have hz5 : four m 5 = 0 := rfl
  have hsb : Sm (backZ m) := L6_sm (by unfold Big; omega) (by unfold Big; omega) (by unfold Big; omega) (by unfold Big; omega) (by unfold Big near16; omega) (by unfold Big near16; omega)
  have s1 : ((tab 6 (four m)).set 4 (.int .i64 (near16 (-(four m 0 * m 4 + four m 1 * m 5))))).set 5 (.int .i64 (near16 (-(four m 2 * m 4 + four m 3 * m 5)))) = tab 6 (backZ m) := rfl
  have v2 : ((tab 6 (four m)).set 4 (.int .i64 (near16 (-(four m 0 * m 4 + four m 1 * m 5)))))[2]? = some (.int .i64 (four m 2)) := rfl
  have v3 : ((tab 6 (four m)).set 4 (.int .i64 (near16 (-(four m 0 * m 4 + four m 1 * m 5)))))[3]? = some (.int .i64 (four m 3)) := rfl
  by_cases h4 : Rt (backZ m)
  · rw [if_pos h4]
    repeat (first | rw [s1] | refine go1_ ?_ | refine bx_ (fun _ => ?_) | refine hl_callv rfl rfl (rrightY (four m) hs4 h3) ?_ | refine hl_callv rfl rfl (rnear_fn _ (by unfold Near; omega)) ?_ | refine hl_callv rfl rfl (rrightY (backZ m) hsb h4) ?_)
    exact finCI rfl rfl .here rfl rfl ⟨rfl, rfl⟩
  · rw [if_neg h4]
    repeat (first | rw [s1] | refine go1_ ?_ | refine bx_ (fun _ => ?_) | refine hl_callv rfl rfl (rrightY (four m) hs4 h3) ?_ | refine hl_callv rfl rfl (rnear_fn _ (by unfold Near; omega)) ?_ | refine hl_callv rfl rfl (rrightN (backZ m) hsb h4) ?_)
    exact finCI rfl rfl .here rfl rfl ⟨rfl, rfl⟩
theorem one_fn : Fn Try.prog w0 B 70 [] H (fun v H' => v = mapV (L6 65536 0 0 65536 0 0) ∧ H' = H) := by
  refine fn_intro Try.func70 rfl (by kernel_rfl) rfl ?_
  repeat (first | refine go_ ?_ | refine bx_ (fun _ => ?_))
  exact finC rfl rfl .here rfl ⟨rfl, rfl⟩
end
end Go.Proofs.Ytoobhebbgbhahaa
namespace Go.Proofs.Ytoobhebbgbhahaa
open Go.RowKit

section
variable {c : Cx} {Q : Pst} {fr : Fr} {H F : List Ent} {ops : Array Oper} {rest : List Oper} {dst : Option Nat} {ty : TypeId} {pos : String} {after : Array Edge}
variable {x : Operand} {S : List Oper → Fr → List Ent → Prop}
theorem hl_makeFunc {f : FuncId} {xs : List Operand} {caps : List Value} [Stp c ops S] (hxs : evs fr xs = caps) (hd : dOk c.n dst = true) (h : S rest (updO fr dst (.func (.func f) #[] caps.toArray)) H) :
    S (⟨dst, .makeFunc (.func f) #[] xs.toArray, ty, pos, after, none⟩ :: rest) fr H :=
  hl_pure hd (.func (.func f) #[] caps.toArray) (fun w _ => by
    subst hxs
    simp [execOp, Instr.makeFunc, evs_eq]) h
theorem hl_moveF {f : _root_.Go.Fn} {l l2 : Array Value} [Stp c ops S] (hx : ev fr x = .func f l l2) (hd : dOk c.n dst = true) (k : S rest (updO fr dst (.func f l l2)) H) : S (⟨dst, .move x, ty, pos, after, none⟩ :: rest) fr H := hl_move hx hd k
theorem hl_assignF {f : _root_.Go.Fn} {l l2 : Array Value} [Stp c ops S] (hx : ev fr x = .func f l l2) (hd : dOk c.n dst = true) (k : S rest (updO fr dst (.func f l l2)) H) : S (⟨dst, .assign x, ty, pos, after, none⟩ :: rest) fr H := hl_assign hx hd k
theorem hl_callc {f : FuncId} {xs : List Operand} {ts : Array TypeId} {args caps : List Value} {R : Value → List Ent → Prop} (hx : ev fr x = .func (.func f) #[] caps.toArray) (hxs : evs fr xs = args) (hd : dOk c.n dst = true) (hf : Fn c.P c.w0 c.B f (args ++ caps) H R)
    (h : ∀ v H', R v H' → HL c ops Q rest (updO fr dst v) H') : HL c ops Q (⟨dst, .call { callee := .value x, args := xs.toArray, argTypes := ts }, ty, pos, after, none⟩ :: rest) fr H := ⟨fun a w hs hh =>
  wpList_plain rfl fun K hK => by
    obtain ⟨⟨fn, h1, h2, h3⟩, hc⟩ := hf
    have hargs : (xs.toArray.map a.eval) = args.toArray := by rw [hs.eval, ← hxs, evs_eq]; simp
    have hxe : a.eval x = .func (.func f) #[] caps.toArray := by rw [hs.eval]; exact hx
    have hrun : (execOp a.eval ⟨dst, .call { callee := .value x, args := xs.toArray, argTypes := ts }, ty, pos, after, none⟩).run c.P w = .ok (.enter f (args ++ caps).toArray) w := by
      simp only [execOp, resolve, hargs]
      have h2' : ¬ (fn.name = "runtime.NumGoroutine") := by simpa using h2
      have h3' : ¬ (fn.body = none) := by intro h; rw [h] at h3; cases h3
      simp [hxe, Deferred.ofValue, invoke, callFunc, program, Sem.run, h1, h2', h3']
    unfold Oper.wp
    rw [hrun]
    refine (hc w hh).mono fun e w' ⟨v, H', he, hw', hR⟩ => ?_
    subst he
    exact hK _ _ ((h v H' hR).of _ _ (hs.put hd v) hw')⟩
theorem hl_min4 {x1 x2 x3 x4 : Operand} {k' : IntKind} {a1 a2 a3 a4 : Int} {ts : Array TypeId} [Stp c ops S] (h1 : ev fr x1 = .int k' a1) (h2 : ev fr x2 = .int k' a2) (h3 : ev fr x3 = .int k' a3) (h4 : ev fr x4 = .int k' a4) (hd : dOk c.n dst = true) (h : S rest (updO fr dst (.int k' (min (min (min a1 a2) a3) a4))) H) :
    S (⟨dst, .call { callee := .builtin .min, args := #[x1, x2, x3, x4], argTypes := ts }, ty, pos, after, none⟩ :: rest) fr H :=
  hl_pure hd _ (fun w _ => by
    have e : ∀ a b : Int, (if b < a then b else a) = min a b := fun a b => by split <;> omega
    simp [execOp, resolve, invoke, builtin, Builtin.min_, Builtin.min2, h1, h2, h3, h4, e]) h
theorem hl_max4 {x1 x2 x3 x4 : Operand} {k' : IntKind} {a1 a2 a3 a4 : Int} {ts : Array TypeId} [Stp c ops S] (h1 : ev fr x1 = .int k' a1) (h2 : ev fr x2 = .int k' a2) (h3 : ev fr x3 = .int k' a3) (h4 : ev fr x4 = .int k' a4) (hd : dOk c.n dst = true) (h : S rest (updO fr dst (.int k' (max (max (max a1 a2) a3) a4))) H) :
    S (⟨dst, .call { callee := .builtin .max, args := #[x1, x2, x3, x4], argTypes := ts }, ty, pos, after, none⟩ :: rest) fr H :=
  hl_pure hd _ (fun w _ => by
    have e : ∀ a b : Int, (if b > a then b else a) = max a b := fun a b => by split <;> omega
    have e2 : ∀ a b : Int, (if a < b then b else a) = max a b := fun a b => by split <;> omega
    simp [execOp, resolve, invoke, builtin, Builtin.max_, Builtin.max2, h1, h2, h3, h4, e, e2]) h
end
end Go.Proofs.Ytoobhebbgbhahaa
namespace Go.Proofs.Ytoobhebbgbhahaa
open Go.RowKit
section
variable {c : Cx} {Q : Pst} {fr : Fr} {H F : List Ent} {ops : Array Oper} {rest : List Oper} {dst : Option Nat} {ty : TypeId} {pos : String} {after : Array Edge}
variable {x : Operand} {S : List Oper → Fr → List Ent → Prop}
theorem hl_max3 {x1 x2 x3 : Operand} {k' : IntKind} {a1 a2 a3 : Int} {ts : Array TypeId} [Stp c ops S] (h1 : ev fr x1 = .int k' a1) (h2 : ev fr x2 = .int k' a2) (h3 : ev fr x3 = .int k' a3) (hd : dOk c.n dst = true) (h : S rest (updO fr dst (.int k' (max (max a1 a2) a3))) H) :
    S (⟨dst, .call { callee := .builtin .max, args := #[x1, x2, x3], argTypes := ts }, ty, pos, after, none⟩ :: rest) fr H :=
  hl_pure hd _ (fun w _ => by
    have e : ∀ a b : Int, (if b > a then b else a) = max a b := fun a b => by split <;> omega
    have e2 : ∀ a b : Int, (if a < b then b else a) = max a b := fun a b => by split <;> omega
    simp [execOp, resolve, invoke, builtin, Builtin.max_, Builtin.max2, h1, h2, h3, e, e2]) h
end
def PixQ (v : Int) : Prop := 0 ≤ v ∧ v < 4294967296 ∧ v / 2 ^ 24 % 256 ≤ v % 256 ∧ v / 2 ^ 16 % 256 ≤ v % 256 ∧ v / 2 ^ 8 % 256 ≤ v % 256
instance (v : Int) : Decidable (PixQ v) := by unfold PixQ; exact inferInstance
def SzQ (w h : Int) : Prop := 1 ≤ w ∧ 1 ≤ h ∧ w ≤ 32768 ∧ h ≤ 32768 ∧ w * h ≤ 4194304
instance (w h : Int) : Decidable (SzQ w h) := by unfold SzQ; exact inferInstance
theorem and255 (v : Int) : bits .and .i64 v 255 = v % 256 := by
  have e : BitVec.ofInt 64 v &&& BitVec.ofInt 64 255 = BitVec.ofNat 64 ((v % 256).toNat) := by
    apply BitVec.eq_of_toNat_eq
    rw [BitVec.toNat_and, BitVec.toNat_ofInt, BitVec.toNat_ofNat]
    rw [show (BitVec.ofInt 64 255).toNat = 2 ^ 8 - 1 from rfl, Nat.and_two_pow_sub_one_eq_mod]
    omega
  rw [show bits .and .i64 v 255 = IntKind.i64.wrap ((BitVec.ofInt 64 v &&& BitVec.ofInt 64 255).toNat : Int) from rfl, e, BitVec.toNat_ofNat]
  rw [IntWalk.i64_in _ (by omega)]; omega
section
variable {w0 : World} {B : Nat} {H R R0 : List Ent} {g : Nat}
set_option maxHeartbeats 8000000
set_option maxRecDepth 100000
theorem prod_bd {w h : Int} (h1 : 1 ≤ w) (h2 : 1 ≤ h) (h3 : w ≤ 32768) (h4 : h ≤ 32768) : 0 ≤ w * h ∧ w * h ≤ 1073741824 := by
  have a := Int.mul_nonneg (show 0 ≤ w by omega) (show 0 ≤ h by omega)
  have b := Int.mul_le_mul h3 h4 (by omega) (by omega : (0 : Int) ≤ 32768)
  omega
theorem sized_fn (w h : Int) : Fn Try.prog w0 B 78 [.int .i64 w, .int .i64 h] H (fun v H' => v = .bool (decide (SzQ w h)) ∧ H' = H) := by
  refine fn_intro Try.func78 rfl (by kernel_rfl) rfl ?_
  by_cases h1 : w < 1
  · rw [show decide (SzQ w h) = false from decide_eq_false (fun q => by unfold SzQ at q; omega)]
    repeat (first | refine go_ ?_ | refine bx_ (fun _ => ?_))
    exact fin1B rfl rfl ⟨rfl, rfl⟩
  by_cases h2 : h < 1
  · rw [show decide (SzQ w h) = false from decide_eq_false (fun q => by unfold SzQ at q; omega)]
    repeat (first | refine go_ ?_ | refine bx_ (fun _ => ?_))
    exact fin1B rfl rfl ⟨rfl, rfl⟩
  by_cases h3 : 32768 < w
  · rw [show decide (SzQ w h) = false from decide_eq_false (fun q => by unfold SzQ at q; omega)]
    repeat (first | refine go_ ?_ | refine bx_ (fun _ => ?_))
    exact fin1B rfl rfl ⟨rfl, rfl⟩
  by_cases h4 : 32768 < h
  · rw [show decide (SzQ w h) = false from decide_eq_false (fun q => by unfold SzQ at q; omega)]
    repeat (first | refine go_ ?_ | refine bx_ (fun _ => ?_))
    exact fin1B rfl rfl ⟨rfl, rfl⟩
  have hp := prod_bd (w := w) (h := h) (by omega) (by omega) (by omega) (by omega)
  by_cases h5 : 4194304 < w * h
  · rw [show decide (SzQ w h) = false from decide_eq_false (fun q => by unfold SzQ at q; omega)]
    repeat (first | refine go_ ?_ | refine bx_ (fun _ => ?_))
    exact fin1B rfl rfl ⟨rfl, rfl⟩
  rw [show decide (SzQ w h) = true from decide_eq_true (by unfold SzQ; omega)]
  repeat (first | refine go_ ?_ | refine bx_ (fun _ => ?_))
  exact fin1B rfl rfl ⟨rfl, rfl⟩
theorem tnew_fn (w h : Int) : Fn Try.prog w0 B 53 [.int .i64 w, .int .i64 h] H (fun v H' => ∃ a b c, v = .tuple #[.agg #[.int .i64 a, .int .i64 b, .int .i64 c, .slice none 0 0], .int .i64 (if SzQ w h then 0 else 31)] ∧ H' = H) := by
  refine fn_intro Try.func53 rfl (by kernel_rfl) rfl ?_
  by_cases h1 : w < 1
  · rw [if_neg (fun q => by unfold SzQ at q; omega)]
    repeat (first | refine go_ ?_ | refine bx_ (fun _ => ?_))
    exact finCI rfl rfl .here rfl rfl ⟨_, _, _, rfl, rfl⟩
  by_cases h2 : h < 1
  · rw [if_neg (fun q => by unfold SzQ at q; omega)]
    repeat (first | refine go_ ?_ | refine bx_ (fun _ => ?_))
    exact finCI rfl rfl .here rfl rfl ⟨_, _, _, rfl, rfl⟩
  by_cases h3 : 32768 < w
  · rw [if_neg (fun q => by unfold SzQ at q; omega)]
    repeat (first | refine go_ ?_ | refine bx_ (fun _ => ?_))
    exact finCI rfl rfl .here rfl rfl ⟨_, _, _, rfl, rfl⟩
  by_cases h4 : 32768 < h
  · rw [if_neg (fun q => by unfold SzQ at q; omega)]
    repeat (first | refine go_ ?_ | refine bx_ (fun _ => ?_))
    exact finCI rfl rfl .here rfl rfl ⟨_, _, _, rfl, rfl⟩
  have hp := prod_bd (w := w) (h := h) (by omega) (by omega) (by omega) (by omega)
  by_cases h5 : 4194304 < w * h
  · rw [if_neg (fun q => by unfold SzQ at q; omega)]
    repeat (first | refine go_ ?_ | refine bx_ (fun _ => ?_))
    exact finCI rfl rfl .here rfl rfl ⟨_, _, _, rfl, rfl⟩
  rw [if_pos (by unfold SzQ; omega)]
  repeat (first | refine go_ ?_ | refine bx_ (fun _ => ?_))
  exact finCI rfl rfl .here rfl rfl ⟨_, _, _, rfl, rfl⟩
theorem split_fn (v : Int) : Fn Try.prog w0 B 86 [.int .i64 v] H (fun r H' => r = .agg #[.int .i64 (bits .and .i64 (v / 2 ^ 24) 255), .int .i64 (bits .and .i64 (v / 2 ^ 16) 255), .int .i64 (bits .and .i64 (v / 2 ^ 8) 255), .int .i64 (bits .and .i64 v 255)] ∧ H' = H) := by
  refine fn_intro Try.func86 rfl (by kernel_rfl) rfl ?_
  repeat (first | refine go_ ?_ | refine bx_ (fun _ => ?_))
  exact finC rfl rfl .here rfl ⟨rfl, rfl⟩
theorem tpixel_fn (v : Int) (hv : v < 9223372036854775808) : Fn Try.prog w0 B 74 [.int .i64 v] H (fun r H' => r = .bool (decide (PixQ v)) ∧ H' = H) := by
  refine fn_intro Try.func74 rfl (by kernel_rfl) rfl ?_
  by_cases h1 : v < 0
  · rw [show decide (PixQ v) = false from decide_eq_false (fun q => by unfold PixQ at q; omega)]
    repeat (first | refine go_ ?_ | refine bx_ (fun _ => ?_) | refine hl_callv rfl rfl (split_fn v) ?_)
    exact fin1B rfl rfl ⟨rfl, rfl⟩
  by_cases h2 : 4294967296 ≤ v
  · rw [show decide (PixQ v) = false from decide_eq_false (fun q => by unfold PixQ at q; omega)]
    repeat (first | refine go_ ?_ | refine bx_ (fun _ => ?_) | refine hl_callv rfl rfl (split_fn v) ?_)
    exact fin1B rfl rfl ⟨rfl, rfl⟩
  have e0 := and255 (v / 2 ^ 24)
  have e1 := and255 (v / 2 ^ 16)
  have e2 := and255 (v / 2 ^ 8)
  have e3 := and255 v
  have hs := fun H => split_fn (w0 := w0) (B := B) (H := H) v
  rw [e0, e1, e2, e3] at hs
  by_cases h3 : max (max (v / 2 ^ 24 % 256) (v / 2 ^ 16 % 256)) (v / 2 ^ 8 % 256) ≤ v % 256
  · rw [show decide (PixQ v) = true from decide_eq_true (by unfold PixQ; omega)]
    repeat (first | refine go_ ?_ | refine bx_ (fun _ => ?_) | refine hl_callv rfl rfl (hs _) ?_ | refine hl_max3 rfl rfl rfl rfl ?_)
    exact fin1B rfl rfl ⟨rfl, rfl⟩
  · rw [show decide (PixQ v) = false from decide_eq_false (fun q => by unfold PixQ at q; omega)]
    repeat (first | refine go_ ?_ | refine bx_ (fun _ => ?_) | refine hl_callv rfl rfl (hs _) ?_ | refine hl_max3 rfl rfl rfl rfl ?_)
    exact fin1B rfl rfl ⟨rfl, rfl⟩
theorem part_any_fn (v : Int) (c : Nat) (hc : c ≤ 3) : Fn Try.prog w0 B 98 [.int .i64 v, .int .i64 (c : Int)] H (fun r H' => ∃ z, r = .int .i64 z ∧ (0 ≤ v → z = v / 2 ^ (24 - 8 * c) % 256) ∧ H' = H) := by
  refine fn_intro Try.func98 rfl (by kernel_rfl) rfl ?_
  by_cases hv : 0 ≤ v
  · have hq : 0 ≤ v / 2 ^ (24 - 8 * c) := Int.ediv_nonneg hv (by exact Int.le_of_lt (Int.pow_pos (by decide)))
    repeat (first | refine go_ ?_ | refine bx_ (fun _ => ?_) | refine hl_shr' (m := 24 - 8 * c) rfl rfl (by omega) (by simp only [IntKind.bits]; omega) rfl ?_)
    exact fin1I rfl rfl ⟨_, rfl, fun _ => rfl, rfl⟩
  · repeat (first | refine go_ ?_ | refine bx_ (fun _ => ?_) | refine hl_shr' (m := 24 - 8 * c) rfl rfl (by omega) (by simp only [IntKind.bits]; omega) rfl ?_)
    exact fin1I rfl rfl ⟨_, rfl, fun h => absurd h hv, rfl⟩
theorem rpixel_fn (v : Int) : Fn Try.prog w0 B 90 [.int .i64 v] H (fun r H' => r = .bool (decide (PixQ v)) ∧ H' = H) := by
  refine fn_intro Try.func90 rfl (by kernel_rfl) rfl ?_
  repeat (first | refine go_ ?_ | refine bx_ (fun _ => ?_))
  refine hc_loop (fun m fr M => ∃ c : Nat, c + m = 3 ∧ (0 ≤ v → ∀ i : Nat, i < c → v / 2 ^ (24 - 8 * i) % 256 ≤ v % 256) ∧ Agr fr [(0, .int .i64 v), (3, .int .i64 (c : Int))] ∧ Imp M H) 3 ?_ ?_
  · exact ⟨0, by omega, fun _ i h => absurd h (by omega), ⟨rfl, rfl, trivial⟩, Imp.refl _⟩
  rintro m fr M ⟨c, hc, hle, hf, him⟩
  obtain ⟨base, rfl⟩ := hf.out
  clear hf
  refine HC.imp ?_ him
  by_cases hlt : c < 3
  · repeat (first | refine go_ ?_ | refine bx_ (fun _ => ?_))
    refine hl_call rfl rfl (part_any_fn v c (by omega)) (fun r M1 o => ?_)
    obtain ⟨z1, rfl, hz1, rfl⟩ := o
    repeat (first | refine go_ ?_ | refine bx_ (fun _ => ?_))
    refine hl_call rfl rfl (part_any_fn v 3 (by omega)) (fun r M2 o => ?_)
    obtain ⟨z2, rfl, hz2, rfl⟩ := o
    by_cases hgt : z2 < z1
    · rw [show decide (PixQ v) = false from decide_eq_false (fun q => by
        unfold PixQ at q
        have a := hz1 q.1
        have b := hz2 q.1
        obtain rfl | rfl | rfl : c = 0 ∨ c = 1 ∨ c = 2 := by omega
        all_goals simp only [Nat.reduceMul, Nat.reduceSub] at a b
        all_goals omega)]
      repeat (first | refine go_ ?_ | refine bx_ (fun _ => ?_))
      exact fin1B rfl rfl ⟨rfl, rfl⟩
    · repeat (first | refine go_ ?_ | refine bx_ (fun _ => ?_))
      refine ⟨m - 1, by omega, c + 1, by omega, fun h0 i hi => ?_, ⟨rfl, rfl, trivial⟩, Imp.refl _⟩
      by_cases e : i = c
      · subst e
        have a := hz1 h0
        have b := hz2 h0
        simp only [Nat.reduceMul, Nat.reduceSub, Int.pow_zero, Int.ediv_one] at b
        omega
      · exact hle h0 i (by omega)
  · obtain rfl : c = 3 := by omega
    by_cases h0 : 0 ≤ v
    · have a0 := hle h0 0 (by omega)
      have a1 := hle h0 1 (by omega)
      have a2 := hle h0 2 (by omega)
      simp only [Nat.reduceMul, Nat.reduceSub] at a0 a1 a2
      by_cases h1 : v < 4294967296
      · rw [show decide (PixQ v) = true from decide_eq_true ⟨h0, h1, a0, a1, a2⟩]
        repeat (first | refine go_ ?_ | refine bx_ (fun _ => ?_))
        exact fin1B rfl rfl ⟨rfl, rfl⟩
      · rw [show decide (PixQ v) = false from decide_eq_false (fun q => by unfold PixQ at q; omega)]
        repeat (first | refine go_ ?_ | refine bx_ (fun _ => ?_))
        exact fin1B rfl rfl ⟨rfl, rfl⟩
    · rw [show decide (PixQ v) = false from decide_eq_false (fun q => by unfold PixQ at q; omega)]
      repeat (first | refine go_ ?_ | refine bx_ (fun _ => ?_))
      exact fin1B rfl rfl ⟨rfl, rfl⟩
end
end Go.Proofs.Ytoobhebbgbhahaa
namespace Go.Proofs.Ytoobhebbgbhahaa.Tb
open Go.Proofs.Ytoobhebbgbhahaa
open Go.RowKit

/-- A parameter that is a row of numbers. -/
structure Par (w0 : World) (B : Nat) (H : List Ent) (a : Option Addr) (n cap : Nat) (f : Nat → Int) : Prop where
  row : 0 < n → ∃ b off, a = some ⟨b, off, none⟩ ∧ Row w0 B H b off n .i64 f
  bd : ∀ i, i < n → -9223372036854775808 ≤ f i ∧ f i ≤ 9223372036854775807
  small : n ≤ 1000000
theorem Par.imp {w0 : World} {B : Nat} {H H' : List Ent} {a : Option Addr} {n cap : Nat} {f : Nat → Int} (h : Par w0 B H a n cap f) (hi : Imp H' H) : Par w0 B H' a n cap f :=
  ⟨fun h0 => by obtain ⟨b, off, e, r⟩ := h.row h0; exact ⟨b, off, e, r.imp hi⟩, h.bd, h.small⟩
def Ok1 (kind : Int) (f : Nat → Int) (i : Nat) : Prop := 0 ≤ f i ∧ f i ≤ 255 ∧ (kind = 1 → i % 2 = 0 → 0 < i → f (i - 2) < f i)
def Rt (kind : Int) (n : Nat) (f : Nat → Int) : Prop :=
  (∀ i, i < n → Ok1 kind f i) ∧ (kind = 0 ∧ n = 2 ∧ f 0 < f 1 ∨ kind = 1 ∧ 2 ≤ n ∧ n ≤ 32 ∧ n % 2 = 0 ∨ kind = 2 ∧ n = 0 ∨ kind = 3 ∧ n = 1)
section
variable {w0 : World} {B : Nat} {H : List Ent}
set_option maxHeartbeats 8000000 in
theorem right_fn (kind : Int) {a : Option Addr} {n cap : Nat} {f : Nat → Int} (h : Par w0 B H a n cap f) : Fn Try.prog w0 B 87 [.int .i64 kind, .slice a n cap] H (fun v H' => ((v = .bool true ∧ Rt kind n f) ∨ (v = .bool false ∧ ¬ Rt kind n f)) ∧ H' = H) := by
  have hn := h.small
  refine fn_intro Try.func87 rfl (by kernel_rfl) rfl ?_
  repeat (first | refine go_ ?_ | refine bx_ (fun _ => ?_))
  refine hc_loop (fun m fr M => ∃ k, k + m = n ∧ Agr fr [(0, .int .i64 kind), (1, .slice a n cap), (5, .int .i64 (n : Int)), (10, .slice a n cap), (11, .int .i64 (n : Int)), (12, .int .i64 (k : Int))] ∧ M = H ∧ ∀ i, i < k → Ok1 kind f i) n ?_ ?_
  · exact ⟨0, by omega, ⟨rfl, rfl, rfl, rfl, rfl, rfl, trivial⟩, rfl, fun i hi => by omega⟩
  rintro m fr M ⟨k, hk, hf, rfl, hall⟩
  obtain ⟨base, rfl⟩ := hf.out
  clear hf
  by_cases hlt : k < n
  · obtain ⟨b, off, rfl, hp⟩ := h.row (by omega)
    have hbd := h.bd k hlt
    have hno : ¬ Ok1 kind f k → ¬ Rt kind n f := fun h h2 => h (h2.1 k hlt)
    by_cases h1 : f k < 0
    · repeat (first | refine go_ ?_ | refine bx_ (fun _ => ?_))
      exact fin1B rfl rfl ⟨.inr ⟨rfl, hno fun h => by have := h.1; omega⟩, rfl⟩
    by_cases h2 : 255 < f k
    · repeat (first | refine go_ ?_ | refine bx_ (fun _ => ?_))
      exact fin1B rfl rfl ⟨.inr ⟨rfl, hno fun h => by have := h.2.1; omega⟩, rfl⟩
    have hnext : (kind = 1 → k % 2 = 0 → 0 < k → f (k - 2) < f k) → ∀ i, i < k + 1 → Ok1 kind f i := fun h3 i hi => by
      by_cases e : i = k
      · subst e; exact ⟨by omega, by omega, h3⟩
      · exact hall i (by omega)
    by_cases h3 : kind = 1
    · subst h3
      by_cases h4 : k % 2 = 0
      · by_cases h5 : 0 < k
        · have hbd2 := h.bd (k - 2) (by omega)
          have e2 : (k : Int) - 2 = ((k - 2 : Nat) : Int) := by omega
          by_cases h6 : f k ≤ f (k - 2)
          · repeat (first | rw [e2] | refine go1_ ?_ | refine bx_ (fun _ => ?_))
            exact fin1B rfl rfl ⟨.inr ⟨rfl, hno fun h => by have := h.2.2 rfl h4 h5; omega⟩, rfl⟩
          · repeat (first | rw [e2] | refine go1_ ?_ | refine bx_ (fun _ => ?_))
            exact ⟨m - 1, by omega, k + 1, by omega, ⟨rfl, rfl, rfl, rfl, rfl, rfl, trivial⟩, rfl, hnext fun _ _ _ => by omega⟩
        · repeat (first | refine go_ ?_ | refine bx_ (fun _ => ?_))
          exact ⟨m - 1, by omega, k + 1, by omega, ⟨rfl, rfl, rfl, rfl, rfl, rfl, trivial⟩, rfl, hnext fun _ _ _ => by omega⟩
      · repeat (first | refine go_ ?_ | refine bx_ (fun _ => ?_))
        exact ⟨m - 1, by omega, k + 1, by omega, ⟨rfl, rfl, rfl, rfl, rfl, rfl, trivial⟩, rfl, hnext fun _ _ _ => by omega⟩
    · repeat (first | refine go_ ?_ | refine bx_ (fun _ => ?_))
      exact ⟨m - 1, by omega, k + 1, by omega, ⟨rfl, rfl, rfl, rfl, rfl, rfl, trivial⟩, rfl, hnext fun _ _ _ => by omega⟩
  · obtain rfl : k = n := by omega
    have hiff : Rt kind k f ↔ (kind = 0 ∧ k = 2 ∧ f 0 < f 1 ∨ kind = 1 ∧ 2 ≤ k ∧ k ≤ 32 ∧ k % 2 = 0 ∨ kind = 2 ∧ k = 0 ∨ kind = 3 ∧ k = 1) := ⟨fun h => h.2, fun h => ⟨hall, h⟩⟩
    by_cases k0 : kind = 0
    · subst k0
      by_cases h2 : k = 2
      · subst h2
        obtain ⟨b, off, rfl, hp⟩ := h.row (by omega)
        by_cases h3 : f 0 < f 1
        · repeat (first | refine go_ ?_ | refine bx_ (fun _ => ?_))
          refine hc_draw (by kernel_rfl) (by kernel_rfl) ?_
          repeat (first | refine gd_ ?_)
          repeat (first | refine go_ ?_ | refine bx_ (fun _ => ?_))
          exact fin1B rfl rfl ⟨.inl ⟨rfl, hiff.2 (by omega)⟩, rfl⟩
        · repeat (first | refine go_ ?_ | refine bx_ (fun _ => ?_))
          refine hc_draw (by kernel_rfl) (by kernel_rfl) ?_
          repeat (first | refine gd_ ?_)
          repeat (first | refine go_ ?_ | refine bx_ (fun _ => ?_))
          exact fin1B rfl rfl ⟨.inr ⟨rfl, fun h => by have := hiff.1 h; omega⟩, rfl⟩
      · repeat (first | refine go_ ?_ | refine bx_ (fun _ => ?_))
        refine hc_draw (by kernel_rfl) (by kernel_rfl) ?_
        repeat (first | refine gd_ ?_)
        repeat (first | refine go_ ?_ | refine bx_ (fun _ => ?_))
        exact fin1B rfl rfl ⟨.inr ⟨rfl, fun h => by have := hiff.1 h; omega⟩, rfl⟩
    by_cases k1 : kind = 1
    · subst k1
      by_cases h2 : 2 ≤ k
      · by_cases h3 : k ≤ 32
        · by_cases h4 : k % 2 = 0
          · repeat (first | refine go_ ?_ | refine bx_ (fun _ => ?_))
            exact fin1B rfl rfl ⟨.inl ⟨rfl, hiff.2 (by omega)⟩, rfl⟩
          · repeat (first | refine go_ ?_ | refine bx_ (fun _ => ?_))
            exact fin1B rfl rfl ⟨.inr ⟨rfl, fun h => by have := hiff.1 h; omega⟩, rfl⟩
        · repeat (first | refine go_ ?_ | refine bx_ (fun _ => ?_))
          exact fin1B rfl rfl ⟨.inr ⟨rfl, fun h => by have := hiff.1 h; omega⟩, rfl⟩
      · repeat (first | refine go_ ?_ | refine bx_ (fun _ => ?_))
        exact fin1B rfl rfl ⟨.inr ⟨rfl, fun h => by have := hiff.1 h; omega⟩, rfl⟩
    by_cases k2 : kind = 2
    · subst k2
      by_cases h2 : k = 0
      · repeat (first | refine go_ ?_ | refine bx_ (fun _ => ?_))
        exact fin1B rfl rfl ⟨.inl ⟨rfl, hiff.2 (by omega)⟩, rfl⟩
      · repeat (first | refine go_ ?_ | refine bx_ (fun _ => ?_))
        exact fin1B rfl rfl ⟨.inr ⟨rfl, fun h => by have := hiff.1 h; omega⟩, rfl⟩
    by_cases k3 : kind = 3
    · subst k3
      by_cases h2 : k = 1
      · repeat (first | refine go_ ?_ | refine bx_ (fun _ => ?_))
        exact fin1B rfl rfl ⟨.inl ⟨rfl, hiff.2 (by omega)⟩, rfl⟩
      · repeat (first | refine go_ ?_ | refine bx_ (fun _ => ?_))
        exact fin1B rfl rfl ⟨.inr ⟨rfl, fun h => by have := hiff.1 h; omega⟩, rfl⟩
    · repeat (first | refine go_ ?_ | refine bx_ (fun _ => ?_))
      exact fin1B rfl rfl ⟨.inr ⟨rfl, fun h => by have := hiff.1 h; omega⟩, rfl⟩

/-! Curves -/
def cseg (f : Nat → Int) (v : Int) (i : Nat) : Int := f (i + 1) + ((f (i + 3) - f (i + 1)) * (v - f i)).tdiv (f (i + 2) - f i)
def cur (f : Nat → Int) (v last : Int) : Nat → Nat → Int
  | 0, _ => last
  | m + 1, i => if v < f (i + 2) then cseg f v i else cur f v last m (i + 2)
def curveZ (n : Nat) (f : Nat → Int) (v : Int) : Int := if v ≤ f 0 then f 1 else cur f v (f (n - 1)) ((n - 2) / 2) 0
structure Crv (n : Nat) (f : Nat → Int) : Prop where
  h1 : 2 ≤ n
  h2 : n ≤ 32
  h3 : n % 2 = 0
  byte : ∀ i, i < n → 0 ≤ f i ∧ f i ≤ 255
  mono : ∀ i, i % 2 = 0 → i + 2 < n → f i < f (i + 2)
theorem Rt.crv {n : Nat} {f : Nat → Int} (h : Rt 1 n f) : Crv n f := by
  obtain ⟨h1, h2⟩ := h
  refine ⟨by omega, by omega, by omega, fun i hi => ⟨(h1 i hi).1, (h1 i hi).2.1⟩, fun i he hi => ?_⟩
  have := (h1 (i + 2) hi).2.2 rfl (by omega) (by omega)
  rwa [show i + 2 - 2 = i by omega] at this
theorem tdiv_frac {a x y : Int} (hx : 0 ≤ x) (hxy : x ≤ y) (hy : 0 < y) : (0 ≤ a → 0 ≤ (a * x).tdiv y ∧ (a * x).tdiv y ≤ a) ∧ (a ≤ 0 → a ≤ (a * x).tdiv y ∧ (a * x).tdiv y ≤ 0) := by
  have key : ∀ b : Int, 0 ≤ b → 0 ≤ (b * x).tdiv y ∧ (b * x).tdiv y ≤ b := fun b hb => by
    have h0 : 0 ≤ b * x := Int.mul_nonneg hb hx
    rw [Int.tdiv_eq_ediv_of_nonneg h0]
    exact ⟨Int.ediv_nonneg h0 (by omega), Int.ediv_le_of_le_mul hy (Int.mul_le_mul_of_nonneg_left hxy hb)⟩
  refine ⟨key a, fun ha => ?_⟩
  have := key (-a) (by omega)
  rw [Int.neg_mul, Int.neg_tdiv] at this
  omega
theorem cseg_bd {n : Nat} {f : Nat → Int} (h : Crv n f) {v : Int} {i : Nat} (hi : i + 3 < n) (hv : f i ≤ v) (hv2 : v < f (i + 2)) : 0 ≤ cseg f v i ∧ cseg f v i ≤ 255 := by
  have h1 := h.byte (i + 1) (by omega)
  have h3 := h.byte (i + 3) hi
  have hd := tdiv_frac (a := f (i + 3) - f (i + 1)) (x := v - f i) (y := f (i + 2) - f i) (by omega) (by omega) (by omega)
  unfold cseg
  generalize ((f (i + 3) - f (i + 1)) * (v - f i)).tdiv (f (i + 2) - f i) = q at *
  rcases Int.le_total 0 (f (i + 3) - f (i + 1)) with h | h
  · have := hd.1 h; omega
  · have := hd.2 h; omega
theorem cur_bd {n : Nat} {f : Nat → Int} (h : Crv n f) {v : Int} : ∀ (m i : Nat), i % 2 = 0 → i + 2 + 2 * m = n → f i ≤ v → 0 ≤ cur f v (f (n - 1)) m i ∧ cur f v (f (n - 1)) m i ≤ 255
  | 0, i, _, _, _ => h.byte (n - 1) (by have := h.h1; omega)
  | m + 1, i, he, hi, hv => by
    unfold cur
    by_cases h1 : v < f (i + 2)
    · rw [if_pos h1]; exact cseg_bd h (by omega) hv h1
    · rw [if_neg h1]; exact cur_bd h m (i + 2) (by omega) (by omega) (by omega)
theorem cur_last {n : Nat} {f : Nat → Int} (h : Crv n f) {v : Int} (hv : f (n - 2) ≤ v) : ∀ (m i : Nat), i % 2 = 0 → i + 2 + 2 * m = n → cur f v (f (n - 1)) m i = f (n - 1)
  | 0, _, _, _ => rfl
  | m + 1, i, he, hi => by
    have hle : ∀ k j, j % 2 = 0 → j + 2 * k + 2 = n → f j ≤ v := by
      intro k
      induction k with
      | zero => intro j _ hj; rw [show j = n - 2 by omega]; exact hv
      | succ k ih => intro j hj1 hj2; have := ih (j + 2) (by omega) (by omega); have := h.mono j hj1 (by omega); omega
    have h1 := hle m (i + 2) (by omega) (by omega)
    unfold cur
    rw [if_neg (by omega)]
    exact cur_last h hv m (i + 2) (by omega) (by omega)
theorem curve_bd {n : Nat} {f : Nat → Int} (h : Crv n f) (v : Int) : 0 ≤ curveZ n f v ∧ curveZ n f v ≤ 255 := by
  unfold curveZ
  have := h.h1
  have := h.h3
  split
  · exact h.byte 1 (by omega)
  · exact cur_bd h _ 0 rfl (by omega) (by omega)

/-- Numbers so far, of a table. -/
def psel (g : Int → Int) (k j : Nat) : Int := if j < k then g j else 0
theorem psel_set (g : Int → Int) (n k : Nat) : (tab n (psel g k)).set k (.int .i64 (g k)) = tab n (psel g (k + 1)) := tab_set fun j _ => by
  unfold psel
  by_cases e : j = k
  · subst e; simp
  · by_cases h1 : j < k
    · rw [if_neg e, if_pos h1, if_pos (by omega)]
    · rw [if_neg e, if_neg h1, if_neg (by omega)]
theorem psel_zero (g : Int → Int) (k : Nat) (h : g k = 0) : tab 256 (psel g k) = tab 256 (psel g (k + 1)) := tab_congr fun j _ => by
  unfold psel
  by_cases e : j = k
  · subst e; simp [h]
  · by_cases h1 : j < k
    · rw [if_pos h1, if_pos (by omega)]
    · rw [if_neg h1, if_neg (by omega)]
theorem psel_end (g : Int → Int) (n : Nat) : tab n (psel g n) = tab n (fun v => g v) := tab_congr fun j hj => by unfold psel; rw [if_pos hj]
theorem rep_psel (g : Int → Int) : List.replicate 256 (Value.int .i64 0) = tab 256 (psel g 0) := by rw [← tab_zero]; exact tab_congr fun j _ => by unfold psel; simp
theorem i64small {x : Int} (h : -1000000 ≤ x ∧ x ≤ 1000000) : IntKind.i64.wrap x = x := IntWalk.i64_in _ (by omega)
set_option maxHeartbeats 8000000 in
set_option maxRecDepth 100000 in
theorem rcurve_fn {a : Option Addr} {n cap : Nat} {f : Nat → Int} (h : Par w0 B H a n cap f) (hc : Crv n f) (v : Int) (hv : 0 ≤ v ∧ v ≤ 255) : Fn Try.prog w0 B 99 [.slice a n cap, .int .i64 v] H (fun r H' => r = .int .i64 (curveZ n f v) ∧ H' = H) := by
  have c1 := hc.h1
  have c2 := hc.h2
  have c3 := hc.h3
  obtain ⟨b, off, rfl, hp⟩ := h.row (by omega)
  refine fn_intro Try.func99 rfl (by kernel_rfl) rfl ?_
  by_cases h0 : v ≤ f 0
  · repeat (first | refine go_ ?_ | refine bx_ (fun _ => ?_))
    exact fin1I rfl rfl ⟨by unfold curveZ; rw [if_pos h0], rfl⟩
  have hcz : curveZ n f v = cur f v (f (n - 1)) ((n - 2) / 2) 0 := by unfold curveZ; rw [if_neg h0]
  rw [hcz]
  repeat (first | refine go_ ?_ | refine bx_ (fun _ => ?_))
  refine hc_loop (fun m fr M => ∃ i, i + 2 + 2 * m = n ∧ i % 2 = 0 ∧ Agr fr [(0, .slice (some ⟨b, off, none⟩) n cap), (1, .int .i64 v), (5, .int .i64 ((i : Int) + 2))] ∧ M = H ∧ f i ≤ v ∧ cur f v (f (n - 1)) m i = cur f v (f (n - 1)) ((n - 2) / 2) 0) ((n - 2) / 2) ?_ ?_
  · exact ⟨0, by omega, by omega, ⟨rfl, rfl, rfl, trivial⟩, rfl, by omega, rfl⟩
  rintro m fr M ⟨i, hi, he, hf, rfl, hfi, hcu⟩
  obtain ⟨base, rfl⟩ := hf.out
  clear hf
  rw [← hcu]
  by_cases hlt : i + 2 < n
  · obtain ⟨q, rfl⟩ : ∃ q, m = q + 1 := ⟨m - 1, by omega⟩
    by_cases h1 : v < f (i + 2)
    · have hcs : cur f v (f (n - 1)) (q + 1) i = cseg f v i := by show (if v < f (i + 2) then _ else _) = _; rw [if_pos h1]
      rw [hcs]
      have b0 := hc.byte i (by omega)
      have b1 := hc.byte (i + 1) (by omega)
      have b2 := hc.byte (i + 2) (by omega)
      have b3 := hc.byte (i + 3) (by omega)
      have b4 := cseg_bd hc (by omega) hfi h1
      have hd := tdiv_frac (a := f (i + 3) - f (i + 1)) (x := v - f i) (y := f (i + 2) - f i) (by omega) (by omega) (by omega)
      have hm : -(255 * 255) ≤ (f (i + 3) - f (i + 1)) * (v - f i) ∧ (f (i + 3) - f (i + 1)) * (v - f i) ≤ 255 * 255 := by
        have h1 : 0 ≤ (255 - (f (i + 3) - f (i + 1))) * (v - f i) := Int.mul_nonneg (by omega) (by omega)
        have h2 : 0 ≤ (255 + (f (i + 3) - f (i + 1))) * (v - f i) := Int.mul_nonneg (by omega) (by omega)
        rw [Int.sub_mul] at h1
        rw [Int.add_mul] at h2
        omega
      have hq : -255 ≤ ((f (i + 3) - f (i + 1)) * (v - f i)).tdiv (f (i + 2) - f i) ∧ ((f (i + 3) - f (i + 1)) * (v - f i)).tdiv (f (i + 2) - f i) ≤ 255 := by
        rcases Int.le_total 0 (f (i + 3) - f (i + 1)) with h | h
        · have := hd.1 h; omega
        · have := hd.2 h; omega
      have hw := i64small (x := ((f (i + 3) - f (i + 1)) * (v - f i)).tdiv (f (i + 2) - f i)) (by omega)
      repeat (first | rw [show (i : Int) + 2 = ((i + 2 : Nat) : Int) by omega] | refine go1_ ?_ | refine bx_ (fun _ => ?_))
      refine hc_draw (by kernel_rfl) (by kernel_rfl) ?_
      repeat (first | rw [show (i : Int) + 2 = ((i + 2 : Nat) : Int) by omega] | rw [show ((i + 2 : Nat) : Int) - 1 = ((i + 1 : Nat) : Int) by omega] | rw [show ((i + 2 : Nat) : Int) + 1 = ((i + 3 : Nat) : Int) by omega] | rw [show ((i + 2 : Nat) : Int) - 2 = (i : Int) by omega] | rw [hw] | refine gd1_ ?_)
      repeat (first | refine go_ ?_ | refine bx_ (fun _ => ?_))
      exact fin1I rfl rfl ⟨rfl, rfl⟩
    · have hcs : cur f v (f (n - 1)) (q + 1) i = cur f v (f (n - 1)) q (i + 2) := by show (if v < f (i + 2) then _ else _) = _; rw [if_neg h1]
      repeat (first | rw [show (i : Int) + 2 = ((i + 2 : Nat) : Int) by omega] | refine go1_ ?_ | refine bx_ (fun _ => ?_))
      exact ⟨q, by omega, i + 2, by omega, by omega, ⟨rfl, rfl, rfl, trivial⟩, rfl, by omega, hcs.symm⟩
  · obtain rfl : m = 0 := by omega
    repeat (first | rw [show (n : Int) - 1 = ((n - 1 : Nat) : Int) by omega] | refine go1_ ?_ | refine bx_ (fun _ => ?_))
    exact fin1I rfl rfl ⟨rfl, rfl⟩
set_option maxHeartbeats 8000000 in
set_option maxRecDepth 100000 in
theorem curve_fn {a : Option Addr} {n cap : Nat} {f : Nat → Int} (h : Par w0 B H a n cap f) (hc : Crv n f) : Fn Try.prog w0 B 88 [.slice a n cap] H (fun r H' => ∃ g, r = .slice (some ⟨g, 0, none⟩) 256 256 ∧ H' = ⟨g, 3, tab 256 (fun v => curveZ n f v), 256⟩ :: H) := by
  have c1 := hc.h1
  have c2 := hc.h2
  have c3 := hc.h3
  obtain ⟨b, off, rfl, hp⟩ := h.row (by omega)
  refine fn_intro Try.func88 rfl (by kernel_rfl) rfl ?_
  repeat (first | refine go_ ?_ | refine bx_ (fun _ => ?_))
  refine hl_make1 (n := 256) rfl rfl rfl (by decide) (by decide) rfl (fun g => ?_)
  rw [rep_psel (curveZ n f)]
  repeat (first | refine go_ ?_ | refine bx_ (fun _ => ?_))
  refine hc_loop (fun m fr M => ∃ k, k + m = 256 ∧ Agr fr [(0, .slice (some ⟨b, off, none⟩) n cap), (3, .slice (some ⟨g, 0, none⟩) 256 256), (4, .int .i64 (n : Int)), (11, .int .i64 256), (12, .int .i64 (k : Int))] ∧ M = ⟨g, 3, tab 256 (psel (curveZ n f) k), 256⟩ :: H) 256 ?_ ?_
  · exact ⟨0, by omega, ⟨rfl, rfl, rfl, rfl, rfl, trivial⟩, rfl⟩
  rintro m fr M ⟨k, hk, hf, rfl⟩
  obtain ⟨base, rfl⟩ := hf.out
  clear hf
  by_cases hlt : k < 256
  · have hset := psel_set (curveZ n f) 256 k
    have hbf := hc.byte 0 (by omega)
    have hbl := hc.byte (n - 2) (by omega)
    have e2 : (n : Int) - 2 = ((n - 2 : Nat) : Int) := by omega
    have e1 : (n : Int) - 1 = ((n - 1 : Nat) : Int) := by omega
    by_cases h0 : (k : Int) ≤ f 0
    · have hcz : curveZ n f k = f 1 := by unfold curveZ; rw [if_pos h0]
      rw [hcz] at hset
      repeat (first | rw [hset] | refine go1_ ?_ | refine bx_ (fun _ => ?_))
      exact ⟨m - 1, by omega, k + 1, by omega, ⟨rfl, rfl, rfl, rfl, rfl, trivial⟩, rfl⟩
    by_cases hl : f (n - 2) ≤ (k : Int)
    · have hcz : curveZ n f k = f (n - 1) := by unfold curveZ; rw [if_neg h0]; exact cur_last hc hl _ 0 rfl (by omega)
      rw [hcz] at hset
      repeat (first | rw [hset] | rw [e2] | rw [e1] | refine go1_ ?_ | refine bx_ (fun _ => ?_))
      exact ⟨m - 1, by omega, k + 1, by omega, ⟨rfl, rfl, rfl, rfl, rfl, trivial⟩, rfl⟩
    have hcz : curveZ n f k = cur f k (f (n - 1)) ((n - 2) / 2) 0 := by unfold curveZ; rw [if_neg h0]
    rw [hcz] at hset
    obtain ⟨v, hv⟩ : ∃ v : Int, v = (k : Int) := ⟨_, rfl⟩
    rw [← hv] at h0 hl hset hcz
    repeat (first | rw [e2] | refine go1_ ?_ | refine bx_ (fun _ => ?_))
    refine hc_loop (fun z fr M => ∃ i, i + 2 + 2 * z = n ∧ i % 2 = 0 ∧ Agr fr [(0, .slice (some ⟨b, off, none⟩) n cap), (3, .slice (some ⟨g, 0, none⟩) 256 256), (4, .int .i64 (n : Int)), (11, .int .i64 256), (12, .int .i64 (k : Int)), (5, .int .i64 (k : Int)), (6, .int .i64 (i : Int))] ∧ M = ⟨g, 3, tab 256 (psel (curveZ n f) k), 256⟩ :: H ∧ f i ≤ v ∧ cur f v (f (n - 1)) z i = cur f v (f (n - 1)) ((n - 2) / 2) 0) ((n - 2) / 2) ?_ ?_
    · exact ⟨0, by omega, by omega, ⟨rfl, rfl, rfl, rfl, rfl, rfl, rfl, trivial⟩, rfl, by omega, rfl⟩
    clear base
    rintro z fr M ⟨i, hi, he, hf, rfl, hfi, hcu⟩
    obtain ⟨base, rfl⟩ := hf.out
    clear hf
    have hlt2 : i + 2 < n := by
      rcases Nat.lt_or_ge (i + 2) n with h | h
      · exact h
      · have : i = n - 2 := by omega
        rw [← this] at hl
        omega
    obtain ⟨q, rfl⟩ : ∃ q, z = q + 1 := ⟨z - 1, by omega⟩
    have bb2 := hc.byte (i + 2) (by omega)
    by_cases h1 : v < f (i + 2)
    · have hcs : cur f v (f (n - 1)) (q + 1) i = cseg f v i := by show (if v < f (i + 2) then _ else _) = _; rw [if_pos h1]
      rw [← hcu, hcs] at hset
      have b0 := hc.byte i (by omega)
      have b1 := hc.byte (i + 1) (by omega)
      have b2 := hc.byte (i + 2) (by omega)
      have b3 := hc.byte (i + 3) (by omega)
      have b4 := cseg_bd hc (by omega) hfi h1
      have hd := tdiv_frac (a := f (i + 3) - f (i + 1)) (x := v - f i) (y := f (i + 2) - f i) (by omega) (by omega) (by omega)
      have hm : -(255 * 255) ≤ (f (i + 3) - f (i + 1)) * (v - f i) ∧ (f (i + 3) - f (i + 1)) * (v - f i) ≤ 255 * 255 := by
        have h1 : 0 ≤ (255 - (f (i + 3) - f (i + 1))) * (v - f i) := Int.mul_nonneg (by omega) (by omega)
        have h2 : 0 ≤ (255 + (f (i + 3) - f (i + 1))) * (v - f i) := Int.mul_nonneg (by omega) (by omega)
        rw [Int.sub_mul] at h1
        rw [Int.add_mul] at h2
        omega
      have hq : -255 ≤ ((f (i + 3) - f (i + 1)) * (v - f i)).tdiv (f (i + 2) - f i) ∧ ((f (i + 3) - f (i + 1)) * (v - f i)).tdiv (f (i + 2) - f i) ≤ 255 := by
        rcases Int.le_total 0 (f (i + 3) - f (i + 1)) with h | h
        · have := hd.1 h; omega
        · have := hd.2 h; omega
      have hw := i64small (x := ((f (i + 3) - f (i + 1)) * (v - f i)).tdiv (f (i + 2) - f i)) (by omega)
      unfold cseg at hset b4
      rw [hv] at hset b4 hd hm hq hw h1
      repeat (first | rw [show (i : Int) + 2 = ((i + 2 : Nat) : Int) by omega] | refine go1_ ?_ | refine bx_ (fun _ => ?_))
      refine hc_drawS (by kernel_rfl) (by kernel_rfl) ?_
      repeat (first | rw [show (i : Int) + 2 = ((i + 2 : Nat) : Int) by omega] | rw [show (i : Int) + 1 = ((i + 1 : Nat) : Int) by omega] | rw [show (i : Int) + 3 = ((i + 3 : Nat) : Int) by omega] | rw [hw] | refine gd1_ ?_)
      repeat (first | rw [hset] | refine go1_ ?_ | refine bx_ (fun _ => ?_))
      exact ⟨m - 1, by omega, k + 1, by omega, ⟨rfl, rfl, rfl, rfl, rfl, trivial⟩, rfl⟩
    · have hcs : cur f v (f (n - 1)) (q + 1) i = cur f v (f (n - 1)) q (i + 2) := by show (if v < f (i + 2) then _ else _) = _; rw [if_neg h1]
      repeat (first | rw [show (i : Int) + 2 = ((i + 2 : Nat) : Int) by omega] | refine go1_ ?_ | refine bx_ (fun _ => ?_))
      exact ⟨q, by omega, i + 2, by omega, by omega, ⟨rfl, rfl, rfl, rfl, rfl, rfl, rfl, trivial⟩, rfl, by omega, by exact hcs.symm.trans hcu⟩
  · obtain rfl : k = 256 := by omega
    rw [psel_end]
    repeat (first | refine go_ ?_ | refine bx_ (fun _ => ?_))
    exact fin1S rfl rfl ⟨g, rfl, rfl⟩

/-! Tables -/
def t0 (p q v : Int) : Int := min 255 ((255 * max 0 (v - p) + (q - p) / 2) / (q - p))
def tblZ (kind : Int) (n : Nat) (f : Nat → Int) (v : Int) : Int :=
  if kind = 0 then t0 (f 0) (f 1) v else if kind = 1 then curveZ n f v else if kind = 2 then 255 - v else if f 0 ≤ v then 255 else 0
theorem t0_bd (p q v : Int) (h : p < q) : 0 ≤ t0 p q v ∧ t0 p q v ≤ 255 := by
  unfold t0
  have h1 : 0 ≤ (255 * max 0 (v - p) + (q - p) / 2) / (q - p) := Int.ediv_nonneg (by omega) (by omega)
  generalize (255 * max 0 (v - p) + (q - p) / 2) / (q - p) = x at *
  omega
theorem t0_hi (p q v : Int) (h : p < q) (hv : q ≤ v) : t0 p q v = 255 := by
  unfold t0
  have h1 : 255 ≤ (255 * max 0 (v - p) + (q - p) / 2) / (q - p) := by
    rw [Int.le_ediv_iff_mul_le (by omega)]
    omega
  generalize (255 * max 0 (v - p) + (q - p) / 2) / (q - p) = x at *
  omega
theorem t0_lo (p q v : Int) (h : p < q) (hv : v ≤ p) : t0 p q v = 0 := by
  unfold t0
  have h1 : (255 * max 0 (v - p) + (q - p) / 2) / (q - p) = 0 := Int.ediv_eq_zero_of_lt (by omega) (by omega)
  rw [h1]; rfl
theorem t0_mid (p q v : Int) (h : p < v) (hv : v < q) : t0 p q v = (255 * (v - p) + (q - p) / 2) / (q - p) := by
  unfold t0
  have h1 : max 0 (v - p) = v - p := by omega
  rw [h1]
  have h2 : (255 * (v - p) + (q - p) / 2) / (q - p) < 256 := Int.ediv_lt_of_lt_mul (by omega) (by omega)
  generalize (255 * (v - p) + (q - p) / 2) / (q - p) = x at *
  omega
theorem tbl_bd {kind : Int} {n : Nat} {f : Nat → Int} (h : Rt kind n f) {v : Int} (hv : 0 ≤ v ∧ v ≤ 255) : 0 ≤ tblZ kind n f v ∧ tblZ kind n f v ≤ 255 := by
  unfold tblZ
  by_cases k0 : kind = 0
  · subst k0; rw [if_pos rfl]; exact t0_bd _ _ _ (by have := h.2; omega)
  rw [if_neg k0]
  by_cases k1 : kind = 1
  · subst k1; rw [if_pos rfl]; exact curve_bd h.crv v
  rw [if_neg k1]
  split
  · omega
  · split <;> omega
/-- What a function of tables hands back. -/
def TabR (kind : Int) (n : Nat) (f : Nat → Int) (H : List Ent) (r : Value) (H' : List Ent) : Prop :=
  (Rt kind n f ∧ ∃ g, r = .tuple #[.slice (some ⟨g, 0, none⟩) 256 256, .bool true] ∧ H' = ⟨g, 3, tab 256 (fun v => tblZ kind n f v), 256⟩ :: H) ∨
  (¬ Rt kind n f ∧ (∃ a m c, r = .tuple #[.slice a m c, .bool false]) ∧ H' = H)
/-- The same; and what is none is empty. -/
def TabP (kind : Int) (n : Nat) (f : Nat → Int) (H : List Ent) (r : Value) (H' : List Ent) : Prop :=
  (Rt kind n f ∧ ∃ g, r = .tuple #[.slice (some ⟨g, 0, none⟩) 256 256, .bool true] ∧ H' = ⟨g, 3, tab 256 (fun v => tblZ kind n f v), 256⟩ :: H) ∨
  (¬ Rt kind n f ∧ r = .tuple #[.slice none 0 0, .bool false] ∧ H' = H)
set_option maxHeartbeats 8000000 in
set_option maxRecDepth 100000 in
theorem table_fn (kind : Int) {a : Option Addr} {n cap : Nat} {f : Nat → Int} (h : Par w0 B H a n cap f) : Fn Try.prog w0 B 75 [.int .i64 kind, .slice a n cap] H (fun r H' => TabP kind n f H r H') := by
  refine fn_intro Try.func75 rfl (by kernel_rfl) rfl ?_
  repeat (first | refine go_ ?_ | refine bx_ (fun _ => ?_))
  refine hl_call rfl rfl (right_fn kind h) (fun r H' hr => ?_)
  obtain ⟨⟨rfl, hR⟩ | ⟨rfl, hR⟩, rfl⟩ := hr
  rotate_left
  · repeat (first | refine go_ ?_ | refine bx_ (fun _ => ?_))
    exact fin2SB rfl rfl rfl (.inr ⟨hR, rfl, rfl⟩)
  by_cases k1 : kind = 1
  · subst k1
    repeat (first | refine go_ ?_ | refine bx_ (fun _ => ?_))
    refine hl_call rfl rfl (curve_fn h hR.crv) (fun r H' hr => ?_)
    obtain ⟨g, rfl, rfl⟩ := hr
    repeat (first | refine go_ ?_ | refine bx_ (fun _ => ?_))
    exact fin2SB rfl rfl rfl (.inl ⟨hR, g, rfl, rfl⟩)
  repeat (first | refine go_ ?_ | refine bx_ (fun _ => ?_))
  refine hl_make1 (n := 256) rfl rfl rfl (by decide) (by decide) rfl (fun g => ?_)
  rw [rep_psel (tblZ kind n f)]
  repeat (first | refine go_ ?_ | refine bx_ (fun _ => ?_))
  refine hc_loop (fun m fr M => ∃ k, k + m = 256 ∧ Agr fr [(0, .int .i64 kind), (1, .slice a n cap), (6, .slice (some ⟨g, 0, none⟩) 256 256), (19, .int .i64 256), (20, .int .i64 (k : Int))] ∧ M = ⟨g, 3, tab 256 (psel (tblZ kind n f) k), 256⟩ :: H') 256 ?_ ?_
  · exact ⟨0, by omega, ⟨rfl, rfl, rfl, rfl, rfl, trivial⟩, rfl⟩
  rintro m fr M ⟨k, hk, hf, rfl⟩
  obtain ⟨base, rfl⟩ := hf.out
  clear hf
  by_cases hlt : k < 256
  · have hset := psel_set (tblZ kind n f) 256 k
    have hall := hR.1
    have hR2 := hR.2
    have hz := psel_zero (tblZ kind n f) k
    by_cases k0 : kind = 0
    · subst k0
      have hv : tblZ 0 n f k = t0 (f 0) (f 1) k := by unfold tblZ; rw [if_pos rfl]
      obtain ⟨b, off, rfl, hp⟩ := h.row (by omega)
      have b0 := hall 0 (by omega)
      have b1 := hall 1 (by omega)
      unfold Ok1 at b0 b1
      rw [hv] at hset
      unfold t0 at hset
      repeat (first | refine go_ ?_ | refine bx_ (fun _ => ?_))
      refine hc_draw (by kernel_rfl) (by kernel_rfl) ?_
      repeat (first | refine gd_ ?_)
      repeat (first | rw [hset] | refine go1_ ?_ | refine bx_ (fun _ => ?_))
      exact ⟨m - 1, by omega, k + 1, by omega, ⟨rfl, rfl, rfl, rfl, rfl, trivial⟩, rfl⟩
    by_cases k2 : kind = 2
    · subst k2
      have hv : tblZ 2 n f k = 255 - k := by unfold tblZ; rw [if_neg (by decide), if_neg (by decide), if_pos rfl]
      rw [hv] at hset
      repeat (first | rw [hset] | refine go1_ ?_ | refine bx_ (fun _ => ?_))
      exact ⟨m - 1, by omega, k + 1, by omega, ⟨rfl, rfl, rfl, rfl, rfl, trivial⟩, rfl⟩
    have k3 : kind = 3 := by omega
    subst k3
    have hv : tblZ 3 n f k = if f 0 ≤ k then 255 else 0 := by unfold tblZ; rw [if_neg (by decide), if_neg (by decide), if_neg (by decide)]
    obtain ⟨b, off, rfl, hp⟩ := h.row (by omega)
    by_cases h1 : f 0 ≤ k
    · rw [hv, if_pos h1] at hset
      repeat (first | rw [hset] | refine go1_ ?_ | refine bx_ (fun _ => ?_))
      exact ⟨m - 1, by omega, k + 1, by omega, ⟨rfl, rfl, rfl, rfl, rfl, trivial⟩, rfl⟩
    · rw [hv, if_neg h1] at hz
      repeat (first | refine go_ ?_ | refine bx_ (fun _ => ?_))
      exact ⟨m - 1, by omega, k + 1, by omega, ⟨rfl, rfl, rfl, rfl, rfl, trivial⟩, by rw [hz rfl]⟩
  · obtain rfl : k = 256 := by omega
    rw [psel_end]
    repeat (first | refine go_ ?_ | refine bx_ (fun _ => ?_))
    exact fin2SB rfl rfl rfl (.inl ⟨hR, g, rfl, rfl⟩)
set_option maxHeartbeats 8000000 in
set_option maxRecDepth 100000 in
theorem rtable_fn (kind : Int) {a : Option Addr} {n cap : Nat} {f : Nat → Int} (h : Par w0 B H a n cap f) : Fn Try.prog w0 B 91 [.int .i64 kind, .slice a n cap] H (fun r H' => TabR kind n f H r H') := by
  have hn := h.small
  refine fn_intro Try.func91 rfl (by kernel_rfl) rfl ?_
  repeat (first | refine go_ ?_ | refine bx_ (fun _ => ?_))
  refine hc_loop (fun m fr M => ∃ k, k + m = n ∧ Agr fr [(0, .int .i64 kind), (1, .slice a n cap), (6, .int .i64 (n : Int)), (7, .int .i64 (k : Int))] ∧ M = H ∧ ∀ i, i < k → 0 ≤ f i ∧ f i ≤ 255) n ?_ ?_
  · exact ⟨0, by omega, ⟨rfl, rfl, rfl, rfl, trivial⟩, rfl, fun i hi => by omega⟩
  rintro m fr M ⟨k, hk, hf, rfl, hall⟩
  obtain ⟨base, rfl⟩ := hf.out
  clear hf
  by_cases hlt : k < n
  · obtain ⟨b, off, rfl, hp⟩ := h.row (by omega)
    have hbd := h.bd k hlt
    by_cases h1 : f k < 0
    · repeat (first | refine go_ ?_ | refine bx_ (fun _ => ?_))
      exact fin2SB rfl rfl rfl (.inr ⟨fun hR => by have := (hR.1 k hlt).1; omega, ⟨_, _, _, rfl⟩, rfl⟩)
    by_cases h2 : 255 < f k
    · repeat (first | refine go_ ?_ | refine bx_ (fun _ => ?_))
      exact fin2SB rfl rfl rfl (.inr ⟨fun hR => by have := (hR.1 k hlt).2.1; omega, ⟨_, _, _, rfl⟩, rfl⟩)
    repeat (first | refine go_ ?_ | refine bx_ (fun _ => ?_))
    refine ⟨m - 1, by omega, k + 1, by omega, ⟨rfl, rfl, rfl, rfl, trivial⟩, rfl, fun i hi => ?_⟩
    by_cases e : i = k
    · subst e; omega
    · exact hall i (by omega)
  obtain rfl : k = n := by omega
  clear hlt hk
  repeat (first | refine go_ ?_ | refine bx_ (fun _ => ?_))
  refine hl_make1 (n := 256) rfl rfl rfl (by decide) (by decide) rfl (fun g => ?_)
  rw [rep_psel (tblZ kind k f)]
  by_cases k0 : kind = 0
  · subst k0
    by_cases h2 : k = 2
    · subst h2
      obtain ⟨b, off, rfl, hp⟩ := h.row (by omega)
      have b0 := hall 0 (by omega)
      have b1 := hall 1 (by omega)
      by_cases h3 : f 0 < f 1
      · have hR : Rt 0 2 f := ⟨fun i hi => ⟨(hall i hi).1, (hall i hi).2, fun h => by omega⟩, by omega⟩
        repeat (first | refine go_ ?_ | refine bx_ (fun _ => ?_))
        refine hc_draw (by kernel_rfl) (by kernel_rfl) ?_
        repeat (first | refine gd_ ?_)
        repeat (first | refine go_ ?_ | refine bx_ (fun _ => ?_))
        refine hc_loop (fun m fr X => ∃ k, k + m = 256 ∧ Agr fr [(1, .slice (some ⟨b, off, none⟩) 2 cap), (8, .slice (some ⟨g, 0, none⟩) 256 256), (9, .int .i64 (k : Int))] ∧ X = ⟨g, 3, tab 256 (psel (tblZ 0 2 f) k), 256⟩ :: M) 256 ?_ ?_
        · exact ⟨0, by omega, ⟨rfl, rfl, rfl, trivial⟩, rfl⟩
        clear base
        rintro m fr X ⟨v, hv, hf, rfl⟩
        obtain ⟨base, rfl⟩ := hf.out
        clear hf
        by_cases hv2 : v < 256
        · have hset := psel_set (tblZ 0 2 f) 256 v
          have hz := psel_zero (tblZ 0 2 f) v
          have hv3 : tblZ 0 2 f v = t0 (f 0) (f 1) v := by unfold tblZ; rw [if_pos rfl]
          rw [hv3] at hset hz
          by_cases h4 : f 1 ≤ v
          · rw [t0_hi _ _ _ h3 h4] at hset
            repeat (first | rw [hset] | refine go1_ ?_ | refine bx_ (fun _ => ?_))
            exact ⟨m - 1, by omega, v + 1, by omega, ⟨rfl, rfl, rfl, trivial⟩, rfl⟩
          by_cases h5 : f 0 < v
          · rw [t0_mid _ _ _ h5 (by omega)] at hset
            repeat (first | refine go_ ?_ | refine bx_ (fun _ => ?_))
            refine hc_drawS (by kernel_rfl) (by kernel_rfl) ?_
            repeat (first | refine gd_ ?_)
            repeat (first | rw [hset] | refine go1_ ?_ | refine bx_ (fun _ => ?_))
            exact ⟨m - 1, by omega, v + 1, by omega, ⟨rfl, rfl, rfl, trivial⟩, rfl⟩
          · repeat (first | refine go_ ?_ | refine bx_ (fun _ => ?_))
            exact ⟨m - 1, by omega, v + 1, by omega, ⟨rfl, rfl, rfl, trivial⟩, by rw [hz (t0_lo _ _ _ h3 (by omega))]⟩
        · obtain rfl : v = 256 := by omega
          rw [psel_end]
          repeat (first | refine go_ ?_ | refine bx_ (fun _ => ?_))
          exact fin2SB rfl rfl rfl (.inl ⟨hR, g, rfl, rfl⟩)
      · repeat (first | refine go_ ?_ | refine bx_ (fun _ => ?_))
        refine hc_draw (by kernel_rfl) (by kernel_rfl) ?_
        repeat (first | refine gd_ ?_)
        repeat (first | refine go_ ?_ | refine bx_ (fun _ => ?_))
        exact fin2SB rfl rfl rfl (.inr ⟨fun hR => by have := hR.2; omega, ⟨_, _, _, rfl⟩, rfl⟩)
    · repeat (first | refine go_ ?_ | refine bx_ (fun _ => ?_))
      refine hc_draw (by kernel_rfl) (by kernel_rfl) ?_
      repeat (first | refine gd_ ?_)
      repeat (first | refine go_ ?_ | refine bx_ (fun _ => ?_))
      exact fin2SB rfl rfl rfl (.inr ⟨fun hR => by have := hR.2; omega, ⟨_, _, _, rfl⟩, rfl⟩)
  by_cases k1 : kind = 1
  · subst k1
    by_cases hn3 : 2 ≤ k ∧ k ≤ 32 ∧ k % 2 = 0
    · obtain ⟨b, off, rfl, hp⟩ := h.row (by omega)
      obtain ⟨n1, n2, n3⟩ := hn3
      repeat (first | refine go_ ?_ | refine bx_ (fun _ => ?_))
      refine hc_loop (fun m fr X => ∃ i, i + 2 * m = k ∧ i % 2 = 0 ∧ 2 ≤ i ∧ Agr fr [(1, .slice (some ⟨b, off, none⟩) k cap), (6, .int .i64 (k : Int)), (8, .slice (some ⟨g, 0, none⟩) 256 256), (10, .int .i64 (i : Int))] ∧ X = ⟨g, 3, tab 256 (psel (tblZ 1 k f) 0), 256⟩ :: M ∧ ∀ j, j < i → j % 2 = 0 → 0 < j → f (j - 2) < f j) ((k - 2) / 2) ?_ ?_
      · exact ⟨2, by omega, by omega, by omega, ⟨rfl, rfl, rfl, rfl, trivial⟩, rfl, fun j h1 h2 h3 => by omega⟩
      clear base
      rintro m fr X ⟨i, hi, he, h2, hf, rfl, hmo⟩
      obtain ⟨base, rfl⟩ := hf.out
      clear hf
      by_cases hik : i < k
      · have b0 := hall i hik
        have b1 := hall (i - 2) (by omega)
        by_cases h3 : f i ≤ f (i - 2)
        · repeat (first | refine go_ ?_ | refine bx_ (fun _ => ?_))
          refine hc_draw (by kernel_rfl) (by kernel_rfl) ?_
          repeat (first | rw [show (i : Int) - 2 = ((i - 2 : Nat) : Int) by omega] | refine gd1_ ?_)
          repeat (first | refine go_ ?_ | refine bx_ (fun _ => ?_))
          exact fin2SB rfl rfl rfl (.inr ⟨fun hR => by have := (hR.1 i hik).2.2 rfl he (by omega); omega, ⟨_, _, _, rfl⟩, rfl⟩)
        · repeat (first | refine go_ ?_ | refine bx_ (fun _ => ?_))
          refine hc_draw (by kernel_rfl) (by kernel_rfl) ?_
          repeat (first | rw [show (i : Int) - 2 = ((i - 2 : Nat) : Int) by omega] | refine gd1_ ?_)
          repeat (first | refine go_ ?_ | refine bx_ (fun _ => ?_))
          refine ⟨m - 1, by omega, i + 2, by omega, by omega, by omega, ⟨rfl, rfl, rfl, rfl, trivial⟩, rfl, fun j h1 h2 h4 => ?_⟩
          by_cases e : j = i
          · subst e; omega
          · exact hmo j (by omega) h2 h4
      · obtain rfl : i = k := by omega
        have hR : Rt 1 i f := ⟨fun j hj => ⟨(hall j hj).1, (hall j hj).2, fun _ h1 h2 => hmo j hj h1 h2⟩, by omega⟩
        repeat (first | refine go_ ?_ | refine bx_ (fun _ => ?_))
        refine hc_loop (fun m fr X => ∃ k, k + m = 256 ∧ Agr fr [(1, .slice (some ⟨b, off, none⟩) i cap), (8, .slice (some ⟨g, 0, none⟩) 256 256), (11, .int .i64 (k : Int))] ∧ X = ⟨g, 3, tab 256 (psel (tblZ 1 i f) k), 256⟩ :: M) 256 ?_ ?_
        · exact ⟨0, by omega, ⟨rfl, rfl, rfl, trivial⟩, rfl⟩
        clear base
        rintro m fr X ⟨v, hv, hf, rfl⟩
        obtain ⟨base, rfl⟩ := hf.out
        clear hf
        by_cases hv2 : v < 256
        · have hset := psel_set (tblZ 1 i f) 256 v
          have hz := psel_zero (tblZ 1 i f) v
          have hv3 : tblZ 1 i f v = curveZ i f v := by unfold tblZ; rw [if_neg (by decide), if_pos rfl]
          rw [hv3] at hset
          repeat (first | rw [hset] | refine go1_ ?_ | refine bx_ (fun _ => ?_) | refine hl_callv rfl rfl (rcurve_fn (h.imp (Imp.drop (Imp.refl _))) hR.crv v (by omega)) ?_)
          exact ⟨m - 1, by omega, v + 1, by omega, ⟨rfl, rfl, rfl, trivial⟩, rfl⟩
        · obtain rfl : v = 256 := by omega
          rw [psel_end]
          repeat (first | refine go_ ?_ | refine bx_ (fun _ => ?_))
          exact fin2SB rfl rfl rfl (.inl ⟨hR, g, rfl, rfl⟩)
    · by_cases n1 : k < 2
      · repeat (first | refine go_ ?_ | refine bx_ (fun _ => ?_))
        exact fin2SB rfl rfl rfl (.inr ⟨fun hR => by have := hR.2; omega, ⟨_, _, _, rfl⟩, rfl⟩)
      by_cases n2 : 32 < k
      · repeat (first | refine go_ ?_ | refine bx_ (fun _ => ?_))
        exact fin2SB rfl rfl rfl (.inr ⟨fun hR => by have := hR.2; omega, ⟨_, _, _, rfl⟩, rfl⟩)
      · have n3 : k % 2 = 1 := by omega
        repeat (first | refine go_ ?_ | refine bx_ (fun _ => ?_))
        exact fin2SB rfl rfl rfl (.inr ⟨fun hR => by have := hR.2; omega, ⟨_, _, _, rfl⟩, rfl⟩)
  by_cases k2 : kind = 2
  · subst k2
    repeat (first | refine go_ ?_ | refine bx_ (fun _ => ?_))
    have hR1 : ∀ i, i < k → Ok1 2 f i := fun i hi => ⟨(hall i hi).1, (hall i hi).2, fun h => by omega⟩
    refine hc_loop (fun m fr X => ∃ v, v + m = 256 ∧ Agr fr [(6, .int .i64 (k : Int)), (8, .slice (some ⟨g, 0, none⟩) 256 256), (12, .int .i64 (v : Int))] ∧ X = ⟨g, 3, tab 256 (psel (tblZ 2 k f) v), 256⟩ :: M) 256 ?_ ?_
    · exact ⟨0, by omega, ⟨rfl, rfl, rfl, trivial⟩, rfl⟩
    clear base
    rintro m fr X ⟨v, hv, hf, rfl⟩
    obtain ⟨base, rfl⟩ := hf.out
    clear hf
    by_cases hv2 : v < 256
    · have hset := psel_set (tblZ 2 k f) 256 v
      have hz := psel_zero (tblZ 2 k f) v
      have hv3 : tblZ 2 k f v = 255 - v := by unfold tblZ; rw [if_neg (by decide), if_neg (by decide), if_pos rfl]
      rw [hv3] at hset
      repeat (first | rw [hset] | refine go1_ ?_ | refine bx_ (fun _ => ?_))
      exact ⟨m - 1, by omega, v + 1, by omega, ⟨rfl, rfl, rfl, trivial⟩, rfl⟩
    · obtain rfl : v = 256 := by omega
      rw [psel_end]
      by_cases hk0 : k = 0
      · repeat (first | refine go_ ?_ | refine bx_ (fun _ => ?_))
        exact fin2SB rfl rfl rfl (.inl ⟨⟨hR1, by omega⟩, g, rfl, rfl⟩)
      · repeat (first | refine go_ ?_ | refine bx_ (fun _ => ?_))
        exact fin2SB rfl rfl rfl (.inr ⟨fun hR => by have := hR.2; omega, ⟨_, _, _, rfl⟩, rfl⟩)
  by_cases k3 : kind = 3
  · subst k3
    by_cases hk1 : k = 1
    · subst hk1
      obtain ⟨b, off, rfl, hp⟩ := h.row (by omega)
      have b0 := hall 0 (by omega)
      have hR : Rt 3 1 f := ⟨fun i hi => ⟨(hall i hi).1, (hall i hi).2, fun h => by omega⟩, by omega⟩
      have hv3 : ∀ v : Nat, tblZ 3 1 f v = if f 0 ≤ v then 255 else 0 := fun v => by unfold tblZ; rw [if_neg (by decide), if_neg (by decide), if_neg (by decide)]
      obtain ⟨p, hp0⟩ : ∃ p : Nat, f 0 = (p : Int) := ⟨(f 0).toNat, by omega⟩
      have hz : tab 256 (psel (tblZ 3 1 f) 0) = tab 256 (psel (tblZ 3 1 f) p) := tab_congr fun j _ => by
        unfold psel
        rw [if_neg (by omega)]
        by_cases h1 : j < p
        · rw [if_pos h1, hv3, if_neg (by omega)]
        · rw [if_neg h1]
      rw [hz]
      repeat (first | refine go_ ?_ | refine bx_ (fun _ => ?_))
      refine hc_loop (fun m fr X => ∃ v, v + m = 256 ∧ p ≤ v ∧ Agr fr [(8, .slice (some ⟨g, 0, none⟩) 256 256), (13, .int .i64 (v : Int))] ∧ X = ⟨g, 3, tab 256 (psel (tblZ 3 1 f) v), 256⟩ :: M) (256 - p) ?_ ?_
      · exact ⟨p, by omega, by omega, ⟨rfl, by rw [← hp0]; rfl, trivial⟩, rfl⟩
      clear base
      rintro m fr X ⟨v, hv, hpv, hf, rfl⟩
      obtain ⟨base, rfl⟩ := hf.out
      clear hf
      by_cases hv2 : v < 256
      · have hset := psel_set (tblZ 3 1 f) 256 v
        rw [hv3, if_pos (by omega)] at hset
        repeat (first | rw [hset] | refine go1_ ?_ | refine bx_ (fun _ => ?_))
        exact ⟨m - 1, by omega, v + 1, by omega, by omega, ⟨rfl, rfl, trivial⟩, rfl⟩
      · obtain rfl : v = 256 := by omega
        rw [psel_end]
        repeat (first | refine go_ ?_ | refine bx_ (fun _ => ?_))
        exact fin2SB rfl rfl rfl (.inl ⟨hR, g, rfl, rfl⟩)
    · repeat (first | refine go_ ?_ | refine bx_ (fun _ => ?_))
      exact fin2SB rfl rfl rfl (.inr ⟨fun hR => by have := hR.2; omega, ⟨_, _, _, rfl⟩, rfl⟩)
  · repeat (first | refine go_ ?_ | refine bx_ (fun _ => ?_))
    exact fin2SB rfl rfl rfl (.inr ⟨fun hR => by have := hR.2; omega, ⟨_, _, _, rfl⟩, rfl⟩)
end
end Go.Proofs.Ytoobhebbgbhahaa.Tb
