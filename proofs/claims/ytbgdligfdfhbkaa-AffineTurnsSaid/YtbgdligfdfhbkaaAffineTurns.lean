/-
  The statement AffineTurns holds, whatever the turns and the moves.
-/
import Derived.Test.YtbgdligfdfhbkaaA8
import Derived.Test.YtbgdligfdfhbkaaOpenArr
namespace Go.Proofs.Ytbgdligfdfhbkaa.affineTurns
open Go.RowKit
def O6 : Nat → Int := L6 65536 0 0 65536 0 0
def R6 : Nat → Int := L6 0 (-65536) 65536 0 0 0
def ma (i : Nat) : Int := ([65536, (-65536), 0, 0, (-65536), 65536, 0, 0] : List Int).getD i 0
def mb (i : Nat) : Int := ([0, 0, (-65536), (-65536), 0, 0, 65536, 65536] : List Int).getD i 0
def mc (i : Nat) : Int := ([0, 0, 65536, (-65536), 0, 0, (-65536), 65536] : List Int).getD i 0
def md (i : Nat) : Int := ([65536, 65536, 0, 0, (-65536), (-65536), 0, 0] : List Int).getD i 0
def nx (i : Nat) : Nat := ([2, 3, 4, 5, 6, 7, 0, 1] : List Nat).getD i 0
def mm (i : Nat) (e f : Int) : Nat → Int := L6 (ma i) (mb i) (mc i) (md i) e f
theorem nx_lt : ∀ i : Fin 8, nx i.val < 8 := by decide
theorem turn_rt : ∀ i : Fin 8, Rt (mm i.val 0 0) := by decide
theorem turn : ∀ i : Fin 8, ∀ k : Fin 6, timesZ R6 (mm i.val 0 0) k.val = mm (nx i.val) 0 0 k.val := by decide
theorem r_rt : Rt R6 := by decide
theorem rt_congr {m n : Nat → Int} (h : ∀ k, k < 6 → n k = m k) (hm : Rt m) : Rt n := ⟨fun i hi => by rw [h i (by omega)]; exact hm.1 i hi, fun i hi h4 => by rw [h i hi]; exact hm.2 i hi h4⟩
theorem turns (i : Nat) (hi : i < 8) : timesR R6 (mm i 0 0) = (timesZ R6 (mm i 0 0), 0) ∧ ∀ k, k < 6 → timesZ R6 (mm i 0 0) k = mm (nx i) 0 0 k := by
  have h := fun k hk => turn ⟨i, hi⟩ ⟨k, hk⟩
  refine ⟨?_, h⟩
  unfold timesR
  rw [if_pos ⟨r_rt, turn_rt ⟨i, hi⟩⟩, if_pos (rt_congr h (turn_rt ⟨nx i, nx_lt ⟨i, hi⟩⟩))]
theorem rt_mk {a b c d e f : Int} (ha : -16777216 ≤ a ∧ a ≤ 16777216) (hb : -16777216 ≤ b ∧ b ≤ 16777216) (hc : -16777216 ≤ c ∧ c ≤ 16777216) (hd : -16777216 ≤ d ∧ d ≤ 16777216) (he : -68719476736 ≤ e ∧ e ≤ 68719476736) (hf : -68719476736 ≤ f ∧ f ≤ 68719476736) : Rt (L6 a b c d e f) :=
  ⟨fun i hi => match i, hi with | 0, _ => ha | 1, _ => hb | 2, _ => hc | 3, _ => hd, fun i hi h4 => match i, hi, h4 with | 4, _, _ => he | 5, _, _ => hf⟩
/-- The back map, and both products. -/
theorem back8 (i : Nat) (hi : i < 8) (x y : Int) (hx : -32768 ≤ x ∧ x ≤ 32768) (hy : -32768 ≤ y ∧ y ≤ 32768) : ∃ b, backR (mm i (65536 * x) (65536 * y)) = (b, 0) ∧ Sm b ∧
    (∃ t, timesR (mm i (65536 * x) (65536 * y)) b = (t, 0) ∧ ∀ k, k < 6 → t k = O6 k) ∧ (∃ t, timesR b (mm i (65536 * x) (65536 * y)) = (t, 0) ∧ ∀ k, k < 6 → t k = O6 k) := by
  have key : ∀ (a b c d a' b' c' d' : Int), (-16777216 ≤ a ∧ a ≤ 16777216) → (-16777216 ≤ b ∧ b ≤ 16777216) → (-16777216 ≤ c ∧ c ≤ 16777216) → (-16777216 ≤ d ∧ d ≤ 16777216) →
      (-16777216 ≤ a' ∧ a' ≤ 16777216) → (-16777216 ≤ b' ∧ b' ≤ 16777216) → (-16777216 ≤ c' ∧ c' ≤ 16777216) → (-16777216 ≤ d' ∧ d' ≤ 16777216) → a * d - b * c ≠ 0 →
      rndZ (d * 4294967296) (a * d - b * c) = a' → rndZ (-b * 4294967296) (a * d - b * c) = b' → rndZ (-c * 4294967296) (a * d - b * c) = c' → rndZ (a * 4294967296) (a * d - b * c) = d' →
      ∀ e' f' : Int, near16 (-(a' * (65536 * x) + b' * (65536 * y))) = e' → near16 (-(c' * (65536 * x) + d' * (65536 * y))) = f' → (-68719476736 ≤ e' ∧ e' ≤ 68719476736) → (-68719476736 ≤ f' ∧ f' ≤ 68719476736) →
      (∀ k, k < 6 → timesZ (L6 a b c d (65536 * x) (65536 * y)) (L6 a' b' c' d' e' f') k = O6 k) → (∀ k, k < 6 → timesZ (L6 a' b' c' d' e' f') (L6 a b c d (65536 * x) (65536 * y)) k = O6 k) →
      ∃ bb, backR (L6 a b c d (65536 * x) (65536 * y)) = (bb, 0) ∧ Sm bb ∧
        (∃ t, timesR (L6 a b c d (65536 * x) (65536 * y)) bb = (t, 0) ∧ ∀ k, k < 6 → t k = O6 k) ∧ (∃ t, timesR bb (L6 a b c d (65536 * x) (65536 * y)) = (t, 0) ∧ ∀ k, k < 6 → t k = O6 k) := by
    intro a b c d a' b' c' d' ha hb hc hd ha' hb' hc' hd' hdet h0 h1 h2 h3 e' f' h4 h5 he hf t1 t2
    have hm : Rt (L6 a b c d (65536 * x) (65536 * y)) := rt_mk ha hb hc hd (by omega) (by omega)
    have hfo : four (L6 a b c d (65536 * x) (65536 * y)) = L6 a' b' c' d' 0 0 := by
      show L6 (rndZ (d * 4294967296) (a * d - b * c)) (rndZ (-b * 4294967296) (a * d - b * c)) (rndZ (-c * 4294967296) (a * d - b * c)) (rndZ (a * 4294967296) (a * d - b * c)) 0 0 = _
      rw [h0, h1, h2, h3]
    have hbz : backZ (L6 a b c d (65536 * x) (65536 * y)) = L6 a' b' c' d' e' f' := by
      unfold backZ
      rw [hfo]
      show L6 a' b' c' d' (near16 (-(a' * (65536 * x) + b' * (65536 * y)))) (near16 (-(c' * (65536 * x) + d' * (65536 * y)))) = _
      rw [h4, h5]
    have hrb : Rt (L6 a' b' c' d' e' f') := rt_mk ha' hb' hc' hd' he hf
    have ho : Rt O6 := by decide
    refine ⟨L6 a' b' c' d' e' f', ?_, L6_sm (by unfold Big; omega) (by unfold Big; omega) (by unfold Big; omega) (by unfold Big; omega) (by unfold Big; omega) (by unfold Big; omega), ⟨_, ?_, t1⟩, ⟨_, ?_, t2⟩⟩
    · unfold backR
      rw [if_pos hm, if_neg (show ¬ det (L6 a b c d (65536 * x) (65536 * y)) = 0 from hdet), hfo, if_pos (rt_mk ha' hb' hc' hd' (by omega) (by omega)), hbz, if_pos hrb]
    · unfold timesR
      rw [if_pos ⟨hm, hrb⟩, if_pos (rt_congr t1 ho)]
    · unfold timesR
      rw [if_pos ⟨hrb, hm⟩, if_pos (rt_congr t2 ho)]
  match i, hi with
  | 0, _ =>
    refine key 65536 0 0 65536 65536 0 0 65536 ⟨by decide, by decide⟩ ⟨by decide, by decide⟩ ⟨by decide, by decide⟩ ⟨by decide, by decide⟩ ⟨by decide, by decide⟩ ⟨by decide, by decide⟩ ⟨by decide, by decide⟩ ⟨by decide, by decide⟩ (by decide) (by decide) (by decide) (by decide) (by decide) ((-65536) * x + 0 * y) (0 * x + (-65536) * y) (by unfold near16; omega) (by unfold near16; omega) (by omega) (by omega) ?_ ?_
    · exact fun k hk => by
        match k, hk with
        | 0, _ => show near16 (65536 * 65536 + 0 * 0) = 65536; unfold near16; omega
        | 1, _ => show near16 (65536 * 0 + 0 * 65536) = 0; unfold near16; omega
        | 2, _ => show near16 (0 * 65536 + 65536 * 0) = 0; unfold near16; omega
        | 3, _ => show near16 (0 * 0 + 65536 * 65536) = 65536; unfold near16; omega
        | 4, _ => show near16 (65536 * ((-65536) * x + 0 * y) + 0 * (0 * x + (-65536) * y)) + (65536 * x) = 0; unfold near16; omega
        | 5, _ => show near16 (0 * ((-65536) * x + 0 * y) + 65536 * (0 * x + (-65536) * y)) + (65536 * y) = 0; unfold near16; omega
    · exact fun k hk => by
        match k, hk with
        | 0, _ => show near16 (65536 * 65536 + 0 * 0) = 65536; unfold near16; omega
        | 1, _ => show near16 (65536 * 0 + 0 * 65536) = 0; unfold near16; omega
        | 2, _ => show near16 (0 * 65536 + 65536 * 0) = 0; unfold near16; omega
        | 3, _ => show near16 (0 * 0 + 65536 * 65536) = 65536; unfold near16; omega
        | 4, _ => show near16 (65536 * (65536 * x) + 0 * (65536 * y)) + ((-65536) * x + 0 * y) = 0; unfold near16; omega
        | 5, _ => show near16 (0 * (65536 * x) + 65536 * (65536 * y)) + (0 * x + (-65536) * y) = 0; unfold near16; omega
  | 1, _ =>
    refine key (-65536) 0 0 65536 (-65536) 0 0 65536 ⟨by decide, by decide⟩ ⟨by decide, by decide⟩ ⟨by decide, by decide⟩ ⟨by decide, by decide⟩ ⟨by decide, by decide⟩ ⟨by decide, by decide⟩ ⟨by decide, by decide⟩ ⟨by decide, by decide⟩ (by decide) (by decide) (by decide) (by decide) (by decide) (65536 * x + 0 * y) (0 * x + (-65536) * y) (by unfold near16; omega) (by unfold near16; omega) (by omega) (by omega) ?_ ?_
    · exact fun k hk => by
        match k, hk with
        | 0, _ => show near16 ((-65536) * (-65536) + 0 * 0) = 65536; unfold near16; omega
        | 1, _ => show near16 ((-65536) * 0 + 0 * 65536) = 0; unfold near16; omega
        | 2, _ => show near16 (0 * (-65536) + 65536 * 0) = 0; unfold near16; omega
        | 3, _ => show near16 (0 * 0 + 65536 * 65536) = 65536; unfold near16; omega
        | 4, _ => show near16 ((-65536) * (65536 * x + 0 * y) + 0 * (0 * x + (-65536) * y)) + (65536 * x) = 0; unfold near16; omega
        | 5, _ => show near16 (0 * (65536 * x + 0 * y) + 65536 * (0 * x + (-65536) * y)) + (65536 * y) = 0; unfold near16; omega
    · exact fun k hk => by
        match k, hk with
        | 0, _ => show near16 ((-65536) * (-65536) + 0 * 0) = 65536; unfold near16; omega
        | 1, _ => show near16 ((-65536) * 0 + 0 * 65536) = 0; unfold near16; omega
        | 2, _ => show near16 (0 * (-65536) + 65536 * 0) = 0; unfold near16; omega
        | 3, _ => show near16 (0 * 0 + 65536 * 65536) = 65536; unfold near16; omega
        | 4, _ => show near16 ((-65536) * (65536 * x) + 0 * (65536 * y)) + (65536 * x + 0 * y) = 0; unfold near16; omega
        | 5, _ => show near16 (0 * (65536 * x) + 65536 * (65536 * y)) + (0 * x + (-65536) * y) = 0; unfold near16; omega
  | 2, _ =>
    refine key 0 (-65536) 65536 0 0 65536 (-65536) 0 ⟨by decide, by decide⟩ ⟨by decide, by decide⟩ ⟨by decide, by decide⟩ ⟨by decide, by decide⟩ ⟨by decide, by decide⟩ ⟨by decide, by decide⟩ ⟨by decide, by decide⟩ ⟨by decide, by decide⟩ (by decide) (by decide) (by decide) (by decide) (by decide) (0 * x + (-65536) * y) (65536 * x + 0 * y) (by unfold near16; omega) (by unfold near16; omega) (by omega) (by omega) ?_ ?_
    · exact fun k hk => by
        match k, hk with
        | 0, _ => show near16 (0 * 0 + (-65536) * (-65536)) = 65536; unfold near16; omega
        | 1, _ => show near16 (0 * 65536 + (-65536) * 0) = 0; unfold near16; omega
        | 2, _ => show near16 (65536 * 0 + 0 * (-65536)) = 0; unfold near16; omega
        | 3, _ => show near16 (65536 * 65536 + 0 * 0) = 65536; unfold near16; omega
        | 4, _ => show near16 (0 * (0 * x + (-65536) * y) + (-65536) * (65536 * x + 0 * y)) + (65536 * x) = 0; unfold near16; omega
        | 5, _ => show near16 (65536 * (0 * x + (-65536) * y) + 0 * (65536 * x + 0 * y)) + (65536 * y) = 0; unfold near16; omega
    · exact fun k hk => by
        match k, hk with
        | 0, _ => show near16 (0 * 0 + 65536 * 65536) = 65536; unfold near16; omega
        | 1, _ => show near16 (0 * (-65536) + 65536 * 0) = 0; unfold near16; omega
        | 2, _ => show near16 ((-65536) * 0 + 0 * 65536) = 0; unfold near16; omega
        | 3, _ => show near16 ((-65536) * (-65536) + 0 * 0) = 65536; unfold near16; omega
        | 4, _ => show near16 (0 * (65536 * x) + 65536 * (65536 * y)) + (0 * x + (-65536) * y) = 0; unfold near16; omega
        | 5, _ => show near16 ((-65536) * (65536 * x) + 0 * (65536 * y)) + (65536 * x + 0 * y) = 0; unfold near16; omega
  | 3, _ =>
    refine key 0 (-65536) (-65536) 0 0 (-65536) (-65536) 0 ⟨by decide, by decide⟩ ⟨by decide, by decide⟩ ⟨by decide, by decide⟩ ⟨by decide, by decide⟩ ⟨by decide, by decide⟩ ⟨by decide, by decide⟩ ⟨by decide, by decide⟩ ⟨by decide, by decide⟩ (by decide) (by decide) (by decide) (by decide) (by decide) (0 * x + 65536 * y) (65536 * x + 0 * y) (by unfold near16; omega) (by unfold near16; omega) (by omega) (by omega) ?_ ?_
    · exact fun k hk => by
        match k, hk with
        | 0, _ => show near16 (0 * 0 + (-65536) * (-65536)) = 65536; unfold near16; omega
        | 1, _ => show near16 (0 * (-65536) + (-65536) * 0) = 0; unfold near16; omega
        | 2, _ => show near16 ((-65536) * 0 + 0 * (-65536)) = 0; unfold near16; omega
        | 3, _ => show near16 ((-65536) * (-65536) + 0 * 0) = 65536; unfold near16; omega
        | 4, _ => show near16 (0 * (0 * x + 65536 * y) + (-65536) * (65536 * x + 0 * y)) + (65536 * x) = 0; unfold near16; omega
        | 5, _ => show near16 ((-65536) * (0 * x + 65536 * y) + 0 * (65536 * x + 0 * y)) + (65536 * y) = 0; unfold near16; omega
    · exact fun k hk => by
        match k, hk with
        | 0, _ => show near16 (0 * 0 + (-65536) * (-65536)) = 65536; unfold near16; omega
        | 1, _ => show near16 (0 * (-65536) + (-65536) * 0) = 0; unfold near16; omega
        | 2, _ => show near16 ((-65536) * 0 + 0 * (-65536)) = 0; unfold near16; omega
        | 3, _ => show near16 ((-65536) * (-65536) + 0 * 0) = 65536; unfold near16; omega
        | 4, _ => show near16 (0 * (65536 * x) + (-65536) * (65536 * y)) + (0 * x + 65536 * y) = 0; unfold near16; omega
        | 5, _ => show near16 ((-65536) * (65536 * x) + 0 * (65536 * y)) + (65536 * x + 0 * y) = 0; unfold near16; omega
  | 4, _ =>
    refine key (-65536) 0 0 (-65536) (-65536) 0 0 (-65536) ⟨by decide, by decide⟩ ⟨by decide, by decide⟩ ⟨by decide, by decide⟩ ⟨by decide, by decide⟩ ⟨by decide, by decide⟩ ⟨by decide, by decide⟩ ⟨by decide, by decide⟩ ⟨by decide, by decide⟩ (by decide) (by decide) (by decide) (by decide) (by decide) (65536 * x + 0 * y) (0 * x + 65536 * y) (by unfold near16; omega) (by unfold near16; omega) (by omega) (by omega) ?_ ?_
    · exact fun k hk => by
        match k, hk with
        | 0, _ => show near16 ((-65536) * (-65536) + 0 * 0) = 65536; unfold near16; omega
        | 1, _ => show near16 ((-65536) * 0 + 0 * (-65536)) = 0; unfold near16; omega
        | 2, _ => show near16 (0 * (-65536) + (-65536) * 0) = 0; unfold near16; omega
        | 3, _ => show near16 (0 * 0 + (-65536) * (-65536)) = 65536; unfold near16; omega
        | 4, _ => show near16 ((-65536) * (65536 * x + 0 * y) + 0 * (0 * x + 65536 * y)) + (65536 * x) = 0; unfold near16; omega
        | 5, _ => show near16 (0 * (65536 * x + 0 * y) + (-65536) * (0 * x + 65536 * y)) + (65536 * y) = 0; unfold near16; omega
    · exact fun k hk => by
        match k, hk with
        | 0, _ => show near16 ((-65536) * (-65536) + 0 * 0) = 65536; unfold near16; omega
        | 1, _ => show near16 ((-65536) * 0 + 0 * (-65536)) = 0; unfold near16; omega
        | 2, _ => show near16 (0 * (-65536) + (-65536) * 0) = 0; unfold near16; omega
        | 3, _ => show near16 (0 * 0 + (-65536) * (-65536)) = 65536; unfold near16; omega
        | 4, _ => show near16 ((-65536) * (65536 * x) + 0 * (65536 * y)) + (65536 * x + 0 * y) = 0; unfold near16; omega
        | 5, _ => show near16 (0 * (65536 * x) + (-65536) * (65536 * y)) + (0 * x + 65536 * y) = 0; unfold near16; omega
  | 5, _ =>
    refine key 65536 0 0 (-65536) 65536 0 0 (-65536) ⟨by decide, by decide⟩ ⟨by decide, by decide⟩ ⟨by decide, by decide⟩ ⟨by decide, by decide⟩ ⟨by decide, by decide⟩ ⟨by decide, by decide⟩ ⟨by decide, by decide⟩ ⟨by decide, by decide⟩ (by decide) (by decide) (by decide) (by decide) (by decide) ((-65536) * x + 0 * y) (0 * x + 65536 * y) (by unfold near16; omega) (by unfold near16; omega) (by omega) (by omega) ?_ ?_
    · exact fun k hk => by
        match k, hk with
        | 0, _ => show near16 (65536 * 65536 + 0 * 0) = 65536; unfold near16; omega
        | 1, _ => show near16 (65536 * 0 + 0 * (-65536)) = 0; unfold near16; omega
        | 2, _ => show near16 (0 * 65536 + (-65536) * 0) = 0; unfold near16; omega
        | 3, _ => show near16 (0 * 0 + (-65536) * (-65536)) = 65536; unfold near16; omega
        | 4, _ => show near16 (65536 * ((-65536) * x + 0 * y) + 0 * (0 * x + 65536 * y)) + (65536 * x) = 0; unfold near16; omega
        | 5, _ => show near16 (0 * ((-65536) * x + 0 * y) + (-65536) * (0 * x + 65536 * y)) + (65536 * y) = 0; unfold near16; omega
    · exact fun k hk => by
        match k, hk with
        | 0, _ => show near16 (65536 * 65536 + 0 * 0) = 65536; unfold near16; omega
        | 1, _ => show near16 (65536 * 0 + 0 * (-65536)) = 0; unfold near16; omega
        | 2, _ => show near16 (0 * 65536 + (-65536) * 0) = 0; unfold near16; omega
        | 3, _ => show near16 (0 * 0 + (-65536) * (-65536)) = 65536; unfold near16; omega
        | 4, _ => show near16 (65536 * (65536 * x) + 0 * (65536 * y)) + ((-65536) * x + 0 * y) = 0; unfold near16; omega
        | 5, _ => show near16 (0 * (65536 * x) + (-65536) * (65536 * y)) + (0 * x + 65536 * y) = 0; unfold near16; omega
  | 6, _ =>
    refine key 0 65536 (-65536) 0 0 (-65536) 65536 0 ⟨by decide, by decide⟩ ⟨by decide, by decide⟩ ⟨by decide, by decide⟩ ⟨by decide, by decide⟩ ⟨by decide, by decide⟩ ⟨by decide, by decide⟩ ⟨by decide, by decide⟩ ⟨by decide, by decide⟩ (by decide) (by decide) (by decide) (by decide) (by decide) (0 * x + 65536 * y) ((-65536) * x + 0 * y) (by unfold near16; omega) (by unfold near16; omega) (by omega) (by omega) ?_ ?_
    · exact fun k hk => by
        match k, hk with
        | 0, _ => show near16 (0 * 0 + 65536 * 65536) = 65536; unfold near16; omega
        | 1, _ => show near16 (0 * (-65536) + 65536 * 0) = 0; unfold near16; omega
        | 2, _ => show near16 ((-65536) * 0 + 0 * 65536) = 0; unfold near16; omega
        | 3, _ => show near16 ((-65536) * (-65536) + 0 * 0) = 65536; unfold near16; omega
        | 4, _ => show near16 (0 * (0 * x + 65536 * y) + 65536 * ((-65536) * x + 0 * y)) + (65536 * x) = 0; unfold near16; omega
        | 5, _ => show near16 ((-65536) * (0 * x + 65536 * y) + 0 * ((-65536) * x + 0 * y)) + (65536 * y) = 0; unfold near16; omega
    · exact fun k hk => by
        match k, hk with
        | 0, _ => show near16 (0 * 0 + (-65536) * (-65536)) = 65536; unfold near16; omega
        | 1, _ => show near16 (0 * 65536 + (-65536) * 0) = 0; unfold near16; omega
        | 2, _ => show near16 (65536 * 0 + 0 * (-65536)) = 0; unfold near16; omega
        | 3, _ => show near16 (65536 * 65536 + 0 * 0) = 65536; unfold near16; omega
        | 4, _ => show near16 (0 * (65536 * x) + (-65536) * (65536 * y)) + (0 * x + 65536 * y) = 0; unfold near16; omega
        | 5, _ => show near16 (65536 * (65536 * x) + 0 * (65536 * y)) + ((-65536) * x + 0 * y) = 0; unfold near16; omega
  | 7, _ =>
    refine key 0 65536 65536 0 0 65536 65536 0 ⟨by decide, by decide⟩ ⟨by decide, by decide⟩ ⟨by decide, by decide⟩ ⟨by decide, by decide⟩ ⟨by decide, by decide⟩ ⟨by decide, by decide⟩ ⟨by decide, by decide⟩ ⟨by decide, by decide⟩ (by decide) (by decide) (by decide) (by decide) (by decide) (0 * x + (-65536) * y) ((-65536) * x + 0 * y) (by unfold near16; omega) (by unfold near16; omega) (by omega) (by omega) ?_ ?_
    · exact fun k hk => by
        match k, hk with
        | 0, _ => show near16 (0 * 0 + 65536 * 65536) = 65536; unfold near16; omega
        | 1, _ => show near16 (0 * 65536 + 65536 * 0) = 0; unfold near16; omega
        | 2, _ => show near16 (65536 * 0 + 0 * 65536) = 0; unfold near16; omega
        | 3, _ => show near16 (65536 * 65536 + 0 * 0) = 65536; unfold near16; omega
        | 4, _ => show near16 (0 * (0 * x + (-65536) * y) + 65536 * ((-65536) * x + 0 * y)) + (65536 * x) = 0; unfold near16; omega
        | 5, _ => show near16 (65536 * (0 * x + (-65536) * y) + 0 * ((-65536) * x + 0 * y)) + (65536 * y) = 0; unfold near16; omega
    · exact fun k hk => by
        match k, hk with
        | 0, _ => show near16 (0 * 0 + 65536 * 65536) = 65536; unfold near16; omega
        | 1, _ => show near16 (0 * 65536 + 65536 * 0) = 0; unfold near16; omega
        | 2, _ => show near16 (65536 * 0 + 0 * 65536) = 0; unfold near16; omega
        | 3, _ => show near16 (65536 * 65536 + 0 * 0) = 65536; unfold near16; omega
        | 4, _ => show near16 (0 * (65536 * x) + 65536 * (65536 * y)) + (0 * x + (-65536) * y) = 0; unfold near16; omega
        | 5, _ => show near16 (65536 * (65536 * x) + 0 * (65536 * y)) + ((-65536) * x + 0 * y) = 0; unfold near16; omega
set_option maxHeartbeats 16000000 in
set_option maxRecDepth 100000 in
theorem law {w0 : World} {B : Nat} {H : List Ent} (q : Int) (mi : Bool) (x y : Int) : Fn Try.prog w0 B 9 [.int .i64 q, .bool mi, .int .i64 x, .int .i64 y] H (fun u _ => u = .bool true) := by
  refine fn_intro Try.func9 rfl (by kernel_rfl) rfl ?_
  by_cases q1 : q < 0
  · repeat (first | refine go_ ?_ | refine bx_ (fun _ => ?_) | refine hl_callv rfl rfl (anchor_fn) ?_)
    exact fin1B rfl rfl rfl
  by_cases q2 : 9 < q
  · repeat (first | refine go_ ?_ | refine bx_ (fun _ => ?_) | refine hl_callv rfl rfl (anchor_fn) ?_)
    exact fin1B rfl rfl rfl
  by_cases x1 : x < -32768
  · repeat (first | refine go_ ?_ | refine bx_ (fun _ => ?_) | refine hl_callv rfl rfl (anchor_fn) ?_)
    exact fin1B rfl rfl rfl
  by_cases x2 : 32768 < x
  · repeat (first | refine go_ ?_ | refine bx_ (fun _ => ?_) | refine hl_callv rfl rfl (anchor_fn) ?_)
    exact fin1B rfl rfl rfl
  by_cases y1 : y < -32768
  · repeat (first | refine go_ ?_ | refine bx_ (fun _ => ?_) | refine hl_callv rfl rfl (anchor_fn) ?_)
    exact fin1B rfl rfl rfl
  by_cases y2 : 32768 < y
  · repeat (first | refine go_ ?_ | refine bx_ (fun _ => ?_) | refine hl_callv rfl rfl (anchor_fn) ?_)
    exact fin1B rfl rfl rfl
  obtain ⟨n, rfl⟩ := Int.eq_ofNat_of_zero_le (show 0 ≤ q by omega)
  have h6 : ∀ E, Fn Try.prog w0 B 23 [] E (fun v H' => v = .agg (tab 6 O6).toArray ∧ H' = E) := fun E => one_fn
  repeat (first | refine go_ ?_ | refine bx_ (fun _ => ?_) | refine hl_callv rfl rfl (anchor_fn) ?_ | refine hl_callv rfl rfl (h6 _) ?_)
  refine hc_meet (fun fr M => ∃ g9 i, i < 8 ∧ Agr fr [(0, .int .i64 (n : Int)), (2, .int .i64 x), (3, .int .i64 y), (9, .pointer (some ⟨g9, 0, none⟩))] ∧ M = ⟨g9, 23, tab 6 (mm i 0 0), 6⟩ :: H) ?_ ?_
  · cases mi
    · repeat (first | refine go_ ?_ | refine bx_ (fun _ => ?_))
      exact ⟨_, 0, by decide, ⟨rfl, rfl, rfl, rfl, trivial⟩, rfl⟩
    · repeat (first | refine go_ ?_ | refine bx_ (fun _ => ?_))
      exact ⟨_, 1, by decide, ⟨rfl, rfl, rfl, rfl, trivial⟩, rfl⟩
  rintro fr M ⟨g9, i0, hi0, hf, rfl⟩
  obtain ⟨base, rfl⟩ := hf.out
  clear hf
  have hR : ∀ i, i < 8 → ∀ E, Fn Try.prog w0 B 24 [.agg [.int .i64 0, .int .i64 (-65536), .int .i64 65536, .int .i64 0, .int .i64 0, .int .i64 0].toArray, .agg (tab 6 (mm i 0 0)).toArray] E (fun v H' => v = .tuple #[.agg (tab 6 (mm (nx i) 0 0)).toArray, .int .i64 0] ∧ H' = E) := fun i hi E => by
    obtain ⟨e1, e2⟩ := turns i hi
    have hs : Sm (mm i 0 0) := fun k hk => by
      have := turn_rt ⟨i, hi⟩
      by_cases h4 : k < 4
      · have := this.1 k h4; dsimp only at this; omega
      · have := this.2 k hk (by omega); dsimp only at this; omega
    have := times_fn (w0 := w0) (B := B) (H := E) R6 (mm i 0 0) L6sm hs
    rw [e1] at this
    unfold mapV at this
    rw [show tab 6 (timesZ R6 (mm i 0 0)) = tab 6 (mm (nx i) 0 0) from tab_congr e2] at this
    exact this
  repeat (first | refine go_ ?_ | refine bx_ (fun _ => ?_))
  refine hc_loop (fun z fr M => ∃ k i, k + z = n ∧ i < 8 ∧ Agr fr [(0, .int .i64 (n : Int)), (2, .int .i64 x), (3, .int .i64 y), (9, .pointer (some ⟨g9, 0, none⟩)), (10, .int .i64 (k : Int))] ∧ M = ⟨g9, 23, tab 6 (mm i 0 0), 6⟩ :: H) n ?_ ?_
  · exact ⟨0, i0, by omega, hi0, ⟨rfl, rfl, rfl, rfl, rfl, trivial⟩, rfl⟩
  clear base
  rintro z fr M ⟨k, i, hk, hi, hf, rfl⟩
  obtain ⟨base, rfl⟩ := hf.out
  clear hf
  by_cases hlt : k < n
  · repeat (first | refine go_ ?_ | refine bx_ (fun _ => ?_) | refine hl_callv rfl rfl (hR i hi _) ?_)
    exact ⟨z - 1, by omega, k + 1, nx i, by omega, nx_lt ⟨i, hi⟩, ⟨rfl, rfl, rfl, rfl, rfl, trivial⟩, rfl⟩
  obtain ⟨b, hb, hsb, ⟨t1, ht1, e1⟩, ⟨t2, ht2, e2⟩⟩ := back8 i hi x y (by omega) (by omega)
  have hsm : Sm (mm i (65536 * x) (65536 * y)) := fun k hk => by
    have := turn_rt ⟨i, hi⟩
    match k, hk with
    | 0, _ => have := this.1 0 (by omega); show -9223372036854775808 ≤ ma i ∧ ma i ≤ 9223372036854775807; change -16777216 ≤ ma i ∧ ma i ≤ 16777216 at this; omega
    | 1, _ => have := this.1 1 (by omega); show -9223372036854775808 ≤ mb i ∧ mb i ≤ 9223372036854775807; change -16777216 ≤ mb i ∧ mb i ≤ 16777216 at this; omega
    | 2, _ => have := this.1 2 (by omega); show -9223372036854775808 ≤ mc i ∧ mc i ≤ 9223372036854775807; change -16777216 ≤ mc i ∧ mc i ≤ 16777216 at this; omega
    | 3, _ => have := this.1 3 (by omega); show -9223372036854775808 ≤ md i ∧ md i ≤ 9223372036854775807; change -16777216 ≤ md i ∧ md i ≤ 16777216 at this; omega
    | 4, _ => show -9223372036854775808 ≤ 65536 * x ∧ 65536 * x ≤ 9223372036854775807; omega
    | 5, _ => show -9223372036854775808 ≤ 65536 * y ∧ 65536 * y ≤ 9223372036854775807; omega
  have hset : ((tab 6 (mm i 0 0)).set 4 (.int .i64 (65536 * x))).set 5 (.int .i64 (65536 * y)) = tab 6 (mm i (65536 * x) (65536 * y)) := rfl
  have f1 : ∀ E, Fn Try.prog w0 B 13 [.agg (tab 6 (mm i (65536 * x) (65536 * y))).toArray] E (fun v H' => v = .tuple #[.agg (tab 6 b).toArray, .int .i64 0] ∧ H' = E) := fun E => by
    have := back_fn (w0 := w0) (B := B) (H := E) _ hsm
    rw [hb] at this
    exact this
  have f2 : ∀ E, Fn Try.prog w0 B 24 [.agg (tab 6 (mm i (65536 * x) (65536 * y))).toArray, .agg (tab 6 b).toArray] E (fun v H' => v = .tuple #[.agg (tab 6 O6).toArray, .int .i64 0] ∧ H' = E) := fun E => by
    have := times_fn (w0 := w0) (B := B) (H := E) _ b hsm hsb
    rw [ht1] at this
    unfold mapV at this
    rw [show tab 6 (t1, (0 : Int)).1 = tab 6 O6 from tab_congr e1] at this
    exact this
  have f3 : ∀ E, Fn Try.prog w0 B 24 [.agg (tab 6 b).toArray, .agg (tab 6 (mm i (65536 * x) (65536 * y))).toArray] E (fun v H' => v = .tuple #[.agg (tab 6 O6).toArray, .int .i64 0] ∧ H' = E) := fun E => by
    have := times_fn (w0 := w0) (B := B) (H := E) b _ hsb hsm
    rw [ht2] at this
    unfold mapV at this
    rw [show tab 6 (t2, (0 : Int)).1 = tab 6 O6 from tab_congr e2] at this
    exact this
  repeat (first | rw [hset] | refine go1_ ?_ | refine bx_ (fun _ => ?_) | refine hl_callv rfl rfl (f1 _) ?_ | refine hl_callv rfl rfl (f2 _) ?_ | refine hl_callv rfl rfl (f3 _) ?_)
  refine hc_draw (by kernel_rfl) (by kernel_rfl) ?_
  repeat (first | refine gd_ ?_ | refine hd_call rfl rfl (h6 _) ?_ | refine hl_eqTabT rfl rfl (fun _ _ => rfl) rfl ?_)
  repeat (first | refine go_ ?_ | refine bx_ (fun _ => ?_))
  exact fin1B rfl rfl rfl
theorem walk (q : Int) (mi : Bool) (x y : Int) (w : World) (_ : -9223372036854775808 ≤ q ∧ q ≤ 9223372036854775807) (_ : -9223372036854775808 ≤ x ∧ x ≤ 9223372036854775807) (_ : -9223372036854775808 ≤ y ∧ y ≤ 9223372036854775807) :
    Calls Try.prog 9 #[.int .i64 q, .bool mi, .int .i64 x, .int .i64 y] w fun e w' => e = .returned (.bool true) ∧ Below w.heap.size w w' :=
  calls_of_fn (law q mi x y) fun _ _ h => h

/-! The step to the statement (written by program). -/
open Go.ChangeShapes Go.WideShapes Go.ChangeAt
set_option maxRecDepth 100000 in
theorem lifted (os : Os) (started : os.Started) (H : Type) (enc : TypeId × Value → H) :
    ReturnsInHanded {} Try.checked os 9 .any (Rows.affineTurnsSpec.pre6 enc Try.prog Try.f9 Rows.affineTurnsRow.domain false) (Rows.affineTurnsSpec.post enc Try.prog Try.f9 false true false false) := by
  refine returnsInHanded_of_change (C := Try.checked) own started (by kernel_rfl) Try.func9
    (ChangeSpec.witness6 (enc := enc) (C := Try.checked) false ⟨#[], #[.int .i64 0, .bool false, .int .i64 0, .int .i64 0], []⟩ 8 (by kernel_rfl) (by kernel_rfl) (by kernel_rfl) (by kernel_rfl)) ?_
  intro W base args ds gs before hval0 hW hcnd _
  have hval : ∀ (j : Nat) t v, Try.f9.params[j]? = some t → args[j]? = some v → Value.okWide Try.prog W .any base t v := hval0
  have hW' := hW
  obtain ⟨p, q, hA0, hV, rfl, hfz, hnd⟩ := hW
  have hA : DataW.TrodAll enc Try.prog W 0 (fun _ => true) true Try.f9.params.toList args.toList ds p := hA0
  rw [Try.params9] at hA hval
  obtain ⟨v0, vs0, d0, ds0, p0, q0, hargs, rfl, rfl, h0, r0⟩ := trodAll_cons hA
  obtain ⟨v1, vs1, d1, ds1, p1, q1, rfl, rfl, rfl, h1, r1⟩ := trodAll_cons r0
  obtain ⟨v2, vs2, d2, ds2, p2, q2, rfl, rfl, rfl, h2, r2⟩ := trodAll_cons r1
  obtain ⟨v3, vs3, d3, ds3, p3, q3, rfl, rfl, rfl, h3, r3⟩ := trodAll_cons r2
  obtain ⟨rfl, rfl, rfl⟩ := trodAll_nil r3
  obtain rfl : args = #[v0, v1, v2, v3] := by cases args; simp_all
  obtain ⟨rfl, rfl⟩ := trodVars_none hV
  have k0 := h0
  have lt0 : ∀ x ∈ p0, x.block < W.heap.size := by obtain ⟨m, hm⟩ := k0; exact DataW.trod_lt m _ _ _ hm
  obtain ⟨a0, rfl, _, _, w0⟩ := open_int Try.underlying3 (hval 0 3 v0 rfl rfl) h0
  have w0 := wf_i64 w0
  have k1 := h1
  have lt1 : ∀ x ∈ p1, x.block < W.heap.size := by obtain ⟨m, hm⟩ := k1; exact DataW.trod_lt m _ _ _ hm
  obtain ⟨a1, rfl, _, _⟩ := open_bool Try.underlying4 (hval 1 4 v1 rfl rfl) h1
  have k2 := h2
  have lt2 : ∀ x ∈ p2, x.block < W.heap.size := by obtain ⟨m, hm⟩ := k2; exact DataW.trod_lt m _ _ _ hm
  obtain ⟨a2, rfl, _, _, w2⟩ := open_int Try.underlying3 (hval 2 3 v2 rfl rfl) h2
  have w2 := wf_i64 w2
  have k3 := h3
  have lt3 : ∀ x ∈ p3, x.block < W.heap.size := by obtain ⟨m, hm⟩ := k3; exact DataW.trod_lt m _ _ _ hm
  obtain ⟨a3, rfl, _, _, w3⟩ := open_int Try.underlying3 (hval 3 3 v3 rfl rfl) h3
  have w3 := wf_i64 w3
  clear hA0 hval0
  refine (walk a0 a1 a2 a3 W w0 w2 w3).mono fun e W' ⟨he, bel⟩ => ?_
  subst he
  exact ⟨_, rfl, _, _, _, [], _, [], hW', trodAll_mk1 (shut_bool Try.underlying4 _), (trodAll_cons_mk (Below.trod laidOut (by kernel_rfl) (of_decide_eq_true (by kernel_rfl)) k0 bel lt0) (trodAll_cons_mk (Below.trod laidOut (by kernel_rfl) (of_decide_eq_true (by kernel_rfl)) k1 bel lt1) (trodAll_cons_mk (Below.trod laidOut (by kernel_rfl) (of_decide_eq_true (by kernel_rfl)) k2 bel lt2) (trodAll_cons_mk (Below.trod laidOut (by kernel_rfl) (of_decide_eq_true (by kernel_rfl)) k3 bel lt3) trodAll_mk0)))), rfl, bel.frame _, fun h => by cases h⟩

theorem over : Rows.affineTurnsRow.holds Try.pinned (OpenSpec.ofChange Rows.affineTurnsSpec) :=
  OpenClaim.holds_of_wide 9 Try.f9 rfl rfl rfl rfl rfl rfl rfl ⟨rfl, rfl, rfl, rfl, rfl⟩ rfl rfl rfl rfl rfl (by kernel_rfl) Try.func9 (by kernel_rfl)
    (of_decide_eq_true (by kernel_rfl)) (by unfold Func.isWrapper; first | (rw [if_pos (by decide +kernel)]; kernel_rfl) | (rw [if_neg (by decide +kernel)]; exact ⟨rfl, rfl⟩))
    (fun os started H enc _ => lifted os started H enc)

/-- The statement. -/
theorem proved : Rows.AffineTurnsSaid := over
#print axioms proved
end Go.Proofs.Ytbgdligfdfhbkaa.affineTurns
