/-
  What is found brings the bytes again, plain. No program.
-/
import Derived.Test.YtabaagelgfdkeaaL0
import Derived.Test.YtabaagelgfdkeaaLP
namespace Go.Proofs.Ytabaagelgfdkeaa
open Go.RowKit
theorem lits (most : Int) (b : List UInt8) (ts : List Tok) (out : List UInt8) (h : (out.length : Int) + b.length ≤ most) : lzB most (b.map litT ++ ts) out = lzB most ts (out ++ b) := by
  induction b generalizing out with
  | nil => simp
  | cons c b ih =>
    simp only [List.length_cons] at h
    rw [List.map_cons, List.cons_append, lzB, if_neg (fun h => h.1 rfl), if_neg (by show ¬ most < (out.length : Int) + max 0 1; omega), show nextB out (litT c) = out ++ [c] from if_pos rfl, ih _ (by rw [List.length_append, List.length_singleton]; omega)]
    simp
theorem copyN_pre (out : List UInt8) (d n i : Nat) (h : i < out.length) : (copyN out d n).getD i 0 = out.getD i 0 := by
  induction n with
  | zero => rfl
  | succ n ih =>
    rw [copyN, List.getD_eq_getElem?_getD, List.getElem?_append_left (by rw [length_copyN]; omega), ← List.getD_eq_getElem?_getD, ih]
theorem copyN_take (out : List UInt8) (d n : Nat) : (copyN out d n).take out.length = out := by
  induction n with
  | zero => simp [copyN]
  | succ n ih => rw [copyN, List.take_append_of_le_length (by rw [length_copyN]; omega), ih]
theorem copyN_lt (out : List UInt8) (d n m i : Nat) (h : i < out.length + n) (hm : n ≤ m) : (copyN out d m).getD i 0 = (copyN out d n).getD i 0 := by
  induction m with
  | zero => obtain rfl : n = 0 := by omega
            rfl
  | succ m ih =>
    by_cases e : n = m + 1
    · rw [e]
    · rw [copyN, List.getD_eq_getElem?_getD, List.getElem?_append_left (by rw [length_copyN]; omega), ← List.getD_eq_getElem?_getD, ih (by omega)]
theorem copyN_get (out : List UInt8) (d : Nat) (hd : 1 ≤ d) (hd2 : d ≤ out.length) (k n : Nat) (h : k < n) : (copyN out d n).getD (out.length + k) 0 = out.getD (out.length - d + k % d) 0 := by
  induction k using Nat.strongRecOn generalizing n with
  | _ k ih =>
    rw [copyN_lt out d (k + 1) n _ (by omega) (by omega), copyN, List.getD_eq_getElem?_getD, List.getElem?_append_right (by rw [length_copyN]; omega), length_copyN, show out.length + k - (out.length + k) = 0 by omega]
    simp only [List.getElem?_cons_zero, Option.getD_some]
    by_cases hk : k < d
    · rw [copyN_pre _ _ _ _ (by omega), Nat.mod_eq_of_lt hk, show out.length + k - d = out.length - d + k by omega]
    · rw [show out.length + k - d = out.length + (k - d) by omega, ih (k - d) (by omega) k (by omega), ← Nat.mod_eq_sub_mod (by omega)]
/-- What is found from a place on. -/
def findF (b : List UInt8) (eff : Nat) : Nat → Nat → List Tok
  | 0, _ => []
  | f + 1, p => if p < b.length then
      if (best b eff p).1 = 0 then litT (b.getD p 0) :: findF b eff f (p + 1) else ⟨((best b eff p).1 : Int), ((best b eff p).2 : Int), 0⟩ :: findF b eff f (p + (best b eff p).1)
    else []
def found (b : List UInt8) (eff : Nat) : List Tok := findF b eff b.length 0
theorem length_findF (b : List UInt8) (eff f p : Nat) : (findF b eff f p).length ≤ f := by
  induction f generalizing p with
  | zero => simp [findF]
  | succ f ih =>
    unfold findF
    split
    · split
      · simpa using ih _
      · simpa using ih _
    · simp
theorem wf_findF (b : List UInt8) (eff f p : Nat) (hb : b.length ≤ 100000) : ∀ x ∈ findF b eff f p, x.wf := by
  induction f generalizing p with
  | zero => intro x hx; simp [findF] at hx
  | succ f ih =>
    intro x hx
    unfold findF at hx
    split at hx
    · rename_i hp
      split at hx
      · rcases List.mem_cons.1 hx with rfl | hx
        · simp [Tok.wf, litT]
        · exact ih _ x hx
      · rcases List.mem_cons.1 hx with rfl | hx
        · rcases best_good b eff p with ⟨h1, h2⟩ | ⟨h1, h2, h3, h4, _⟩
          · simp [Tok.wf, h1, h2]
          · simp only [Tok.wf]; omega
        · exact ih _ x hx
    · simp at hx
theorem copyN_self (b : List UInt8) (p D L : Nat) (h1 : 1 ≤ D) (h2 : D ≤ p) (h3 : p + L ≤ b.length) (h : ∀ i, i < L → b.getD (p - D + i) 0 = b.getD (p + i) 0) : copyN (b.take p) D L = b.take (p + L) := by
  induction L with
  | zero => rfl
  | succ L ih =>
    have ih := ih (by omega) (fun i hi => h i (by omega))
    have hl : (b.take (p + L)).length = p + L := by rw [List.length_take]; omega
    rw [copyN, ih, hl, show p + (L + 1) = p + L + 1 by omega, List.take_succ_eq_append_getElem (by omega)]
    congr 2
    have := h L (by omega)
    rw [List.getD_eq_getElem?_getD, List.getElem?_take_of_lt (by omega), ← List.getD_eq_getElem?_getD, show p + L - D = p - D + L by omega, this, List.getD_eq_getElem?_getD, List.getElem?_eq_getElem (by omega)]
    rfl
/-- Found tokens bring the bytes, or break the limit. -/
theorem lzB_findF (b : List UInt8) (eff : Nat) (most : Int) (f p : Nat) (hf : b.length ≤ p + f) (hp : p ≤ b.length) (hm : (p : Int) ≤ most) :
    lzB most (findF b eff f p) (b.take p) = if (b.length : Int) ≤ most then (b, 0) else ([], 24) := by
  induction f generalizing p with
  | zero =>
    obtain rfl : p = b.length := by omega
    rw [findF, lzB, if_pos hm, List.take_length]
  | succ f ih =>
    have hlp : (b.take p).length = p := by rw [List.length_take]; omega
    unfold findF
    by_cases hpl : p < b.length
    · rw [if_pos hpl]
      by_cases h0 : (best b eff p).1 = 0
      · rw [if_pos h0, lzB, if_neg (fun h => h.1 rfl), hlp]
        by_cases hbig : most < (p : Int) + max (litT (b.getD p 0)).L 1
        · have : max (litT (b.getD p 0)).L 1 = 1 := rfl
          rw [if_pos hbig, if_neg (by omega)]
        · have hm1 : max (litT (b.getD p 0)).L 1 = 1 := rfl
          rw [if_neg hbig, show nextB (b.take p) (litT (b.getD p 0)) = b.take (p + 1) from ?_]
          · exact ih (p + 1) (by omega) (by omega) (by omega)
          · rw [show nextB (b.take p) (litT (b.getD p 0)) = b.take p ++ [b.getD p 0] from if_pos rfl, List.take_succ_eq_append_getElem hpl]
            simp [hpl]
      · rw [if_neg h0]
        rcases best_good b eff p with ⟨h1, _⟩ | ⟨h1, h2, h3, h4, h5, h6, h7⟩
        · exact absurd h1 h0
        · rw [lzB, if_neg (by rintro ⟨_, h⟩; rw [hlp] at h; dsimp only at h; omega), hlp]
          dsimp only
          by_cases hbig : most < (p : Int) + max ((best b eff p).1 : Int) 1
          · rw [if_pos hbig, if_neg (by omega)]
          · rw [if_neg hbig, show nextB (b.take p) ⟨((best b eff p).1 : Int), ((best b eff p).2 : Int), 0⟩ = b.take (p + (best b eff p).1) from ?_]
            · exact ih _ (by omega) h6 (by omega)
            · rw [show nextB (b.take p) ⟨((best b eff p).1 : Int), ((best b eff p).2 : Int), 0⟩ = copyN (b.take p) (best b eff p).2 (best b eff p).1 from if_neg (by dsimp only; omega)]
              exact copyN_self b p _ _ h3 h5 h6 h7
    · obtain rfl : p = b.length := by omega
      rw [if_neg hpl, lzB, if_pos hm, List.take_length]
theorem lzB_found (b : List UInt8) (eff : Nat) (most : Int) (hm : 0 ≤ most) : lzB most (found b eff) [] = if (b.length : Int) ≤ most then (b, 0) else ([], 24) := lzB_findF b eff most b.length 0 (by omega) (by omega) hm
/-- The same of literals alone. -/
theorem lzB_lits (b : List UInt8) (most : Int) (out : List UInt8) (hm : (out.length : Int) ≤ most) : lzB most (b.map litT) out = if (out.length : Int) + b.length ≤ most then (out ++ b, 0) else ([], 24) := by
  induction b generalizing out with
  | nil => rw [List.map_nil, lzB, if_pos (by simpa using hm), List.append_nil]
  | cons c b ih =>
    rw [List.map_cons, lzB, if_neg (fun h => h.1 rfl), show max (litT c).L 1 = 1 from rfl]
    by_cases hbig : most < (out.length : Int) + 1
    · rw [if_pos hbig, if_neg (by simp only [List.length_cons]; omega)]
    · rw [if_neg hbig, show nextB out (litT c) = out ++ [c] from if_pos rfl, ih _ (by rw [List.length_append, List.length_singleton]; omega)]
      simp only [List.length_append, List.length_nil, List.length_cons, List.append_assoc, List.singleton_append]
      by_cases h : (out.length : Int) + (b.length + 1 : Nat) ≤ most
      · rw [if_pos h, if_pos (by omega)]
      · rw [if_neg h, if_neg (by omega)]
end Go.Proofs.Ytabaagelgfdkeaa
