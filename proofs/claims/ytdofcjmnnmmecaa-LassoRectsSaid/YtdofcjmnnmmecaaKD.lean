/-
  Lasso: plain facts of cut shapes. No condition.
-/
import Derived.Test.YtdofcjmnnmmecaaKC
namespace Go.Proofs.Ytdofcjmnnmmecaa
open Go.RowKit
theorem oddR_split (e : Nat → Bool) (k : Nat) : ∀ m, oddR e (k + m) = xor (oddR e k) (oddR (fun i => e (k + i)) m)
  | 0 => by simp [oddR]
  | m + 1 => by rw [← Nat.add_assoc, oddR, oddR_split e k m, oddR, Bool.xor_assoc]
theorem oddR_first (g : Nat → Bool) : ∀ n, oddR g (n + 1) = xor (g 0) (oddR (fun i => g (i + 1)) n)
  | 0 => by simp [oddR]
  | n + 1 => by rw [oddR, oddR_first g n, oddR, Bool.xor_assoc]
theorem inW_split {l A C : List Pt} {k : Nat} (x y : Int) (hk : 0 < k) (hkn : k < l.length) (hA : A.length = k + 1) (hAi : ∀ i, i ≤ k → nth A i = nth l i) (hC : C.length = l.length - k + 1) (hC0 : nth C 0 = nth l 0) (hCi : ∀ i, k + i < l.length → nth C (i + 1) = nth l (k + i)) :
    inW l x y = xor (inW A x y) (inW C x y) := by
  unfold inW
  rw [hA, hC]
  obtain ⟨n, hn⟩ : ∃ n, n = l.length := ⟨_, rfl⟩
  rw [← hn] at hkn hCi ⊢
  obtain ⟨m, rfl⟩ : ∃ m, n = k + m := ⟨n - k, by omega⟩
  rw [oddR_split, show k + m - k = m by omega, oddR_first _ m, oddR]
  have e1 : oddR (fun i => metB (nth A i) (nth A (nxt (k + 1) i)) x y) k = oddR (fun i => metB (nth l i) (nth l (nxt (k + m) i)) x y) k := oddR_congr k fun i hi => by
    rw [show nxt (k + 1) i = i + 1 from if_neg (by omega), show nxt (k + m) i = i + 1 from if_neg (by omega), hAi i (by omega), hAi (i + 1) (by omega)]
  have e2 : oddR (fun i => metB (nth C (i + 1)) (nth C (nxt (m + 1) (i + 1))) x y) m = oddR (fun i => metB (nth l (k + i)) (nth l (nxt (k + m) (k + i))) x y) m := oddR_congr m fun i hi => by
    rw [hCi i (by omega)]
    by_cases h : i + 1 = m
    · rw [show nxt (m + 1) (i + 1) = 0 from if_pos (by omega), show nxt (k + m) (k + i) = 0 from if_pos (by omega), hC0]
    · rw [show nxt (m + 1) (i + 1) = i + 1 + 1 from if_neg (by omega), show nxt (k + m) (k + i) = k + (i + 1) by unfold nxt; rw [if_neg (by omega)]; omega, hCi (i + 1) (by omega)]
  rw [e1, e2, show nxt (k + 1) k = 0 from if_pos rfl, show nxt (m + 1) 0 = 1 from if_neg (by omega), hC0, hAi k (by omega), hAi 0 (by omega), show nth C 1 = nth l k from hCi 0 (by omega), metB_comm (nth l 0) (nth l k)]
  generalize oddR (fun i => metB (nth l i) (nth l (nxt (k + m) i)) x y) k = p
  generalize oddR (fun i => metB (nth l (k + i)) (nth l (nxt (k + m) (k + i))) x y) m = q
  generalize metB (nth l k) (nth l 0) x y = r
  cases p <;> cases q <;> cases r <;> rfl
theorem take_flat (l : List Pt) : ∀ k, (l.flatMap ptV).take (k * 2) = (l.take k).flatMap ptV := by
  induction l with
  | nil => intro k; simp
  | cons p l ih =>
    intro k
    cases k with
    | zero => simp
    | succ k => rw [List.flatMap_cons, List.take_append, show (k + 1) * 2 - (ptV p).length = k * 2 by simp; omega, ih, List.take_of_length_le (by simp; omega)]; simp
theorem drop_flat (l : List Pt) : ∀ k, (l.flatMap ptV).drop (k * 2) = (l.drop k).flatMap ptV := by
  induction l with
  | nil => intro k; simp
  | cons p l ih =>
    intro k
    cases k with
    | zero => simp
    | succ k => rw [List.flatMap_cons, List.drop_append, show (k + 1) * 2 - (ptV p).length = k * 2 by simp; omega, ih, List.drop_of_length_le (by simp; omega)]; simp
theorem Rds.drop' {w0 : World} {B : Nat} {H : List Ent} {bb off : Nat} {l : List Value} (h : Rds w0 B H (some ⟨bb, off, none⟩) l) (j : Nat) : Rds w0 B H (some ⟨bb, off + j, none⟩) (l.drop j) :=
  ⟨fun w hw ad ha i u hu => by
    cases ha
    rw [List.getElem?_drop] at hu
    have := h.cell w hw _ rfl (j + i) u hu
    rw [Addr.add_lit] at this ⊢
    rw [← this, Nat.add_assoc], fun h => (by cases h), fun u hu => h.one u (List.mem_of_mem_drop hu)⟩
section
variable {c : Cx} {Q : Pst} {fr : Fr} {H F : List Ent} {ops : Array Oper} {rest : List Oper} {dst : Option Nat} {ty : TypeId} {pos : String} {after : Array Edge} {x : Operand} {T e : TypeId} {sz : Nat} {S : List Oper → Fr → List Ent → Prop}
theorem hl_sliceE {b off len cap i : Nat} {lo : Operand} [hT : TSlc c.P T e] [TSz c.P e sz] [Stp c ops S] (hx : ev fr x = .slice (some ⟨b, off, none⟩) len cap)
    (hlo : ev fr lo = .int .i64 (i : Int)) (hij : i ≤ len) (hc : len ≤ cap) (hic : i < cap) (hd : dOk c.n dst = true)
    (h : S rest (updO fr dst (.slice (some ⟨b, off + i * sz, none⟩) (len - i) (cap - i))) H) :
    S (⟨dst, .slice T x (some lo) none none, ty, pos, after, none⟩ :: rest) fr H :=
  hl_slice (lo := some lo) (hi := none) (kj := .i64) (i := i) (j := len) hx hlo rfl hij hc hd (fun off' ho => by rw [ho hic]; exact h)
end
end Go.Proofs.Ytdofcjmnnmmecaa
