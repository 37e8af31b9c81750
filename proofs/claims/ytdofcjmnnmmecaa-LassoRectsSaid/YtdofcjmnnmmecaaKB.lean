/-
  Lasso: plain facts of areas, and the reference's Area. No condition.
-/
import Derived.Test.YtdofcjmnnmmecaaKA
namespace Go.Proofs.Ytdofcjmnnmmecaa
open Go.RowKit
theorem sumR_congr {f g : Nat → Int} : ∀ n, (∀ i, i < n → f i = g i) → sumR f n = sumR g n
  | 0, _ => rfl
  | n + 1, h => by rw [sumR, sumR, sumR_congr n fun i hi => h i (by omega), h n (by omega)]
theorem sumR_shift (g : Nat → Int) : ∀ n, sumR g (n + 1) = g 0 + sumR (fun i => g (i + 1)) n
  | 0 => by simp [sumR]
  | n + 1 => by rw [sumR, sumR_shift g n, sumR]; omega
theorem sumR_add (f g : Nat → Int) : ∀ n, sumR (fun i => f i + g i) n = sumR f n + sumR g n
  | 0 => rfl
  | n + 1 => by rw [sumR, sumR_add f g n, sumR, sumR]; omega
theorem sumR_mul (c : Int) (f : Nat → Int) : ∀ n, sumR (fun i => c * f i) n = c * sumR f n
  | 0 => by simp [sumR]
  | n + 1 => by rw [sumR, sumR_mul c f n, sumR, Int.mul_add]
theorem sumR_prv (h : Nat → Int) (n : Nat) : sumR (fun i => h (prv n i)) n = sumR h n := by
  cases n with
  | zero => rfl
  | succ n =>
    rw [sumR_shift, sumR]
    have : sumR (fun i => h (prv (n + 1) (i + 1))) n = sumR h n := sumR_congr n fun i hi => by simp [prv]
    rw [this]
    simp [prv]; omega
theorem sumR_rev (f : Nat → Int) : ∀ m, sumR (fun i => f (m - 1 - i)) m = sumR f m
  | 0 => rfl
  | m + 1 => by
    rw [sumR_shift, sumR, ← sumR_rev f m]
    have : sumR (fun i => f (m + 1 - 1 - (i + 1))) m = sumR (fun i => f (m - 1 - i)) m := sumR_congr m fun i hi => by congr 1; omega
    rw [this]
    simp; omega
/-- The sum as the reference makes it. -/
def refA (l : List Pt) : Int := sumR (fun i => crA (nth l i) (nth l (nxt l.length i))) l.length
theorem areaI_eq (l : List Pt) : areaI l = refA l := by
  unfold areaI refA
  obtain ⟨n, hn⟩ : ∃ n, n = l.length := ⟨_, rfl⟩
  rw [← hn]
  cases n with
  | zero => rfl
  | succ n =>
    rw [sumR_shift, sumR]
    have : sumR (fun i => crA (nth l (prv (n + 1) (i + 1))) (nth l (i + 1))) n = sumR (fun i => crA (nth l i) (nth l (nxt (n + 1) i))) n :=
      sumR_congr n fun i hi => by rw [show nxt (n + 1) i = i + 1 from if_neg (by omega)]; simp [prv]
    rw [this, show nxt (n + 1) n = 0 from if_pos rfl]
    simp [prv]; omega
theorem area_turn (l : List Pt) (q r : Pt) : areaI (turnL l q r) = (q.x * q.x + q.y * q.y) * areaI l := by
  unfold areaI turnL
  rw [List.length_map]
  have e : ∀ a b : Pt, crA (turnP q r a) (turnP q r b) = (q.x * q.x + q.y * q.y) * crA a b + ((a.x * q.x - a.y * q.y) * r.y - (a.x * q.y + a.y * q.x) * r.x + -((b.x * q.x - b.y * q.y) * r.y - (b.x * q.y + b.y * q.x) * r.x)) := by
    intro a b
    unfold crA turnP
    simp only []
    grind
  obtain ⟨h, hh⟩ : ∃ h : Nat → Int, h = fun i => ((nth l i).x * q.x - (nth l i).y * q.y) * r.y - ((nth l i).x * q.y + (nth l i).y * q.x) * r.x := ⟨_, rfl⟩
  have e2 : sumR (fun i => crA (nth (l.map (turnP q r)) (prv l.length i)) (nth (l.map (turnP q r)) i)) l.length = sumR (fun i => (q.x * q.x + q.y * q.y) * crA (nth l (prv l.length i)) (nth l i) + (h (prv l.length i) + -1 * h i)) l.length :=
    sumR_congr _ fun i hi => by rw [nth_map hi, nth_map (prv_lt hi), e, hh, Int.neg_one_mul]
  rw [e2, sumR_add, sumR_mul, sumR_add, sumR_mul, sumR_prv]
  omega
theorem area_rev {l m : List Pt} (hm : m.length = l.length) (h : ∀ i, i < l.length → nth m i = nth l (l.length - 1 - i)) : areaI m = -areaI l := by
  rw [areaI_eq m, areaI_eq l]
  unfold refA
  rw [hm]
  obtain ⟨n, hn⟩ : ∃ n, n = l.length := ⟨_, rfl⟩
  rw [← hn] at h ⊢
  cases n with
  | zero => rfl
  | succ n =>
    rw [sumR, sumR]
    have hx : nxt (n + 1) n = 0 := if_pos rfl
    have e1 : sumR (fun i => crA (nth m i) (nth m (nxt (n + 1) i))) n = sumR (fun i => -1 * crA (nth l (n - 1 - i)) (nth l (nxt (n + 1) (n - 1 - i)))) n := sumR_congr n fun i hi => by
      have hx2 : nxt (n + 1) i = i + 1 := if_neg (by omega)
      have hx3 : nxt (n + 1) (n - 1 - i) = n - i := by unfold nxt; rw [if_neg (by omega)]; omega
      rw [hx2, hx3, h i (by omega), h (i + 1) (by omega), show n + 1 - 1 - i = n - i by omega, show n + 1 - 1 - (i + 1) = n - 1 - i by omega]
      unfold crA
      grind
    rw [e1, sumR_mul, sumR_rev (fun i => crA (nth l i) (nth l (nxt (n + 1) i))), hx, h n (by omega), h 0 (by omega), show n + 1 - 1 - n = 0 by omega, show n + 1 - 1 - 0 = n by omega]
    unfold crA
    grind
theorem sumR_turn (e : Nat → Int) (n : Nat) (k : Nat) : sumR (fun i => e ((k + i) % n)) n = sumR (fun i => e (i % n)) n := by
  induction k with
  | zero => simp
  | succ k ih =>
    rw [← ih]
    have h1 := sumR_shift (fun i => e ((k + i) % n)) n
    rw [sumR] at h1
    have h2 : sumR (fun i => e ((k + 1 + i) % n)) n = sumR (fun i => e ((k + (i + 1)) % n)) n := sumR_congr n fun i _ => by congr 2; omega
    rw [h2]
    simp only [Nat.add_zero, Nat.add_mod_right] at h1
    omega
theorem nxt_mod {n i : Nat} (h : i < n) : nxt n i = (i + 1) % n := by
  unfold nxt
  split
  · rename_i h1; rw [h1, Nat.mod_self]
  · rw [Nat.mod_eq_of_lt (by omega)]
theorem area_rot {l m : List Pt} {k : Nat} (hm : m.length = l.length) (h : ∀ i, i < l.length → nth m i = nth l ((k + i) % l.length)) : areaI m = areaI l := by
  rw [areaI_eq m, areaI_eq l]
  unfold refA
  rw [hm]
  obtain ⟨n, hn⟩ : ∃ n, n = l.length := ⟨_, rfl⟩
  rw [← hn] at h ⊢
  have e1 : sumR (fun i => crA (nth m i) (nth m (nxt n i))) n = sumR (fun i => (fun j => crA (nth l j) (nth l (nxt n j))) ((k + i) % n)) n := sumR_congr n fun i hi => by
    rw [h i hi, h _ (nxt_lt hi), nxt_mod hi]
    show _ = crA _ (nth l (nxt n ((k + i) % n)))
    rw [nxt_mod (Nat.mod_lt _ (by omega)), Nat.add_mod_mod, Nat.mod_add_mod, Nat.add_assoc]
  have e2 : sumR (fun i => (fun j => crA (nth l j) (nth l (nxt n j))) (i % n)) n = sumR (fun i => crA (nth l i) (nth l (nxt n i))) n := sumR_congr n fun i hi => by
    show crA (nth l (i % n)) (nth l (nxt n (i % n))) = _
    rw [Nat.mod_eq_of_lt hi]
  rw [e1, sumR_turn (fun j => crA (nth l j) (nth l (nxt n j))), e2]
end Go.Proofs.Ytdofcjmnnmmecaa
