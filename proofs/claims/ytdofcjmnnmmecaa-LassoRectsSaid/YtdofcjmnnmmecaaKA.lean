/-
  Lasso: plain facts of turned, moved and cut shapes. No condition.
-/
import Derived.Test.YtdofcjmnnmmecaaK9
namespace Go.Proofs.Ytdofcjmnnmmecaa
open Go.RowKit
theorem ptR_own {w0 : World} {B : Nat} {F M : List Ent} {e : TypeId} {a : Option Addr} {n cap : Nat} {l : List Pt} (o : Own e 2 (.slice a n cap) n (l.flatMap ptV) F M) (hn : l.length = n) : PtR w0 B M a n l :=
  ⟨hn, fun h => by obtain ⟨g, c, e, _⟩ := o.posn h; cases e; exact ⟨_, _, rfl⟩, o.rds (c := ⟨Try.prog, 0, w0, B⟩) (one_pts l)⟩
theorem nth_map {l : List Pt} {f : Pt → Pt} {i : Nat} (h : i < l.length) : nth (l.map f) i = f (nth l i) := by
  rw [nth_eq (by simpa using h), nth_eq h, List.getElem_map]
theorem turn1 (r p : Pt) : turnP ⟨1, 0⟩ r p = ⟨p.x + r.x, p.y + r.y⟩ := by
  unfold turnP
  simp
theorem nxt_lt {n i : Nat} (h : i < n) : nxt n i < n := by unfold nxt; split <;> omega
theorem prv_lt {n i : Nat} (h : i < n) : prv n i < n := by unfold prv; split <;> omega
theorem metB_move (a b : Pt) (x y dx dy : Int) : metB ⟨a.x + dx, a.y + dy⟩ ⟨b.x + dx, b.y + dy⟩ (x + dx) (y + dy) = metB a b x y := by
  have e1 : metS ⟨a.x + dx, a.y + dy⟩ ⟨b.x + dx, b.y + dy⟩ (x + dx) (y + dy) = metS a b x y := by
    unfold metS; simp only []; grind
  unfold metB
  rw [e1]
  simp only []
  congr 1
  · rw [show decide (2 * (a.y + dy) > 2 * (y + dy) + 1) = decide (2 * a.y > 2 * y + 1) from decide_eq_decide.2 (by omega), show decide (2 * (b.y + dy) > 2 * (y + dy) + 1) = decide (2 * b.y > 2 * y + 1) from decide_eq_decide.2 (by omega)]
  · by_cases h : 2 * b.y - 2 * a.y < 0
    · rw [if_pos h, if_pos (show 2 * (b.y + dy) - 2 * (a.y + dy) < 0 by omega)]
    · rw [if_neg h, if_neg (show ¬ 2 * (b.y + dy) - 2 * (a.y + dy) < 0 by omega)]
theorem inW_move (l : List Pt) (x y : Int) (r : Pt) : inW (turnL l ⟨1, 0⟩ r) (x + r.x) (y + r.y) = inW l x y := by
  unfold inW turnL
  rw [List.length_map]
  refine oddR_congr _ fun i hi => ?_
  rw [nth_map hi, nth_map (nxt_lt hi), turn1, turn1, metB_move]
theorem metB_comm (a b : Pt) (x y : Int) : metB a b x y = metB b a x y := by
  by_cases h1 : 2 * a.y > 2 * y + 1 <;> by_cases h2 : 2 * b.y > 2 * y + 1
  · rw [met_eq (iff_of_true h1 h2), met_eq (iff_of_true h2 h1)]
  · rw [met_dn h1 h2, met_up h2 h1]
  · rw [met_up h1 h2, met_dn h2 h1]
  · rw [met_eq (iff_of_false h1 h2), met_eq (iff_of_false h2 h1)]
theorem okS_split (l : List Pt) (m : List Pt) : okS l m = (okS l [] && m.all (fun p => decide p.right)) := by simp [okS, Bool.and_assoc]
theorem okT_iff {l : List Pt} {q r : Pt} (h : okT l q r = true) : okS l [] = true ∧ okS (turnL l q r) [] = true ∧ q.right ∧ r.right := by
  unfold okT at h
  rw [Bool.and_eq_true] at h
  obtain ⟨h1, h2⟩ := h
  obtain ⟨a1, a2, a3, a4⟩ := okS_right h1
  rw [okS_split, Bool.and_eq_true] at h1
  refine ⟨h1.1, ?_, a2 q (by simp), a2 r (by simp)⟩
  refine okS_yes (decide_eq_true ?_) ?_ (by simp)
  · unfold turnL; rw [List.length_map]; exact ⟨a3, a4⟩
  · rw [List.all_eq_true] at h2
    exact fun p hp => of_decide_eq_true (h2 p hp)
theorem lwithin_ok {w0 : World} {B : Nat} {H : List Ent} {a : Option Addr} {len cap : Nat} {l : List Pt} {x y : Int} (hl : PtR w0 B H a len l) (h5 : len ≤ 9223372036854775806) (hok : okS l [] = true) (hp : Pt.right ⟨x, y⟩) :
    Fn Try.prog w0 B 12 [.slice a len cap, .int .i64 x, .int .i64 y] H (fun v H' => v = .tuple #[.bool (inW l x y), .int .i64 0] ∧ H' = H) := by
  have W := lwithin_fn (cap := cap) (x := x) (y := y) hl h5
  rw [okS_split, hok, show ([⟨x, y⟩] : List Pt).all (fun p => decide p.right) = true by simp only [List.all_cons, List.all_nil, Bool.and_true]; exact decide_eq_true hp] at W
  exact W
end Go.Proofs.Ytdofcjmnnmmecaa
