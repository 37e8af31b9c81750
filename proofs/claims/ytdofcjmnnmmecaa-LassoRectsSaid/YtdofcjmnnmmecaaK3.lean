/-
  Lasso: the reference's met and Within. No condition.
-/
import Derived.Test.YtdofcjmnnmmecaaK2
namespace Go.Proofs.Ytdofcjmnnmmecaa
open Go.RowKit
def nth (l : List Pt) (i : Nat) : Pt := l.getD i ⟨0, 0⟩
theorem nth_eq {l : List Pt} {i : Nat} (h : i < l.length) : nth l i = l[i] := by simp [nth, h]
theorem PtR.at' {w0 : World} {B : Nat} {H : List Ent} {a : Option Addr} {len : Nat} {l : List Pt} (h : PtR w0 B H a len l) {k : Nat} (hk : k < len) : ((l.flatMap ptV).drop (k * 2)).take 2 = [.int .i64 (nth l k).x, .int .i64 (nth l k).y] := by
  have hl : k < l.length := by rw [h.eq]; exact hk
  rw [flat_pt l k hl, nth_eq hl]
theorem nth_mem {l : List Pt} {i : Nat} (h : i < l.length) : nth l i ∈ l := by rw [nth_eq h]; exact List.getElem_mem h
/-- The side of the middle on which this edge lies. -/
def metS (a b : Pt) (x y : Int) : Int := (2 * b.x - 2 * a.x) * (2 * y + 1 - 2 * a.y) + (2 * a.x - (2 * x + 1)) * (2 * b.y - 2 * a.y)
def metB (a b : Pt) (x y : Int) : Bool :=
  if decide (2 * a.y > 2 * y + 1) = decide (2 * b.y > 2 * y + 1) then false else if 2 * b.y - 2 * a.y < 0 then decide (metS a b x y < 0) else decide (metS a b x y > 0)
abbrev Near (x y : Int) : Prop := (-1048576 ≤ x ∧ x ≤ 1048576) ∧ (-1048576 ≤ y ∧ y ≤ 1048576)

set_option maxHeartbeats 8000000
set_option maxRecDepth 100000
theorem met_fn {w0 : World} {B : Nat} {H : List Ent} {a b : Pt} {x y : Int} (ha : a.right) (hb : b.right) (hn : Near x y) :
    Fn Try.prog w0 B 25 [.agg #[.int .i64 a.x, .int .i64 a.y], .agg #[.int .i64 b.x, .int .i64 b.y], .int .i64 x, .int .i64 y] H (fun v H' => v = .bool (metB a b x y) ∧ H' = H) := by
  refine fn_intro Try.func25 rfl (by kernel_rfl) rfl ?_
  obtain ⟨⟨⟨h1, h2⟩, h3⟩, h4⟩ := ha
  obtain ⟨⟨⟨h5, h6⟩, h7⟩, h8⟩ := hb
  obtain ⟨⟨h9, h10⟩, ⟨h11, h12⟩⟩ := hn
  have m1 := mul_bd2 (a := 2 * b.x - 2 * a.x) (b := 2 * y + 1 - 2 * a.y) (M := 16777216) (N := 16777216) (by omega) (by omega)
  have m2 := mul_bd2 (a := 2 * a.x - (2 * x + 1)) (b := 2 * b.y - 2 * a.y) (M := 16777216) (N := 16777216) (by omega) (by omega)
  obtain ⟨s, hs⟩ : ∃ s, s = metS a b x y := ⟨_, rfl⟩
  have hs' := hs
  unfold metS at hs'
  unfold metB
  rw [← hs]
  by_cases u : 2 * a.y > 2 * y + 1 <;> by_cases v : 2 * b.y > 2 * y + 1
  · repeat (first | refine go_ ?_ | refine bx_ (fun _ => ?_))
    exact fin1B rfl rfl ⟨by simp [u, v], rfl⟩
  · by_cases hz : s < 0
    · repeat (first | refine go_ ?_ | refine bx_ (fun _ => ?_))
      exact fin1B rfl rfl ⟨by rw [if_neg (by simp [u, v]), if_pos (by omega), decide_eq_true hz], rfl⟩
    · repeat (first | refine go_ ?_ | refine bx_ (fun _ => ?_))
      exact fin1B rfl rfl ⟨by rw [if_neg (by simp [u, v]), if_pos (by omega), decide_eq_false hz], rfl⟩
  · by_cases hz : s > 0
    · repeat (first | refine go_ ?_ | refine bx_ (fun _ => ?_))
      exact fin1B rfl rfl ⟨by rw [if_neg (by simp [u, v]), if_neg (by omega), decide_eq_true hz], rfl⟩
    · repeat (first | refine go_ ?_ | refine bx_ (fun _ => ?_))
      exact fin1B rfl rfl ⟨by rw [if_neg (by simp [u, v]), if_neg (by omega), decide_eq_false hz], rfl⟩
  · repeat (first | refine go_ ?_ | refine bx_ (fun _ => ?_))
    exact fin1B rfl rfl ⟨by simp [u, v], rfl⟩
def oddR (f : Nat → Bool) : Nat → Bool
  | 0 => false
  | k + 1 => xor (oddR f k) (f k)
def nxt (n i : Nat) : Nat := if i + 1 = n then 0 else i + 1
def inW (l : List Pt) (x y : Int) : Bool := oddR (fun i => metB (nth l i) (nth l (nxt l.length i)) x y) l.length
theorem rwithin_fn {w0 : World} {B : Nat} {H : List Ent} {a : Option Addr} {len cap : Nat} {l : List Pt} {x y : Int} (hl : PtR w0 B H a len l) (h5 : len ≤ 9223372036854775806) (hr : ∀ p ∈ l, p.right) (hn : Near x y) :
    Fn Try.prog w0 B 16 [.slice a len cap, .int .i64 x, .int .i64 y] H (fun v H' => v = .bool (inW l x y) ∧ H' = H) := by
  refine fn_intro Try.func16 rfl (by kernel_rfl) rfl ?_
  have e1 := hl.eq
  repeat (first | refine go_ ?_ | refine bx_ (fun _ => ?_))
  refine hc_loopd (fun q fr M => ∃ k, k + q = len ∧ Agr fr [(0, .slice a len cap), (1, .int .i64 x), (2, .int .i64 y), (7, .bool (oddR (fun i => metB (nth l i) (nth l (nxt len i)) x y) k)), (8, .int .i64 (k : Int))] ∧ M = H) len ?_ ?_
  · exact ⟨0, by omega, ⟨rfl, rfl, rfl, rfl, rfl, trivial⟩, rfl⟩
  rintro q fr M ⟨k, hk, hf, rfl⟩
  obtain ⟨base, rfl⟩ := hf.out
  obtain ⟨odd, hodd⟩ : ∃ o, o = oddR (fun i => metB (nth l i) (nth l (nxt len i)) x y) k := ⟨_, rfl⟩
  rw [← hodd]
  by_cases hlt : k < len
  · obtain ⟨bb, off, rfl⟩ := hl.pos (by omega)
    have p1 := hl.at' hlt
    have r1 := hr _ (nth_mem (l := l) (i := k) (by omega))
    by_cases hlast : k + 1 = len
    · have p2 := hl.at' (k := 0) (by omega)
      have r2 := hr _ (nth_mem (l := l) (i := 0) (by omega))
      have hnx : nxt len k = 0 := if_pos hlast
      repeat (first | refine go_ ?_ | refine bx_ (fun _ => ?_))
      (refine hc_draw (by kernel_rfl) (by kernel_rfl) ?_; repeat (first | refine gd_ ?_ | refine hd_call rfl rfl (met_fn r1 r2 hn) ?_ | refine hl_loadRN rfl hl.rd (Imp.refl _) p1 rfl rfl ?_ | refine hl_loadRN rfl hl.rd (Imp.refl _) p2 rfl rfl ?_))
      cases hb : metB (nth l k) (nth l 0) x y
      · repeat (first | refine go_ ?_ | refine bx_ (fun _ => ?_))
        exact ⟨q - 1, by omega, _, Imp.refl _, k + 1, by omega, ⟨rfl, rfl, rfl, Eq.trans (b := .bool odd) rfl (by simp [oddR, ← hodd, hnx, hb]), rfl, trivial⟩, rfl⟩
      · repeat (first | refine go_ ?_ | refine bx_ (fun _ => ?_))
        exact ⟨q - 1, by omega, _, Imp.refl _, k + 1, by omega, ⟨rfl, rfl, rfl, Eq.trans (b := .bool (!odd)) rfl (by simp [oddR, ← hodd, hnx, hb]), rfl, trivial⟩, rfl⟩
    · have p2 := hl.at' (k := k + 1) (by omega)
      have r2 := hr _ (nth_mem (l := l) (i := k + 1) (by omega))
      have hnx : nxt len k = k + 1 := if_neg hlast
      repeat (first | refine go_ ?_ | refine bx_ (fun _ => ?_))
      (refine hc_draw (by kernel_rfl) (by kernel_rfl) ?_; repeat (first | refine gd_ ?_ | refine hd_call rfl rfl (met_fn r1 r2 hn) ?_ | refine hl_loadRN rfl hl.rd (Imp.refl _) p1 rfl rfl ?_ | refine hl_indexAddr rfl rfl (show ((k : Int) + 1) = ((k + 1 : Nat) : Int) from rfl) (by omega) rfl ?_ | refine hl_loadRN rfl hl.rd (Imp.refl _) p2 rfl rfl ?_))
      cases hb : metB (nth l k) (nth l (k + 1)) x y
      · repeat (first | refine go_ ?_ | refine bx_ (fun _ => ?_))
        exact ⟨q - 1, by omega, _, Imp.refl _, k + 1, by omega, ⟨rfl, rfl, rfl, Eq.trans (b := .bool odd) rfl (by simp [oddR, ← hodd, hnx, hb]), rfl, trivial⟩, rfl⟩
      · repeat (first | refine go_ ?_ | refine bx_ (fun _ => ?_))
        exact ⟨q - 1, by omega, _, Imp.refl _, k + 1, by omega, ⟨rfl, rfl, rfl, Eq.trans (b := .bool (!odd)) rfl (by simp [oddR, ← hodd, hnx, hb]), rfl, trivial⟩, rfl⟩
  · obtain rfl : k = len := by omega
    repeat (first | refine go_ ?_ | refine bx_ (fun _ => ?_))
    exact fin1B rfl rfl ⟨by rw [hodd, inW, e1], rfl⟩
end Go.Proofs.Ytdofcjmnnmmecaa
