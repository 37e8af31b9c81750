/-
  Lasso: within, by complex numbers. No condition.
-/
import Derived.Test.YtdofcjmnnmmecaaK3
namespace Go.Proofs.Ytdofcjmnnmmecaa
open Go.RowKit
/-- Twice this point, as the program reckons it. -/
def dbx (p : Pt) : Nat := cmr 4611686018427387904 0 (fi p.x) (fi p.y)
def dby (p : Pt) : Nat := cmi 4611686018427387904 0 (fi p.x) (fi p.y)
theorem rp_pt {p : Pt} (h : p.right) : Rp (fi p.x) p.x ∧ Rp (fi p.y) p.y := by
  obtain ⟨⟨⟨h1, h2⟩, h3⟩, h4⟩ := h
  exact ⟨rp_fi _ (sm_of (by omega) (by omega)), rp_fi _ (sm_of (by omega) (by omega))⟩
theorem dbl {p : Pt} (h : p.right) : CMul 4611686018427387904 0 (fi p.x) (fi p.y) ∧ Rp (dbx p) (2 * p.x) ∧ Rp (dby p) (2 * p.y) := by
  obtain ⟨r1, r2⟩ := rp_pt h
  obtain ⟨⟨⟨h1, h2⟩, h3⟩, h4⟩ := h
  have := rp_cmul rp_two rp_zero r1 r2 (sm_of (by omega) (by omega)) (sm_of (by omega) (by omega)) (sm_of (by omega) (by omega)) (sm_of (by omega) (by omega)) (sm_of (by omega) (by omega)) (sm_of (by omega) (by omega))
  rw [show 2 * p.x - 0 * p.y = 2 * p.x by omega, show 2 * p.y + 0 * p.x = 2 * p.y by omega] at this
  exact this
attribute [irreducible] dbx dby
section
variable {c : Cx} {fr : Fr} {H : List Ent} {ops : Array Oper} {S : List Oper → Fr → List Ent → Prop} {rest : List Oper} {dst : Option Nat} {ty : TypeId} {pos : String} {after : Array Edge} {x y : Operand} {t u : TypeId}
theorem hl_dbl [Stp c ops S] (p : Pt) (hx : ev fr x = .complex .f64 4611686018427387904 0) (hy : ev fr y = numV p) (hp : p.right) (hd : dOk c.n dst = true) (k : S rest (updO fr dst (.complex .f64 (dbx p) (dby p))) H) : S (⟨dst, .binOp .mul t x y u, ty, pos, after, none⟩ :: rest) fr H :=
  hl_cmul hx hy (dbl hp).1 hd (by have := k; unfold dbx dby at this; exact this)
theorem hl_moveN [Stp c ops S] (p : Pt) (hx : ev fr x = numV p) (hd : dOk c.n dst = true) (k : S rest (updO fr dst (numV p)) H) : S (⟨dst, .move x, ty, pos, after, none⟩ :: rest) fr H := hl_move hx hd k
end
def crI (u w : Pt) (x y : Int) : Int := (2 * u.x - 2 * w.x) * (2 * y + 1 - 2 * w.y) - (2 * u.y - 2 * w.y) * (2 * x + 1 - 2 * w.x)
theorem crs {u w : Pt} {x y : Int} (hu : u.right) (hw : w.right) (hn : Near x y) :
    FSub (dbx u) (dbx w) ∧ FSub (dby u) (dby w) ∧ FSub (fi (2 * x + 1)) (dbx w) ∧ FSub (fi (2 * y + 1)) (dby w) ∧ CMul (fsub (dbx u) (dbx w)) (fneg (fsub (dby u) (dby w))) (fsub (fi (2 * x + 1)) (dbx w)) (fsub (fi (2 * y + 1)) (dby w)) ∧
      Rp (cmi (fsub (dbx u) (dbx w)) (fneg (fsub (dby u) (dby w))) (fsub (fi (2 * x + 1)) (dbx w)) (fsub (fi (2 * y + 1)) (dby w))) (crI u w x y) := by
  obtain ⟨_, a1, a2⟩ := dbl hu
  obtain ⟨_, b1, b2⟩ := dbl hw
  obtain ⟨⟨⟨h1, h2⟩, h3⟩, h4⟩ := hu
  obtain ⟨⟨⟨h5, h6⟩, h7⟩, h8⟩ := hw
  obtain ⟨⟨h9, h10⟩, ⟨h11, h12⟩⟩ := hn
  obtain ⟨s1, t1⟩ := rp_sub a1 b1 (sm_of (by omega) (by omega))
  obtain ⟨s2, t2⟩ := rp_sub a2 b2 (sm_of (by omega) (by omega))
  obtain ⟨s3, t3⟩ := rp_sub (rp_fi (2 * x + 1) (sm_of (by omega) (by omega))) b1 (sm_of (by omega) (by omega))
  obtain ⟨s4, t4⟩ := rp_sub (rp_fi (2 * y + 1) (sm_of (by omega) (by omega))) b2 (sm_of (by omega) (by omega))
  obtain ⟨s5, t5⟩ := rp_cross t1 t2 t3 t4 (by omega) (by omega) (by omega) (by omega)
  exact ⟨s1, s2, s3, s4, s5, t5⟩
theorem met_up {a b : Pt} {x y : Int} (h1 : ¬ 2 * a.y > 2 * y + 1) (h2 : 2 * b.y > 2 * y + 1) : metB a b x y = decide (crI b a x y > 0) := by
  unfold metB
  rw [if_neg (by simp [h1, h2]), if_neg (by omega)]
  have : metS a b x y = crI b a x y := by unfold metS crI; grind
  rw [this]
theorem met_dn {a b : Pt} {x y : Int} (h1 : 2 * a.y > 2 * y + 1) (h2 : ¬ 2 * b.y > 2 * y + 1) : metB a b x y = decide (crI a b x y > 0) := by
  unfold metB
  rw [if_neg (by simp [h1, h2]), if_pos (by omega)]
  have : metS a b x y = - crI a b x y := by unfold metS crI; grind
  rw [this]
  exact decide_eq_decide.2 (by omega)
theorem met_eq {a b : Pt} {x y : Int} (h : 2 * a.y > 2 * y + 1 ↔ 2 * b.y > 2 * y + 1) : metB a b x y = false := by
  unfold metB
  rw [if_pos (decide_eq_decide.2 h)]
def prv (n i : Nat) : Nat := if i = 0 then n - 1 else i - 1
def inP (l : List Pt) (x y : Int) : Bool := oddR (fun i => metB (nth l (prv l.length i)) (nth l i) x y) l.length
theorem oddR_shift (f g : Nat → Bool) (c : Bool) (h0 : g 0 = c) (h : ∀ k, g (k + 1) = f k) : ∀ n, oddR g (n + 1) = xor c (oddR f n)
  | 0 => by simp [oddR, h0]
  | n + 1 => by rw [oddR, oddR_shift f g c h0 h n, h, oddR, Bool.xor_assoc]
theorem oddR_congr {f g : Nat → Bool} : ∀ n, (∀ i, i < n → f i = g i) → oddR f n = oddR g n
  | 0, _ => rfl
  | n + 1, h => by rw [oddR, oddR, oddR_congr n fun i hi => h i (by omega), h n (by omega)]
theorem inP_eq (l : List Pt) (x y : Int) : inP l x y = inW l x y := by
  unfold inP inW
  obtain ⟨n, hn⟩ : ∃ n, n = l.length := ⟨_, rfl⟩
  rw [← hn]
  cases n with
  | zero => rfl
  | succ n =>
    rw [oddR_shift (fun i => metB (nth l i) (nth l (i + 1)) x y) _ (metB (nth l n) (nth l 0) x y) (by simp [prv]) (fun k => by simp [prv]), oddR, Bool.xor_comm]
    congr 1
    · exact oddR_congr n fun i hi => by simp only [nxt]; rw [if_neg (by omega)]
    · simp [nxt]
end Go.Proofs.Ytdofcjmnnmmecaa
