/-
  The way of walking: floats and complex numbers that are whole. No condition.
-/
import Derived.Test.YtdofcjmnnmmecaaFP
import Derived.Laws.Cover2
namespace Go.Proofs.Ytdofcjmnnmmecaa
open Go.RowKit Ieee
class TFlt (P : Program) (T : TypeId) : Prop where h : P.underlying T = some (.float .f64)
/-- These 64 bits stand for this whole number. -/
structure Rp (x : Nat) (n : Int) : Prop where
  rep : Rep x n
  lt : x < 18446744073709551616
def fi (n : Int) : Nat := FloatKind.nearest .f64 n
def fadd (x y : Nat) : Nat := (Ieee.double.add x y).getD 0
def fsub (x y : Nat) : Nat := (Ieee.double.sub x y).getD 0
def fmul (x y : Nat) : Nat := (Ieee.double.mul x y).getD 0
def fneg (x : Nat) : Nat := Op.negFloat .f64 x
/-- The sum, the difference, the product of two floats is no NaN. -/
structure FAdd (x y : Nat) : Prop where h : Ieee.double.add x y = some (fadd x y)
structure FSub (x y : Nat) : Prop where h : Ieee.double.sub x y = some (fsub x y)
structure FMul (x y : Nat) : Prop where h : Ieee.double.mul x y = some (fmul x y)
theorem map_lt {o : Option Datum} {r : Nat} (h : o.map Ieee.double.write = some r) : r < 18446744073709551616 := by
  cases o with
  | none => simp at h
  | some d => simp at h; exact rep_lt (n := 0) ⟨d, h.symm⟩
theorem rp_fi (n : Int) (h : Sm n) : Rp (fi n) n := ⟨rep_int n h, by unfold fi FloatKind.nearest FloatKind.encode; exact Ieee.double.write_lt _⟩
theorem rp_zero : Rp 0 0 := by
  have h := rp_fi 0 (by unfold Sm; decide)
  rwa [show fi 0 = 0 by decide +kernel] at h
theorem rp_two : Rp 4611686018427387904 2 := by
  have h := rp_fi 2 (by unfold Sm; decide)
  rwa [show fi 2 = 4611686018427387904 by decide +kernel] at h
theorem rp_add {x y : Nat} {n m : Int} (hx : Rp x n) (hy : Rp y m) (h : Sm (n + m)) : FAdd x y ∧ Rp (fadd x y) (n + m) := by
  obtain ⟨r, h1, h2⟩ := rep_add hx.rep hy.rep h
  have e : fadd x y = r := by unfold fadd; rw [h1]; rfl
  exact ⟨⟨by rw [e]; exact h1⟩, by rw [e]; exact ⟨h2, map_lt h1⟩⟩
theorem rp_sub {x y : Nat} {n m : Int} (hx : Rp x n) (hy : Rp y m) (h : Sm (n - m)) : FSub x y ∧ Rp (fsub x y) (n - m) := by
  obtain ⟨r, h1, h2⟩ := rep_sub hx.rep hy.rep h
  have e : fsub x y = r := by unfold fsub; rw [h1]; rfl
  exact ⟨⟨by rw [e]; exact h1⟩, by rw [e]; exact ⟨h2, map_lt h1⟩⟩
theorem rp_mul {x y : Nat} {n m : Int} (hx : Rp x n) (hy : Rp y m) (h : Sm (n * m)) : FMul x y ∧ Rp (fmul x y) (n * m) := by
  obtain ⟨r, h1, h2⟩ := rep_mul hx.rep hy.rep h
  have e : fmul x y = r := by unfold fmul; rw [h1]; rfl
  exact ⟨⟨by rw [e]; exact h1⟩, by rw [e]; exact ⟨h2, map_lt h1⟩⟩
theorem neg_lt {x : Nat} (h : x < 18446744073709551616) : fneg x < 18446744073709551616 := by
  show x ^^^ 2 ^ 63 < 2 ^ 64
  exact Nat.xor_lt_two_pow h (by decide)
theorem rp_neg {x : Nat} {n : Int} (hx : Rp x n) : Rp (fneg x) (-n) := ⟨rep_neg hx.rep hx.lt, neg_lt hx.lt⟩

/-- A complex product all of whose steps are no NaN. -/
structure CMul (a b c d : Nat) : Prop where
  m1 : FMul a c
  m2 : FMul b d
  m3 : FMul a d
  m4 : FMul b c
  s : FSub (fmul a c) (fmul b d)
  t : FAdd (fmul a d) (fmul b c)
def cmr (a b c d : Nat) : Nat := fsub (fmul a c) (fmul b d)
def cmi (a b c d : Nat) : Nat := fadd (fmul a d) (fmul b c)
theorem rp_cmul {a b c d : Nat} {p q r s : Int} (ha : Rp a p) (hb : Rp b q) (hc : Rp c r) (hd : Rp d s) (h1 : Sm (p * r)) (h2 : Sm (q * s)) (h3 : Sm (p * s)) (h4 : Sm (q * r)) (h5 : Sm (p * r - q * s)) (h6 : Sm (p * s + q * r)) :
    CMul a b c d ∧ Rp (cmr a b c d) (p * r - q * s) ∧ Rp (cmi a b c d) (p * s + q * r) := by
  obtain ⟨m1, r1⟩ := rp_mul ha hc h1
  obtain ⟨m2, r2⟩ := rp_mul hb hd h2
  obtain ⟨m3, r3⟩ := rp_mul ha hd h3
  obtain ⟨m4, r4⟩ := rp_mul hb hc h4
  obtain ⟨s1, r5⟩ := rp_sub r1 r2 h5
  obtain ⟨s2, r6⟩ := rp_add r3 r4 h6
  exact ⟨⟨m1, m2, m3, m4, s1, s2⟩, r5, r6⟩

variable {c : Cx} {fr : Fr} {H : List Ent} {ops : Array Oper} {S : List Oper → Fr → List Ent → Prop} {rest : List Oper} {dst : Option Nat} {ty : TypeId} {pos : String} {after : Array Edge} {x y : Operand} {t u : TypeId} {a b d e : Nat}
theorem hl_moveX [Stp c ops S] (hx : ev fr x = .float .f64 a) (hd : dOk c.n dst = true) (k : S rest (updO fr dst (.float .f64 a)) H) : S (⟨dst, .move x, ty, pos, after, none⟩ :: rest) fr H := hl_move hx hd k
theorem hl_assignX [Stp c ops S] (hx : ev fr x = .float .f64 a) (hd : dOk c.n dst = true) (k : S rest (updO fr dst (.float .f64 a)) H) : S (⟨dst, .assign x, ty, pos, after, none⟩ :: rest) fr H := hl_assign hx hd k
theorem hl_moveZ [Stp c ops S] (hx : ev fr x = .complex .f64 a b) (hd : dOk c.n dst = true) (k : S rest (updO fr dst (.complex .f64 a b)) H) : S (⟨dst, .move x, ty, pos, after, none⟩ :: rest) fr H := hl_move hx hd k
theorem hl_assignZ [Stp c ops S] (hx : ev fr x = .complex .f64 a b) (hd : dOk c.n dst = true) (k : S rest (updO fr dst (.complex .f64 a b)) H) : S (⟨dst, .assign x, ty, pos, after, none⟩ :: rest) fr H := hl_assign hx hd k
theorem hl_toFlt [Stp c ops S] {n : Int} {U T : TypeId} {k : IntKind} [hS : TInt c.P U k] [hT : TFlt c.P T] (hx : ev fr x = .int k n) (hd : dOk c.n dst = true) (h : S rest (updO fr dst (.float .f64 (fi n))) H) :
    S (⟨dst, .convert U T x, ty, pos, after, none⟩ :: rest) fr H :=
  hl_pure hd _ (fun w _ => by simp [execOp, convert, hx, run_underlying hS.h, run_underlying hT.h, Conv.intToFloat, fi]) h
theorem hl_ofFlt [Stp c ops S] {n : Int} {U T : TypeId} [hS : TFlt c.P U] [hT : TInt c.P T .i64] (hx : ev fr x = .float .f64 a) (hr : Rp a n) (h1 : -9223372036854775808 ≤ n) (h2 : n ≤ 9223372036854775807) (hd : dOk c.n dst = true) (h : S rest (updO fr dst (.int .i64 n)) H) :
    S (⟨dst, .convert U T x, ty, pos, after, none⟩ :: rest) fr H :=
  hl_pure hd _ (fun w _ => by
    have e1 : IntKind.i64.min = -9223372036854775808 := rfl
    have e2 : IntKind.i64.max = 9223372036854775807 := rfl
    simp [execOp, convert, hx, run_underlying hS.h, run_underlying hT.h, Conv.floatToInt, rep_toInt hr.rep, e1, e2, h1, h2]) h
theorem hl_complex [Stp c ops S] {ts : Array TypeId} (hx : ev fr x = .float .f64 a) (hy : ev fr y = .float .f64 b) (hd : dOk c.n dst = true) (h : S rest (updO fr dst (.complex .f64 a b)) H) :
    S (⟨dst, .call { callee := .builtin .complex, args := #[x, y], argTypes := ts }, ty, pos, after, none⟩ :: rest) fr H :=
  hl_pure hd _ (fun w _ => by simp [execOp, resolve, invoke, builtin, hx, hy, show ∀ ts t, Builtin.complex_ ts t #[.float .f64 a, .float .f64 b] = pure (.complex .f64 a b) from fun _ _ => rfl]) h
theorem hl_real [Stp c ops S] {ts : Array TypeId} (hx : ev fr x = .complex .f64 a b) (hd : dOk c.n dst = true) (h : S rest (updO fr dst (.float .f64 a)) H) :
    S (⟨dst, .call { callee := .builtin .real, args := #[x], argTypes := ts }, ty, pos, after, none⟩ :: rest) fr H :=
  hl_pure hd _ (fun w _ => by simp [execOp, resolve, invoke, builtin, hx, show ∀ ts t, Builtin.real_ ts t #[.complex .f64 a b] = pure (.float .f64 a) from fun _ _ => rfl]) h
theorem hl_imag [Stp c ops S] {ts : Array TypeId} (hx : ev fr x = .complex .f64 a b) (hd : dOk c.n dst = true) (h : S rest (updO fr dst (.float .f64 b)) H) :
    S (⟨dst, .call { callee := .builtin .imag, args := #[x], argTypes := ts }, ty, pos, after, none⟩ :: rest) fr H :=
  hl_pure hd _ (fun w _ => by simp [execOp, resolve, invoke, builtin, hx, show ∀ ts t, Builtin.imag_ ts t #[.complex .f64 a b] = pure (.float .f64 b) from fun _ _ => rfl]) h
theorem hl_fneg [Stp c ops S] (hx : ev fr x = .float .f64 a) (hd : dOk c.n dst = true) (k : S rest (updO fr dst (.float .f64 (fneg a))) H) : S (⟨dst, .unOp .neg t x, ty, pos, after, none⟩ :: rest) fr H :=
  hl_pure hd _ (fun w _ => by simp [execOp, hx, Op.unary, fneg]) k
theorem hl_fadd [Stp c ops S] (hx : ev fr x = .float .f64 a) (hy : ev fr y = .float .f64 b) (hf : FAdd a b) (hd : dOk c.n dst = true) (k : S rest (updO fr dst (.float .f64 (fadd a b))) H) : S (⟨dst, .binOp .add t x y u, ty, pos, after, none⟩ :: rest) fr H :=
  hl_bin .add hx hy hd (fun w => by simp [eqGuard_add]) (fun w => by simp [binOp, Op.floatArith, FloatKind.format, hf.h]) k
theorem hl_fgtr [Stp c ops S] {n m : Int} (hx : ev fr x = .float .f64 a) (hy : ev fr y = .float .f64 b) (ha : Rp a n) (hb : Rp b m) (hd : dOk c.n dst = true) (k : S rest (updO fr dst (.bool (decide (n > m)))) H) : S (⟨dst, .binOp .gtr t x y u, ty, pos, after, none⟩ :: rest) fr H :=
  hl_bin .gtr hx hy hd (fun w => by simp [eqGuard_gtr]) (fun w => by
    have : (some (compare n m) == some Ordering.gt) = decide (n > m) := by
      rw [show (some (compare n m) == some Ordering.gt) = (compare n m == Ordering.gt) from rfl]
      by_cases h : n > m
      · rw [decide_eq_true h, Int.compare_eq_gt.2 h]; rfl
      · rw [decide_eq_false h]; simp [Int.compare_eq_gt, h]
    simp [binOp, Op.floatCmp, FloatKind.format, rep_order ha.rep hb.rep, this]) k
theorem hl_fgtrT [Stp c ops S] {n m : Int} (hx : ev fr x = .float .f64 a) (hy : ev fr y = .float .f64 b) (ha : Rp a n) (hb : Rp b m) (hlt : m < n) (hd : dOk c.n dst = true) (k : S rest (updO fr dst (.bool true)) H) : S (⟨dst, .binOp .gtr t x y u, ty, pos, after, none⟩ :: rest) fr H :=
  hl_fgtr hx hy ha hb hd (by rw [decide_eq_true hlt]; exact k)
theorem hl_fgtrF [Stp c ops S] {n m : Int} (hx : ev fr x = .float .f64 a) (hy : ev fr y = .float .f64 b) (ha : Rp a n) (hb : Rp b m) (hlt : n ≤ m) (hd : dOk c.n dst = true) (k : S rest (updO fr dst (.bool false)) H) : S (⟨dst, .binOp .gtr t x y u, ty, pos, after, none⟩ :: rest) fr H :=
  hl_fgtr hx hy ha hb hd (by rw [decide_eq_false (Int.not_lt.2 hlt)]; exact k)
theorem hl_cadd [Stp c ops S] (hx : ev fr x = .complex .f64 a b) (hy : ev fr y = .complex .f64 d e) (h1 : FAdd a d) (h2 : FAdd b e) (hd : dOk c.n dst = true) (k : S rest (updO fr dst (.complex .f64 (fadd a d) (fadd b e))) H) : S (⟨dst, .binOp .add t x y u, ty, pos, after, none⟩ :: rest) fr H :=
  hl_bin .add hx hy hd (fun w => by simp [eqGuard_add]) (fun w => by simp [binOp, Op.complexOp, Op.Complex.arith, Op.floatArith, FloatKind.format, h1.h, h2.h]) k
theorem hl_csub [Stp c ops S] (hx : ev fr x = .complex .f64 a b) (hy : ev fr y = .complex .f64 d e) (h1 : FSub a d) (h2 : FSub b e) (hd : dOk c.n dst = true) (k : S rest (updO fr dst (.complex .f64 (fsub a d) (fsub b e))) H) : S (⟨dst, .binOp .sub t x y u, ty, pos, after, none⟩ :: rest) fr H :=
  hl_bin .sub hx hy hd (fun w => by simp [eqGuard_sub]) (fun w => by simp [binOp, Op.complexOp, Op.Complex.arith, Op.floatArith, FloatKind.format, h1.h, h2.h]) k
theorem hl_cmul [Stp c ops S] (hx : ev fr x = .complex .f64 a b) (hy : ev fr y = .complex .f64 d e) (hm : CMul a b d e) (hd : dOk c.n dst = true) (k : S rest (updO fr dst (.complex .f64 (cmr a b d e) (cmi a b d e))) H) : S (⟨dst, .binOp .mul t x y u, ty, pos, after, none⟩ :: rest) fr H :=
  hl_bin .mul hx hy hd (fun w => by simp [eqGuard_mul]) (fun w => by
    have hb : (BinOp.mul == BinOp.mul) = true := rfl
    simp [binOp, Op.complexOp, Op.Complex.product, Op.Complex.conv, Op.Complex.add, Op.Complex.sub, Op.Complex.mul, Op.Complex.arith, Op.floatArith, FloatKind.format, hm.m1.h, hm.m2.h, hm.m3.h, hm.m4.h, hm.s.h, hm.t.h, cmr, cmi, hb]) k
attribute [irreducible] fi fadd fsub fmul fneg cmr cmi
end Go.Proofs.Ytdofcjmnnmmecaa
