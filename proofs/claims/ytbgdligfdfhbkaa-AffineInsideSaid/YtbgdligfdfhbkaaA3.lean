/-
  Pictures: a pixel, its parts, the pixel between its neighbours. No condition.
-/
import Derived.Test.YtbgdligfdfhbkaaA2
namespace Go.Proofs.Ytbgdligfdfhbkaa
open Go.RowKit

/-- A picture: its numbers, and where its pixels stand. -/
structure Pic (w0 : World) (B : Nat) (E : List Ent) (W H : Nat) (a : Option Addr) (n : Nat) (f : Nat → Int) : Prop where
  row : 0 < n → ∃ b off, a = some ⟨b, off, none⟩ ∧ Row w0 B E b off n .i64 f
  size : n = W * H
  w : W ≤ 32768
  h : H ≤ 32768
  px : ∀ i, i < n → 0 ≤ f i ∧ f i < 4294967296
theorem Pic.imp {w0 : World} {B : Nat} {E E' : List Ent} {W H : Nat} {a : Option Addr} {n : Nat} {f : Nat → Int} (p : Pic w0 B E W H a n f) (hi : Imp E' E) : Pic w0 B E' W H a n f :=
  ⟨fun h => by obtain ⟨b, off, e, r⟩ := p.row h; exact ⟨b, off, e, r.imp hi⟩, p.size, p.w, p.h, p.px⟩
def picV (W H : Int) (a : Option Addr) (n cap : Nat) : Value := .agg [.int .i64 W, .int .i64 H, .slice a n cap].toArray
def pixAt (W H : Nat) (f : Nat → Int) (x y : Int) : Int := if 0 ≤ x ∧ x < W ∧ 0 ≤ y ∧ y < H then f (y.toNat * W + x.toNat) else 0
theorem at_lt {W H x y : Nat} (hx : x < W) (hy : y < H) : y * W + x < W * H := by
  have : (y + 1) * W ≤ H * W := Nat.mul_le_mul_right W hy
  rw [Nat.add_mul, Nat.mul_comm H W] at this
  omega
theorem pixAt_bd {w0 : World} {B : Nat} {E : List Ent} {W H : Nat} {a : Option Addr} {n : Nat} {f : Nat → Int} (p : Pic w0 B E W H a n f) (x y : Int) : 0 ≤ pixAt W H f x y ∧ pixAt W H f x y < 4294967296 := by
  unfold pixAt
  split
  · rename_i h
    exact p.px _ (by rw [p.size]; exact at_lt (by omega) (by omega))
  · omega
section
variable {w0 : World} {B : Nat} {M : List Ent}
set_option maxHeartbeats 8000000 in
theorem at_fn {W H : Nat} {a : Option Addr} {n cap : Nat} {f : Nat → Int} (p : Pic w0 B M W H a n f) (x y : Int) : Fn Try.prog w0 B 37 [picV W H a n cap, .int .i64 x, .int .i64 y] M (fun v M' => v = .int .i64 (pixAt W H f x y) ∧ M' = M) := by
  have hw := p.w
  have hh := p.h
  refine fn_intro Try.func37 rfl (by kernel_rfl) rfl ?_
  unfold picV
  by_cases h1 : x < 0
  · have e : pixAt W H f x y = 0 := if_neg (by omega)
    repeat (first | refine go_ ?_ | refine bx_ (fun _ => ?_))
    exact fin1I rfl rfl ⟨by rw [e], rfl⟩
  by_cases h2 : (W : Int) ≤ x
  · have e : pixAt W H f x y = 0 := if_neg (by omega)
    repeat (first | refine go_ ?_ | refine bx_ (fun _ => ?_))
    exact fin1I rfl rfl ⟨by rw [e], rfl⟩
  by_cases h3 : y < 0
  · have e : pixAt W H f x y = 0 := if_neg (by omega)
    repeat (first | refine go_ ?_ | refine bx_ (fun _ => ?_))
    exact fin1I rfl rfl ⟨by rw [e], rfl⟩
  by_cases h4 : (H : Int) ≤ y
  · have e : pixAt W H f x y = 0 := if_neg (by omega)
    repeat (first | refine go_ ?_ | refine bx_ (fun _ => ?_))
    exact fin1I rfl rfl ⟨by rw [e], rfl⟩
  have e : pixAt W H f x y = f (y.toNat * W + x.toNat) := if_pos (by omega)
  have hlt : y.toNat * W + x.toNat < n := by rw [p.size]; exact at_lt (by omega) (by omega)
  obtain ⟨b, off, rfl, hr⟩ := p.row (by omega)
  have hmul := mul_bd (a := y) (b := (W : Int)) (M := 32768) (N := 32768) (by omega) (by omega)
  have ei : y * (W : Int) + x = ((y.toNat * W + x.toNat : Nat) : Int) := by rw [Int.natCast_add, Int.natCast_mul]; congr 1; congr 1; omega; omega
  repeat (first | rw [ei] | refine go1_ ?_ | refine bx_ (fun _ => ?_))
  exact fin1I rfl rfl ⟨by rw [e], rfl⟩
set_option maxHeartbeats 8000000 in
theorem rat_fn {W H : Nat} {a : Option Addr} {n cap : Nat} {f : Nat → Int} (p : Pic w0 B M W H a n f) (x y : Int) : Fn Try.prog w0 B 22 [picV W H a n cap, .int .i64 x, .int .i64 y] M (fun v M' => v = .int .i64 (pixAt W H f x y) ∧ M' = M) := by
  have hw := p.w
  have hh := p.h
  refine fn_intro Try.func22 rfl (by kernel_rfl) rfl ?_
  unfold picV
  by_cases h1 : x < 0
  · have e : pixAt W H f x y = 0 := if_neg (by omega)
    repeat (first | refine go_ ?_ | refine bx_ (fun _ => ?_))
    exact fin1I rfl rfl ⟨by rw [e], rfl⟩
  by_cases h3 : y < 0
  · have e : pixAt W H f x y = 0 := if_neg (by omega)
    repeat (first | refine go_ ?_ | refine bx_ (fun _ => ?_))
    exact fin1I rfl rfl ⟨by rw [e], rfl⟩
  by_cases h2 : (W : Int) ≤ x
  · have e : pixAt W H f x y = 0 := if_neg (by omega)
    repeat (first | refine go_ ?_ | refine bx_ (fun _ => ?_))
    exact fin1I rfl rfl ⟨by rw [e], rfl⟩
  by_cases h4 : (H : Int) ≤ y
  · have e : pixAt W H f x y = 0 := if_neg (by omega)
    repeat (first | refine go_ ?_ | refine bx_ (fun _ => ?_))
    exact fin1I rfl rfl ⟨by rw [e], rfl⟩
  have e : pixAt W H f x y = f (y.toNat * W + x.toNat) := if_pos (by omega)
  have hlt : y.toNat * W + x.toNat < n := by rw [p.size]; exact at_lt (by omega) (by omega)
  obtain ⟨b, off, rfl, hr⟩ := p.row (by omega)
  have hmul := mul_bd (a := y) (b := (W : Int)) (M := 32768) (N := 32768) (by omega) (by omega)
  have ei : y * (W : Int) + x = ((y.toNat * W + x.toNat : Nat) : Int) := by rw [Int.natCast_add, Int.natCast_mul]; congr 1; congr 1; omega; omega
  repeat (first | rw [ei] | refine go1_ ?_ | refine bx_ (fun _ => ?_))
  exact fin1I rfl rfl ⟨by rw [e], rfl⟩

/-! A pixel's parts -/
theorem and255 (v : Int) : bits .and .i64 v 255 = v % 256 := by
  have e : BitVec.ofInt 64 v &&& BitVec.ofInt 64 255 = BitVec.ofNat 64 ((v % 256).toNat) := by
    apply BitVec.eq_of_toNat_eq
    rw [BitVec.toNat_and, BitVec.toNat_ofInt, BitVec.toNat_ofNat]
    rw [show (BitVec.ofInt 64 255).toNat = 2 ^ 8 - 1 from rfl, Nat.and_two_pow_sub_one_eq_mod]
    omega
  rw [show bits .and .i64 v 255 = IntKind.i64.wrap ((BitVec.ofInt 64 v &&& BitVec.ofInt 64 255).toNat : Int) from rfl, e, BitVec.toNat_ofNat]
  rw [IntWalk.i64_in _ (by omega)]; omega
theorem or_add (a b : Nat) (k : Nat) (hb : b < 2 ^ k) (h : a * 2 ^ k + b < 9223372036854775808) : bits .or .i64 ((a * 2 ^ k : Nat) : Int) (b : Int) = ((a * 2 ^ k + b : Nat) : Int) := by
  have hab : (a * 2 ^ k) ||| b = a * 2 ^ k + b := by
    have := Nat.shiftLeft_add_eq_or_of_lt hb a
    rw [Nat.shiftLeft_eq] at this
    exact this.symm
  have e : BitVec.ofInt 64 ((a * 2 ^ k : Nat) : Int) ||| BitVec.ofInt 64 (b : Int) = BitVec.ofNat 64 (a * 2 ^ k + b) := by
    rw [BitVec.ofInt_natCast, BitVec.ofInt_natCast]
    apply BitVec.eq_of_toNat_eq
    rw [BitVec.toNat_or, BitVec.toNat_ofNat, BitVec.toNat_ofNat, BitVec.toNat_ofNat, Nat.mod_eq_of_lt (by omega), Nat.mod_eq_of_lt (by omega), Nat.mod_eq_of_lt (by omega), hab]
  rw [show bits .or .i64 ((a * 2 ^ k : Nat) : Int) (b : Int) = IntKind.i64.wrap ((BitVec.ofInt 64 ((a * 2 ^ k : Nat) : Int) ||| BitVec.ofInt 64 (b : Int)).toNat : Int) from rfl, e, BitVec.toNat_ofNat, Nat.mod_eq_of_lt (by omega)]
  exact IntWalk.i64_in _ (by omega)
def s0 (v : Int) : Int := v / 16777216 % 256
def s1 (v : Int) : Int := v / 65536 % 256
def s2 (v : Int) : Int := v / 256 % 256
def s3 (v : Int) : Int := v % 256
def quadV (a b c d : Int) : Value := .agg [.int .i64 a, .int .i64 b, .int .i64 c, .int .i64 d].toArray
theorem split_fn (v : Int) : Fn Try.prog w0 B 41 [.int .i64 v] M (fun r M' => r = quadV (s0 v) (s1 v) (s2 v) (s3 v) ∧ M' = M) := by
  refine fn_intro Try.func41 rfl (by kernel_rfl) rfl ?_
  repeat (first | rw [and255] | refine go1_ ?_ | refine bx_ (fun _ => ?_))
  exact finC rfl rfl .here rfl ⟨rfl, rfl⟩
def By (x : Int) : Prop := 0 ≤ x ∧ x ≤ 255
def joinZ (a b c d : Int) : Int := ((a * 256 + b) * 256 + c) * 256 + d
theorem join_fn (a b c d : Int) (ha : By a) (hb : By b) (hc : By c) (hd : By d) : Fn Try.prog w0 B 42 [quadV a b c d] M (fun r M' => r = .int .i64 (joinZ a b c d) ∧ M' = M) := by
  unfold By at *
  refine fn_intro Try.func42 rfl (by kernel_rfl) rfl ?_
  unfold quadV
  have e1 : bits .or .i64 (a * 2 ^ 24) (b * 2 ^ 16) = a * 16777216 + b * 65536 := by
    have := or_add a.toNat (b.toNat * 2 ^ 16) 24 (by omega) (by omega)
    rw [show ((a.toNat * 2 ^ 24 : Nat) : Int) = a * 2 ^ 24 by omega, show ((b.toNat * 2 ^ 16 : Nat) : Int) = b * 2 ^ 16 by omega] at this
    rw [this]; omega
  have e2 : bits .or .i64 (a * 16777216 + b * 65536) (c * 2 ^ 8) = a * 16777216 + b * 65536 + c * 256 := by
    have := or_add ((a * 256 + b).toNat) (c.toNat * 2 ^ 8) 16 (by omega) (by omega)
    rw [show (((a * 256 + b).toNat * 2 ^ 16 : Nat) : Int) = a * 16777216 + b * 65536 by omega, show ((c.toNat * 2 ^ 8 : Nat) : Int) = c * 2 ^ 8 by omega] at this
    rw [this]; omega
  have e3 : bits .or .i64 (a * 16777216 + b * 65536 + c * 256) d = joinZ a b c d := by
    have := or_add ((a * 65536 + b * 256 + c).toNat) d.toNat 8 (by omega) (by omega)
    rw [show (((a * 65536 + b * 256 + c).toNat * 2 ^ 8 : Nat) : Int) = a * 16777216 + b * 65536 + c * 256 by omega, show (d.toNat : Int) = d by omega] at this
    rw [this]; unfold joinZ; omega
  repeat (first | rw [e1] | rw [e2] | rw [e3] | refine go1_ ?_ | refine bx_ (fun _ => ?_))
  exact fin1I rfl rfl ⟨rfl, rfl⟩
end
end Go.Proofs.Ytbgdligfdfhbkaa
