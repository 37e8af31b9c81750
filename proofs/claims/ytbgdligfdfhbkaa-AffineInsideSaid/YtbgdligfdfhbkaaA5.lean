/-
  Pictures seen through maps. No condition.
-/
import Derived.Test.YtbgdligfdfhbkaaA4
namespace Go.Proofs.Ytbgdligfdfhbkaa
open Go.RowKit

def plU (b : Nat → Int) (x y : Int) : Int := (b 0 * (2 * x + 1) + b 1 * (2 * y + 1)) / 2 + b 4
def plV (b : Nat → Int) (x y : Int) : Int := (b 2 * (2 * x + 1) + b 3 * (2 * y + 1)) / 2 + b 5
def seeZ (b : Nat → Int) (W H : Nat) (f : Nat → Int) (sm : Bool) (x y : Int) : Int :=
  if sm then smZ W H f (plU b x y) (plV b x y) else pixAt W H f (plU b x y / 65536) (plV b x y / 65536)
def PicR (W H : Int) (n : Nat) (f : Nat → Int) : Prop := 0 ≤ W ∧ W ≤ 32768 ∧ 0 ≤ H ∧ H ≤ 32768 ∧ (n : Int) = W * H ∧ ∀ i, i < n → 0 ≤ f i ∧ f i < 4294967296
instance (W H : Int) (n : Nat) (f : Nat → Int) : Decidable (PicR W H n f) := by unfold PicR; exact inferInstance
/-- A row of numbers, somewhere. -/
structure Nums (w0 : World) (B : Nat) (E : List Ent) (a : Option Addr) (n : Nat) (f : Nat → Int) : Prop where
  row : 0 < n → ∃ b off, a = some ⟨b, off, none⟩ ∧ Row w0 B E b off n .i64 f
  bd : ∀ i, i < n → -9223372036854775808 ≤ f i ∧ f i ≤ 9223372036854775807
  small : n ≤ 10000000
theorem Nums.imp {w0 : World} {B : Nat} {E E' : List Ent} {a : Option Addr} {n : Nat} {f : Nat → Int} (p : Nums w0 B E a n f) (hi : Imp E' E) : Nums w0 B E' a n f :=
  ⟨fun h => by obtain ⟨b, off, e, r⟩ := p.row h; exact ⟨b, off, e, r.imp hi⟩, p.bd, p.small⟩
theorem Nums.pic {w0 : World} {B : Nat} {E : List Ent} {a : Option Addr} {n : Nat} {f : Nat → Int} (p : Nums w0 B E a n f) {W H : Int} (h : PicR W H n f) : Pic w0 B E W.toNat H.toNat a n f := by
  obtain ⟨h1, h2, h3, h4, h5, h6⟩ := h
  refine ⟨p.row, ?_, by omega, by omega, h6⟩
  have : ((W.toNat * H.toNat : Nat) : Int) = W * H := by rw [Int.natCast_mul, Int.toNat_of_nonneg h1, Int.toNat_of_nonneg h3]
  omega
theorem pl_bd {b : Nat → Int} (hb : Rt b) {x y : Int} (hx : 0 ≤ x ∧ x ≤ 32768) (hy : 0 ≤ y ∧ y ≤ 32768) : Pl (plU b x y) ∧ Pl (plV b x y) := by
  have b0 := mul_bd (hb.1 0 (by omega)) (show -65537 ≤ 2 * x + 1 ∧ 2 * x + 1 ≤ 65537 by omega)
  have b1 := mul_bd (hb.1 1 (by omega)) (show -65537 ≤ 2 * y + 1 ∧ 2 * y + 1 ≤ 65537 by omega)
  have b2 := mul_bd (hb.1 2 (by omega)) (show -65537 ≤ 2 * x + 1 ∧ 2 * x + 1 ≤ 65537 by omega)
  have b3 := mul_bd (hb.1 3 (by omega)) (show -65537 ≤ 2 * y + 1 ∧ 2 * y + 1 ≤ 65537 by omega)
  have b4 := hb.2 4 (by omega) (by omega)
  have b5 := hb.2 5 (by omega) (by omega)
  unfold Pl plU plV
  omega
section
variable {w0 : World} {B : Nat} {M : List Ent}
set_option maxHeartbeats 8000000 in
theorem At_fn {W H : Nat} {a : Option Addr} {n cap : Nat} {f : Nat → Int} (p : Pic w0 B M W H a n f) (b : Nat → Int) (hb : Rt b) (x y : Int) (hx : 0 ≤ x ∧ x ≤ 32768) (hy : 0 ≤ y ∧ y ≤ 32768) (sm : Bool) :
    Fn Try.prog w0 B 19 [picV W H a n cap, mapV b, .int .i64 x, .int .i64 y, .bool sm] M (fun r M' => r = .int .i64 (seeZ b W H f sm x y) ∧ M' = M) := by
  obtain ⟨hU, hV⟩ := pl_bd hb hx hy
  have b0 := mul_bd (hb.1 0 (by omega)) (show -65537 ≤ 2 * x + 1 ∧ 2 * x + 1 ≤ 65537 by omega)
  have b1 := mul_bd (hb.1 1 (by omega)) (show -65537 ≤ 2 * y + 1 ∧ 2 * y + 1 ≤ 65537 by omega)
  have b2 := mul_bd (hb.1 2 (by omega)) (show -65537 ≤ 2 * x + 1 ∧ 2 * x + 1 ≤ 65537 by omega)
  have b3 := mul_bd (hb.1 3 (by omega)) (show -65537 ≤ 2 * y + 1 ∧ 2 * y + 1 ≤ 65537 by omega)
  have b4 := hb.2 4 (by omega) (by omega)
  have b5 := hb.2 5 (by omega) (by omega)
  have eu : (b 0 * (2 * x + 1) + b 1 * (2 * y + 1)) / 2 ^ 1 + b 4 = plU b x y := rfl
  have ev : (b 2 * (2 * x + 1) + b 3 * (2 * y + 1)) / 2 ^ 1 + b 5 = plV b x y := rfl
  refine fn_intro Try.func19 rfl (by kernel_rfl) rfl ?_
  unfold picV mapV
  cases sm
  · repeat (first | rw [eu] | rw [ev] | refine go1_ ?_ | refine bx_ (fun _ => ?_) | refine hl_callv rfl rfl (at_fn (p.imp (by first | exact Imp.refl _ | exact Imp.drop (Imp.refl _) | exact Imp.drop (Imp.drop (Imp.refl _)) | exact Imp.drop (Imp.drop (Imp.drop (Imp.refl _))) | exact Imp.drop (Imp.drop (Imp.drop (Imp.drop (Imp.refl _)))) | exact Imp.drop (Imp.drop (Imp.drop (Imp.drop (Imp.drop (Imp.refl _))))) | exact Imp.drop (Imp.drop (Imp.drop (Imp.drop (Imp.drop (Imp.drop (Imp.refl _)))))) | exact Imp.drop (Imp.drop (Imp.drop (Imp.drop (Imp.drop (Imp.drop (Imp.drop (Imp.refl _))))))) | exact Imp.drop (Imp.drop (Imp.drop (Imp.drop (Imp.drop (Imp.drop (Imp.drop (Imp.drop (Imp.refl _)))))))))) _ _) ?_)
    exact fin1I rfl rfl ⟨rfl, rfl⟩
  · repeat (first | rw [eu] | rw [ev] | refine go1_ ?_ | refine bx_ (fun _ => ?_) | refine hl_callv rfl rfl (smooth_fn (p.imp (by first | exact Imp.refl _ | exact Imp.drop (Imp.refl _) | exact Imp.drop (Imp.drop (Imp.refl _)) | exact Imp.drop (Imp.drop (Imp.drop (Imp.refl _))) | exact Imp.drop (Imp.drop (Imp.drop (Imp.drop (Imp.refl _)))) | exact Imp.drop (Imp.drop (Imp.drop (Imp.drop (Imp.drop (Imp.refl _))))) | exact Imp.drop (Imp.drop (Imp.drop (Imp.drop (Imp.drop (Imp.drop (Imp.refl _)))))) | exact Imp.drop (Imp.drop (Imp.drop (Imp.drop (Imp.drop (Imp.drop (Imp.drop (Imp.refl _))))))) | exact Imp.drop (Imp.drop (Imp.drop (Imp.drop (Imp.drop (Imp.drop (Imp.drop (Imp.drop (Imp.refl _)))))))))) _ _ hU hV) ?_)
    exact fin1I rfl rfl ⟨rfl, rfl⟩
set_option maxHeartbeats 8000000 in
theorem pright_fn (W H : Int) {a : Option Addr} {n cap : Nat} {f : Nat → Int} (p : Nums w0 B M a n f) :
    Fn Try.prog w0 B 34 [picV W H a n cap] M (fun r M' => ((r = .bool true ∧ PicR W H n f) ∨ (r = .bool false ∧ ¬ PicR W H n f)) ∧ M' = M) := by
  have hn := p.small
  refine fn_intro Try.func34 rfl (by kernel_rfl) rfl ?_
  unfold picV
  by_cases h1 : W < 0
  · repeat (first | refine go_ ?_ | refine bx_ (fun _ => ?_))
    exact fin1B rfl rfl ⟨.inr ⟨rfl, fun h => by have := h.1; omega⟩, rfl⟩
  by_cases h2 : 32768 < W
  · repeat (first | refine go_ ?_ | refine bx_ (fun _ => ?_))
    exact fin1B rfl rfl ⟨.inr ⟨rfl, fun h => by have := h.2.1; omega⟩, rfl⟩
  by_cases h3 : H < 0
  · repeat (first | refine go_ ?_ | refine bx_ (fun _ => ?_))
    exact fin1B rfl rfl ⟨.inr ⟨rfl, fun h => by have := h.2.2.1; omega⟩, rfl⟩
  by_cases h4 : 32768 < H
  · repeat (first | refine go_ ?_ | refine bx_ (fun _ => ?_))
    exact fin1B rfl rfl ⟨.inr ⟨rfl, fun h => by have := h.2.2.2.1; omega⟩, rfl⟩
  have hm := mul_bd (a := W) (b := H) (M := 32768) (N := 32768) (by omega) (by omega)
  by_cases h5 : (n : Int) = W * H
  · repeat (first | refine go_ ?_ | refine bx_ (fun _ => ?_))
    rename_i g1
    refine hc_loop (fun z fr X => ∃ k, k + z = n ∧ Agr fr [(1, .pointer (some ⟨g1, 0, none⟩)), (35, .slice a n cap), (36, .int .i64 (n : Int)), (37, .int .i64 (k : Int))] ∧ X = ⟨g1, 34, [.int .i64 W, .int .i64 H, .slice a n cap], 3⟩ :: M ∧ ∀ i, i < k → 0 ≤ f i ∧ f i < 4294967296) n ?_ ?_
    · exact ⟨0, by omega, ⟨rfl, rfl, rfl, rfl, trivial⟩, rfl, fun i hi => by omega⟩
    rintro z fr X ⟨k, hk, hf, rfl, hall⟩
    obtain ⟨base, rfl⟩ := hf.out
    clear hf
    by_cases hlt : k < n
    · obtain ⟨b, off, rfl, hr⟩ := p.row (by omega)
      have hbd := p.bd k hlt
      by_cases h6 : f k < 0
      · repeat (first | refine go_ ?_ | refine bx_ (fun _ => ?_))
        exact fin1B rfl rfl ⟨.inr ⟨rfl, fun h => by have := h.2.2.2.2.2 k hlt; omega⟩, rfl⟩
      by_cases h7 : 4294967296 ≤ f k
      · repeat (first | refine go_ ?_ | refine bx_ (fun _ => ?_))
        exact fin1B rfl rfl ⟨.inr ⟨rfl, fun h => by have := h.2.2.2.2.2 k hlt; omega⟩, rfl⟩
      repeat (first | refine go_ ?_ | refine bx_ (fun _ => ?_))
      refine ⟨z - 1, by omega, k + 1, by omega, ⟨rfl, rfl, rfl, rfl, trivial⟩, rfl, fun i hi => ?_⟩
      by_cases e : i = k
      · subst e; omega
      · exact hall i (by omega)
    · obtain rfl : k = n := by omega
      repeat (first | refine go_ ?_ | refine bx_ (fun _ => ?_))
      exact fin1B rfl rfl ⟨.inl ⟨rfl, by omega, by omega, by omega, by omega, h5, hall⟩, rfl⟩
  · repeat (first | refine go_ ?_ | refine bx_ (fun _ => ?_))
    exact fin1B rfl rfl ⟨.inr ⟨rfl, fun h => h5 h.2.2.2.2.1⟩, rfl⟩
set_option maxHeartbeats 8000000 in
theorem rpright_fn (W H : Int) {a : Option Addr} {n cap : Nat} {f : Nat → Int} (p : Nums w0 B M a n f) :
    Fn Try.prog w0 B 21 [picV W H a n cap] M (fun r M' => ((r = .bool true ∧ PicR W H n f) ∨ (r = .bool false ∧ ¬ PicR W H n f)) ∧ M' = M) := by
  have hn := p.small
  refine fn_intro Try.func21 rfl (by kernel_rfl) rfl ?_
  unfold picV
  by_cases h1 : W < 0
  · repeat (first | refine go_ ?_ | refine bx_ (fun _ => ?_))
    exact fin1B rfl rfl ⟨.inr ⟨rfl, fun h => by have := h.1; omega⟩, rfl⟩
  by_cases h2 : 32768 < W
  · repeat (first | refine go_ ?_ | refine bx_ (fun _ => ?_))
    exact fin1B rfl rfl ⟨.inr ⟨rfl, fun h => by have := h.2.1; omega⟩, rfl⟩
  by_cases h3 : H < 0
  · repeat (first | refine go_ ?_ | refine bx_ (fun _ => ?_))
    exact fin1B rfl rfl ⟨.inr ⟨rfl, fun h => by have := h.2.2.1; omega⟩, rfl⟩
  by_cases h4 : 32768 < H
  · repeat (first | refine go_ ?_ | refine bx_ (fun _ => ?_))
    exact fin1B rfl rfl ⟨.inr ⟨rfl, fun h => by have := h.2.2.2.1; omega⟩, rfl⟩
  have hm := mul_bd (a := W) (b := H) (M := 32768) (N := 32768) (by omega) (by omega)
  by_cases h5 : (n : Int) = W * H
  · repeat (first | refine go_ ?_ | refine bx_ (fun _ => ?_))
    rename_i g1
    refine hc_loop (fun z fr X => ∃ k, k + z = n ∧ Agr fr [(1, .pointer (some ⟨g1, 0, none⟩)), (3, .int .i64 (k : Int))] ∧ X = ⟨g1, 37, [.int .i64 W, .int .i64 H, .slice a n cap], 3⟩ :: M ∧ ∀ i, i < k → 0 ≤ f i ∧ f i < 4294967296) n ?_ ?_
    · exact ⟨0, by omega, ⟨rfl, rfl, trivial⟩, rfl, fun i hi => by omega⟩
    rintro z fr X ⟨k, hk, hf, rfl, hall⟩
    obtain ⟨base, rfl⟩ := hf.out
    clear hf
    by_cases hlt : k < n
    · obtain ⟨b, off, rfl, hr⟩ := p.row (by omega)
      have hbd := p.bd k hlt
      by_cases h6 : f k < 0
      · repeat (first | refine go_ ?_ | refine bx_ (fun _ => ?_))
        exact fin1B rfl rfl ⟨.inr ⟨rfl, fun h => by have := h.2.2.2.2.2 k hlt; omega⟩, rfl⟩
      by_cases h7 : 4294967296 ≤ f k
      · repeat (first | refine go_ ?_ | refine bx_ (fun _ => ?_))
        exact fin1B rfl rfl ⟨.inr ⟨rfl, fun h => by have := h.2.2.2.2.2 k hlt; omega⟩, rfl⟩
      repeat (first | refine go_ ?_ | refine bx_ (fun _ => ?_))
      refine ⟨z - 1, by omega, k + 1, by omega, ⟨rfl, rfl, trivial⟩, rfl, fun i hi => ?_⟩
      by_cases e : i = k
      · subst e; omega
      · exact hall i (by omega)
    · obtain rfl : k = n := by omega
      repeat (first | refine go_ ?_ | refine bx_ (fun _ => ?_))
      exact fin1B rfl rfl ⟨.inl ⟨rfl, by omega, by omega, by omega, by omega, h5, hall⟩, rfl⟩
  · repeat (first | refine go_ ?_ | refine bx_ (fun _ => ?_))
    exact fin1B rfl rfl ⟨.inr ⟨rfl, fun h => h5 h.2.2.2.2.1⟩, rfl⟩
end
end Go.Proofs.Ytbgdligfdfhbkaa
