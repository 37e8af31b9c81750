/-
  Blocks as waves: colours, the document's examples, bounds of a block. No condition.
-/
import Derived.Test.YtkolkcgckckeeaaD4
namespace Go.Proofs.Ytkolkcgckckeeaa
open Go.RowKit

def cutZ (n : Int) : Int := min 255 (max 0 n)
def brY (r g b : Int) : Int := cutZ ((19595 * r + 38470 * g + 7471 * b + 32768) / 2 ^ 16)
def brB (r g b : Int) : Int := cutZ ((32768 * b - 11059 * r - 21709 * g + 32768) / 2 ^ 16 + 128)
def brR (r g b : Int) : Int := cutZ ((32768 * r - 27439 * g - 5329 * b + 32768) / 2 ^ 16 + 128)
def coR (y _b r : Int) : Int := cutZ (y + (91881 * (r - 128) + 32768) / 2 ^ 16)
def coG (y b r : Int) : Int := cutZ (y - (22554 * (b - 128) + 46802 * (r - 128) + 32768) / 2 ^ 16)
def coB (y b _r : Int) : Int := cutZ (y + (116130 * (b - 128) + 32768) / 2 ^ 16)
def By (x : Int) : Prop := 0 ≤ x ∧ x ≤ 255
theorem cut_by (n : Int) : By (cutZ n) := by unfold By cutZ; omega
def triV (a b c : Int) : Value := .agg [.int .i64 a, .int .i64 b, .int .i64 c].toArray
section
variable {w0 : World} {B : Nat} {H : List Ent}
theorem cut_fn (n : Int) : Fn Try.prog w0 B 23 [.int .i64 n] H (fun v H' => v = .int .i64 (cutZ n) ∧ H' = H) := by
  refine fn_intro Try.func23 rfl (by kernel_rfl) rfl ?_
  repeat (first | refine go_ ?_ | refine bx_ (fun _ => ?_))
  exact fin1I rfl rfl ⟨rfl, rfl⟩
theorem rcut_fn (n : Int) : Fn Try.prog w0 B 24 [.int .i64 n] H (fun v H' => v = .int .i64 (cutZ n) ∧ H' = H) := by
  refine fn_intro Try.func24 rfl (by kernel_rfl) rfl ?_
  by_cases h1 : n < 0
  · repeat (first | refine go_ ?_ | refine bx_ (fun _ => ?_))
    exact fin1I rfl rfl ⟨by rw [show cutZ n = 0 by unfold cutZ; omega], rfl⟩
  · by_cases h2 : 255 < n
    · repeat (first | refine go_ ?_ | refine bx_ (fun _ => ?_))
      exact fin1I rfl rfl ⟨by rw [show cutZ n = 255 by unfold cutZ; omega], rfl⟩
    · repeat (first | refine go_ ?_ | refine bx_ (fun _ => ?_))
      exact fin1I rfl rfl ⟨by rw [show cutZ n = n by unfold cutZ; omega], rfl⟩
theorem q_fn (n : Int) (hn : -1099511627776 ≤ n ∧ n ≤ 1099511627776) : Fn Try.prog w0 B 25 [.int .i64 n] H (fun v H' => v = .int .i64 ((n + 32768) / 2 ^ 16) ∧ H' = H) := by
  refine fn_intro Try.func25 rfl (by kernel_rfl) rfl ?_
  repeat (first | refine go_ ?_ | refine bx_ (fun _ => ?_) | refine hl_callv rfl rfl (down_fn _ _ (by omega) (by omega)) ?_)
  exact fin1I rfl rfl ⟨rfl, rfl⟩
theorem bright_fn (r g b : Int) (hr : By r) (hg : By g) (hb : By b) : Fn Try.prog w0 B 11 [triV r g b] H (fun v H' => v = triV (brY r g b) (brB r g b) (brR r g b) ∧ H' = H) := by
  refine fn_intro Try.func11 rfl (by kernel_rfl) rfl ?_
  unfold By at hr hg hb
  unfold triV
  repeat (first | refine go_ ?_ | refine bx_ (fun _ => ?_))
  (refine hc_draw (by kernel_rfl) (by kernel_rfl) ?_; repeat (first | refine gd_ ?_))
  repeat (first | refine go_ ?_ | refine bx_ (fun _ => ?_) | refine hl_callv rfl rfl (cut_fn _) ?_)
  exact finC rfl rfl .here rfl ⟨rfl, rfl⟩
theorem rbright_fn (r g b : Int) (hr : By r) (hg : By g) (hb : By b) : Fn Try.prog w0 B 12 [.int .i64 r, .int .i64 g, .int .i64 b] H (fun v H' => v = triV (brY r g b) (brB r g b) (brR r g b) ∧ H' = H) := by
  refine fn_intro Try.func12 rfl (by kernel_rfl) rfl ?_
  unfold By at hr hg hb
  unfold triV
  repeat (first | refine go_ ?_ | refine bx_ (fun _ => ?_) | refine hl_callv rfl rfl (rcut_fn _) ?_ | refine hl_callv rfl rfl (q_fn _ (by omega)) ?_)
  exact finC rfl rfl .here rfl ⟨rfl, rfl⟩
theorem colour_fn (r g b : Int) (hr : By r) (hg : By g) (hb : By b) : Fn Try.prog w0 B 13 [triV r g b] H (fun v H' => v = triV (coR r g b) (coG r g b) (coB r g b) ∧ H' = H) := by
  refine fn_intro Try.func13 rfl (by kernel_rfl) rfl ?_
  unfold By at hr hg hb
  unfold triV
  repeat (first | refine go_ ?_ | refine bx_ (fun _ => ?_))
  (refine hc_draw (by kernel_rfl) (by kernel_rfl) ?_; repeat (first | refine gd_ ?_))
  repeat (first | refine go_ ?_ | refine bx_ (fun _ => ?_) | refine hl_callv rfl rfl (cut_fn _) ?_)
  exact finC rfl rfl .here rfl ⟨rfl, rfl⟩
theorem rcolour_fn (r g b : Int) (hr : By r) (hg : By g) (hb : By b) : Fn Try.prog w0 B 14 [.int .i64 r, .int .i64 g, .int .i64 b] H (fun v H' => v = triV (coR r g b) (coG r g b) (coB r g b) ∧ H' = H) := by
  refine fn_intro Try.func14 rfl (by kernel_rfl) rfl ?_
  unfold By at hr hg hb
  unfold triV
  repeat (first | refine go_ ?_ | refine bx_ (fun _ => ?_) | refine hl_callv rfl rfl (rcut_fn _) ?_ | refine hl_callv rfl rfl (q_fn _ (by omega)) ?_)
  exact finC rfl rfl .here rfl ⟨rfl, rfl⟩
theorem ins25 : Fn Try.prog w0 B 22 [.int .i64 25, .int .i64 10] H (fun v H' => v = .int .i64 3 ∧ H' = H) := by
  refine fn_intro Try.func22 rfl (by kernel_rfl) rfl ?_
  repeat (first | refine go_ ?_ | refine bx_ (fun _ => ?_))
  exact fin1I rfl rfl ⟨rfl, rfl⟩
theorem insm25 : Fn Try.prog w0 B 22 [.int .i64 (-25), .int .i64 10] H (fun v H' => v = .int .i64 (-3) ∧ H' = H) := by
  refine fn_intro Try.func22 rfl (by kernel_rfl) rfl ?_
  repeat (first | refine go_ ?_ | refine bx_ (fun _ => ?_) | refine hl_callv rfl rfl (ins25) ?_)
  exact fin1I rfl rfl ⟨rfl, rfl⟩
def Within (s : Nat → Int) (m : Int) : Prop := ∀ i, i < 64 → -m ≤ s i ∧ s i ≤ m
theorem within_fn (s : Nat → Int) (m : Int) (hm : 0 ≤ m ∧ m ≤ 1000000000) : Fn Try.prog w0 B 15 [.agg (tab 64 s).toArray, .int .i64 m] H (fun v H' => ((v = .bool true ∧ Within s m) ∨ (v = .bool false ∧ ¬ Within s m)) ∧ H' = H) := by
  refine fn_intro Try.func15 rfl (by kernel_rfl) rfl ?_
  repeat (first | refine go_ ?_ | refine bx_ (fun _ => ?_))
  rename_i g
  refine hc_loop (fun z fr M => ∃ k, k + z = 64 ∧ Agr fr [(1, .int .i64 m), (2, .pointer (some ⟨g, 0, none⟩)), (7, .agg (tab 64 s).toArray), (8, .int .i64 (k : Int))] ∧ M = ⟨g, 27, tab 64 s, 64⟩ :: H ∧ ∀ i, i < k → -m ≤ s i ∧ s i ≤ m) 64 ?_ ?_
  · exact ⟨0, by omega, ⟨rfl, rfl, rfl, rfl, trivial⟩, rfl, fun i hi => by omega⟩
  rintro z fr M ⟨k, hk, hf, rfl, hall⟩
  obtain ⟨base, rfl⟩ := hf.out
  clear hf
  by_cases hlt : k < 64
  · by_cases h1 : s k < -m
    · repeat (first | refine go_ ?_ | refine bx_ (fun _ => ?_))
      exact fin1B rfl rfl ⟨.inr ⟨rfl, fun h => by have := h k hlt; omega⟩, rfl⟩
    · by_cases h2 : m < s k
      · repeat (first | refine go_ ?_ | refine bx_ (fun _ => ?_))
        exact fin1B rfl rfl ⟨.inr ⟨rfl, fun h => by have := h k hlt; omega⟩, rfl⟩
      · repeat (first | refine go_ ?_ | refine bx_ (fun _ => ?_))
        refine ⟨z - 1, by omega, k + 1, by omega, ⟨rfl, rfl, rfl, rfl, trivial⟩, rfl, fun i hi => ?_⟩
        by_cases e : i = k
        · subst e; omega
        · exact hall i (by omega)
  · obtain rfl : k = 64 := by omega
    repeat (first | refine go_ ?_ | refine bx_ (fun _ => ?_))
    exact fin1B rfl rfl ⟨.inl ⟨rfl, hall⟩, rfl⟩
set_option maxRecDepth 100000 in
theorem anchor_fn : Fn Try.prog w0 B 10 [] H (fun v H' => v = .bool true ∧ H' = H) := by
  refine fn_intro Try.func10 rfl (by kernel_rfl) rfl ?_
  repeat (first | refine go_ ?_ | refine bx_ (fun _ => ?_))
  rename_i g
  refine hc_loop (fun z fr M => ∃ k, k + z = 64 ∧ Agr fr [(1, .pointer (some ⟨g, 0, none⟩)), (4, .int .i64 (k : Int))] ∧ M = ⟨g, 27, tab 64 (dsel (fun _ => 100) k), 64⟩ :: H) 64 ?_ ?_
  · exact ⟨0, by omega, ⟨rfl, rfl, trivial⟩, rfl⟩
  rintro z fr M ⟨k, hk, hf, rfl⟩
  obtain ⟨base, rfl⟩ := hf.out
  clear hf
  by_cases hlt : k < 64
  · have hset : (tab 64 (dsel (fun _ => 100) k)).set k (.int .i64 100) = tab 64 (dsel (fun _ => 100) (k + 1)) := dsel_set (fun _ => 100) 64 k
    repeat (first | rw [hset] | refine go1_ ?_ | refine bx_ (fun _ => ?_))
    exact ⟨z - 1, by omega, k + 1, by omega, ⟨rfl, rfl, trivial⟩, rfl⟩
  · obtain rfl : k = 64 := by omega
    rw [dsel_end]
    have h0 : fwd (fun _ => 100) 0 = 800 := by decide +kernel
    have h1 : fwd (fun _ => 100) 1 = 0 := by decide +kernel
    have h63 : fwd (fun _ => 100) 63 = 0 := by decide +kernel
    repeat (first | refine go_ ?_ | refine bx_ (fun _ => ?_) | refine hl_callv rfl rfl (forward_fn _ (fun _ _ => ⟨by decide, by decide⟩)) ?_ | refine hl_callv rfl rfl (insm25) ?_ | refine hl_callv rfl rfl (bright_fn 255 0 0 ⟨by decide, by decide⟩ ⟨by decide, by decide⟩ ⟨by decide, by decide⟩) ?_)
    refine hl_eqArrT (l := [76, 85, 255]) (m := [76, 85, 255]) rfl rfl rfl rfl rfl ?_
    repeat (first | refine go_ ?_ | refine bx_ (fun _ => ?_))
    exact fin1B rfl rfl ⟨rfl, rfl⟩
end
end Go.Proofs.Ytkolkcgckckeeaa
