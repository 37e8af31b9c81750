/-
  Maps and pictures: the document's product, the document's examples. No condition.
-/
import Derived.Test.YtbgdligfdfhbkaaA7
namespace Go.Proofs.Ytbgdligfdfhbkaa
open Go.RowKit

theorem sm_of {l : List Int} (hl : l.length = 6) (h : ∀ x ∈ l, -9223372036854775808 ≤ x ∧ x ≤ 9223372036854775807) : Sm (fun k => l.getD k 0) := fun i hi => by
  show -9223372036854775808 ≤ l.getD i 0 ∧ l.getD i 0 ≤ 9223372036854775807
  rw [List.getD_eq_getElem?_getD, List.getElem?_eq_getElem (by omega)]
  exact h _ (List.getElem_mem _)
theorem map_of {l : List Int} (hl : l.length = 6) : arrV l = mapV (fun k => l.getD k 0) := by unfold arrV mapV; rw [map_tab, hl]
theorem near_add (x e : Int) : near16 (x + e * 65536) = near16 x + e := by unfold near16; omega
section
variable {w0 : World} {B : Nat} {H : List Ent}
set_option maxHeartbeats 16000000 in
set_option maxRecDepth 100000 in
theorem rtimes_fn (m n : Nat → Int) (hm : Sm m) (hn : Sm n) : Fn Try.prog w0 B 25 [mapV m, mapV n] H (fun v H' => v = .tuple #[mapV (timesR m n).1, .int .i64 (timesR m n).2] ∧ H' = H) := by
  refine fn_intro Try.func25 rfl (by kernel_rfl) rfl ?_
  unfold mapV
  unfold timesR
  by_cases h1 : ¬ Rt m
  · rw [if_neg (fun h => h1 h.1)]
    repeat (first | refine go_ ?_ | refine bx_ (fun _ => ?_) | refine hl_callv rfl rfl (rrightN m hm h1) ?_)
    exact finCI rfl rfl .here rfl rfl ⟨rfl, rfl⟩
  replace h1 := Classical.not_not.1 h1
  by_cases h2 : ¬ Rt n
  · rw [if_neg (fun h => h2 h.2)]
    repeat (first | refine go_ ?_ | refine bx_ (fun _ => ?_) | refine hl_callv rfl rfl (rrightY m hm h1) ?_ | refine hl_callv rfl rfl (rrightN n hn h2) ?_)
    exact finCI rfl rfl .here rfl rfl ⟨rfl, rfl⟩
  replace h2 := Classical.not_not.1 h2
  rw [if_pos ⟨h1, h2⟩]
  have m0 := h1.1 0 (by omega)
  have m1 := h1.1 1 (by omega)
  have m2 := h1.1 2 (by omega)
  have m3 := h1.1 3 (by omega)
  have m4 := h1.2 4 (by omega) (by omega)
  have m5 := h1.2 5 (by omega) (by omega)
  have n0 := h2.1 0 (by omega)
  have n1 := h2.1 1 (by omega)
  have n2 := h2.1 2 (by omega)
  have n3 := h2.1 3 (by omega)
  have n4 := h2.2 4 (by omega) (by omega)
  have n5 := h2.2 5 (by omega) (by omega)
  have p00 := mul_bd m0 n0
  have p12 := mul_bd m1 n2
  have p01 := mul_bd m0 n1
  have p13 := mul_bd m1 n3
  have p20 := mul_bd m2 n0
  have p32 := mul_bd m3 n2
  have p21 := mul_bd m2 n1
  have p33 := mul_bd m3 n3
  have p04 := mul_bd m0 n4
  have p15 := mul_bd m1 n5
  have p24 := mul_bd m2 n4
  have p35 := mul_bd m3 n5
  have hst : Sm (timesZ m n) := L6_sm (by unfold Big near16; omega) (by unfold Big near16; omega) (by unfold Big near16; omega) (by unfold Big near16; omega) (by unfold Big near16; omega) (by unfold Big near16; omega)
  have a4 := near_add (m 0 * n 4 + m 1 * n 5) (m 4)
  have a5 := near_add (m 2 * n 4 + m 3 * n 5) (m 5)
  repeat (first | refine go_ ?_ | refine bx_ (fun _ => ?_) | refine hl_callv rfl rfl (rrightY m hm h1) ?_ | refine hl_callv rfl rfl (rrightY n hn h2) ?_)
  refine hc_rounds 3 ?_
  repeat (first | refine go_ ?_ | refine bx_ (fun _ => ?_))
  refine hc_rounds 3 ?_
  repeat (first | refine go_ ?_ | refine bx_ (fun _ => ?_))
  (refine hc_drawS (by kernel_rfl) (by kernel_rfl) ?_; repeat (first | refine gd_ ?_ | refine hd_call rfl rfl (rnear_fn _ (by unfold Near; omega)) ?_))
  repeat (first | refine go_ ?_ | refine bx_ (fun _ => ?_))
  (refine hc_drawS (by kernel_rfl) (by kernel_rfl) ?_; repeat (first | refine gd_ ?_ | refine hd_call rfl rfl (rnear_fn _ (by unfold Near; omega)) ?_))
  repeat (first | refine go_ ?_ | refine bx_ (fun _ => ?_))
  (refine hc_drawS (by kernel_rfl) (by kernel_rfl) ?_; repeat (first | rw [a4] | refine gd1_ ?_ | refine hd_call rfl rfl (rnear_fn _ (by unfold Near; omega)) ?_))
  repeat (first | refine go_ ?_ | refine bx_ (fun _ => ?_))
  refine hc_rounds 3 ?_
  repeat (first | refine go_ ?_ | refine bx_ (fun _ => ?_))
  (refine hc_drawS (by kernel_rfl) (by kernel_rfl) ?_; repeat (first | refine gd_ ?_ | refine hd_call rfl rfl (rnear_fn _ (by unfold Near; omega)) ?_))
  repeat (first | refine go_ ?_ | refine bx_ (fun _ => ?_))
  (refine hc_drawS (by kernel_rfl) (by kernel_rfl) ?_; repeat (first | refine gd_ ?_ | refine hd_call rfl rfl (rnear_fn _ (by unfold Near; omega)) ?_))
  repeat (first | refine go_ ?_ | refine bx_ (fun _ => ?_))
  (refine hc_drawS (by kernel_rfl) (by kernel_rfl) ?_; repeat (first | rw [a5] | refine gd1_ ?_ | refine hd_call rfl rfl (rnear_fn _ (by unfold Near; omega)) ?_))
  by_cases h4 : Rt (timesZ m n)
  · rw [if_pos h4]
    repeat (first | refine go_ ?_ | refine bx_ (fun _ => ?_) | refine hl_callv rfl rfl (rrightY (timesZ m n) hst h4) ?_)
    exact finCI rfl rfl .here rfl rfl ⟨rfl, rfl⟩
  · rw [if_neg h4]
    repeat (first | refine go_ ?_ | refine bx_ (fun _ => ?_) | refine hl_callv rfl rfl (rrightN (timesZ m n) hst h4) ?_)
    exact finCI rfl rfl .here rfl rfl ⟨rfl, rfl⟩
theorem back_ex : backR (L6 131072 0 0 65536 0 0) = (L6 32768 0 0 65536 0 0, 0) := by
  unfold backR
  rw [if_pos (by decide), if_neg (by decide), if_pos (by decide), if_pos (by decide)]
  show (L6 _ _ _ _ _ _, (0 : Int)) = _
  rw [show four (L6 131072 0 0 65536 0 0) 0 = 32768 by decide, show four (L6 131072 0 0 65536 0 0) 1 = 0 by decide, show four (L6 131072 0 0 65536 0 0) 2 = 0 by decide, show four (L6 131072 0 0 65536 0 0) 3 = 65536 by decide]
  rfl
theorem see_ex0 : seeE (L6 65536 0 0 65536 131072 0) 1 1 1 (fun _ => 7) 3 1 = 0 := by decide +kernel
theorem see_ex1 : seenZ (L6 65536 0 0 65536 131072 0) 1 1 (fun _ => 7) 3 false 1 = 0 := by decide +kernel
theorem see_ex2 : seenZ (L6 65536 0 0 65536 131072 0) 1 1 (fun _ => 7) 3 false 2 = 7 := by decide +kernel
theorem L6sm {a b c d e f : Int} (ha : -70000000000 ≤ a ∧ a ≤ 70000000000 := by decide) (hb : -70000000000 ≤ b ∧ b ≤ 70000000000 := by decide) (hc : -70000000000 ≤ c ∧ c ≤ 70000000000 := by decide) (hd : -70000000000 ≤ d ∧ d ≤ 70000000000 := by decide) (he : -70000000000 ≤ e ∧ e ≤ 70000000000 := by decide) (hf : -70000000000 ≤ f ∧ f ≤ 70000000000 := by decide) : Sm (L6 a b c d e f) :=
  L6_sm (by unfold Big; omega) (by unfold Big; omega) (by unfold Big; omega) (by unfold Big; omega) (by unfold Big; omega) (by unfold Big; omega)
set_option maxHeartbeats 8000000 in
set_option maxRecDepth 100000 in
theorem anchor_fn : Fn Try.prog w0 B 12 [] H (fun v H' => v = .bool true ∧ H' = H) := by
  refine fn_intro Try.func12 rfl (by kernel_rfl) rfl ?_
  have hb : ∀ E, Fn Try.prog w0 B 13 [.agg [.int .i64 131072, .int .i64 0, .int .i64 0, .int .i64 65536, .int .i64 0, .int .i64 0].toArray] E (fun v H' => v = .tuple #[.agg [.int .i64 32768, .int .i64 0, .int .i64 0, .int .i64 65536, .int .i64 0, .int .i64 0].toArray, .int .i64 0] ∧ H' = E) := fun E => by
    have := back_fn (w0 := w0) (B := B) (H := E) (L6 131072 0 0 65536 0 0) L6sm
    rw [back_ex] at this
    exact this
  repeat (first | refine go_ ?_ | refine bx_ (fun _ => ?_) | refine hl_callv rfl rfl (hb _) ?_)
  rename_i g1 g11
  have hnum : ∀ E, Imp E (⟨g11, 3, tab 1 (fun _ => 7), 1⟩ :: ⟨g1, 23, [.int .i64 32768, .int .i64 0, .int .i64 0, .int .i64 65536, .int .i64 0, .int .i64 0], 6⟩ :: H) → Nums w0 B E (some ⟨g11, 0, none⟩) 1 (fun _ => 7) := fun E hE =>
    ⟨fun _ => ⟨g11, 0, rfl, (Row.own .here).imp hE⟩, fun _ _ => by omega, by omega⟩
  refine hl_call rfl rfl (see_fn 1 1 (cap := 1) (hnum _ (Imp.refl _)) (L6 65536 0 0 65536 131072 0) L6sm 3 1 false) (fun r M' hr => ?_)
  rcases hr with ⟨hbad, _⟩ | ⟨_, sl, ho, rfl⟩
  · exact absurd see_ex0 hbad
  obtain ⟨g', c', rfl, _, _, _, hp⟩ := ho.posn (by decide)
  refine HL.perm ?_ hp
  have e1 := see_ex1
  have e2 := see_ex2
  have hlen : ((3 : Int) * 1).toNat = 3 := rfl
  rw [hlen]
  repeat (first | refine go_ ?_ | refine bx_ (fun _ => ?_))
  refine hl_eqArrT (l := [32768, 0, 0, 65536, 0, 0]) (m := [32768, 0, 0, 65536, 0, 0]) rfl rfl rfl rfl rfl ?_
  repeat (first | refine go_ ?_ | refine bx_ (fun _ => ?_))
  exact fin1B rfl rfl ⟨rfl, rfl⟩
end
end Go.Proofs.Ytbgdligfdfhbkaa
