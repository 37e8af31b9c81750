/-
  Where a number stands, and how deep. No condition.
-/
import Derived.Test.YtoobhebbgbhahaaPackG8
namespace Go.Proofs.Ytoobhebbgbhahaa
open Go.RowKit
theorem first_of {L : List Rl} {u : Int} : ∀ {i : Nat} (hi : i < L.length), L[i].l.i = u → ∃ j, ∃ hj : j < L.length, L[j].l.i = u ∧ ∀ k, (hk : k < L.length) → k < j → L[k].l.i ≠ u := by
  intro i
  induction i using Nat.strongRecOn with
  | _ i ih =>
    intro hi hu
    by_cases h : ∀ k, (hk : k < L.length) → k < i → L[k].l.i ≠ u
    · exact ⟨i, hi, hu, h⟩
    · have ⟨k, hk, hki, e⟩ : ∃ k, ∃ hk : k < L.length, k < i ∧ L[k].l.i = u := by
        refine Classical.byContradiction fun hn => h fun k hk hki e => hn ⟨k, hk, hki, e⟩
      exact ih k hki hk e
theorem nd_get {L : List Rl} (h : (L.map fun x => x.l.i).Nodup) {i j : Nat} (hi : i < L.length) (hj : j < L.length) (e : L[i].l.i = L[j].l.i) : i = j := by
  have hp := List.pairwise_iff_getElem.1 h
  simp only [List.length_map, List.getElem_map] at hp
  rcases Nat.lt_trichotomy i j with h1 | h1 | h1
  · exact absurd e (hp i j hi hj h1)
  · exact h1
  · exact absurd e.symm (hp j i hj hi h1)
section
variable {w0 : World} {B : Nat} {H R R0 : List Ent} {g : Nat}
set_option maxHeartbeats 16000000
set_option maxRecDepth 100000
theorem rfind_fn {w h n u : Int} {lv : Value} {L : List Rl} (hL : RlR w0 B H lv L) {i : Nat} (hi : i < L.length) (hl : L.length ≤ 1000000000000) (hu : L[i].l.i = u) (hf : ∀ k, (hk : k < L.length) → k < i → L[k].l.i ≠ u) :
    Fn Try.prog w0 B 60 [.agg [.int .i64 w, .int .i64 h, .int .i64 n, lv].toArray, .int .i64 u] H (fun v H' => v = .int .i64 (i : Int) ∧ H' = H) := by
  obtain ⟨a, c, C, rfl, hC, hRl⟩ := hL
  refine fn_intro Try.func60 rfl (by kernel_rfl) rfl ?_
  repeat (first | refine go_ ?_ | refine bx_ (fun _ => ?_))
  rename_i gd
  obtain ⟨eb, heb⟩ : ∃ eb : Ent, eb = ⟨gd, 58, [.int .i64 w, .int .i64 h, .int .i64 n, .slice a L.length c], 4⟩ := ⟨_, rfl⟩
  have tx : Take (eb :: H) ⟨gd, 58, [.int .i64 w, .int .i64 h, .int .i64 n, .slice a L.length c], 4⟩ H := by rw [heb]; exact .here
  have iR : Imp (eb :: H) H := Imp.drop (Imp.refl _)
  refine HC.perm (H' := eb :: H) ?_ (by rw [heb]; exact List.Perm.refl _)
  refine hc_loop (fun q fr M => ∃ j : Nat, j + q = i ∧ M = eb :: H ∧ Agr fr [(1, .int .i64 u), (2, .pointer (some ⟨gd, 0, none⟩)), (5, .int .i64 (j : Int))]) i ?_ ?_
  · exact ⟨0, by omega, rfl, rfl, rfl, rfl, trivial⟩
  rintro q fr M ⟨j, hj, rfl, hfr⟩
  obtain ⟨base, rfl⟩ := hfr.out
  clear hfr
  obtain ⟨bb, off, rfl⟩ := hC.pos (by omega)
  have hjl : j < L.length := by omega
  obtain ⟨pv, mv, qv, hcell, _⟩ := hRl.at' hjl
  have h0 : C[j * 19 + 0]? = some (.int .i64 L[j].l.i) := cell19 hcell rfl
  by_cases he : j = i
  · subst he
    rw [hu] at h0
    repeat (first | refine hl_load1 rfl tx rfl rfl ?_ | refine hl_loadRd (j := j * 19 + 0) rfl hC.rd iR h0 rfl ?_ | refine go1_ ?_ | refine bx_ (fun _ => ?_))
    exact fin1I rfl rfl ⟨rfl, rfl⟩ iR
  · have hne := hf j hjl (by omega)
    generalize L[j].l.i = z at *
    repeat (first | refine hl_load1 rfl tx rfl rfl ?_ | refine hl_loadRd (j := j * 19 + 0) rfl hC.rd iR h0 rfl ?_ | refine go1_ ?_ | refine bx_ (fun _ => ?_))
    exact ⟨q - 1, by omega, j + 1, by omega, rfl, rfl, rfl, rfl, trivial⟩
theorem rdeep_fn {w h n : Int} {lv : Value} {L : List Rl} (hL : RlR w0 B H lv L) (hnd : (L.map fun x => x.l.i).Nodup) (hl : L.length ≤ 1000000000000) {u : Int} {m : Nat} (hU : Up L u m) (hm : m ≤ 1000000) :
    Fn Try.prog w0 B 92 [.agg [.int .i64 w, .int .i64 h, .int .i64 n, lv].toArray, .int .i64 u] H (fun v H' => v = .int .i64 (m : Int) ∧ H' = H) := by
  have hL0 := hL
  obtain ⟨a, c, C, rfl, hC, hRl⟩ := hL
  refine fn_intro Try.func92 rfl (by kernel_rfl) rfl ?_
  repeat (first | refine go_ ?_ | refine bx_ (fun _ => ?_))
  rename_i gd
  obtain ⟨eb, heb⟩ : ∃ eb : Ent, eb = ⟨gd, 58, [.int .i64 w, .int .i64 h, .int .i64 n, .slice a L.length c], 4⟩ := ⟨_, rfl⟩
  have tx : Take (eb :: H) ⟨gd, 58, [.int .i64 w, .int .i64 h, .int .i64 n, .slice a L.length c], 4⟩ H := by rw [heb]; exact .here
  have iR : Imp (eb :: H) H := Imp.drop (Imp.refl _)
  refine HC.perm (H' := eb :: H) ?_ (by rw [heb]; exact List.Perm.refl _)
  refine hc_loop (fun q fr M => ∃ (z : Int) (k : Nat), Up L z q ∧ k + q = m ∧ M = eb :: H ∧ Agr fr [(1, .int .i64 z), (2, .pointer (some ⟨gd, 0, none⟩)), (5, .int .i64 (k : Int))]) m ?_ ?_
  · exact ⟨u, 0, hU, by omega, rfl, rfl, rfl, rfl, trivial⟩
  rintro q fr M ⟨z, k, hz, hk, rfl, hfr⟩
  obtain ⟨base, rfl⟩ := hfr.out
  clear hfr
  cases hz with
  | root =>
    obtain rfl : k = m := by omega
    repeat (first | refine go_ ?_ | refine bx_ (fun _ => ?_))
    exact fin1I rfl rfl ⟨rfl, rfl⟩ iR
  | @up x q hx h0 hup =>
    obtain ⟨i, hi, rfl⟩ := List.getElem_of_mem hx
    obtain ⟨bb, off, rfl⟩ := hC.pos (by omega)
    obtain ⟨pv, mv, qv, hcell, _⟩ := hRl.at' hi
    have h2 : C[i * 19 + 2]? = some (.int .i64 L[i].t) := cell19 hcell rfl
    have cF := rfind_fn (w := w) (h := h) (n := n) (hL0.imp iR) hi hl rfl (fun j hj hji e => absurd (nd_get hnd hj hi e) (by omega))
    generalize L[i].t = y at *
    generalize L[i].l.i = z at *
    repeat (first | refine go_ ?_ | refine bx_ (fun _ => ?_))
    refine hc_meet (fun fr M => Agr fr [(1, .int .i64 y), (2, .pointer (some ⟨gd, 0, none⟩)), (5, .int .i64 ((k + 1 : Nat) : Int))] ∧ M = eb :: H) ?_ ?_
    · (refine hc_draw (by kernel_rfl) (by kernel_rfl) ?_; repeat (first | refine hl_load1 rfl tx rfl rfl ?_ | refine hl_loadN (i := 0) (n := 4) (vs := [.int .i64 w, .int .i64 h, .int .i64 n, .slice (some ⟨bb, off, none⟩) L.length c]) rfl tx rfl rfl rfl ?_ | refine hl_loadRd (j := i * 19 + 2) rfl hC.rd iR h2 rfl ?_ | refine gd1_ ?_ | refine hd_call rfl rfl (cF) ?_))
      try refine thn_norm ?_
      exact ⟨⟨rfl, rfl, rfl, trivial⟩, rfl⟩
    rintro fr M ⟨hf, rfl⟩
    obtain ⟨base, rfl⟩ := hf.out
    repeat (first | refine go_ ?_ | refine bx_ (fun _ => ?_))
    exact ⟨q, by omega, y, k + 1, hup, by omega, rfl, rfl, rfl, rfl, trivial⟩
theorem rdepth_fn {w h n : Int} {lv : Value} {L : List Rl} (hL : RlR w0 B H lv L) (hnd : (L.map fun x => x.l.i).Nodup) (hl : L.length ≤ 1000000000000) (hd : ∀ x ∈ L, ∃ m, m ≤ 64 ∧ Up L x.l.i m) :
    Fn Try.prog w0 B 80 [.agg [.int .i64 w, .int .i64 h, .int .i64 n, lv].toArray] H (fun v H' => ∃ m : Nat, v = .int .i64 (m : Int) ∧ m ≤ 64 ∧ H' = H) := by
  have hL0 := hL
  obtain ⟨a, c, C, rfl, hC, hRl⟩ := hL
  refine fn_intro Try.func80 rfl (by kernel_rfl) rfl ?_
  repeat (first | refine go_ ?_ | refine bx_ (fun _ => ?_))
  rename_i gd
  obtain ⟨eb, heb⟩ : ∃ eb : Ent, eb = ⟨gd, 58, [.int .i64 w, .int .i64 h, .int .i64 n, .slice a L.length c], 4⟩ := ⟨_, rfl⟩
  have tx : Take (eb :: H) ⟨gd, 58, [.int .i64 w, .int .i64 h, .int .i64 n, .slice a L.length c], 4⟩ H := by rw [heb]; exact .here
  have iR : Imp (eb :: H) H := Imp.drop (Imp.refl _)
  refine HC.perm (H' := eb :: H) ?_ (by rw [heb]; exact List.Perm.refl _)
  refine hc_loop (fun q fr M => ∃ j k : Nat, j + q = L.length ∧ k ≤ 64 ∧ M = eb :: H ∧ Agr fr [(1, .pointer (some ⟨gd, 0, none⟩)), (3, .int .i64 (k : Int)), (4, .int .i64 (j : Int))]) L.length ?_ ?_
  · exact ⟨0, 0, by omega, by omega, rfl, rfl, rfl, rfl, trivial⟩
  rintro q fr M ⟨j, k, hj, hk, rfl, hfr⟩
  obtain ⟨base, rfl⟩ := hfr.out
  clear hfr
  by_cases hlt : j < L.length
  rotate_left
  · obtain rfl : j = L.length := by omega
    repeat (first | refine hl_load1 rfl tx rfl rfl ?_ | refine go1_ ?_ | refine bx_ (fun _ => ?_))
    exact fin1I rfl rfl ⟨k, rfl, hk, rfl⟩ iR
  obtain ⟨bb, off, rfl⟩ := hC.pos (by omega)
  obtain ⟨pv, mv, qv, hcell, _⟩ := hRl.at' hlt
  obtain ⟨m, hm, hu⟩ := hd _ (List.getElem_mem hlt)
  have h0 : C[j * 19 + 0]? = some (.int .i64 L[j].l.i) := cell19 hcell rfl
  have cd := rdeep_fn (w := w) (h := h) (n := n) (hL0.imp iR) hnd hl hu (by omega)
  generalize L[j].l.i = z at *
  repeat (first | refine hl_load1 rfl tx rfl rfl ?_ | refine go1_ ?_ | refine bx_ (fun _ => ?_))
  refine hc_meet (fun fr M => Agr fr [(1, .pointer (some ⟨gd, 0, none⟩)), (3, .int .i64 (k : Int)), (4, .int .i64 (j : Int)), (5, .int .i64 (m : Int))] ∧ M = eb :: H) ?_ ?_
  · (refine hc_draw (by kernel_rfl) (by kernel_rfl) ?_; repeat (first | refine hl_load1 rfl tx rfl rfl ?_ | refine hl_loadN (i := 0) (n := 4) (vs := [.int .i64 w, .int .i64 h, .int .i64 n, .slice (some ⟨bb, off, none⟩) L.length c]) rfl tx rfl rfl rfl ?_ | refine hl_loadRd (j := j * 19 + 0) rfl hC.rd iR h0 rfl ?_ | refine gd1_ ?_ | refine hd_call rfl rfl (cd) ?_))
    try refine thn_norm ?_
    exact ⟨⟨rfl, rfl, rfl, rfl, trivial⟩, rfl⟩
  rintro fr M ⟨hf, rfl⟩
  obtain ⟨base, rfl⟩ := hf.out
  by_cases hmk : k < m
  · repeat (first | refine go_ ?_ | refine bx_ (fun _ => ?_))
    exact ⟨q - 1, by omega, j + 1, m, by omega, hm, rfl, rfl, rfl, rfl, trivial⟩
  · repeat (first | refine go_ ?_ | refine bx_ (fun _ => ?_))
    exact ⟨q - 1, by omega, j + 1, k, by omega, hk, rfl, rfl, rfl, rfl, trivial⟩
end
end Go.Proofs.Ytoobhebbgbhahaa
