/-
  The program's right layers, given what is told of what is within. No condition.
-/
import Derived.Test.YtoobhebbgbhahaaPackG11
namespace Go.Proofs.Ytoobhebbgbhahaa
open Go.RowKit
structure LaB (w h n : Int) (l : Ly) (S : Nat) : Prop where
  i : 1 ≤ l.i ∧ l.i < n
  b : S.testBit l.i.toNat = false
  k : 0 ≤ l.k ∧ l.k ≤ 2
  o : 0 ≤ l.o ∧ l.o ≤ 255
  e : 0 ≤ l.e ∧ l.e ≤ 11
  m : l.M.length = 0 ∨ (l.M.length : Int) = w * h
structure LaD (l : Ly) (k : Fo) : Prop where
  n0 : l.k ≠ 0 → l.w = 0 ∧ l.h = 0 ∧ l.P = [] ∧ l.mp = [65536, 0, 0, 65536, 0, 0] ∧ l.s = false
  n2 : l.k ≠ 2 → l.t = 2 ∧ l.Q = []
  g : l.k ≠ 1 → k.len = 0
  k2 : l.k = 2 → l.e = 0
theorem bool_of (P : Prop) : ∃ b : Bool, b = true ↔ P := by
  by_cases h : P
  · exact ⟨true, fun _ => h, fun _ => rfl⟩
  · exact ⟨false, fun q => (by cases q), fun q => absurd q h⟩
section
variable {w0 : World} {B : Nat} {H R R0 : List Ent} {g gm : Nat}
set_option maxHeartbeats 32000000
set_option maxRecDepth 100000
theorem right_core {w h n : Int} {da : Option Addr} {dl dc : Nat} {l : Ly} {k : Fo} (hw : l.wf 1000000) (hsz : SzQ w h) (hkc : k.cnt ≤ 1000000)
    (ih : ∀ g4 g5 R', Imp R' R → k.all (Cl w0 B w h n 76 [.pointer (some ⟨g4, 0, none⟩), .pointer (some ⟨g5, 0, none⟩)] gm (docE g4 w h n (.slice da dl dc) :: mpE g5 gm :: R'))) :
    Rc w0 B w h n (.slice da dl dc) gm R l k := by
  intro pv mv qv ka kc S hl hk
  have hl0 := hl
  obtain ⟨⟨pa, pc, rfl, nP⟩, ⟨ma, mc, rfl, nM⟩, ⟨qa, qc, rfl, nQ⟩⟩ := hl
  obtain ⟨wh, wP, wm, wt, wQ, lP, lM, lQ⟩ := hw
  have hsm := sm_mf wm
  have hpar := par_of (c := qc) nQ wQ lQ
  have hp := prod_bd hsz.1 hsz.2.1 hsz.2.2.1 hsz.2.2.2.1
  have hlc := k.len_cnt
  refine fn_intro Try.func58 rfl (by kernel_rfl) rfl ?_
  repeat (first | refine go_ ?_ | refine bx_ (fun _ => ?_))
  rename_i g3 g4
  refine hl_boxM rfl rfl (fun g5 => ?_)
  refine HL.perm (H' := mpE g5 gm :: docE g4 w h n (.slice da dl dc) :: lyE g3 l (.slice pa l.P.length pc) (.slice ma l.M.length mc) (.slice qa l.Q.length qc) (.slice ka k.len kc) :: mb gm S :: R) ?_ (List.Perm.refl _)
  repeat (first | refine op_ ?_ | refine bx_ (fun _ => ?_))
  obtain ⟨b1, hb1⟩ := bool_of (¬ LaB w h n l S)
  refine hc_seq ?_
  refine hc_seq ?_
  refine hc_meet (fun fr M => Agr fr [(3, .pointer (some ⟨g3, 0, none⟩)), (4, .pointer (some ⟨g4, 0, none⟩)), (5, .pointer (some ⟨g5, 0, none⟩)), (77, .bool b1)] ∧ M = mpE g5 gm :: docE g4 w h n (.slice da dl dc) :: lyE g3 l (.slice pa l.P.length pc) (.slice ma l.M.length mc) (.slice qa l.Q.length qc) (.slice ka k.len kc) :: mb gm S :: R) ?_ ?_
  · by_cases q1 : l.i < 1
    · obtain rfl : b1 = true := hb1.2 (fun q => by have := q.i; omega)
      repeat (first | refine hl_lookupE mapT mapK rfl rfl (.there (.there (.there .here))) (by omega) hbit rfl ?_ | refine go1_ ?_ | refine bx_ (fun _ => ?_))
      exact ⟨⟨rfl, rfl, rfl, rfl, trivial⟩, rfl⟩
    by_cases q2 : n ≤ l.i
    · obtain rfl : b1 = true := hb1.2 (fun q => by have := q.i; omega)
      repeat (first | refine hl_lookupE mapT mapK rfl rfl (.there (.there (.there .here))) (by omega) hbit rfl ?_ | refine go1_ ?_ | refine bx_ (fun _ => ?_))
      exact ⟨⟨rfl, rfl, rfl, rfl, trivial⟩, rfl⟩
    by_cases hbit : S.testBit l.i.toNat = true
    · obtain rfl : b1 = true := hb1.2 (fun q => by have := q.b; rw [hbit] at this; cases this)
      repeat (first | refine hl_lookupE mapT mapK rfl rfl (.there (.there (.there .here))) (by omega) hbit rfl ?_ | refine go1_ ?_ | refine bx_ (fun _ => ?_))
      exact ⟨⟨rfl, rfl, rfl, rfl, trivial⟩, rfl⟩
    replace hbit : S.testBit l.i.toNat = false := by simpa using hbit
    by_cases q4 : l.k < 0
    · obtain rfl : b1 = true := hb1.2 (fun q => by have := q.k; omega)
      repeat (first | refine hl_lookupE mapT mapK rfl rfl (.there (.there (.there .here))) (by omega) hbit rfl ?_ | refine go1_ ?_ | refine bx_ (fun _ => ?_))
      exact ⟨⟨rfl, rfl, rfl, rfl, trivial⟩, rfl⟩
    by_cases q5 : 2 < l.k
    · obtain rfl : b1 = true := hb1.2 (fun q => by have := q.k; omega)
      repeat (first | refine hl_lookupE mapT mapK rfl rfl (.there (.there (.there .here))) (by omega) hbit rfl ?_ | refine go1_ ?_ | refine bx_ (fun _ => ?_))
      exact ⟨⟨rfl, rfl, rfl, rfl, trivial⟩, rfl⟩
    by_cases q6 : l.o < 0
    · obtain rfl : b1 = true := hb1.2 (fun q => by have := q.o; omega)
      repeat (first | refine hl_lookupE mapT mapK rfl rfl (.there (.there (.there .here))) (by omega) hbit rfl ?_ | refine go1_ ?_ | refine bx_ (fun _ => ?_))
      exact ⟨⟨rfl, rfl, rfl, rfl, trivial⟩, rfl⟩
    by_cases q7 : 255 < l.o
    · obtain rfl : b1 = true := hb1.2 (fun q => by have := q.o; omega)
      repeat (first | refine hl_lookupE mapT mapK rfl rfl (.there (.there (.there .here))) (by omega) hbit rfl ?_ | refine go1_ ?_ | refine bx_ (fun _ => ?_))
      exact ⟨⟨rfl, rfl, rfl, rfl, trivial⟩, rfl⟩
    by_cases q8 : l.e < 0
    · obtain rfl : b1 = true := hb1.2 (fun q => by have := q.e; omega)
      repeat (first | refine hl_lookupE mapT mapK rfl rfl (.there (.there (.there .here))) (by omega) hbit rfl ?_ | refine go1_ ?_ | refine bx_ (fun _ => ?_))
      exact ⟨⟨rfl, rfl, rfl, rfl, trivial⟩, rfl⟩
    by_cases q9 : 11 < l.e
    · obtain rfl : b1 = true := hb1.2 (fun q => by have := q.e; omega)
      repeat (first | refine hl_lookupE mapT mapK rfl rfl (.there (.there (.there .here))) (by omega) hbit rfl ?_ | refine go1_ ?_ | refine bx_ (fun _ => ?_))
      exact ⟨⟨rfl, rfl, rfl, rfl, trivial⟩, rfl⟩
    by_cases q10 : l.M.length = 0
    · obtain rfl : b1 = false := by cases b1 with
        | false => rfl
        | true => exact absurd ⟨by omega, hbit, by omega, by omega, by omega, by omega⟩ (hb1.1 rfl)
      repeat (first | refine hl_lookupE mapT mapK rfl rfl (.there (.there (.there .here))) (by omega) hbit rfl ?_ | refine go1_ ?_ | refine bx_ (fun _ => ?_))
      exact ⟨⟨rfl, rfl, rfl, rfl, trivial⟩, rfl⟩
    by_cases q11 : (l.M.length : Int) = w * h
    · obtain rfl : b1 = false := by cases b1 with
        | false => rfl
        | true => exact absurd ⟨by omega, hbit, by omega, by omega, by omega, by omega⟩ (hb1.1 rfl)
      repeat (first | refine hl_lookupE mapT mapK rfl rfl (.there (.there (.there .here))) (by omega) hbit rfl ?_ | refine go1_ ?_ | refine bx_ (fun _ => ?_))
      exact ⟨⟨rfl, rfl, rfl, rfl, trivial⟩, rfl⟩
    obtain rfl : b1 = true := hb1.2 (fun q => by have := q.m; omega)
    repeat (first | refine hl_lookupE mapT mapK rfl rfl (.there (.there (.there .here))) (by omega) hbit rfl ?_ | refine go1_ ?_ | refine bx_ (fun _ => ?_))
    exact ⟨⟨rfl, rfl, rfl, rfl, trivial⟩, rfl⟩
  rintro fr M ⟨hf, rfl⟩
  obtain ⟨base, rfl⟩ := hf.out
  clear hf
  cases b1 with
  | true =>
    have hn := hb1.1 rfl
    repeat (first | refine go_ ?_ | refine bx_ (fun _ => ?_))
    refine fin1B rfl rfl (H2 := mb gm S :: R) ?_ ?_
    rotate_left
    · exact Imp.drop (Imp.drop (Imp.drop (Imp.refl _)))
    exact rt_no (fun q => hn ⟨q.1.q.i, q.1.b, q.1.q.k, q.1.q.o, q.1.q.e, q.1.q.m⟩) S
  | false =>
  have hB : LaB w h n l S := Classical.byContradiction fun q => by cases hb1.2 q
  clear hb1
  obtain ⟨hi, hbit, hkk, ho, hee, hm⟩ := hB
  repeat (first | refine go_ ?_ | refine bx_ (fun _ => ?_))
  refine hl_mapPutI mapT mapK rfl rfl (by omega) rfl (.there (.there (.there .here))) rfl ?_
  obtain ⟨S1, hS1⟩ : ∃ S1, S1 = S ||| 1 <<< l.i.toNat := ⟨_, rfl⟩
  rw [← hS1]
  refine HL.perm (H' := mpE g5 gm :: docE g4 w h n (.slice da dl dc) :: lyE g3 l (.slice pa l.P.length pc) (.slice ma l.M.length mc) (.slice qa l.Q.length qc) (.slice ka k.len kc) :: mb gm S1 :: R) ?_ (List.perm_middle (a := mb gm S1) (l₁ := [mpE g5 gm, docE g4 w h n (.slice da dl dc), lyE g3 l (.slice pa l.P.length pc) (.slice ma l.M.length mc) (.slice qa l.Q.length qc) (.slice ka k.len kc)]) (l₂ := R)).symm
  have iR : Imp (mpE g5 gm :: docE g4 w h n (.slice da dl dc) :: lyE g3 l (.slice pa l.P.length pc) (.slice ma l.M.length mc) (.slice qa l.Q.length qc) (.slice ka k.len kc) :: mb gm S1 :: R) R := Imp.drop (Imp.drop (Imp.drop (Imp.drop (Imp.refl _))))
  have iM : Imp (mpE g5 gm :: docE g4 w h n (.slice da dl dc) :: lyE g3 l (.slice pa l.P.length pc) (.slice ma l.M.length mc) (.slice qa l.Q.length qc) (.slice ka k.len kc) :: mb gm S1 :: R) (mb gm S1 :: R) := Imp.drop (Imp.drop (Imp.drop (Imp.refl _)))
  obtain ⟨b2, hb2⟩ := bool_of (¬ LaD l k)
  have co := fun H => one_fn (w0 := w0) (B := B) (H := H)
  repeat (first | refine go_ ?_ | refine bx_ (fun _ => ?_))
  refine hc_meet (fun fr M => Agr fr [(3, .pointer (some ⟨g3, 0, none⟩)), (4, .pointer (some ⟨g4, 0, none⟩)), (5, .pointer (some ⟨g5, 0, none⟩)), (146, .bool b2)] ∧ M = mpE g5 gm :: docE g4 w h n (.slice da dl dc) :: lyE g3 l (.slice pa l.P.length pc) (.slice ma l.M.length mc) (.slice qa l.Q.length qc) (.slice ka k.len kc) :: mb gm S1 :: R) ?_ ?_
  · by_cases k0 : l.k ≠ 0
    · have k0' : ¬ l.k = 0 := k0
      by_cases h1 : l.w ≠ 0
      · obtain rfl : b2 = true := hb2.2 (fun q => h1 (q.n0 k0).1)
        (refine hc_draw (by kernel_rfl) (by kernel_rfl) ?_; repeat (first | refine hl_loadN (i := 9) (n := 6) (vs := l.mp.map intV) rfl (.there (.there .here)) rfl rfl rfl ?_ | refine gd1_ ?_ | refine hd_call rfl rfl (co _) ?_))
        try refine thn_norm ?_
        exact ⟨⟨rfl, rfl, rfl, rfl, trivial⟩, rfl⟩
      by_cases h2 : l.h ≠ 0
      · obtain rfl : b2 = true := hb2.2 (fun q => h2 (q.n0 k0).2.1)
        (refine hc_draw (by kernel_rfl) (by kernel_rfl) ?_; repeat (first | refine hl_loadN (i := 9) (n := 6) (vs := l.mp.map intV) rfl (.there (.there .here)) rfl rfl rfl ?_ | refine gd1_ ?_ | refine hd_call rfl rfl (co _) ?_))
        try refine thn_norm ?_
        exact ⟨⟨rfl, rfl, rfl, rfl, trivial⟩, rfl⟩
      by_cases h3 : l.P.length ≠ 0
      · obtain rfl : b2 = true := hb2.2 (fun q => h3 (by rw [(q.n0 k0).2.2.1]; rfl))
        (refine hc_draw (by kernel_rfl) (by kernel_rfl) ?_; repeat (first | refine hl_loadN (i := 9) (n := 6) (vs := l.mp.map intV) rfl (.there (.there .here)) rfl rfl rfl ?_ | refine gd1_ ?_ | refine hd_call rfl rfl (co _) ?_))
        try refine thn_norm ?_
        exact ⟨⟨rfl, rfl, rfl, rfl, trivial⟩, rfl⟩
      by_cases hmp : l.mp ≠ [65536, 0, 0, 65536, 0, 0]
      · obtain rfl : b2 = true := hb2.2 (fun q => hmp (q.n0 k0).2.2.2.1)
        (refine hc_draw (by kernel_rfl) (by kernel_rfl) ?_; repeat (first | refine hl_loadN (i := 9) (n := 6) (vs := l.mp.map intV) rfl (.there (.there .here)) rfl rfl rfl ?_ | refine hl_neArrT (l := l.mp) (m := [65536, 0, 0, 65536, 0, 0]) rfl rfl rfl rfl hmp rfl ?_ | refine gd1_ ?_ | refine hd_call rfl rfl (co _) ?_))
        try refine thn_norm ?_
        exact ⟨⟨rfl, rfl, rfl, rfl, trivial⟩, rfl⟩
      replace hmp := Classical.not_not.1 hmp
      by_cases h5 : l.s = true
      · have bs := h5
        obtain rfl : b2 = true := hb2.2 (fun q => by rw [(q.n0 k0).2.2.2.2] at h5; cases h5)
        (refine hc_draw (by kernel_rfl) (by kernel_rfl) ?_; repeat (first | refine hl_loadN (i := 9) (n := 6) (vs := l.mp.map intV) rfl (.there (.there .here)) rfl rfl rfl ?_ | refine hl_neArrF (l := l.mp) (m := [65536, 0, 0, 65536, 0, 0]) rfl rfl rfl hmp rfl ?_ | rw [bs] | refine gd1_ ?_ | refine hd_call rfl rfl (co _) ?_))
        try refine thn_norm ?_
        exact ⟨⟨rfl, rfl, rfl, rfl, trivial⟩, rfl⟩
      replace h5 : l.s = false := by simpa using h5
      have hP0 : l.P = [] := List.length_eq_zero_iff.1 (by omega)
      by_cases k2 : l.k ≠ 2
      · skip
        by_cases g1 : l.t ≠ 2
        · obtain rfl : b2 = true := hb2.2 (fun q => g1 (q.n2 k2).1)
          (refine hc_draw (by kernel_rfl) (by kernel_rfl) ?_; repeat (first | refine hl_loadN (i := 9) (n := 6) (vs := l.mp.map intV) rfl (.there (.there .here)) rfl rfl rfl ?_ | refine hl_neArrF (l := l.mp) (m := [65536, 0, 0, 65536, 0, 0]) rfl rfl rfl hmp rfl ?_ | rw [h5] | refine gd1_ ?_ | refine hd_call rfl rfl (co _) ?_))
          try refine thn_norm ?_
          exact ⟨⟨rfl, rfl, rfl, rfl, trivial⟩, rfl⟩
        by_cases g2 : l.Q.length ≠ 0
        · obtain rfl : b2 = true := hb2.2 (fun q => g2 (by rw [(q.n2 k2).2]; rfl))
          (refine hc_draw (by kernel_rfl) (by kernel_rfl) ?_; repeat (first | refine hl_loadN (i := 9) (n := 6) (vs := l.mp.map intV) rfl (.there (.there .here)) rfl rfl rfl ?_ | refine hl_neArrF (l := l.mp) (m := [65536, 0, 0, 65536, 0, 0]) rfl rfl rfl hmp rfl ?_ | rw [h5] | refine gd1_ ?_ | refine hd_call rfl rfl (co _) ?_))
          try refine thn_norm ?_
          exact ⟨⟨rfl, rfl, rfl, rfl, trivial⟩, rfl⟩
        have hQ0 : l.Q = [] := List.length_eq_zero_iff.1 (by omega)
        obtain rfl : b2 = false := by cases b2 with
          | false => rfl
          | true => exact absurd ⟨fun _ => ⟨by omega, by omega, hP0, hmp, h5⟩, fun _ => ⟨by omega, hQ0⟩, fun h => by omega, fun h => absurd h k2⟩ (hb2.1 rfl)
        (refine hc_draw (by kernel_rfl) (by kernel_rfl) ?_; repeat (first | refine hl_loadN (i := 9) (n := 6) (vs := l.mp.map intV) rfl (.there (.there .here)) rfl rfl rfl ?_ | refine hl_neArrF (l := l.mp) (m := [65536, 0, 0, 65536, 0, 0]) rfl rfl rfl hmp rfl ?_ | rw [h5] | refine gd1_ ?_ | refine hd_call rfl rfl (co _) ?_))
        try refine thn_norm ?_
        exact ⟨⟨rfl, rfl, rfl, rfl, trivial⟩, rfl⟩
      · have k2' : l.k = 2 := by omega
        by_cases g3 : k.len ≠ 0
        · obtain rfl : b2 = true := hb2.2 (fun q => g3 (q.g (by omega)))
          (refine hc_draw (by kernel_rfl) (by kernel_rfl) ?_; repeat (first | refine hl_loadN (i := 9) (n := 6) (vs := l.mp.map intV) rfl (.there (.there .here)) rfl rfl rfl ?_ | refine hl_neArrF (l := l.mp) (m := [65536, 0, 0, 65536, 0, 0]) rfl rfl rfl hmp rfl ?_ | rw [h5] | refine gd1_ ?_ | refine hd_call rfl rfl (co _) ?_))
          try refine thn_norm ?_
          exact ⟨⟨rfl, rfl, rfl, rfl, trivial⟩, rfl⟩
        by_cases e1 : l.e ≠ 0
        · obtain rfl : b2 = true := hb2.2 (fun q => e1 (q.k2 (by omega)))
          (refine hc_draw (by kernel_rfl) (by kernel_rfl) ?_; repeat (first | refine hl_loadN (i := 9) (n := 6) (vs := l.mp.map intV) rfl (.there (.there .here)) rfl rfl rfl ?_ | refine hl_neArrF (l := l.mp) (m := [65536, 0, 0, 65536, 0, 0]) rfl rfl rfl hmp rfl ?_ | rw [h5] | refine gd1_ ?_ | refine hd_call rfl rfl (co _) ?_))
          try refine thn_norm ?_
          exact ⟨⟨rfl, rfl, rfl, rfl, trivial⟩, rfl⟩
        obtain rfl : b2 = false := by cases b2 with
          | false => rfl
          | true => exact absurd ⟨fun _ => ⟨by omega, by omega, hP0, hmp, h5⟩, fun h => absurd k2' h, fun _ => by omega, fun _ => by omega⟩ (hb2.1 rfl)
        (refine hc_draw (by kernel_rfl) (by kernel_rfl) ?_; repeat (first | refine hl_loadN (i := 9) (n := 6) (vs := l.mp.map intV) rfl (.there (.there .here)) rfl rfl rfl ?_ | refine hl_neArrF (l := l.mp) (m := [65536, 0, 0, 65536, 0, 0]) rfl rfl rfl hmp rfl ?_ | rw [h5] | refine gd1_ ?_ | refine hd_call rfl rfl (co _) ?_))
        try refine thn_norm ?_
        exact ⟨⟨rfl, rfl, rfl, rfl, trivial⟩, rfl⟩
    replace k0 : l.k = 0 := by omega
    have k2 : l.k ≠ 2 := by omega
    by_cases g1 : l.t ≠ 2
    · obtain rfl : b2 = true := hb2.2 (fun q => g1 (q.n2 k2).1)
      (refine hc_draw (by kernel_rfl) (by kernel_rfl) ?_; repeat (first | refine hl_loadN (i := 9) (n := 6) (vs := l.mp.map intV) rfl (.there (.there .here)) rfl rfl rfl ?_ | refine gd1_ ?_ | refine hd_call rfl rfl (co _) ?_))
      try refine thn_norm ?_
      exact ⟨⟨rfl, rfl, rfl, rfl, trivial⟩, rfl⟩
    by_cases g2 : l.Q.length ≠ 0
    · obtain rfl : b2 = true := hb2.2 (fun q => g2 (by rw [(q.n2 k2).2]; rfl))
      (refine hc_draw (by kernel_rfl) (by kernel_rfl) ?_; repeat (first | refine hl_loadN (i := 9) (n := 6) (vs := l.mp.map intV) rfl (.there (.there .here)) rfl rfl rfl ?_ | refine gd1_ ?_ | refine hd_call rfl rfl (co _) ?_))
      try refine thn_norm ?_
      exact ⟨⟨rfl, rfl, rfl, rfl, trivial⟩, rfl⟩
    have hQ0 : l.Q = [] := List.length_eq_zero_iff.1 (by omega)
    by_cases g3 : k.len ≠ 0
    · obtain rfl : b2 = true := hb2.2 (fun q => g3 (q.g (by omega)))
      (refine hc_draw (by kernel_rfl) (by kernel_rfl) ?_; repeat (first | refine hl_loadN (i := 9) (n := 6) (vs := l.mp.map intV) rfl (.there (.there .here)) rfl rfl rfl ?_ | refine gd1_ ?_ | refine hd_call rfl rfl (co _) ?_))
      try refine thn_norm ?_
      exact ⟨⟨rfl, rfl, rfl, rfl, trivial⟩, rfl⟩
    obtain rfl : b2 = false := by cases b2 with
      | false => rfl
      | true => exact absurd ⟨fun h => absurd k0 h, fun _ => ⟨by omega, hQ0⟩, fun _ => by omega, fun h => absurd h k2⟩ (hb2.1 rfl)
    (refine hc_draw (by kernel_rfl) (by kernel_rfl) ?_; repeat (first | refine hl_loadN (i := 9) (n := 6) (vs := l.mp.map intV) rfl (.there (.there .here)) rfl rfl rfl ?_ | refine gd1_ ?_ | refine hd_call rfl rfl (co _) ?_))
    try refine thn_norm ?_
    exact ⟨⟨rfl, rfl, rfl, rfl, trivial⟩, rfl⟩
  rintro fr M ⟨hf, rfl⟩
  obtain ⟨base, rfl⟩ := hf.out
  clear hf
  cases b2 with
  | true =>
    have hn := hb2.1 rfl
    repeat (first | refine go_ ?_ | refine bx_ (fun _ => ?_))
    refine fin1B rfl rfl (H2 := mb gm S1 :: R) ?_ ?_
    rotate_left
    · exact iM
    exact rt_no (fun q => hn ⟨q.1.q.p.n0, q.1.q.p.n2, q.1.g, q.1.q.p.k2⟩) S1
  | false =>
  have hD : LaD l k := Classical.byContradiction fun q => by cases hb2.2 q
  clear hb2
  iterate 9 (refine go1_ ?_)
  have hmv : Value.agg (l.mp.map intV).toArray = mapV l.mf := rfl
  have cb := fun H => back_fn (w0 := w0) (B := B) (H := H) l.mf hsm
  rw [← hmv] at cb
  obtain ⟨M2, hM2⟩ : ∃ M2, M2 = mpE g5 gm :: docE g4 w h n (.slice da dl dc) :: lyE g3 l (.slice pa l.P.length pc) (.slice ma l.M.length mc) (.slice qa l.Q.length qc) (.slice ka k.len kc) :: mb gm S1 :: R := ⟨_, rfl⟩
  have tl : Take M2 (lyE g3 l (.slice pa l.P.length pc) (.slice ma l.M.length mc) (.slice qa l.Q.length qc) (.slice ka k.len kc)) (mpE g5 gm :: docE g4 w h n (.slice da dl dc) :: mb gm S1 :: R) := by rw [hM2]; exact .there (.there .here)
  rw [← hM2] at iR iM
  refine HC.perm (H' := M2) ?_ (by rw [hM2])
  refine hc_meet (fun fr M => (l.k = 0 → (backR l.mf).2 = 0 ∧ SzQ l.w l.h ∧ (l.P.length : Int) = l.w * l.h ∧ ∀ v ∈ l.P, PixQ v) ∧ Imp M M2 ∧ Agr fr [(3, .pointer (some ⟨g3, 0, none⟩)), (4, .pointer (some ⟨g4, 0, none⟩)), (5, .pointer (some ⟨g5, 0, none⟩))]) ?_ ?_
  · by_cases k0 : l.k = 0
    rotate_left
    · rw [show decide (l.k = 0) = false from decide_eq_false k0]
      repeat (first | refine go_ ?_ | refine bx_ (fun _ => ?_))
      exact ⟨fun h => absurd h k0, Imp.refl _, rfl, rfl, rfl, trivial⟩
    rw [show decide (l.k = 0) = true from decide_eq_true k0]
    repeat (first | refine hl_load1 rfl tl rfl rfl ?_ | refine go1_ ?_ | refine bx_ (fun _ => ?_))
    refine hl_call rfl rfl (tnew_fn l.w l.h) (fun v M o => ?_)
    obtain ⟨x1, x2, x3, rfl, rfl⟩ := o
    by_cases hz : ¬ SzQ l.w l.h
    · rw [if_neg hz]
      repeat (first | refine hl_load1 rfl (.there tl) rfl rfl ?_ | refine go1_ ?_ | refine bx_ (fun _ => ?_))
      refine fin1B rfl rfl (H2 := mb gm S1 :: R) ?_ ?_
      rotate_left
      · exact Imp.drop iM
      exact rt_no (fun q => hz (q.1.q.p.k0 k0).2.1) S1
    replace hz : SzQ l.w l.h := Classical.not_not.1 hz
    rw [if_pos hz]
    have hp2 := prod_bd hz.1 hz.2.1 hz.2.2.1 hz.2.2.2.1
    by_cases hpl : (l.P.length : Int) ≠ l.w * l.h
    · repeat (first | refine hl_load1 rfl (.there tl) rfl rfl ?_ | refine go1_ ?_ | refine bx_ (fun _ => ?_))
      refine fin1B rfl rfl (H2 := mb gm S1 :: R) ?_ ?_
      rotate_left
      · exact Imp.drop iM
      exact rt_no (fun q => hpl (q.1.q.p.k0 k0).2.2.1) S1
    replace hpl : (l.P.length : Int) = l.w * l.h := Classical.not_not.1 hpl
    by_cases hbk : (backR l.mf).2 ≠ 0
    · repeat (first | refine hl_load1 rfl (.there tl) rfl rfl ?_ | refine hl_loadN (i := 9) (n := 6) (vs := l.mp.map intV) rfl (.there tl) rfl rfl rfl ?_ | refine go1_ ?_ | refine bx_ (fun _ => ?_) | refine hl_callv rfl rfl (cb _) ?_)
      refine fin1B rfl rfl (H2 := mb gm S1 :: R) ?_ ?_
      rotate_left
      · exact Imp.drop (Imp.drop iM)
      exact rt_no (fun q => hbk (q.1.q.p.k0 k0).1) S1
    replace hbk : (backR l.mf).2 = 0 := Classical.not_not.1 hbk
    rw [hbk] at cb
    repeat (first | refine hl_load1 rfl (.there tl) rfl rfl ?_ | refine hl_load1 rfl (.there (.there tl)) rfl rfl ?_ | refine hl_loadN (i := 9) (n := 6) (vs := l.mp.map intV) rfl (.there tl) rfl rfl rfl ?_ | refine go1_ ?_ | refine bx_ (fun _ => ?_) | refine hl_callv rfl rfl (cb _) ?_)
    obtain ⟨bp, hbp⟩ := bool_of (∀ x ∈ l.P, PixQ x)
    refine hl_call rfl rfl (pixAny_fn (c := pc) (nP.imp (Imp.drop (Imp.drop iR))) wP (by omega) bp hbp) (fun v M o => ?_)
    obtain ⟨rfl, rfl⟩ := o
    cases bp with
    | true =>
      repeat (first | refine go_ ?_ | refine bx_ (fun _ => ?_))
      exact ⟨fun _ => ⟨hbk, hz, hpl, hbp.1 rfl⟩, Imp.drop (Imp.drop (Imp.refl _)), rfl, rfl, rfl, trivial⟩
    | false =>
      repeat (first | refine go_ ?_ | refine bx_ (fun _ => ?_))
      refine fin1B rfl rfl (H2 := mb gm S1 :: R) ?_ ?_
      rotate_left
      · exact Imp.drop (Imp.drop iM)
      exact rt_no (fun q => by cases hbp.2 (q.1.q.p.k0 k0).2.2.2) S1
  clear base
  rintro fr M ⟨hk0, him, hf⟩
  obtain ⟨base, rfl⟩ := hf.out
  clear hf
  refine thn_norm ?_
  refine HC.imp ?_ him
  clear him M
  repeat (first | refine hl_load1 rfl tl rfl rfl ?_ | refine go1_ ?_ | refine bx_ (fun _ => ?_))
  refine hl_call rfl rfl (Tb.table_fn l.t (hpar.imp iR)) (fun v M o => ?_)
  obtain ⟨hT, gt, rfl, rfl⟩ | ⟨hT, rfl, rfl⟩ := o
  rotate_left
  · repeat (first | refine go_ ?_ | refine bx_ (fun _ => ?_))
    refine fin1B rfl rfl (H2 := mb gm S1 :: R) ?_ ?_
    rotate_left
    · exact iM
    exact rt_no (fun q => hT q.1.q.p.tb) S1
  refine HL.imp ?_ (Imp.drop (Imp.refl _))
  repeat (first | refine hl_load1 rfl tl rfl rfl ?_ | refine go1_ ?_ | refine bx_ (fun _ => ?_))
  refine hc_loopd (fun q fr M => ∃ j : Nat, j + q = l.M.length ∧ (∀ i, (h : i < l.M.length) → i < j → l.M[i].toNat = 0 ∨ l.M[i].toNat = 255) ∧ Imp M M2 ∧ Agr fr [(3, .pointer (some ⟨g3, 0, none⟩)), (4, .pointer (some ⟨g4, 0, none⟩)), (5, .pointer (some ⟨g5, 0, none⟩)), (195, .slice ma l.M.length mc), (196, .int .i64 (l.M.length : Int)), (197, .int .i64 (j : Int))]) l.M.length ?_ ?_
  · exact ⟨0, by omega, fun i h h2 => absurd h2 (by omega), Imp.refl _, rfl, rfl, rfl, rfl, rfl, rfl, trivial⟩
  clear base
  rintro q fr M ⟨j, hj, hall, him, hf⟩
  obtain ⟨base, rfl⟩ := hf.out
  clear hf
  refine HC.imp ?_ him
  clear him M
  by_cases hlt : j < l.M.length
  · obtain ⟨mbb, mo, rfl⟩ := nM.pos (by omega)
    have c1 := nM.cell hlt
    have h256 := l.M[j].toNat_lt
    have hmn : ∀ i, (h : i < l.M.length) → i < j + 1 → (l.M[j].toNat = 0 ∨ l.M[j].toNat = 255) → l.M[i].toNat = 0 ∨ l.M[i].toNat = 255 := fun i h h2 h3 => by
      by_cases e : i = j
      · subst e; exact h3
      · exact hall i h (by omega)
    have hbad : ¬ (l.M[j].toNat = 0 ∨ l.M[j].toNat = 255) → ¬ Fo.okL w h n l k S := fun hh q => hh (q.1.q.c _ (List.getElem_mem hlt))
    generalize l.M[j].toNat = z at *
    by_cases z0 : z = 0
    · repeat (first | refine hl_loadRd (j := j) rfl nM.rd iR c1 rfl ?_ | refine go1_ ?_ | refine bx_ (fun _ => ?_))
      exact ⟨q - 1, by omega, _, Imp.refl _, j + 1, by omega, fun i h h2 => hmn i h h2 (.inl z0), Imp.refl _, rfl, rfl, rfl, rfl, rfl, rfl, trivial⟩
    by_cases z1 : z = 255
    · repeat (first | refine hl_loadRd (j := j) rfl nM.rd iR c1 rfl ?_ | refine go1_ ?_ | refine bx_ (fun _ => ?_))
      exact ⟨q - 1, by omega, _, Imp.refl _, j + 1, by omega, fun i h h2 => hmn i h h2 (.inr z1), Imp.refl _, rfl, rfl, rfl, rfl, rfl, rfl, trivial⟩
    repeat (first | refine hl_loadRd (j := j) rfl nM.rd iR c1 rfl ?_ | refine go1_ ?_ | refine bx_ (fun _ => ?_))
    refine fin1B rfl rfl (H2 := mb gm S1 :: R) ?_ ?_
    rotate_left
    · exact iM
    exact rt_no (hbad (by omega)) S1
  obtain rfl : j = l.M.length := by omega
  have hMall : ∀ c ∈ l.M, c.toNat = 0 ∨ c.toNat = 255 := fun c hc => by
    obtain ⟨i, hi, rfl⟩ := List.getElem_of_mem hc
    exact hall i hi hi
  have hla : LaQ w h n l := ⟨hi, hkk, ho, hee, ⟨hD.n0, hD.n2, hD.k2, hk0, hT⟩, hm, hMall⟩
  have aa := fun S0 => lyAny_fn (S0 := S0) (hk.imp (Imp.drop (Imp.drop (Imp.drop (Imp.refl _)))) : FoR w0 B (docE g4 w h n (.slice da dl dc) :: mpE g5 gm :: lyE g3 l (.slice pa l.P.length pc) (.slice ma l.M.length mc) (.slice qa l.Q.length qc) (.slice ka k.len kc) :: R) (.slice ka k.len kc) k) (by omega) (ih g4 g5 (lyE g3 l (.slice pa l.P.length pc) (.slice ma l.M.length mc) (.slice qa l.Q.length qc) (.slice ka k.len kc) :: R) (Imp.drop (Imp.refl _)))
  repeat (first | refine hl_load1 rfl tl rfl rfl ?_ | refine go1_ ?_ | refine bx_ (fun _ => ?_))
  refine hl_makeFunc (caps := [.pointer (some ⟨g4, 0, none⟩), .pointer (some ⟨g5, 0, none⟩)]) rfl rfl ?_
  refine HL.perm (H' := mb gm S1 :: docE g4 w h n (.slice da dl dc) :: mpE g5 gm :: lyE g3 l (.slice pa l.P.length pc) (.slice ma l.M.length mc) (.slice qa l.Q.length qc) (.slice ka k.len kc) :: R) ?_ (by rw [hM2]; exact (List.perm_middle (a := mb gm S1) (l₁ := [mpE g5 gm, docE g4 w h n (.slice da dl dc), lyE g3 l (.slice pa l.P.length pc) (.slice ma l.M.length mc) (.slice qa l.Q.length qc) (.slice ka k.len kc)]) (l₂ := R)).trans (List.Perm.cons _ (List.Perm.swap _ _ _)))
  refine hl_call rfl rfl (aa S1) (fun v M o => ?_)
  obtain ⟨b, S', rfl, rfl, hb, hS⟩ := o
  have hfin : ∀ b' : Bool, b' = b → (b' = true ↔ Fo.okL w h n l k S) ∧ (b' = true → S' = Fo.nxL l k S) := fun b' e => by
    subst e
    exact ⟨⟨fun h => ⟨⟨hla, hbit, hD.g⟩, by rw [← hS1]; exact hb.1 h⟩, fun h => hb.2 (by rw [hS1]; exact h.2)⟩, fun h => by rw [hS h, hS1]; rfl⟩
  cases b with
  | true =>
    repeat (first | refine go_ ?_ | refine bx_ (fun _ => ?_))
    exact fin1B rfl rfl ⟨true, S', rfl, rfl, hfin true rfl⟩ (Imp.drop2 (Imp.drop2 (Imp.drop2 (Imp.refl _))))
  | false =>
    repeat (first | refine go_ ?_ | refine bx_ (fun _ => ?_))
    exact fin1B rfl rfl ⟨false, S', rfl, rfl, hfin false rfl⟩ (Imp.drop2 (Imp.drop2 (Imp.drop2 (Imp.refl _))))
end
end Go.Proofs.Ytoobhebbgbhahaa
