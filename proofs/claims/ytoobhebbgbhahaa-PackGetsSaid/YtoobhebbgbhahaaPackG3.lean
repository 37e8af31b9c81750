/-
  Layers that are written. No condition.
-/
import Derived.Test.YtoobhebbgbhahaaPackG2
namespace Go.Proofs.Ytoobhebbgbhahaa
open Go.RowKit
theorem i64fl (b : Bool) : I64 (fl b) := by cases b <;> exact ⟨by decide, by decide⟩
theorem Rd.numB_one (n : Int) : numsB [n] = numB n := by simp [numsB]
theorem Ly.put_eq (l : Ly) (A : List UInt8) : A ++ l.put = ((((((((((A ++ numsB [l.i, l.k]) ++ numB (fl l.d)) ++ numsB [l.o, l.e, l.w, l.h]) ++ lstB l.P) ++ numsB [(l.M.length : Int)]) ++ l.M) ++ numsB l.mp) ++ numB (fl l.s)) ++ numsB [l.t]) ++ lstB l.Q) := by
  unfold Ly.put
  simp only [Ly.hd, numsB_cons, show numsB [] = [] from rfl, List.append_nil, List.append_assoc]
section
variable {w0 : World} {B : Nat} {H R : List Ent} {g : Nat}
set_option maxHeartbeats 16000000
set_option maxRecDepth 100000
/-- The numbers stand in a block that was made for them. -/
theorem onumB_fn {bs : List UInt8} {X : List Ent} (hX : Ou g bs X) {gb n k : Nat} {T : TypeId} (L : List Int) (hn : L.length = n) (hI : ∀ n ∈ L, I64 n) (hb : bs.length + 10 * n ≤ 1000000000) :
    Fn Try.prog w0 B 25 [.pointer (some ⟨g, 0, none⟩), .slice (some ⟨gb, 0, none⟩) n n] (⟨gb, T, L.map iV, k⟩ :: (X ++ R)) (fun _ H' => ∃ X', Imp H' (X' ++ R) ∧ Ou g (bs ++ numsB L) X') :=
  ((onum_fn hX (NumR.ent (i := 0) (n := n) .here (by rw [List.drop_zero, List.take_of_length_le (by simp [hn])]) hn) hI hb).perm (Take.app X (.here (e := ⟨gb, T, L.map iV, k⟩) (H := R))).perm.symm).mono fun v M ⟨X', hi, ho⟩ => ⟨X', hi.trans (Imp.sub (List.Sublist.append (List.Sublist.refl _) (List.sublist_cons_self _ _))), ho⟩
theorem oflag_fn {bs : List UInt8} {X : List Ent} (hX : Ou g bs X) {b : Bool} (hb : bs.length ≤ 900000000) :
    Fn Try.prog w0 B 63 [.pointer (some ⟨g, 0, none⟩), .bool b] (X ++ R) (fun _ H' => ∃ X', Imp H' (X' ++ R) ∧ Ou g (bs ++ numB (fl b)) X') := by
  refine fn_intro Try.func63 rfl (by kernel_rfl) rfl ?_
  cases b
  · repeat (first | refine go_ ?_ | refine bx_ (fun _ => ?_))
    refine hl_call rfl rfl (onumB_fn hX [0] rfl (fun n hn => by rw [List.mem_singleton.1 hn]; exact ⟨by omega, by omega⟩) (by omega)) (fun v M o => ?_)
    obtain ⟨X1, hi1, hX1⟩ := o
    rw [Rd.numB_one] at hX1
    repeat (first | refine go_ ?_ | refine bx_ (fun _ => ?_))
    exact fin0 rfl ⟨X1, hi1, hX1⟩ (Imp.refl _)
  · repeat (first | refine go_ ?_ | refine bx_ (fun _ => ?_))
    refine hl_call rfl rfl (onumB_fn hX [1] rfl (fun n hn => by rw [List.mem_singleton.1 hn]; exact ⟨by omega, by omega⟩) (by omega)) (fun v M o => ?_)
    obtain ⟨X1, hi1, hX1⟩ := o
    rw [Rd.numB_one] at hX1
    repeat (first | refine go_ ?_ | refine bx_ (fun _ => ?_))
    exact fin0 rfl ⟨X1, hi1, hX1⟩ (Imp.refl _)
theorem olayers_fn : ∀ (N : Nat) (F : Fo), F.cnt < N → ∀ {v : Value} {bs : List UInt8} {X R : List Ent}, FoR w0 B R v F → F.wf 1000000 → F.len ≤ 1000000 → Ou g bs X → bs.length + F.put.length ≤ 400000000 →
    Fn Try.prog w0 B 50 [.pointer (some ⟨g, 0, none⟩), v] (X ++ R) (fun _ H' => ∃ X', Imp H' (X' ++ R) ∧ Ou g (bs ++ F.put) X')
  | 0, F, h, _, _, _, _, _, _, _, _, _ => absurd h (by omega)
  | N + 1, F, hN, v, bs, X, R, hF, hw, hlen, hX, hb => by
    obtain ⟨a, c, C, rfl, hC, hFo⟩ := hF
    obtain ⟨T, hT⟩ : ∃ T, T = bs ++ F.put := ⟨_, rfl⟩
    have hTl : T.length ≤ 400000000 := by rw [hT, List.length_append]; omega
    refine fn_intro Try.func50 rfl (by kernel_rfl) rfl ?_
    rw [← hT]
    have wl : ∀ n ∈ [(F.len : Int)], I64 n := fun n hn => by rw [List.mem_singleton.1 hn]; exact ⟨by omega, by omega⟩
    repeat (first | refine go_ ?_ | refine bx_ (fun _ => ?_))
    refine hl_call rfl rfl (onumB_fn hX [(F.len : Int)] rfl wl (by omega)) (fun v M o => ?_)
    obtain ⟨X1, hi1, hX1⟩ := o
    refine HL.imp ?_ hi1
    have hT1 : (bs ++ numsB [(F.len : Int)]) ++ F.body = T := by rw [hT, Rd.numB_one, List.append_assoc]; rfl
    repeat (first | refine go_ ?_ | refine bx_ (fun _ => ?_))
    refine hc_loopd (fun q fr M => ∃ (G : Fo) (j : Nat) (D : List Value) (b0 : List UInt8) (X : List Ent), j + G.len = F.len ∧ q = G.len ∧ C.drop (j * 19) = D ∧ FoC w0 B R G D ∧ G.wf 1000000 ∧ G.cnt ≤ F.cnt ∧ b0 ++ G.body = T ∧ Ou g b0 X ∧ Imp M (X ++ R) ∧ Agr fr [(0, .pointer (some ⟨g, 0, none⟩)), (11, .slice a F.len c), (12, .int .i64 (F.len : Int)), (13, .int .i64 (j : Int))]) F.len ?_ ?_
    · exact ⟨F, 0, C, _, X1, by omega, rfl, by simp, hFo, hw, Nat.le_refl _, hT1, hX1, Imp.refl _, rfl, rfl, rfl, rfl, trivial⟩
    clear hX hX1 hi1 hT1 hT X1 X hw hb hFo
    rintro q fr M ⟨G, j, D, b0, X, hj, rfl, hD, hG, hw, hc, hTb, hX, hi, hf⟩
    obtain ⟨base, rfl⟩ := hf.out
    clear hf
    refine HC.imp ?_ hi
    clear hi M
    cases G with
    | nil =>
      rw [Fo.len] at hj
      rw [Fo.body, List.append_nil] at hTb
      subst hTb
      repeat (first | refine go_ ?_ | refine bx_ (fun _ => ?_))
      exact fin0 rfl ⟨X, Imp.refl _, hX⟩ (Imp.refl _)
    | cons l k r =>
      rw [Fo.len] at hj
      rw [Fo.cnt] at hc
      obtain ⟨w1, w2, w3, w4⟩ := hw
      obtain ⟨pv, mv, qv, ka, kc, K, C', rfl, hl, hK, hk, hr⟩ := hG
      obtain ⟨⟨pa, pc, rfl, nP⟩, ⟨ma, mc, rfl, nM⟩, ⟨qa, qc, rfl, nQ⟩⟩ := hl
      obtain ⟨hcell, hnx⟩ := drop19 hD rfl
      obtain ⟨bb, off, rfl⟩ := hC.pos (by omega)
      have hTl2 := congrArg List.length hTb
      rw [Fo.body] at hTb
      rw [Fo.body, List.length_append, List.length_append, List.length_append, List.length_append] at hTl2
      have hTk : ((b0 ++ l.put) ++ k.put) ++ r.body = T := by rw [← hTb]; unfold Fo.put; simp only [List.append_assoc]
      have hl0 := length_numB_le (n := (k.len : Int)) ⟨by omega, by omega⟩
      have hkp : k.put.length = (numB (k.len : Int)).length + k.body.length := by rw [Fo.put, List.length_append]
      obtain ⟨wh, wP, wm, wt, wQ, lP, lM, lQ⟩ := w1
      have wh1 : ∀ n ∈ [l.i, l.k], I64 n := fun n hn => wh n (by simp at hn ⊢; rcases hn with h | h <;> simp [h])
      have wh2 : ∀ n ∈ [l.o, l.e, l.w, l.h], I64 n := fun n hn => wh n (by simp at hn ⊢; rcases hn with h | h | h | h <;> simp [h])
      have wM : ∀ n ∈ [(l.M.length : Int)], I64 n := fun n hn => by rw [List.mem_singleton.1 hn]; exact ⟨by omega, by omega⟩
      have wt1 : ∀ n ∈ [l.t], I64 n := fun n hn => by rw [List.mem_singleton.1 hn]; exact wt
      have e1 := length_numsB_le wh1
      have e2 := length_numB_le (i64fl l.d)
      have e3 := length_numsB_le wh2
      have e4 := length_lstB_le wP lP
      have e5 := length_numsB_le wM
      have e7 := length_numsB_le wm
      have e8 := length_numB_le (i64fl l.s)
      have e9 := length_numsB_le wt1
      simp only [List.length_cons, List.length_nil] at e1 e3 e5 e7 e9
      rw [Ly.put_eq] at hTk
      repeat (first | refine hl_loadRN (l := C) rfl hC.rd (Imp.tail X _) hcell rfl rfl ?_ | refine go1_ ?_ | refine bx_ (fun _ => ?_))
      rename_i g5 gb
      obtain ⟨eb, heb⟩ : ∃ eb : Ent, eb = ⟨g5, 116, lyC l (.slice pa l.P.length pc) (.slice ma l.M.length mc) (.slice qa l.Q.length qc) (.slice ka k.len kc), 19⟩ := ⟨_, rfl⟩
      have tx : ∀ (Y : List Ent), Take (Y ++ (eb :: R)) ⟨g5, 116, lyC l (.slice pa l.P.length pc) (.slice ma l.M.length mc) (.slice qa l.Q.length qc) (.slice ka k.len kc), 19⟩ (Y ++ R) := fun Y => by rw [heb]; exact Take.app Y .here
      have iR : Imp (eb :: R) R := Imp.drop (Imp.refl _)
      refine HL.perm (H' := ⟨gb, 3, [l.i, l.k].map iV, 2 * 1⟩ :: (X ++ (eb :: R))) ?_ (by rw [heb]; exact List.Perm.cons _ (app_swap [_] X R))
      refine hl_call rfl rfl (onumB_fn hX [l.i, l.k] rfl wh1 (by omega)) (fun v M o => ?_)
      obtain ⟨X1, hi1, hX1⟩ := o
      refine HL.imp ?_ hi1
      clear hX hi1
      obtain ⟨b1, hb1⟩ : ∃ b, b = b0 ++ numsB [l.i, l.k] := ⟨_, rfl⟩
      have n1 := congrArg List.length hb1
      rw [List.length_append] at n1
      rw [← hb1] at hX1 hTk
      repeat (first | refine hl_load1 rfl (tx _) rfl rfl ?_ | refine go1_ ?_ | refine bx_ (fun _ => ?_))
      refine hl_call rfl rfl (oflag_fn hX1 (by omega)) (fun v M o => ?_)
      obtain ⟨X2, hi2, hX2⟩ := o
      refine HL.imp ?_ hi2
      clear hX1 hi2
      obtain ⟨b2, hb2⟩ : ∃ b, b = b1 ++ numB (fl l.d) := ⟨_, rfl⟩
      have n2 := congrArg List.length hb2
      rw [List.length_append] at n2
      rw [← hb2] at hX2 hTk
      repeat (first | refine hl_load1 rfl (tx _) rfl rfl ?_ | refine go1_ ?_ | refine bx_ (fun _ => ?_))
      rename_i gb2
      refine hl_call rfl rfl (onumB_fn hX2 [l.o, l.e, l.w, l.h] rfl wh2 (by omega)) (fun v M o => ?_)
      obtain ⟨X3, hi3, hX3⟩ := o
      refine HL.imp ?_ hi3
      clear hX2 hi3
      obtain ⟨b3, hb3⟩ : ∃ b, b = b2 ++ numsB [l.o, l.e, l.w, l.h] := ⟨_, rfl⟩
      have n3 := congrArg List.length hb3
      rw [List.length_append] at n3
      rw [← hb3] at hX3 hTk
      repeat (first | refine hl_load1 rfl (tx _) rfl rfl ?_ | refine go1_ ?_ | refine bx_ (fun _ => ?_))
      refine hl_call rfl rfl (onums_fn hX3 (nP.imp iR) wP (by omega) (by omega)) (fun v M o => ?_)
      obtain ⟨X4, hi4, hX4⟩ := o
      refine HL.imp ?_ hi4
      clear hX3 hi4
      obtain ⟨b4, hb4⟩ : ∃ b, b = b3 ++ lstB l.P := ⟨_, rfl⟩
      have n4 := congrArg List.length hb4
      rw [List.length_append] at n4
      rw [← hb4] at hX4 hTk
      repeat (first | refine hl_load1 rfl (tx _) rfl rfl ?_ | refine go1_ ?_ | refine bx_ (fun _ => ?_))
      rename_i gb4
      refine hl_call rfl rfl (onumB_fn hX4 [(l.M.length : Int)] rfl wM (by omega)) (fun v M o => ?_)
      obtain ⟨X5, hi5, hX5⟩ := o
      refine HL.imp ?_ hi5
      clear hX4 hi5
      obtain ⟨b5, hb5⟩ : ∃ b, b = b4 ++ numsB [(l.M.length : Int)] := ⟨_, rfl⟩
      have n5 := congrArg List.length hb5
      rw [List.length_append] at n5
      rw [← hb5] at hX5 hTk
      obtain ⟨sv5, Xb5, rfl, ho5⟩ := hX5
      obtain ⟨a5, c5, rfl, _, _⟩ := (ho5 []).form
      repeat (first | refine go_ ?_ | refine bx_ (fun _ => ?_))
      refine hc_meet (fun fr M => ∃ X6, Ou g (b5 ++ l.M) X6 ∧ Imp M (X6 ++ (eb :: R)) ∧ Agr fr [(0, .pointer (some ⟨g, 0, none⟩)), (5, .pointer (some ⟨g5, 0, none⟩)), (11, .slice (some ⟨bb, off, none⟩) F.len c), (12, .int .i64 (F.len : Int)), (13, .int .i64 (j : Int))]) ?_ ?_
      · refine hc_drawA (eb :: R) (by kernel_rfl) ?_
        have iE0 : Imp (⟨g, 74, [.slice a5 b5.length c5], 1⟩ :: (Xb5 ++ (eb :: R))) (eb :: R) := Imp.drop (Imp.tail Xb5 _)
        have txE : Take (eb :: R) ⟨g5, 116, lyC l (.slice pa l.P.length pc) (.slice ma l.M.length mc) (.slice qa l.Q.length qc) (.slice ka k.len kc), 19⟩ R := by rw [heb]; exact .here
        refine ha_quiet [0, 1, 2, 3, 5, 6] (by rfl) (by kernel_rfl) ?_
        repeat (first | refine hl_load1 rfl txE rfl rfl ?_ | refine gd1_ ?_)
        refine ha_fork1 4 (by rfl) (by kernel_rfl) (by rfl) (by first | exact Imp.refl _ | exact Imp.drop (Imp.refl _) | exact Imp.drop (Imp.drop (Imp.refl _)) | exact Imp.drop (Imp.drop (Imp.drop (Imp.refl _))) | exact Imp.drop (Imp.drop (Imp.drop (Imp.drop (Imp.refl _)))) | exact Imp.drop (Imp.drop (Imp.drop (Imp.drop (Imp.drop (Imp.refl _))))) | exact Imp.drop (Imp.drop (Imp.drop (Imp.drop (Imp.drop (Imp.drop (Imp.refl _)))))) | exact Imp.drop (Imp.drop (Imp.drop (Imp.drop (Imp.drop (Imp.drop (Imp.drop (Imp.refl _))))))) | exact Imp.drop (Imp.drop (Imp.drop (Imp.drop (Imp.drop (Imp.drop (Imp.drop (Imp.drop (Imp.refl _)))))))) | assumption | exact Imp.drop (by assumption) | exact Imp.drop (Imp.drop (by assumption)) | exact imp_nil _ | exact Imp.drop2 (Imp.refl _) | exact Imp.drop2 (Imp.drop2 (Imp.refl _)) | exact Imp.drop (Imp.drop2 (Imp.refl _))) ?_
        · skip
          repeat (first | refine op_ ?_ | refine bx_ (fun _ => ?_))
          refine ha_fork1 7 (by rfl) (by kernel_rfl) (by rfl) (by first | exact Imp.refl _ | exact Imp.drop (Imp.refl _) | exact Imp.drop (Imp.drop (Imp.refl _)) | exact Imp.drop (Imp.drop (Imp.drop (Imp.refl _))) | exact Imp.drop (Imp.drop (Imp.drop (Imp.drop (Imp.refl _)))) | exact Imp.drop (Imp.drop (Imp.drop (Imp.drop (Imp.drop (Imp.refl _))))) | exact Imp.drop (Imp.drop (Imp.drop (Imp.drop (Imp.drop (Imp.drop (Imp.refl _)))))) | exact Imp.drop (Imp.drop (Imp.drop (Imp.drop (Imp.drop (Imp.drop (Imp.drop (Imp.refl _))))))) | exact Imp.drop (Imp.drop (Imp.drop (Imp.drop (Imp.drop (Imp.drop (Imp.drop (Imp.drop (Imp.refl _)))))))) | assumption | exact Imp.drop (by assumption) | exact Imp.drop (Imp.drop (by assumption)) | exact imp_nil _ | exact Imp.drop2 (Imp.refl _) | exact Imp.drop2 (Imp.drop2 (Imp.refl _)) | exact Imp.drop (Imp.drop2 (Imp.refl _))) ?_
          · skip
            refine hl_append_own (F := ⟨g, 74, [.slice a5 b5.length c5], 1⟩ :: (eb :: R)) rfl rfl ((ho5 (eb :: R)).under _) (nM.rd.weak fun w hw => (iE0.trans iR) _ _ _ hw) (by simp) rfl (by decide) (by omega) (by omega) rfl (fun v7 M7 o7 => ?_)
            obtain ⟨a7, c7, rfl, _, _⟩ := o7.form
            obtain ⟨Z, hZ, ho7⟩ := o7.permE
            refine HL.perm ?_ (hZ.trans (Take.app Z .here).perm)
            have iE7 : Imp (⟨g, 74, [.slice a5 b5.length c5], 1⟩ :: (Z ++ (eb :: R))) (eb :: R) := Imp.drop (Imp.tail Z _)
            repeat (first | refine op_ ?_ | refine bx_ (fun _ => ?_))
            refine ha_quiet [8, 9] (by rfl) (by kernel_rfl) ?_
            repeat (first | refine hl_load1 rfl txE rfl rfl ?_ | refine gd1_ ?_)
            refine ha_fork1 10 (by rfl) (by kernel_rfl) (by rfl) (by first | exact Imp.refl _ | exact Imp.drop (Imp.refl _) | exact Imp.drop (Imp.drop (Imp.refl _)) | exact Imp.drop (Imp.drop (Imp.drop (Imp.refl _))) | exact Imp.drop (Imp.drop (Imp.drop (Imp.drop (Imp.refl _)))) | exact Imp.drop (Imp.drop (Imp.drop (Imp.drop (Imp.drop (Imp.refl _))))) | exact Imp.drop (Imp.drop (Imp.drop (Imp.drop (Imp.drop (Imp.drop (Imp.refl _)))))) | exact Imp.drop (Imp.drop (Imp.drop (Imp.drop (Imp.drop (Imp.drop (Imp.drop (Imp.refl _))))))) | exact Imp.drop (Imp.drop (Imp.drop (Imp.drop (Imp.drop (Imp.drop (Imp.drop (Imp.drop (Imp.refl _)))))))) | assumption | exact Imp.drop (by assumption) | exact Imp.drop (Imp.drop (by assumption)) | exact imp_nil _ | exact Imp.drop2 (Imp.refl _) | exact Imp.drop2 (Imp.drop2 (Imp.refl _)) | exact Imp.drop (Imp.drop2 (Imp.refl _))) ?_
            · skip
              have iE10 : Imp (⟨g, 74, [.slice a7 (b5.length + l.M.length) c7], 1⟩ :: (Z ++ (eb :: R))) (eb :: R) := Imp.drop (Imp.tail Z _)
              repeat (first | refine op_ ?_ | refine bx_ (fun _ => ?_))
              refine ha_end (by rfl) (by kernel_rfl) (by first | exact Imp.refl _ | exact Imp.drop (Imp.refl _) | exact Imp.drop (Imp.drop (Imp.refl _)) | exact Imp.drop (Imp.drop (Imp.drop (Imp.refl _))) | exact Imp.drop (Imp.drop (Imp.drop (Imp.drop (Imp.refl _)))) | exact Imp.drop (Imp.drop (Imp.drop (Imp.drop (Imp.drop (Imp.refl _))))) | exact Imp.drop (Imp.drop (Imp.drop (Imp.drop (Imp.drop (Imp.drop (Imp.refl _)))))) | exact Imp.drop (Imp.drop (Imp.drop (Imp.drop (Imp.drop (Imp.drop (Imp.drop (Imp.refl _))))))) | exact Imp.drop (Imp.drop (Imp.drop (Imp.drop (Imp.drop (Imp.drop (Imp.drop (Imp.drop (Imp.refl _)))))))) | assumption | exact Imp.drop (by assumption) | exact Imp.drop (Imp.drop (by assumption)) | exact imp_nil _ | exact Imp.drop2 (Imp.refl _) | exact Imp.drop2 (Imp.drop2 (Imp.refl _)) | exact Imp.drop (Imp.drop2 (Imp.refl _))) ?_
              exact ⟨_ :: Z, ⟨_, Z, rfl, fun F => by rw [List.map_append, List.length_append]; exact ho7 F⟩, Imp.refl _, rfl, rfl, rfl, rfl, rfl, trivial⟩
      rintro fr M ⟨X6, hX6, hi6, hf⟩
      obtain ⟨base, rfl⟩ := hf.out
      clear hf
      refine HC.imp ?_ hi6
      clear hi6 M ho5
      obtain ⟨b6, hb6⟩ : ∃ b, b = b5 ++ l.M := ⟨_, rfl⟩
      have n6 := congrArg List.length hb6
      rw [List.length_append] at n6
      rw [← hb6] at hX6 hTk
      repeat (first | refine go_ ?_ | refine bx_ (fun _ => ?_) | refine hl_sliceArr (i := 0) (j := 6) (ki := .i64) (kj := .i64) rfl rfl rfl (by decide) (by decide) rfl (fun off' hof => ?_))
      obtain rfl : off' = 9 := by simpa using hof (by decide)
      refine hl_call rfl rfl (onum_fn (cap := 6) (len := 6) (L := l.mp) (R := eb :: R) hX6 (NumR.ent (i := 9) (n := 6) (H := eb :: R) (F := R) (by rw [heb]; exact .here) rfl rfl) wm (by omega)) (fun v M o => ?_)
      obtain ⟨X7, hi7, hX7⟩ := o
      refine HL.imp ?_ hi7
      clear hX6 hi7
      obtain ⟨b7, hb7⟩ : ∃ b, b = b6 ++ numsB l.mp := ⟨_, rfl⟩
      have n7 := congrArg List.length hb7
      rw [List.length_append] at n7
      rw [← hb7] at hX7 hTk
      repeat (first | refine hl_load1 rfl (tx _) rfl rfl ?_ | refine go1_ ?_ | refine bx_ (fun _ => ?_))
      refine hl_call rfl rfl (oflag_fn hX7 (by omega)) (fun v M o => ?_)
      obtain ⟨X8, hi8, hX8⟩ := o
      refine HL.imp ?_ hi8
      clear hX7 hi8
      obtain ⟨b8, hb8⟩ : ∃ b, b = b7 ++ numB (fl l.s) := ⟨_, rfl⟩
      have n8 := congrArg List.length hb8
      rw [List.length_append] at n8
      rw [← hb8] at hX8 hTk
      repeat (first | refine hl_load1 rfl (tx _) rfl rfl ?_ | refine go1_ ?_ | refine bx_ (fun _ => ?_))
      refine hl_call rfl rfl (onumB_fn hX8 [l.t] rfl wt1 (by omega)) (fun v M o => ?_)
      obtain ⟨X9, hi9, hX9⟩ := o
      refine HL.imp ?_ hi9
      clear hX8 hi9
      obtain ⟨b9, hb9⟩ : ∃ b, b = b8 ++ numsB [l.t] := ⟨_, rfl⟩
      have n9 := congrArg List.length hb9
      rw [List.length_append] at n9
      rw [← hb9] at hX9 hTk
      repeat (first | refine hl_load1 rfl (tx _) rfl rfl ?_ | refine go1_ ?_ | refine bx_ (fun _ => ?_))
      refine hl_call rfl rfl (onums_fn hX9 (nQ.imp iR) wQ (by omega) (by omega)) (fun v M o => ?_)
      obtain ⟨XA, hiA, hXA⟩ := o
      refine HL.imp ?_ hiA
      clear hX9 hiA
      obtain ⟨bA, hbA⟩ : ∃ b, b = b9 ++ lstB l.Q := ⟨_, rfl⟩
      rw [← hbA] at hXA hTk
      have nA := congrArg List.length hTk
      rw [List.length_append, List.length_append] at nA
      repeat (first | refine hl_load1 rfl (tx _) rfl rfl ?_ | refine go1_ ?_ | refine bx_ (fun _ => ?_))
      refine hl_call rfl rfl (olayers_fn N k (by omega) (FoR.imp ⟨ka, kc, K, rfl, hK, hk⟩ iR : FoR w0 B (eb :: R) (.slice ka k.len kc) k) w3 w2 hXA (by omega)) (fun v M o => ?_)
      obtain ⟨XB, hiB, hXB⟩ := o
      refine HL.imp ?_ hiB
      repeat (first | refine go_ ?_ | refine bx_ (fun _ => ?_))
      exact ⟨r.len, by rw [Fo.len]; omega, _, Imp.sub (List.Sublist.append (List.Sublist.refl XB) (List.sublist_cons_self eb R)), r, j + 1, C', _, XB, by omega, rfl, hnx, hr, w4, by omega, hTk, hXB, Imp.refl _, rfl, rfl, rfl, rfl, trivial⟩
end
end Go.Proofs.Ytoobhebbgbhahaa
namespace Go.Proofs.Ytoobhebbgbhahaa
open Go.RowKit
abbrev dcC (D : Dc) (kv : Value) : List Value := [.int .i64 D.w, .int .i64 D.h, .int .i64 D.n, kv]
def DsC (w0 : World) (B : Nat) (H : List Ent) : List Dc → List Value → Prop
  | [], C => C = []
  | D :: L, C => ∃ kv C', C = dcC D kv ++ C' ∧ FoR w0 B H kv D.F ∧ DsC w0 B H L C'
def DsR (w0 : World) (B : Nat) (H : List Ent) (v : Value) (L : List Dc) : Prop := ∃ a c C, v = .slice a L.length c ∧ CsR w0 B H a L.length 4 C ∧ DsC w0 B H L C
/-- A state, by its cells. -/
structure StR (w0 : World) (B : Nat) (H : List Ent) (S : Stt) (kv av bv : Value) : Prop where
  D : FoR w0 B H kv S.D.F
  A : DsR w0 B H av S.A
  B : DsR w0 B H bv S.B
abbrev stC (S : Stt) (kv av bv : Value) : List Value := [.int .i64 S.D.w, .int .i64 S.D.h, .int .i64 S.D.n, kv, av, bv]
section
variable {w0 : World} {B : Nat} {H H' : List Ent}
theorem DsC.imp : ∀ {L : List Dc} {C : List Value}, DsC w0 B H L C → Imp H' H → DsC w0 B H' L C
  | [], _, h, _ => h
  | _ :: _, _, ⟨kv, C', e, h1, h2⟩, hi => ⟨kv, C', e, h1.imp hi, h2.imp hi⟩
theorem DsR.imp {v : Value} {L : List Dc} (h : DsR w0 B H v L) (hi : Imp H' H) : DsR w0 B H' v L := by
  obtain ⟨a, c, C, e, h1, h2⟩ := h
  exact ⟨a, c, C, e, h1.imp hi, h2.imp hi⟩
theorem StR.imp {S : Stt} {kv av bv : Value} (h : StR w0 B H S kv av bv) (hi : Imp H' H) : StR w0 B H' S kv av bv := ⟨h.D.imp hi, h.A.imp hi, h.B.imp hi⟩
theorem FoR.form {v : Value} {F : Fo} (h : FoR w0 B H v F) : ∃ a c, v = .slice a F.len c := by
  obtain ⟨a, c, C, e, _⟩ := h
  exact ⟨a, c, e⟩
theorem DsR.form {v : Value} {L : List Dc} (h : DsR w0 B H v L) : ∃ a c, v = .slice a L.length c := by
  obtain ⟨a, c, C, e, _⟩ := h
  exact ⟨a, c, e⟩
theorem DsC.one : ∀ {L : List Dc} {C : List Value}, DsC w0 B H L C → ∀ u ∈ C, u.oneCell' = true
  | [], _, h, u, hu => by cases h; cases hu
  | _ :: _, _, ⟨kv, C', e, h1, h4⟩, u, hu => by
    obtain ⟨a, c, rfl⟩ := h1.form
    rw [e, List.mem_append] at hu
    rcases hu with hu | hu
    · simp only [dcC, List.mem_cons, List.not_mem_nil, or_false] at hu
      rcases hu with rfl | rfl | rfl | rfl <;> rfl
    · exact DsC.one h4 u hu
theorem DsC.len : ∀ {L : List Dc} {C : List Value}, DsC w0 B H L C → C.length = L.length * 4
  | [], _, h => by cases h; rfl
  | _ :: _, _, ⟨kv, C', e, h1, h4⟩ => by
    have := DsC.len h4
    rw [e, List.length_append, List.length_cons]; simp; omega
theorem DsC.append : ∀ {L M : List Dc} {C D : List Value}, DsC w0 B H L C → DsC w0 B H M D → DsC w0 B H (L ++ M) (C ++ D)
  | [], _, _, _, h, h2 => by cases h; exact h2
  | _ :: _, _, _, _, ⟨kv, C', e, h1, h4⟩, h5 => ⟨kv, _, by rw [e, List.append_assoc], h1, DsC.append h4 h5⟩
end
theorem dropN {C C' A : List Value} {j n : Nat} (h : C.drop (j * n) = A ++ C') (hA : A.length = n) : (C.drop (j * n)).take n = A ∧ C.drop ((j + 1) * n) = C' := by
  constructor
  · rw [h, ← hA, List.take_left]
  · rw [show (j + 1) * n = j * n + n by rw [Nat.add_mul, Nat.one_mul], ← List.drop_drop, h, ← hA, List.drop_left]
theorem docsB_cons (D : Dc) (L : List Dc) : docsB (D :: L) = D.put ++ docsB L := rfl
section
variable {w0 : World} {B : Nat} {H R : List Ent} {g : Nat}
set_option maxHeartbeats 16000000
set_option maxRecDepth 100000
theorem odocs_fn {L : List Dc} {v : Value} {bs : List UInt8} {X R : List Ent} (hL : DsR w0 B R v L) (hw : ∀ D ∈ L, D.wf 1000000) (hX : Ou g bs X) (hb : bs.length + (docsB L).length ≤ 400000000) (hl : L.length ≤ 1000000) :
    Fn Try.prog w0 B 40 [.pointer (some ⟨g, 0, none⟩), v] (X ++ R) (fun _ H' => ∃ X', Imp H' (X' ++ R) ∧ Ou g (bs ++ docsB L) X') := by
  obtain ⟨a, c, C, rfl, hC, hDs⟩ := hL
  obtain ⟨T, hT⟩ : ∃ T, T = bs ++ docsB L := ⟨_, rfl⟩
  have hTl : T.length ≤ 400000000 := by rw [hT, List.length_append]; omega
  refine fn_intro Try.func40 rfl (by kernel_rfl) rfl ?_
  rw [← hT]
  repeat (first | refine go_ ?_ | refine bx_ (fun _ => ?_))
  refine hc_loopd (fun q fr M => ∃ (G : List Dc) (j : Nat) (D : List Value) (b0 : List UInt8) (X : List Ent), j + G.length = L.length ∧ q = G.length ∧ C.drop (j * 4) = D ∧ DsC w0 B R G D ∧ (∀ D ∈ G, D.wf 1000000) ∧ b0 ++ docsB G = T ∧ Ou g b0 X ∧ Imp M (X ++ R) ∧ Agr fr [(0, .pointer (some ⟨g, 0, none⟩)), (6, .slice a L.length c), (7, .int .i64 (L.length : Int)), (8, .int .i64 (j : Int))]) L.length ?_ ?_
  · exact ⟨L, 0, C, _, X, by omega, rfl, by simp, hDs, hw, hT.symm, hX, Imp.refl _, rfl, rfl, rfl, rfl, trivial⟩
  clear hX hT X hw hb hDs bs
  rintro q fr M ⟨G, j, D, b0, X, hj, rfl, hD, hG, hw, hTb, hX, hi, hf⟩
  obtain ⟨base, rfl⟩ := hf.out
  clear hf
  refine HC.imp ?_ hi
  clear hi M
  cases G with
  | nil =>
    rw [List.length_nil] at hj
    rw [show docsB [] = [] from rfl, List.append_nil] at hTb
    subst hTb
    repeat (first | refine go_ ?_ | refine bx_ (fun _ => ?_))
    exact fin0 rfl ⟨X, Imp.refl _, hX⟩ (Imp.refl _)
  | cons d r =>
    rw [List.length_cons] at hj
    obtain ⟨kv, C', rfl, hk, hr⟩ := hG
    obtain ⟨ka, kc, rfl⟩ := hk.form
    obtain ⟨hcell, hnx⟩ := dropN hD rfl
    obtain ⟨bb, off, rfl⟩ := hC.pos (by omega)
    obtain ⟨d1, d2, d3⟩ := hw d (by simp)
    have e1 := length_numsB_le d1
    simp only [List.length_cons, List.length_nil] at e1
    have hTk : ((b0 ++ numsB [d.w, d.h, d.n]) ++ d.F.put) ++ docsB r = T := by rw [← hTb, docsB_cons]; unfold Dc.put; simp only [List.append_assoc]
    have hTl2 := congrArg List.length hTk
    rw [List.length_append, List.length_append] at hTl2
    repeat (first | refine hl_loadRN (l := C) rfl hC.rd (Imp.tail X _) hcell rfl rfl ?_ | refine go1_ ?_ | refine bx_ (fun _ => ?_))
    rename_i g5 gb
    obtain ⟨eb, heb⟩ : ∃ eb : Ent, eb = ⟨g5, 52, dcC d (.slice ka d.F.len kc), 4⟩ := ⟨_, rfl⟩
    have tx : ∀ (Y : List Ent), Take (Y ++ (eb :: R)) ⟨g5, 52, dcC d (.slice ka d.F.len kc), 4⟩ (Y ++ R) := fun Y => by rw [heb]; exact Take.app Y .here
    have iR : Imp (eb :: R) R := Imp.drop (Imp.refl _)
    refine HL.perm (H' := ⟨gb, 3, [d.w, d.h, d.n].map iV, 3 * 1⟩ :: (X ++ (eb :: R))) ?_ (by rw [heb]; exact List.Perm.cons _ (app_swap [_] X R))
    have l0 : b0.length ≤ T.length := by rw [← hTb, List.length_append]; omega
    refine hl_call rfl rfl (onumB_fn hX [d.w, d.h, d.n] rfl d1 (by omega)) (fun v M o => ?_)
    obtain ⟨X1, hi1, hX1⟩ := o
    refine HL.imp ?_ hi1
    clear hX hi1
    repeat (first | refine hl_load1 rfl (tx _) rfl rfl ?_ | refine go1_ ?_ | refine bx_ (fun _ => ?_))
    refine hl_call rfl rfl (olayers_fn (d.F.cnt + 1) d.F (by omega) (hk.imp iR) d2 d3 hX1 (by omega)) (fun v M o => ?_)
    obtain ⟨X2, hi2, hX2⟩ := o
    refine HL.imp ?_ hi2
    repeat (first | refine go_ ?_ | refine bx_ (fun _ => ?_))
    exact ⟨r.length, by rw [List.length_cons]; omega, _, Imp.sub (List.Sublist.append (List.Sublist.refl X2) (List.sublist_cons_self eb R)), r, j + 1, C', _, X2, by omega, rfl, hnx, hr, fun D hD => hw D (by simp [hD]), hTk, hX2, Imp.refl _, rfl, rfl, rfl, rfl, trivial⟩
theorem putState_fn {S : Stt} {kv av bv : Value} (hS : StR w0 B H S kv av bv) (hw : S.wf 1000000) (hb : S.put.length ≤ 400000000) :
    Fn Try.prog w0 B 20 [.agg (stC S kv av bv).toArray] H (fun v H' => Own 5 1 v S.put.length (S.put.map byteV) H H') := by
  obtain ⟨hD, hA, hB⟩ := hS
  obtain ⟨wD, wA, wB, lA, lB⟩ := hw
  obtain ⟨ka, kc, rfl⟩ := hD.form
  obtain ⟨aa, ac, rfl⟩ := hA.form
  obtain ⟨ba, bc, rfl⟩ := hB.form
  have hp : (((S.D.put ++ numsB [(S.A.length : Int)]) ++ docsB S.A) ++ numsB [(S.B.length : Int)]) ++ docsB S.B = S.put := by unfold Stt.put; rw [Rd.numB_one, Rd.numB_one]; simp only [List.append_assoc]
  have hpl := congrArg List.length hp
  simp only [List.length_append] at hpl
  refine fn_intro Try.func20 rfl (by kernel_rfl) rfl ?_
  repeat (first | refine hl_loadN (i := 0) (n := 4) (vs := dcC S.D (.slice ka S.D.F.len kc)) rfl (by first | exact .here | exact (.there .here) | exact (.there (.there .here)) | exact (.there (.there (.there .here))) | exact (.there (.there (.there (.there .here)))) | exact (.there (.there (.there (.there (.there .here))))) | exact (.there (.there (.there (.there (.there (.there .here)))))) | exact (.there (.there (.there (.there (.there (.there (.there .here))))))) | exact (.there (.there (.there (.there (.there (.there (.there (.there .here))))))))) rfl rfl rfl ?_ | refine go1_ ?_ | refine bx_ (fun _ => ?_))
  rename_i gE g gb
  obtain ⟨eb, heb⟩ : ∃ eb : Ent, eb = ⟨gE, 55, stC S (.slice ka S.D.F.len kc) (.slice aa S.A.length ac) (.slice ba S.B.length bc), 6⟩ := ⟨_, rfl⟩
  have tx : ∀ (Y : List Ent), Take (Y ++ (eb :: H)) ⟨gE, 55, stC S (.slice ka S.D.F.len kc) (.slice aa S.A.length ac) (.slice ba S.B.length bc), 6⟩ (Y ++ H) := fun Y => by rw [heb]; exact Take.app Y .here
  have iR : Imp (eb :: H) H := Imp.drop (Imp.refl _)
  obtain ⟨lb, hlb⟩ : ∃ lb : Ent, lb = ⟨gb, 52, dcC S.D (.slice ka S.D.F.len kc), 1 * 4⟩ := ⟨_, rfl⟩
  refine HL.perm (H' := [⟨g, 74, [.slice none 0 0], 1⟩] ++ (lb :: (eb :: H))) ?_ (by rw [heb, hlb]; exact List.Perm.swap _ _ _)
  have hX0 : Ou g [] [⟨g, 74, [.slice none 0 0], 1⟩] := ⟨_, [], rfl, fun F => Own.nil⟩
  have dl : DsR w0 B (lb :: (eb :: H)) (.slice (some ⟨gb, 0, none⟩) 1 1) [S.D] :=
    ⟨_, _, dcC S.D (.slice ka S.D.F.len kc), rfl, ⟨rfl, fun _ => ⟨_, _, rfl⟩, Rds.ent (c := ⟨Try.prog, 0, w0, B⟩) (i := 0) (n := 4) (by rw [hlb]; exact .here) rfl (by simp [dcC, Value.oneCell'])⟩, ⟨_, [], (List.append_nil _).symm, hD.imp (Imp.drop iR), rfl⟩⟩
  have e0 : docsB [S.D] = S.D.put := by simp [docsB]
  refine hl_call rfl rfl (odocs_fn dl (fun D h => by rw [List.mem_singleton.1 h]; exact wD) hX0 (by rw [e0]; simp; omega) (by simp)) (fun v M o => ?_)
  obtain ⟨X1, hi1, hX1⟩ := o
  rw [e0, List.nil_append] at hX1
  refine HL.imp ?_ (hi1.trans (Imp.sub (List.Sublist.append (List.Sublist.refl _) (List.sublist_cons_self _ _))))
  repeat (first | refine hl_load1 rfl (tx _) rfl rfl ?_ | refine go1_ ?_ | refine bx_ (fun _ => ?_))
  have wn : ∀ n ∈ [(S.A.length : Int)], I64 n := fun n hn => by rw [List.mem_singleton.1 hn]; exact ⟨by omega, by omega⟩
  have wn2 : ∀ n ∈ [(S.B.length : Int)], I64 n := fun n hn => by rw [List.mem_singleton.1 hn]; exact ⟨by omega, by omega⟩
  refine hl_call rfl rfl (onumB_fn hX1 [(S.A.length : Int)] rfl wn (by omega)) (fun v M o => ?_)
  obtain ⟨X2, hi2, hX2⟩ := o
  refine HL.imp ?_ hi2
  repeat (first | refine hl_load1 rfl (tx _) rfl rfl ?_ | refine go1_ ?_ | refine bx_ (fun _ => ?_))
  refine hl_call rfl rfl (odocs_fn (hA.imp iR) wA hX2 (by rw [List.length_append]; omega) lA) (fun v M o => ?_)
  obtain ⟨X3, hi3, hX3⟩ := o
  refine HL.imp ?_ hi3
  repeat (first | refine hl_load1 rfl (tx _) rfl rfl ?_ | refine go1_ ?_ | refine bx_ (fun _ => ?_))
  refine hl_call rfl rfl (onumB_fn hX3 [(S.B.length : Int)] rfl wn2 (by simp only [List.length_append]; omega)) (fun v M o => ?_)
  obtain ⟨X4, hi4, hX4⟩ := o
  refine HL.imp ?_ hi4
  repeat (first | refine hl_load1 rfl (tx _) rfl rfl ?_ | refine go1_ ?_ | refine bx_ (fun _ => ?_))
  refine hl_call rfl rfl (odocs_fn (hB.imp iR) wB hX4 (by simp only [List.length_append]; omega) lB) (fun v M o => ?_)
  obtain ⟨X5, hi5, sv, Xb, rfl, ho5⟩ := o
  refine HL.imp ?_ hi5
  obtain ⟨a5, c5, rfl, _, _⟩ := (ho5 []).form
  rw [hp] at ho5 ⊢
  repeat (first | refine go_ ?_ | refine bx_ (fun _ => ?_))
  exact fin1S rfl rfl (ho5 H) (Imp.drop (Imp.sub (List.Sublist.append (List.Sublist.refl _) (List.sublist_cons_self _ _))))
end
end Go.Proofs.Ytoobhebbgbhahaa
namespace Go.Proofs.Ytoobhebbgbhahaa
open Go.RowKit
/-- The places of a group's. -/
def idx : List Rl → Int → Nat → List Int
  | [], _, _ => []
  | x :: L, t, o => if x.t = t then (o : Int) :: idx L t (o + 1) else idx L t (o + 1)
theorem idx_snoc : ∀ (L : List Rl) (x : Rl) (t : Int) (o : Nat), idx (L ++ [x]) t o = idx L t o ++ (if x.t = t then [((o + L.length : Nat) : Int)] else [])
  | [], x, t, o => by simp [idx]
  | y :: L, x, t, o => by
    rw [List.cons_append, idx, idx, idx_snoc L x t (o + 1), List.length_cons, show o + 1 + L.length = o + (L.length + 1) by omega]
    split <;> rfl
theorem idx_len : ∀ (L : List Rl) (t : Int) (o : Nat), (idx L t o).length = (kidsL L t).length
  | [], _, _ => rfl
  | y :: L, t, o => by
    rw [idx, kidsL_cons, List.length_append, ← idx_len L t (o + 1)]
    split
    · simp; omega
    · simp
theorem idx_get : ∀ (L : List Rl) (t : Int) (o j : Nat), j < (idx L t o).length → ∃ i, ∃ hi : i < L.length, (idx L t o)[j]? = some ((o + i : Nat) : Int) ∧ L[i].t = t ∧ (kidsL L t)[j]? = some L[i].l
  | [], _, _, j, h => by simp [idx] at h
  | y :: L, t, o, j, h => by
    rw [idx] at h ⊢
    rw [kidsL_cons]
    by_cases e : y.t = t
    · rw [if_pos e] at h ⊢
      rw [if_pos e]
      cases j with
      | zero => exact ⟨0, by simp, by simp, e, by simp⟩
      | succ j =>
        obtain ⟨i, hi, h1, h2, h3⟩ := idx_get L t (o + 1) j (by simpa using h)
        refine ⟨i + 1, by simpa using hi, ?_, by simpa using h2, ?_⟩
        · rw [List.getElem?_cons_succ, h1]; congr 2; omega
        · simpa using h3
    · rw [if_neg e] at h ⊢
      rw [if_neg e]
      obtain ⟨i, hi, h1, h2, h3⟩ := idx_get L t (o + 1) j h
      refine ⟨i + 1, by simpa using hi, ?_, by simpa using h2, by simpa using h3⟩
      rw [h1]; congr 2; omega
theorem cell19 {C A : List Value} {j n : Nat} (h : (C.drop j).take n = A) {i : Nat} {v : Value} (hi : A[i]? = some v) : C[j + i]? = some v := by
  rw [← h, List.getElem?_take] at hi
  split at hi
  · rw [List.getElem?_drop] at hi; exact hi
  · cases hi
section
variable {w0 : World} {B : Nat} {H R : List Ent} {g : Nat}
set_option maxHeartbeats 16000000
set_option maxRecDepth 100000
theorem rfl_fn (b : Bool) : Fn Try.prog w0 B 65 [.bool b] H (fun v H' => v = .int .i64 (fl b) ∧ H' = H) := by
  refine fn_intro Try.func65 rfl (by kernel_rfl) rfl ?_
  cases b
  · repeat (first | refine go_ ?_ | refine bx_ (fun _ => ?_))
    exact fin1I rfl rfl ⟨rfl, rfl⟩
  · repeat (first | refine go_ ?_ | refine bx_ (fun _ => ?_))
    exact fin1I rfl rfl ⟨rfl, rfl⟩
theorem rkids_fn {w h n t : Int} {lv : Value} {L : List Rl} (hL : RlR w0 B H lv L) (hl : L.length ≤ 1000000) :
    Fn Try.prog w0 B 64 [.agg [.int .i64 w, .int .i64 h, .int .i64 n, lv].toArray, .int .i64 t] H (fun v H' => Own 3 1 v (idx L t 0).length ((idx L t 0).map iV) H H') := by
  obtain ⟨a, c, C, rfl, hC, hRl⟩ := hL
  refine fn_intro Try.func64 rfl (by kernel_rfl) rfl ?_
  repeat (first | refine go_ ?_ | refine bx_ (fun _ => ?_))
  rename_i gd
  obtain ⟨eb, heb⟩ : ∃ eb : Ent, eb = ⟨gd, 58, [.int .i64 w, .int .i64 h, .int .i64 n, .slice a L.length c], 4⟩ := ⟨_, rfl⟩
  have tx : ∀ (Y : List Ent), Take (Y ++ (eb :: H)) ⟨gd, 58, [.int .i64 w, .int .i64 h, .int .i64 n, .slice a L.length c], 4⟩ (Y ++ H) := fun Y => by rw [heb]; exact Take.app Y .here
  have iR : Imp (eb :: H) H := Imp.drop (Imp.refl _)
  refine hc_loopd (fun q fr M => ∃ (j : Nat) (sv : Value) (X : List Ent), j + q = L.length ∧ (∀ F, Own 3 1 sv (idx (L.take j) t 0).length ((idx (L.take j) t 0).map iV) F (X ++ F)) ∧ Imp M (X ++ (eb :: H)) ∧ Agr fr [(1, .int .i64 t), (2, .pointer (some ⟨gd, 0, none⟩)), (5, sv), (6, .int .i64 (j : Int))]) L.length ?_ ?_
  · exact ⟨0, .slice none 0 0, [], by omega, fun F => Own.nil, by rw [heb]; exact Imp.refl _, rfl, rfl, rfl, rfl, trivial⟩
  rintro q fr M ⟨j, sv, X, hj, ho, hi, hf⟩
  obtain ⟨base, rfl⟩ := hf.out
  clear hf
  refine HC.imp ?_ hi
  obtain ⟨av, cv, rfl, _, _⟩ := (ho []).form
  have hil : (idx (L.take j) t 0).length ≤ j := by
    rw [idx_len]; unfold kidsL; rw [List.length_map]
    exact Nat.le_trans (List.length_filter_le _ _) (by rw [List.length_take]; omega)
  by_cases hlt : j < L.length
  rotate_left
  · obtain rfl : j = L.length := by omega
    rw [List.take_length] at ho ⊢
    repeat (first | refine hl_load1 rfl (tx _) rfl rfl ?_ | refine go1_ ?_ | refine bx_ (fun _ => ?_))
    exact fin1S rfl rfl (ho H) (Imp.sub (List.Sublist.append (List.Sublist.refl _) (List.sublist_cons_self _ _)))
  obtain ⟨bb, off, rfl⟩ := hC.pos (by omega)
  obtain ⟨pv, mv, qv, hcell, _⟩ := hRl.at' hlt
  have h2 : C[j * 19 + 2]? = some (.int .i64 L[j].t) := cell19 hcell rfl
  have hst := List.take_succ_eq_append_getElem hlt
  have hsn := idx_snoc (L.take j) L[j] t 0
  rw [← hst, List.length_take, show 0 + min j L.length = j by omega] at hsn
  generalize L[j] = x at *
  by_cases he : x.t = t
  · rw [if_pos he] at hsn
    repeat (first | refine hl_load1 rfl (tx _) rfl rfl ?_ | refine hl_loadRd (j := j * 19 + 2) rfl hC.rd ((Imp.tail X _).trans iR) h2 rfl ?_ | refine go1_ ?_ | refine bx_ (fun _ => ?_))
    rename_i gb
    refine hl_append_own rfl rfl ((ho (eb :: H)).under ⟨gb, 3, [.int .i64 (j : Int)], 1 * 1⟩) (Rds.ent (n := 1) (l := [.int .i64 (j : Int)]) .here rfl (by simp [Value.oneCell'])) rfl rfl (by decide) (by omega) (by omega) rfl (fun v4 M4 o4 => ?_)
    obtain ⟨a4, c4, rfl, _, _⟩ := o4.form
    obtain ⟨Z, hZ, ho4⟩ := o4.permE
    refine HL.perm ?_ hZ
    repeat (first | refine go_ ?_ | refine bx_ (fun _ => ?_))
    exact ⟨q - 1, by omega, _, Imp.sub (List.Sublist.append (List.Sublist.refl Z) (List.sublist_cons_self _ _)), j + 1, _, Z, by omega, fun F => by rw [hsn, List.map_append, List.length_append]; exact ho4 F, Imp.refl _, rfl, rfl, rfl, rfl, trivial⟩
  · rw [if_neg he, List.append_nil] at hsn
    repeat (first | refine hl_load1 rfl (tx _) rfl rfl ?_ | refine hl_loadRd (j := j * 19 + 2) rfl hC.rd ((Imp.tail X _).trans iR) h2 rfl ?_ | refine go1_ ?_ | refine bx_ (fun _ => ?_))
    exact ⟨q - 1, by omega, _, Imp.refl _, j + 1, _, X, by omega, fun F => by rw [hsn]; exact ho F, Imp.refl _, rfl, rfl, rfl, rfl, trivial⟩
end
end Go.Proofs.Ytoobhebbgbhahaa
namespace Go.Proofs.Ytoobhebbgbhahaa
open Go.RowKit
theorem drop_cons_get {α : Type} {l r : List α} {x : α} {i : Nat} (h : l.drop i = x :: r) : l[i]? = some x := by
  have := congrArg (fun l => l[0]?) h
  simpa using this
theorem drop_cons_next {α : Type} {l r : List α} {x : α} {i : Nat} (h : l.drop i = x :: r) : l.drop (i + 1) = r := by
  rw [← List.drop_drop, h]; rfl
theorem Ly.put_eq2 (l : Ly) (A : List UInt8) : A ++ l.put = (((((((A ++ numsB l.hd) ++ lstB l.P) ++ numB (l.M.length : Int)) ++ l.M) ++ numsB l.mp) ++ numsB [fl l.s, l.t]) ++ lstB l.Q) := by
  unfold Ly.put
  simp only [List.append_assoc]
section
variable {w0 : World} {B : Nat} {H R : List Ent} {g : Nat}
set_option maxHeartbeats 16000000
set_option maxRecDepth 100000
theorem rlayers_fn {w h n : Int} {lv : Value} {L : List Rl} (hl : L.length ≤ 1000000) : ∀ (N : Nat) (F : Fo), F.cnt < N → ∀ {t : Int} {H : List Ent}, RlR w0 B H lv L → kidsL L t = F.tops → KdA L F → F.wf 1000000 → F.put.length ≤ 400000000 →
    Fn Try.prog w0 B 51 [.agg [.int .i64 w, .int .i64 h, .int .i64 n, lv].toArray, .int .i64 t] H (fun v H' => Own 5 1 v F.put.length (F.put.map byteV) H H')
  | 0, F, hh, _, _, _, _, _, _, _ => absurd hh (by omega)
  | N + 1, F, hN, t, H, hL, hk, hKd, hw, hb => by
    have hL0 := hL
    obtain ⟨a, c, C, rfl, hC, hRl⟩ := hL
    have hil : (idx L t 0).length = F.len := by rw [idx_len, hk, F.tops_len]
    have hFl : F.len ≤ 1000000 := by
      rw [← hil, idx_len]; unfold kidsL; rw [List.length_map]
      exact Nat.le_trans (List.length_filter_le _ _) hl
    refine fn_intro Try.func51 rfl (by kernel_rfl) rfl ?_
    repeat (first | refine go_ ?_ | refine bx_ (fun _ => ?_))
    rename_i gd
    obtain ⟨db, hdb⟩ : ∃ db : Ent, db = ⟨gd, 58, [.int .i64 w, .int .i64 h, .int .i64 n, .slice a L.length c], 4⟩ := ⟨_, rfl⟩
    refine HL.perm (H' := db :: H) ?_ (by rw [hdb]; exact List.Perm.refl _)
    refine hl_call rfl rfl (rkids_fn (hL0.imp (Imp.drop (Imp.refl _))) hl) (fun v1 M1 o => ?_)
    obtain ⟨ka, kc, rfl, _, _⟩ := o.form
    obtain ⟨Xk, hpk, hok⟩ := o.permE
    refine HL.perm ?_ hpk
    clear hpk o
    obtain ⟨R1, hR1⟩ : ∃ R1, R1 = Xk ++ (db :: H) := ⟨_, rfl⟩
    rw [← hR1]
    have iR1 : Imp R1 H := by rw [hR1]; exact (Imp.tail Xk _).trans (Imp.drop (Imp.refl _))
    have tR1 : Take R1 ⟨gd, 58, [.int .i64 w, .int .i64 h, .int .i64 n, .slice a L.length c], 4⟩ (Xk ++ H) := by rw [hR1, hdb]; exact Take.app Xk .here
    have nK : NumR w0 B R1 ka (idx L t 0).length (idx L t 0) := by rw [hR1]; exact NumR.own (hok _)
    have wl : I64 ((idx L t 0).length : Int) := ⟨by omega, by omega⟩
    repeat (first | refine go_ ?_ | refine bx_ (fun _ => ?_))
    refine hl_call rfl rfl (rnum_fn wl) (fun v2 M2 o2 => ?_)
    obtain ⟨a2, c2, rfl, _, _⟩ := o2.form
    obtain ⟨X2, hp2, ho2⟩ := o2.permE
    refine HL.perm ?_ hp2
    clear hp2 o2
    have hT0 : numB ((idx L t 0).length : Int) ++ F.body = F.put := by rw [hil]; rfl
    repeat (first | refine go_ ?_ | refine bx_ (fun _ => ?_))
    refine hc_loopd (fun q fr M => ∃ (G : Fo) (j : Nat) (sv : Value) (b0 : List UInt8) (X : List Ent), j + G.len = F.len ∧ q = G.len ∧ F.tops.drop j = G.tops ∧ KdA L G ∧ G.wf 1000000 ∧ G.cnt ≤ F.cnt ∧ b0 ++ G.body = F.put ∧ (∀ F, Own 5 1 sv b0.length (b0.map byteV) F (X ++ F)) ∧ Imp M (X ++ R1) ∧ Agr fr [(2, .pointer (some ⟨gd, 0, none⟩)), (5, .slice ka (idx L t 0).length kc), (6, sv), (7, .int .i64 (j : Int))]) F.len ?_ ?_
    · exact ⟨F, 0, _, _, X2, by omega, rfl, by simp, hKd, hw, Nat.le_refl _, hT0, ho2, Imp.refl _, rfl, rfl, rfl, rfl, trivial⟩
    clear ho2 X2 hT0 hw hKd
    rintro q fr M ⟨G, j, sv, b0, X, hj, rfl, hD, hKd, hw, hc, hTb, ho, hi, hf⟩
    obtain ⟨base, rfl⟩ := hf.out
    clear hf
    refine HC.imp ?_ hi
    clear hi M
    obtain ⟨av, cv, rfl, _, _⟩ := (ho []).form
    cases G with
    | nil =>
      rw [Fo.len] at hj
      rw [Fo.body, List.append_nil] at hTb
      subst hTb
      repeat (first | refine go_ ?_ | refine bx_ (fun _ => ?_))
      exact fin1S rfl rfl (ho H) (Imp.perm (app_swap X [] R1) (by rw [List.nil_append, hR1]; exact Imp.sub (List.Sublist.append (List.Sublist.refl _) ((List.sublist_cons_self _ _).trans (List.sublist_append_right _ _)))))
    | cons l k r =>
      rw [Fo.len] at hj
      rw [Fo.cnt] at hc
      rw [Fo.tops] at hD
      obtain ⟨w1, w2, w3, w4⟩ := hw
      obtain ⟨hk1, hk2, hk3⟩ := hKd
      have hji : j < (idx L t 0).length := by omega
      obtain ⟨p, hp, hp1, hp2, hp3⟩ := idx_get L t 0 j hji
      rw [hk, drop_cons_get hD] at hp3
      have hpl : L[p].l = l := (Option.some.inj hp3).symm
      have hp1' : ((idx L t 0).map iV)[j]? = some (.int .i64 (p : Int)) := by rw [List.getElem?_map, hp1]; simp
      obtain ⟨pv, mv, qv, hcell, hly⟩ := hRl.at' hp
      rw [hpl, hp2] at hcell
      rw [hpl] at hly
      obtain ⟨⟨pa, pc, rfl, nP⟩, ⟨ma, mc, rfl, nM⟩, ⟨qa, qc, rfl, nQ⟩⟩ := hly
      obtain ⟨bb, off, rfl⟩ := hC.pos (by omega)
      obtain ⟨kbb, koff, rfl⟩ := nK.pos (by omega)
      have hTk : ((b0 ++ l.put) ++ k.put) ++ r.body = F.put := by rw [← hTb]; unfold Fo.put; simp only [Fo.body, List.append_assoc]
      have hl0 := length_numB_le (n := (k.len : Int)) ⟨by omega, by omega⟩
      obtain ⟨wh, wP, wm, wt, wQ, lP, lM, lQ⟩ := w1
      have wM : I64 (l.M.length : Int) := ⟨by omega, by omega⟩
      have ws : ∀ n ∈ [fl l.s, l.t], I64 n := fun n hn => by
        simp only [List.mem_cons, List.not_mem_nil, or_false] at hn
        rcases hn with rfl | rfl
        · exact i64fl _
        · exact wt
      have e1 := length_numsB_le wh
      have e4 := length_lstB_le wP lP
      have e5 := length_numB_le wM
      have e7 := length_numsB_le wm
      have e8 := length_numsB_le ws
      have e9 := length_lstB_le wQ lQ
      have l0 : b0.length ≤ F.put.length := by rw [← hTb, List.length_append]; omega
      simp only [List.length_cons, List.length_nil] at e1 e7 e8
      rw [Ly.put_eq2] at hTk
      repeat (first | refine hl_loadRd (j := j) rfl nK.rd (Imp.tail X _) hp1' rfl ?_ | refine go1_ ?_ | refine bx_ (fun _ => ?_))
      refine hc_meet (fun fr M => ∃ g8, Imp M (X ++ (⟨g8, 121, rlC t l (.slice pa l.P.length pc) (.slice ma l.M.length mc) (.slice qa l.Q.length qc), 19⟩ :: R1)) ∧ Agr fr [(2, .pointer (some ⟨gd, 0, none⟩)), (5, .slice (some ⟨kbb, koff, none⟩) (idx L t 0).length kc), (6, .slice av b0.length cv), (7, .int .i64 (j : Int)), (8, .pointer (some ⟨g8, 0, none⟩))]) ?_ ?_
      · refine hc_drawA R1 (by kernel_rfl) ?_
        have iE0 : Imp (X ++ R1) R1 := Imp.tail X _
        refine ha_quiet [0, 1, 2, 3, 4, 5, 6, 7] (by rfl) (by kernel_rfl) ?_
        repeat (first | refine hl_load1 rfl tR1 rfl rfl ?_ | refine hl_loadRd (j := j) rfl nK.rd (Imp.refl _) hp1' rfl ?_ | refine hl_loadRN (l := C) rfl hC.rd iR1 hcell rfl rfl ?_ | refine gd1_ ?_)
        refine ha_fork1 8 (by rfl) (by kernel_rfl) (by rfl) (by first | exact Imp.refl _ | exact Imp.drop (Imp.refl _) | exact Imp.drop (Imp.drop (Imp.refl _)) | exact Imp.drop (Imp.drop (Imp.drop (Imp.refl _))) | exact Imp.drop (Imp.drop (Imp.drop (Imp.drop (Imp.refl _)))) | exact Imp.drop (Imp.drop (Imp.drop (Imp.drop (Imp.drop (Imp.refl _))))) | exact Imp.drop (Imp.drop (Imp.drop (Imp.drop (Imp.drop (Imp.drop (Imp.refl _)))))) | exact Imp.drop (Imp.drop (Imp.drop (Imp.drop (Imp.drop (Imp.drop (Imp.drop (Imp.refl _))))))) | exact Imp.drop (Imp.drop (Imp.drop (Imp.drop (Imp.drop (Imp.drop (Imp.drop (Imp.drop (Imp.refl _)))))))) | assumption | exact Imp.drop (by assumption) | exact Imp.drop (Imp.drop (by assumption)) | exact imp_nil _ | exact Imp.drop2 (Imp.refl _) | exact Imp.drop2 (Imp.drop2 (Imp.refl _)) | exact Imp.drop (Imp.drop2 (Imp.refl _))) ?_
        · skip
          repeat (first | refine op_ ?_ | refine bx_ (fun _ => ?_))
          rename_i g8
          refine ha_fork1 9 (by rfl) (by kernel_rfl) (by rfl) (by first | exact Imp.refl _ | exact Imp.drop (Imp.refl _) | exact Imp.drop (Imp.drop (Imp.refl _)) | exact Imp.drop (Imp.drop (Imp.drop (Imp.refl _))) | exact Imp.drop (Imp.drop (Imp.drop (Imp.drop (Imp.refl _)))) | exact Imp.drop (Imp.drop (Imp.drop (Imp.drop (Imp.drop (Imp.refl _))))) | exact Imp.drop (Imp.drop (Imp.drop (Imp.drop (Imp.drop (Imp.drop (Imp.refl _)))))) | exact Imp.drop (Imp.drop (Imp.drop (Imp.drop (Imp.drop (Imp.drop (Imp.drop (Imp.refl _))))))) | exact Imp.drop (Imp.drop (Imp.drop (Imp.drop (Imp.drop (Imp.drop (Imp.drop (Imp.drop (Imp.refl _)))))))) | assumption | exact Imp.drop (by assumption) | exact Imp.drop (Imp.drop (by assumption)) | exact imp_nil _ | exact Imp.drop2 (Imp.refl _) | exact Imp.drop2 (Imp.drop2 (Imp.refl _)) | exact Imp.drop (Imp.drop2 (Imp.refl _))) ?_
          · skip
            repeat (first | refine op_ ?_ | refine bx_ (fun _ => ?_))
            refine ha_end (by rfl) (by kernel_rfl) (by first | exact Imp.refl _ | exact Imp.drop (Imp.refl _) | exact Imp.drop (Imp.drop (Imp.refl _)) | exact Imp.drop (Imp.drop (Imp.drop (Imp.refl _))) | exact Imp.drop (Imp.drop (Imp.drop (Imp.drop (Imp.refl _)))) | exact Imp.drop (Imp.drop (Imp.drop (Imp.drop (Imp.drop (Imp.refl _))))) | exact Imp.drop (Imp.drop (Imp.drop (Imp.drop (Imp.drop (Imp.drop (Imp.refl _)))))) | exact Imp.drop (Imp.drop (Imp.drop (Imp.drop (Imp.drop (Imp.drop (Imp.drop (Imp.refl _))))))) | exact Imp.drop (Imp.drop (Imp.drop (Imp.drop (Imp.drop (Imp.drop (Imp.drop (Imp.drop (Imp.refl _)))))))) | assumption | exact Imp.drop (by assumption) | exact Imp.drop (Imp.drop (by assumption)) | exact imp_nil _ | exact Imp.drop2 (Imp.refl _) | exact Imp.drop2 (Imp.drop2 (Imp.refl _)) | exact Imp.drop (Imp.drop2 (Imp.refl _))) ?_
            exact ⟨g8, Imp.perm (app_swap X [_] R1).symm (Imp.refl _), rfl, rfl, rfl, rfl, rfl, trivial⟩
      rintro fr M ⟨g8, hi, hf⟩
      obtain ⟨base, rfl⟩ := hf.out
      clear hf
      refine HC.imp ?_ hi
      clear hi M
      obtain ⟨eb, heb⟩ : ∃ eb : Ent, eb = ⟨g8, 121, rlC t l (.slice pa l.P.length pc) (.slice ma l.M.length mc) (.slice qa l.Q.length qc), 19⟩ := ⟨_, rfl⟩
      have tx : ∀ (Y : List Ent), Take (Y ++ (eb :: R1)) ⟨g8, 121, rlC t l (.slice pa l.P.length pc) (.slice ma l.M.length mc) (.slice qa l.Q.length qc), 19⟩ (Y ++ R1) := fun Y => by rw [heb]; exact Take.app Y .here
      have txE : Take (eb :: R1) ⟨g8, 121, rlC t l (.slice pa l.P.length pc) (.slice ma l.M.length mc) (.slice qa l.Q.length qc), 19⟩ R1 := by rw [heb]; exact .here
      have iR : Imp (eb :: R1) R1 := Imp.drop (Imp.refl _)
      refine HC.perm (H' := X ++ (eb :: R1)) ?_ (by rw [heb])
      refine hc_seq ?_
      refine hc_meet (fun fr M => ∃ sv X, (∀ F, Own 5 1 sv (b0.length + (numsB l.hd).length) ((b0 ++ numsB l.hd).map byteV) F (X ++ F)) ∧ Imp M (X ++ (eb :: R1)) ∧ Agr fr [(2, .pointer (some ⟨gd, 0, none⟩)), (5, .slice (some ⟨kbb, koff, none⟩) (idx L t 0).length kc), (6, sv), (7, .int .i64 (j : Int)), (8, .pointer (some ⟨g8, 0, none⟩))]) ?_ ?_
      · refine hc_drawA (eb :: R1) (by kernel_rfl) ?_
        have iE0 : Imp (X ++ (eb :: R1)) (eb :: R1) := Imp.tail X _
        refine ha_quiet [0, 1, 2, 3, 4, 5, 6, 7, 8, 9, 10, 11, 12, 13, 14, 15] (by rfl) (by kernel_rfl) ?_
        repeat (first | refine hl_load1 rfl txE rfl rfl ?_ | refine gd1_ ?_ | refine hq_call rfl rfl (fun H hi => rfl_fn l.d) ?_)
        refine ha_fork1 16 (by rfl) (by kernel_rfl) (by rfl) (by first | exact Imp.refl _ | exact Imp.drop (Imp.refl _) | exact Imp.drop (Imp.drop (Imp.refl _)) | exact Imp.drop (Imp.drop (Imp.drop (Imp.refl _))) | exact Imp.drop (Imp.drop (Imp.drop (Imp.drop (Imp.refl _)))) | exact Imp.drop (Imp.drop (Imp.drop (Imp.drop (Imp.drop (Imp.refl _))))) | exact Imp.drop (Imp.drop (Imp.drop (Imp.drop (Imp.drop (Imp.drop (Imp.refl _)))))) | exact Imp.drop (Imp.drop (Imp.drop (Imp.drop (Imp.drop (Imp.drop (Imp.drop (Imp.refl _))))))) | exact Imp.drop (Imp.drop (Imp.drop (Imp.drop (Imp.drop (Imp.drop (Imp.drop (Imp.drop (Imp.refl _)))))))) | assumption | exact Imp.drop (by assumption) | exact Imp.drop (Imp.drop (by assumption)) | exact imp_nil _ | exact Imp.drop2 (Imp.refl _) | exact Imp.drop2 (Imp.drop2 (Imp.refl _)) | exact Imp.drop (Imp.drop2 (Imp.refl _))) ?_
        · skip
          repeat (first | refine op_ ?_ | refine bx_ (fun _ => ?_))
          rename_i gp
          have iE1 : Imp (⟨gp, 3, (l.hd).map iV, 7 * 1⟩ :: (X ++ (eb :: R1))) (eb :: R1) := Imp.drop iE0
          refine ha_fork1 17 (by rfl) (by kernel_rfl) (by rfl) (by first | exact Imp.refl _ | exact Imp.drop (Imp.refl _) | exact Imp.drop (Imp.drop (Imp.refl _)) | exact Imp.drop (Imp.drop (Imp.drop (Imp.refl _))) | exact Imp.drop (Imp.drop (Imp.drop (Imp.drop (Imp.refl _)))) | exact Imp.drop (Imp.drop (Imp.drop (Imp.drop (Imp.drop (Imp.refl _))))) | exact Imp.drop (Imp.drop (Imp.drop (Imp.drop (Imp.drop (Imp.drop (Imp.refl _)))))) | exact Imp.drop (Imp.drop (Imp.drop (Imp.drop (Imp.drop (Imp.drop (Imp.drop (Imp.refl _))))))) | exact Imp.drop (Imp.drop (Imp.drop (Imp.drop (Imp.drop (Imp.drop (Imp.drop (Imp.drop (Imp.refl _)))))))) | assumption | exact Imp.drop (by assumption) | exact Imp.drop (Imp.drop (by assumption)) | exact imp_nil _ | exact Imp.drop2 (Imp.refl _) | exact Imp.drop2 (Imp.drop2 (Imp.refl _)) | exact Imp.drop (Imp.drop2 (Imp.refl _))) ?_
          · skip
            refine hl_call rfl rfl (rnums_fn (cap := 7) (len := 7) (L := l.hd) (NumR.ent (i := 0) (n := 7) .here rfl rfl) wh (by decide)) (fun v M7 o7 => ?_)
            obtain ⟨a7, c7, rfl, _, _⟩ := o7.form
            obtain ⟨X7, hp7, ho7⟩ := o7.permE
            have hp7' : M7.Perm (X7 ++ (X ++ (⟨gp, 3, (l.hd).map iV, 7 * 1⟩ :: (eb :: R1)))) := hp7.trans (List.Perm.append_left X7 List.perm_middle.symm)
            have iE2 : Imp M7 (eb :: R1) := o7.imp.trans iE1
            repeat (first | refine op_ ?_ | refine bx_ (fun _ => ?_))
            refine ha_fork1 18 (by rfl) (by kernel_rfl) (by rfl) (by first | exact Imp.refl _ | exact Imp.drop (Imp.refl _) | exact Imp.drop (Imp.drop (Imp.refl _)) | exact Imp.drop (Imp.drop (Imp.drop (Imp.refl _))) | exact Imp.drop (Imp.drop (Imp.drop (Imp.drop (Imp.refl _)))) | exact Imp.drop (Imp.drop (Imp.drop (Imp.drop (Imp.drop (Imp.refl _))))) | exact Imp.drop (Imp.drop (Imp.drop (Imp.drop (Imp.drop (Imp.drop (Imp.refl _)))))) | exact Imp.drop (Imp.drop (Imp.drop (Imp.drop (Imp.drop (Imp.drop (Imp.drop (Imp.refl _))))))) | exact Imp.drop (Imp.drop (Imp.drop (Imp.drop (Imp.drop (Imp.drop (Imp.drop (Imp.drop (Imp.refl _)))))))) | assumption | exact Imp.drop (by assumption) | exact Imp.drop (Imp.drop (by assumption)) | exact imp_nil _ | exact Imp.drop2 (Imp.refl _) | exact Imp.drop2 (Imp.drop2 (Imp.refl _)) | exact Imp.drop (Imp.drop2 (Imp.refl _))) ?_
            · skip
              refine hl_join rfl rfl rfl ho ho7 hp7' rfl (by omega) rfl (fun a8 c8 X8 ho8 => ?_)
              have iE8 : Imp (X8 ++ (⟨gp, 3, (l.hd).map iV, 7 * 1⟩ :: (eb :: R1))) (X8 ++ (eb :: R1)) := Imp.sub (List.Sublist.append (List.Sublist.refl _) (List.sublist_cons_self _ _))
              have iE3 : Imp (X8 ++ (⟨gp, 3, (l.hd).map iV, 7 * 1⟩ :: (eb :: R1))) (eb :: R1) := (Imp.tail X8 _).trans (Imp.drop (Imp.refl _))
              repeat (first | refine op_ ?_ | refine bx_ (fun _ => ?_))
              refine ha_quiet [19] (by rfl) (by kernel_rfl) ?_
              repeat (first | refine hl_load1 rfl txE rfl rfl ?_ | refine gd1_ ?_ | refine hq_call rfl rfl (fun H hi => rfl_fn l.d) ?_)
              refine ha_end (by rfl) (by kernel_rfl) (by first | exact Imp.refl _ | exact Imp.drop (Imp.refl _) | exact Imp.drop (Imp.drop (Imp.refl _)) | exact Imp.drop (Imp.drop (Imp.drop (Imp.refl _))) | exact Imp.drop (Imp.drop (Imp.drop (Imp.drop (Imp.refl _)))) | exact Imp.drop (Imp.drop (Imp.drop (Imp.drop (Imp.drop (Imp.refl _))))) | exact Imp.drop (Imp.drop (Imp.drop (Imp.drop (Imp.drop (Imp.drop (Imp.refl _)))))) | exact Imp.drop (Imp.drop (Imp.drop (Imp.drop (Imp.drop (Imp.drop (Imp.drop (Imp.refl _))))))) | exact Imp.drop (Imp.drop (Imp.drop (Imp.drop (Imp.drop (Imp.drop (Imp.drop (Imp.drop (Imp.refl _)))))))) | assumption | exact Imp.drop (by assumption) | exact Imp.drop (Imp.drop (by assumption)) | exact imp_nil _ | exact Imp.drop2 (Imp.refl _) | exact Imp.drop2 (Imp.drop2 (Imp.refl _)) | exact Imp.drop (Imp.drop2 (Imp.refl _))) ?_
              exact ⟨_, X8, ho8, iE8, rfl, rfl, rfl, rfl, rfl, trivial⟩
      clear ho X
      rintro fr M ⟨sv, X, ho, hi, hf⟩
      obtain ⟨base, rfl⟩ := hf.out
      clear hf
      refine HC.imp ?_ hi
      clear hi M
      obtain ⟨av, cv, rfl, _, _⟩ := (ho []).form
      obtain ⟨b1, hb1⟩ : ∃ b, b = b0 ++ numsB l.hd := ⟨_, rfl⟩
      have nb1 := congrArg List.length hb1
      rw [List.length_append] at nb1
      rw [← hb1, ← nb1] at ho
      rw [← hb1] at hTk
      try rw [← nb1]
      repeat (first | refine hl_load1 rfl (tx _) rfl rfl ?_ | refine go1_ ?_ | refine bx_ (fun _ => ?_))
      refine hl_call rfl rfl (rlist_fn (nP.imp ((Imp.tail X _).trans (iR.trans iR1))) wP (by omega)) (fun v M o => ?_)
      obtain ⟨a3, c3, rfl, _, _⟩ := o.form
      obtain ⟨X3, hp3, ho3⟩ := o.permE
      clear o
      repeat (first | refine go_ ?_ | refine bx_ (fun _ => ?_))
      refine hl_join rfl rfl rfl ho ho3 hp3 rfl (by omega) rfl (fun a4 c4 X ho => ?_)
      obtain ⟨b2, hb2⟩ : ∃ b, b = b1 ++ lstB l.P := ⟨_, rfl⟩
      have nb2 := congrArg List.length hb2
      rw [List.length_append] at nb2
      rw [← hb2, ← nb2] at ho
      rw [← hb2] at hTk
      try rw [← nb2]
      repeat (first | refine hl_load1 rfl (tx _) rfl rfl ?_ | refine go1_ ?_ | refine bx_ (fun _ => ?_))
      refine hl_call rfl rfl (rnum_fn wM) (fun v M o => ?_)
      obtain ⟨a3, c3, rfl, _, _⟩ := o.form
      obtain ⟨X3, hp3, ho3⟩ := o.permE
      clear o
      repeat (first | refine go_ ?_ | refine bx_ (fun _ => ?_))
      refine hl_join rfl rfl rfl ho ho3 hp3 rfl (by omega) rfl (fun a4 c4 X ho => ?_)
      obtain ⟨b3, hb3⟩ : ∃ b, b = b2 ++ numB (l.M.length : Int) := ⟨_, rfl⟩
      have nb3 := congrArg List.length hb3
      rw [List.length_append] at nb3
      rw [← hb3, ← nb3] at ho
      rw [← hb3] at hTk
      try rw [← nb3]
      repeat (first | refine hl_load1 rfl (tx _) rfl rfl ?_ | refine go1_ ?_ | refine bx_ (fun _ => ?_))
      refine hl_append_own rfl rfl (ho (eb :: R1)) (nM.rd.weak fun w hw => ((Imp.tail X _).trans (iR.trans iR1)) _ _ _ hw) (by simp) rfl (by decide) (by omega) (by omega) rfl (fun v4 M4 o4 => ?_)
      obtain ⟨a4, c4, rfl, _, _⟩ := o4.form
      obtain ⟨X, hp4, ho⟩ := o4.permE
      refine HL.perm ?_ hp4
      clear hp4 o4
      rw [← List.map_append] at ho
      obtain ⟨b4, hb4⟩ : ∃ b, b = b3 ++ l.M := ⟨_, rfl⟩
      have nb4 := congrArg List.length hb4
      rw [List.length_append] at nb4
      rw [← hb4, ← nb4] at ho
      rw [← hb4] at hTk
      try rw [← nb4]
      repeat (first | refine go_ ?_ | refine bx_ (fun _ => ?_) | refine hl_sliceArr (i := 0) (j := 6) (ki := .i64) (kj := .i64) rfl rfl rfl (by decide) (by decide) rfl (fun off' hof => ?_))
      obtain rfl : off' = 10 := by simpa using hof (by decide)
      refine hl_call rfl rfl (rnums_fn (cap := 6) (len := 6) (L := l.mp) (NumR.ent (i := 10) (n := 6) (tx X) rfl rfl) wm (by decide)) (fun v M o => ?_)
      obtain ⟨a3, c3, rfl, _, _⟩ := o.form
      obtain ⟨X3, hp3, ho3⟩ := o.permE
      clear o
      repeat (first | refine go_ ?_ | refine bx_ (fun _ => ?_))
      refine hl_join rfl rfl rfl ho ho3 hp3 rfl (by omega) rfl (fun a4 c4 X ho => ?_)
      obtain ⟨b5, hb5⟩ : ∃ b, b = b4 ++ numsB l.mp := ⟨_, rfl⟩
      have nb5 := congrArg List.length hb5
      rw [List.length_append] at nb5
      rw [← hb5, ← nb5] at ho
      rw [← hb5] at hTk
      try rw [← nb5]
      repeat (first | refine go_ ?_ | refine bx_ (fun _ => ?_))
      refine hc_meet (fun fr M => ∃ sv X, (∀ F, Own 5 1 sv (b5.length + (numsB [fl l.s, l.t]).length) ((b5 ++ numsB [fl l.s, l.t]).map byteV) F (X ++ F)) ∧ Imp M (X ++ (eb :: R1)) ∧ Agr fr [(2, .pointer (some ⟨gd, 0, none⟩)), (5, .slice (some ⟨kbb, koff, none⟩) (idx L t 0).length kc), (6, sv), (7, .int .i64 (j : Int)), (8, .pointer (some ⟨g8, 0, none⟩))]) ?_ ?_
      · refine hc_drawA (eb :: R1) (by kernel_rfl) ?_
        have iE0 : Imp (X ++ (eb :: R1)) (eb :: R1) := Imp.tail X _
        refine ha_quiet [0, 1, 2, 3, 4, 5] (by rfl) (by kernel_rfl) ?_
        repeat (first | refine hl_load1 rfl txE rfl rfl ?_ | refine gd1_ ?_ | refine hq_call rfl rfl (fun H hi => rfl_fn l.s) ?_)
        refine ha_fork1 6 (by rfl) (by kernel_rfl) (by rfl) (by first | exact Imp.refl _ | exact Imp.drop (Imp.refl _) | exact Imp.drop (Imp.drop (Imp.refl _)) | exact Imp.drop (Imp.drop (Imp.drop (Imp.refl _))) | exact Imp.drop (Imp.drop (Imp.drop (Imp.drop (Imp.refl _)))) | exact Imp.drop (Imp.drop (Imp.drop (Imp.drop (Imp.drop (Imp.refl _))))) | exact Imp.drop (Imp.drop (Imp.drop (Imp.drop (Imp.drop (Imp.drop (Imp.refl _)))))) | exact Imp.drop (Imp.drop (Imp.drop (Imp.drop (Imp.drop (Imp.drop (Imp.drop (Imp.refl _))))))) | exact Imp.drop (Imp.drop (Imp.drop (Imp.drop (Imp.drop (Imp.drop (Imp.drop (Imp.drop (Imp.refl _)))))))) | assumption | exact Imp.drop (by assumption) | exact Imp.drop (Imp.drop (by assumption)) | exact imp_nil _ | exact Imp.drop2 (Imp.refl _) | exact Imp.drop2 (Imp.drop2 (Imp.refl _)) | exact Imp.drop (Imp.drop2 (Imp.refl _))) ?_
        · skip
          repeat (first | refine op_ ?_ | refine bx_ (fun _ => ?_))
          rename_i gp
          have iE1 : Imp (⟨gp, 3, ([fl l.s, l.t]).map iV, 2 * 1⟩ :: (X ++ (eb :: R1))) (eb :: R1) := Imp.drop iE0
          refine ha_fork1 7 (by rfl) (by kernel_rfl) (by rfl) (by first | exact Imp.refl _ | exact Imp.drop (Imp.refl _) | exact Imp.drop (Imp.drop (Imp.refl _)) | exact Imp.drop (Imp.drop (Imp.drop (Imp.refl _))) | exact Imp.drop (Imp.drop (Imp.drop (Imp.drop (Imp.refl _)))) | exact Imp.drop (Imp.drop (Imp.drop (Imp.drop (Imp.drop (Imp.refl _))))) | exact Imp.drop (Imp.drop (Imp.drop (Imp.drop (Imp.drop (Imp.drop (Imp.refl _)))))) | exact Imp.drop (Imp.drop (Imp.drop (Imp.drop (Imp.drop (Imp.drop (Imp.drop (Imp.refl _))))))) | exact Imp.drop (Imp.drop (Imp.drop (Imp.drop (Imp.drop (Imp.drop (Imp.drop (Imp.drop (Imp.refl _)))))))) | assumption | exact Imp.drop (by assumption) | exact Imp.drop (Imp.drop (by assumption)) | exact imp_nil _ | exact Imp.drop2 (Imp.refl _) | exact Imp.drop2 (Imp.drop2 (Imp.refl _)) | exact Imp.drop (Imp.drop2 (Imp.refl _))) ?_
          · skip
            refine hl_call rfl rfl (rnums_fn (cap := 2) (len := 2) (L := [fl l.s, l.t]) (NumR.ent (i := 0) (n := 2) .here rfl rfl) ws (by decide)) (fun v M7 o7 => ?_)
            obtain ⟨a7, c7, rfl, _, _⟩ := o7.form
            obtain ⟨X7, hp7, ho7⟩ := o7.permE
            have hp7' : M7.Perm (X7 ++ (X ++ (⟨gp, 3, ([fl l.s, l.t]).map iV, 2 * 1⟩ :: (eb :: R1)))) := hp7.trans (List.Perm.append_left X7 List.perm_middle.symm)
            have iE2 : Imp M7 (eb :: R1) := o7.imp.trans iE1
            repeat (first | refine op_ ?_ | refine bx_ (fun _ => ?_))
            refine ha_fork1 8 (by rfl) (by kernel_rfl) (by rfl) (by first | exact Imp.refl _ | exact Imp.drop (Imp.refl _) | exact Imp.drop (Imp.drop (Imp.refl _)) | exact Imp.drop (Imp.drop (Imp.drop (Imp.refl _))) | exact Imp.drop (Imp.drop (Imp.drop (Imp.drop (Imp.refl _)))) | exact Imp.drop (Imp.drop (Imp.drop (Imp.drop (Imp.drop (Imp.refl _))))) | exact Imp.drop (Imp.drop (Imp.drop (Imp.drop (Imp.drop (Imp.drop (Imp.refl _)))))) | exact Imp.drop (Imp.drop (Imp.drop (Imp.drop (Imp.drop (Imp.drop (Imp.drop (Imp.refl _))))))) | exact Imp.drop (Imp.drop (Imp.drop (Imp.drop (Imp.drop (Imp.drop (Imp.drop (Imp.drop (Imp.refl _)))))))) | assumption | exact Imp.drop (by assumption) | exact Imp.drop (Imp.drop (by assumption)) | exact imp_nil _ | exact Imp.drop2 (Imp.refl _) | exact Imp.drop2 (Imp.drop2 (Imp.refl _)) | exact Imp.drop (Imp.drop2 (Imp.refl _))) ?_
            · skip
              refine hl_join rfl rfl rfl ho ho7 hp7' rfl (by omega) rfl (fun a8 c8 X8 ho8 => ?_)
              have iE8 : Imp (X8 ++ (⟨gp, 3, ([fl l.s, l.t]).map iV, 2 * 1⟩ :: (eb :: R1))) (X8 ++ (eb :: R1)) := Imp.sub (List.Sublist.append (List.Sublist.refl _) (List.sublist_cons_self _ _))
              have iE3 : Imp (X8 ++ (⟨gp, 3, ([fl l.s, l.t]).map iV, 2 * 1⟩ :: (eb :: R1))) (eb :: R1) := (Imp.tail X8 _).trans (Imp.drop (Imp.refl _))
              repeat (first | refine op_ ?_ | refine bx_ (fun _ => ?_))
              refine ha_quiet [9] (by rfl) (by kernel_rfl) ?_
              repeat (first | refine hl_load1 rfl txE rfl rfl ?_ | refine gd1_ ?_ | refine hq_call rfl rfl (fun H hi => rfl_fn l.s) ?_)
              refine ha_end (by rfl) (by kernel_rfl) (by first | exact Imp.refl _ | exact Imp.drop (Imp.refl _) | exact Imp.drop (Imp.drop (Imp.refl _)) | exact Imp.drop (Imp.drop (Imp.drop (Imp.refl _))) | exact Imp.drop (Imp.drop (Imp.drop (Imp.drop (Imp.refl _)))) | exact Imp.drop (Imp.drop (Imp.drop (Imp.drop (Imp.drop (Imp.refl _))))) | exact Imp.drop (Imp.drop (Imp.drop (Imp.drop (Imp.drop (Imp.drop (Imp.refl _)))))) | exact Imp.drop (Imp.drop (Imp.drop (Imp.drop (Imp.drop (Imp.drop (Imp.drop (Imp.refl _))))))) | exact Imp.drop (Imp.drop (Imp.drop (Imp.drop (Imp.drop (Imp.drop (Imp.drop (Imp.drop (Imp.refl _)))))))) | assumption | exact Imp.drop (by assumption) | exact Imp.drop (Imp.drop (by assumption)) | exact imp_nil _ | exact Imp.drop2 (Imp.refl _) | exact Imp.drop2 (Imp.drop2 (Imp.refl _)) | exact Imp.drop (Imp.drop2 (Imp.refl _))) ?_
              exact ⟨_, X8, ho8, iE8, rfl, rfl, rfl, rfl, rfl, trivial⟩
      clear ho X
      rintro fr M ⟨sv, X, ho, hi, hf⟩
      obtain ⟨base, rfl⟩ := hf.out
      clear hf
      refine HC.imp ?_ hi
      clear hi M
      obtain ⟨av, cv, rfl, _, _⟩ := (ho []).form
      obtain ⟨b6, hb6⟩ : ∃ b, b = b5 ++ numsB [fl l.s, l.t] := ⟨_, rfl⟩
      have nb6 := congrArg List.length hb6
      rw [List.length_append] at nb6
      rw [← hb6, ← nb6] at ho
      rw [← hb6] at hTk
      try rw [← nb6]
      repeat (first | refine hl_load1 rfl (tx _) rfl rfl ?_ | refine go1_ ?_ | refine bx_ (fun _ => ?_))
      refine hl_call rfl rfl (rlist_fn (nQ.imp ((Imp.tail X _).trans (iR.trans iR1))) wQ (by omega)) (fun v M o => ?_)
      obtain ⟨a3, c3, rfl, _, _⟩ := o.form
      obtain ⟨X3, hp3, ho3⟩ := o.permE
      clear o
      repeat (first | refine go_ ?_ | refine bx_ (fun _ => ?_))
      refine hl_join rfl rfl rfl ho ho3 hp3 rfl (by omega) rfl (fun a4 c4 X ho => ?_)
      obtain ⟨b7, hb7⟩ : ∃ b, b = b6 ++ lstB l.Q := ⟨_, rfl⟩
      have nb7 := congrArg List.length hb7
      rw [List.length_append] at nb7
      rw [← hb7, ← nb7] at ho
      rw [← hb7] at hTk
      try rw [← nb7]
      have nT := congrArg List.length hTk
      simp only [List.length_append] at nT
      have txD : Take (X ++ (eb :: R1)) ⟨gd, 58, [.int .i64 w, .int .i64 h, .int .i64 n, .slice (some ⟨bb, off, none⟩) L.length c], 4⟩ (X ++ (eb :: (Xk ++ H))) := Take.app X (.there tR1)
      repeat (first | refine hl_loadN (i := 0) (n := 4) (vs := [.int .i64 w, .int .i64 h, .int .i64 n, .slice (some ⟨bb, off, none⟩) L.length c]) rfl txD rfl rfl rfl ?_ | refine hl_load1 rfl (tx _) rfl rfl ?_ | refine go1_ ?_ | refine bx_ (fun _ => ?_))
      refine hl_call rfl rfl (rlayers_fn hl N k (by omega) (hL0.imp ((Imp.tail X _).trans (iR.trans iR1))) hk1 hk2 w3 (by omega)) (fun v M o => ?_)
      obtain ⟨a3, c3, rfl, _, _⟩ := o.form
      obtain ⟨X3, hp3, ho3⟩ := o.permE
      clear o
      repeat (first | refine go_ ?_ | refine bx_ (fun _ => ?_))
      refine hl_join rfl rfl rfl ho ho3 hp3 rfl (by omega) rfl (fun a4 c4 X ho => ?_)
      obtain ⟨b8, hb8⟩ : ∃ b, b = b7 ++ k.put := ⟨_, rfl⟩
      have nb8 := congrArg List.length hb8
      rw [List.length_append] at nb8
      rw [← hb8, ← nb8] at ho
      rw [← hb8] at hTk
      try rw [← nb8]
      repeat (first | refine go_ ?_ | refine bx_ (fun _ => ?_))
      exact ⟨r.len, by rw [Fo.len]; omega, _, Imp.sub (List.Sublist.append (List.Sublist.refl X) (List.sublist_cons_self eb R1)), r, j + 1, _, _, X, by omega, rfl, drop_cons_next hD, hk3, w4, by omega, hTk, ho, Imp.refl _, rfl, rfl, rfl, rfl, trivial⟩
end
end Go.Proofs.Ytoobhebbgbhahaa
