/-
  The document's lists and edits in bytes. No condition.
-/
import Derived.Test.YtoobhebbgbhahaaPA
namespace Go.Proofs.Ytoobhebbgbhahaa
open Go.RowKit
theorem PtR.c01 {w0 : World} {B : Nat} {H : List Ent} {a : Option Addr} {len : Nat} {l : List Pt} (h : PtR w0 B H a len l) {k : Nat} (hk : k < l.length) : (l.flatMap ptV)[k * 2]? = some (.int .i64 l[k].x) ∧ (l.flatMap ptV)[k * 2 + 1]? = some (.int .i64 l[k].y) := by
  have e := flat_pt l k hk
  constructor
  · have := congrArg (fun l => l[0]?) e
    simp only [List.getElem?_take, List.getElem?_drop] at this
    simpa using this
  · have := congrArg (fun l => l[1]?) e
    simp only [List.getElem?_take, List.getElem?_drop] at this
    simpa using this
section
variable {w0 : World} {B : Nat} {H R R0 : List Ent} {g : Nat}
set_option maxHeartbeats 8000000
set_option maxRecDepth 100000
theorem rnums_fn {a : Option Addr} {len cap : Nat} {L : List Int} (hL : NumR w0 B H a len L) (hI : ∀ n ∈ L, I64 n) (hlen : len ≤ 10000000) :
    Fn Try.prog w0 B 32 [.slice a len cap] H (fun v H' => Own 5 1 v (numsB L).length ((numsB L).map byteV) H H') := by
  have he := hL.eq
  refine fn_intro Try.func32 rfl (by kernel_rfl) rfl ?_
  repeat (first | refine go_ ?_ | refine bx_ (fun _ => ?_))
  refine hc_loopd (fun q fr M => ∃ k n sv Xb, k + q = len ∧ n = (numsB (L.take k)).length ∧ (∀ F, Own 5 1 sv n ((numsB (L.take k)).map byteV) F (Xb ++ F)) ∧ Imp M (Xb ++ H) ∧ Agr fr [(0, .slice a len cap), (3, sv), (4, .int .i64 (k : Int))]) len ?_ ?_
  · exact ⟨0, 0, _, [], by omega, rfl, fun F => Own.nil, Imp.refl _, rfl, rfl, rfl, trivial⟩
  rintro q fr M ⟨k, n, sv, Xb, hk, hn, ho, him, hf⟩
  obtain ⟨base, rfl⟩ := hf.out
  clear hf
  refine HC.imp ?_ him
  obtain ⟨av, cv, rfl, _, _⟩ := (ho []).form
  by_cases hlt : k < len
  rotate_left
  · obtain rfl : len = k := by omega
    rw [show L.take len = L by rw [← he]; exact List.take_length] at ho hn
    subst hn
    repeat (first | refine go_ ?_ | refine bx_ (fun _ => ?_))
    exact fin1S rfl rfl (ho H)
  obtain ⟨bb, off, rfl⟩ := hL.pos (by omega)
  have hkL : k < L.length := by omega
  have hcell : (L.map iV)[k]? = some (.int .i64 L[k]) := by simp [hkL]
  have hin := hI _ (List.getElem_mem hkL)
  have hst := numsB_take hkL
  have hb1 := length_numsB_le (l := L.take k) fun m hm => hI m (List.mem_of_mem_take hm)
  have hb2 := length_numB_le hin
  rw [List.length_take] at hb1
  generalize hv : L[k] = v at *
  repeat (first | refine hl_loadRd rfl hL.rd (Imp.tail Xb _) hcell rfl ?_ | refine go1_ ?_ | refine bx_ (fun _ => ?_))
  refine hl_call rfl rfl (rnum_fn hin) (fun v1 M1 o => ?_)
  obtain ⟨a1, c1, rfl, _, _⟩ := o.form
  obtain ⟨Xr, hpr, hor⟩ := o.permE
  repeat (first | refine go_ ?_ | refine bx_ (fun _ => ?_))
  refine hl_join rfl rfl rfl ho hor hpr rfl (by omega) rfl (fun a2 c2 X2 ho2 => ?_)
  rw [← hst] at ho2
  repeat (first | refine go_ ?_ | refine bx_ (fun _ => ?_))
  exact ⟨q - 1, by omega, _, Imp.refl _, k + 1, _, _, X2, by omega, by rw [hst, List.length_append, hn], ho2, Imp.refl _, rfl, rfl, rfl, trivial⟩
theorem rlist_fn {a : Option Addr} {len cap : Nat} {L : List Int} (hL : NumR w0 B H a len L) (hI : ∀ n ∈ L, I64 n) (hlen : len ≤ 10000000) :
    Fn Try.prog w0 B 33 [.slice a len cap] H (fun v H' => Own 5 1 v (lstB L).length ((lstB L).map byteV) H H') := by
  have he := hL.eq
  refine fn_intro Try.func33 rfl (by kernel_rfl) rfl ?_
  have hw : I64 (len : Int) := ⟨by omega, by omega⟩
  have hb1 := length_numsB_le hI
  have hb2 := length_numB_le hw
  repeat (first | refine go_ ?_ | refine bx_ (fun _ => ?_))
  refine hl_call rfl rfl (rnum_fn hw) (fun v1 M1 o => ?_)
  obtain ⟨a1, c1, rfl, _, _⟩ := o.form
  obtain ⟨Xb, hpb, ho⟩ := o.permE
  refine HL.perm ?_ hpb
  repeat (first | refine go_ ?_ | refine bx_ (fun _ => ?_))
  refine hl_call rfl rfl (rnums_fn (hL.imp (Imp.tail Xb H)) hI hlen) (fun v2 M2 o2 => ?_)
  obtain ⟨a2, c2, rfl, _, _⟩ := o2.form
  obtain ⟨Xr, hpr, hor⟩ := o2.permE
  repeat (first | refine go_ ?_ | refine bx_ (fun _ => ?_))
  refine hl_join rfl rfl rfl ho hor hpr rfl (by omega) rfl (fun a3 c3 X3 ho3 => ?_)
  have e : numB (len : Int) ++ numsB L = lstB L := by unfold lstB; rw [he]
  rw [e] at ho3
  have e2 := congrArg List.length e
  rw [List.length_append] at e2
  rw [e2] at ho3 ⊢
  repeat (first | refine go_ ?_ | refine bx_ (fun _ => ?_))
  exact fin1S rfl rfl (ho3 H)
theorem redit_fn {f m : Nat → Int} {pa sa qa : Option Addr} {pn pc sn sc qn qc : Nat} {P Q : List Int} {S : List Pt} (hP : NumR w0 B H pa pn P) (hS : PtR w0 B H sa sn S) (hQ : NumR w0 B H qa qn Q) (hw : Ed.wf ⟨f10 f, P, S, f6 m, Q⟩) :
    Fn Try.prog w0 B 13 [.agg (edC f m (.slice pa pn pc) (.slice sa sn sc) (.slice qa qn qc)).toArray] H (fun v H' => Own 5 1 v (Ed.put ⟨f10 f, P, S, f6 m, Q⟩).length ((Ed.put ⟨f10 f, P, S, f6 m, Q⟩).map byteV) H H') := by
  have eP := hP.eq
  have eS := hS.eq
  have eQ := hQ.eq
  obtain ⟨wf1, wP, wS, wm, wQ, _, _, lP, lS, lQ⟩ := hw
  dsimp only at wf1 wP wS wm wQ lP lS lQ
  refine fn_intro Try.func13 rfl (by kernel_rfl) rfl ?_
  repeat (first | refine go_ ?_ | refine bx_ (fun _ => ?_))
  rename_i gE gb
  obtain ⟨eb, heb⟩ : ∃ eb : Ent, eb = ⟨gE, 39, edC f m (.slice pa pn pc) (.slice sa sn sc) (.slice qa qn qc), 19⟩ := ⟨_, rfl⟩
  have tx : ∀ (Y T : List Ent), Take (Y ++ (eb :: T)) ⟨gE, 39, edC f m (.slice pa pn pc) (.slice sa sn sc) (.slice qa qn qc), 19⟩ (Y ++ T) := fun Y T => by rw [heb]; exact Take.app Y .here
  have txE : Take (eb :: H) ⟨gE, 39, edC f m (.slice pa pn pc) (.slice sa sn sc) (.slice qa qn qc), 19⟩ H := tx [] H
  refine HL.perm (H' := ⟨gb, 3, (f10 f).map iV, 10⟩ :: (eb :: H)) ?_ (by rw [heb]; exact List.Perm.refl _)
  have b0 := length_numsB_le wf1
  have b1 := length_lstB_le wP lP
  have b4 := length_numsB_le wm
  have b5 := length_lstB_le wQ lQ
  have wsn : I64 (sn : Int) := ⟨by omega, by omega⟩
  have b2 := length_numB_le wsn
  simp only [List.length_cons, List.length_nil] at b0 b4
  refine hl_call rfl rfl (rnums_fn (cap := 10) (len := 10) (L := f10 f) (NumR.ent (i := 0) (n := 10) .here rfl rfl) wf1 (by decide)) (fun v M o => ?_)
  obtain ⟨a1, c1, rfl, _, _⟩ := o.form
  obtain ⟨X1, hp1, ho1⟩ := o.permE
  refine HL.imp ?_ (Imp.perm hp1 (Imp.sub (List.Sublist.append (List.Sublist.refl X1) (List.sublist_cons_self _ _))))
  repeat (first | refine hl_load1 rfl (tx _ _) rfl rfl ?_ | refine go1_ ?_ | refine bx_ (fun _ => ?_))
  refine hl_call rfl rfl (rlist_fn (hP.imp ((Imp.tail X1 _).trans (Imp.drop (Imp.refl _)))) wP (by omega)) (fun v M o => ?_)
  obtain ⟨a2, c2, rfl, _, _⟩ := o.form
  obtain ⟨Xr, hpr, hor⟩ := o.permE
  repeat (first | refine go_ ?_ | refine bx_ (fun _ => ?_))
  refine hl_join rfl rfl rfl ho1 hor hpr rfl (by omega) rfl (fun a3 c3 X3 ho3 => ?_)
  repeat (first | refine hl_load1 rfl (tx _ _) rfl rfl ?_ | refine go1_ ?_ | refine bx_ (fun _ => ?_))
  refine hl_call rfl rfl (rnum_fn wsn) (fun v M o => ?_)
  obtain ⟨a4, c4, rfl, _, _⟩ := o.form
  obtain ⟨Xr2, hpr2, hor2⟩ := o.permE
  repeat (first | refine go_ ?_ | refine bx_ (fun _ => ?_))
  refine hl_join rfl rfl rfl ho3 hor2 hpr2 rfl (by omega) rfl (fun a5 c5 X5 ho5 => ?_)
  obtain ⟨b3, hb3⟩ : ∃ b3, b3 = numsB (f10 f) ++ lstB P ++ numB (sn : Int) := ⟨_, rfl⟩
  have l3 : b3.length = (numsB (f10 f)).length + (lstB P).length + (numB (sn : Int)).length := by rw [hb3, List.length_append, List.length_append]
  rw [← hb3, ← l3] at ho5
  rw [← l3]
  repeat (first | refine go_ ?_ | refine bx_ (fun _ => ?_))
  refine hc_loopd (fun q fr M => ∃ k n sv X, k + q = sn ∧ n = (b3 ++ ptsB (S.take k)).length ∧ (∀ F, Own 5 1 sv n ((b3 ++ ptsB (S.take k)).map byteV) F (X ++ F)) ∧ Imp M (X ++ (eb :: H)) ∧ Agr fr [(1, .pointer (some ⟨gE, 0, none⟩)), (3, sv), (4, .int .i64 (k : Int))]) sn ?_ ?_
  · exact ⟨0, b3.length, .slice a5 b3.length c5, X5, by omega, by simp [ptsB], by simpa [ptsB] using ho5, Imp.refl _, rfl, rfl, rfl, trivial⟩
  clear ho1 ho3 ho5 hor hor2 hpr hpr2 hp1
  rintro q fr M ⟨k, n, sv, X, hk, hn, ho, hi, hf⟩
  obtain ⟨base, rfl⟩ := hf.out
  clear hf
  refine HC.imp ?_ hi
  obtain ⟨av, cv, rfl, _, _⟩ := (ho []).form
  have l4 := length_ptsB_le (l := S.take k) fun p hp => wS p (List.mem_of_mem_take hp)
  rw [List.length_take] at l4
  have l4b : 20 * min k S.length ≤ 20 * sn := Nat.mul_le_mul_left _ (by omega)
  rw [List.length_append] at hn
  by_cases hlt : k < sn
  · obtain ⟨bb, off, rfl⟩ := hS.pos (by omega)
    have hkS : k < S.length := by omega
    obtain ⟨hc0, hc1⟩ := hS.c01 hkS
    have hst := ptsB_take hkS
    have hwp := wS _ (List.getElem_mem hkS)
    generalize hpp : S[k] = p at *
    have hwn : ∀ n ∈ [p.x, p.y], I64 n := fun n hn => by
      simp only [List.mem_cons, List.not_mem_nil, or_false] at hn
      rcases hn with rfl | rfl
      · exact hwp.1
      · exact hwp.2
    have b6 := length_numsB_le hwn
    simp only [List.length_cons, List.length_nil] at b6
    repeat (first | refine hl_load1 rfl (tx _ _) rfl rfl ?_ | refine go1_ ?_ | refine bx_ (fun _ => ?_))
    refine hc_meet (fun fr M => ∃ sv X, (∀ F, Own 5 1 sv (n + (numsB [p.x, p.y]).length) ((b3 ++ ptsB (S.take k) ++ numsB [p.x, p.y]).map byteV) F (X ++ F)) ∧ Imp M (X ++ (eb :: H)) ∧ Agr fr [(1, .pointer (some ⟨gE, 0, none⟩)), (3, sv), (4, .int .i64 (k : Int))]) ?_ ?_
    · refine hc_drawA (eb :: H) (by kernel_rfl) ?_
      have iE0 : Imp (X ++ (eb :: H)) (eb :: H) := Imp.tail X _
      refine ha_quiet [0, 1, 2, 3, 4, 5, 6, 7, 8, 9, 10, 11, 12] (by rfl) (by kernel_rfl) ?_
      repeat (first | refine hl_load1 rfl txE rfl rfl ?_ | refine hl_loadRd (j := k * 2) rfl hS.rd (Imp.drop (Imp.refl _)) hc0 rfl ?_ | refine hl_loadRd (j := k * 2 + 1) rfl hS.rd (Imp.drop (Imp.refl _)) hc1 rfl ?_ | refine gd1_ ?_)
      refine ha_fork1 13 (by rfl) (by kernel_rfl) (by rfl) (by first | exact Imp.refl _ | exact Imp.drop (Imp.refl _) | exact Imp.drop (Imp.drop (Imp.refl _)) | exact Imp.drop (Imp.drop (Imp.drop (Imp.refl _))) | exact Imp.drop (Imp.drop (Imp.drop (Imp.drop (Imp.refl _)))) | exact Imp.drop (Imp.drop (Imp.drop (Imp.drop (Imp.drop (Imp.refl _))))) | exact Imp.drop (Imp.drop (Imp.drop (Imp.drop (Imp.drop (Imp.drop (Imp.refl _)))))) | exact Imp.drop (Imp.drop (Imp.drop (Imp.drop (Imp.drop (Imp.drop (Imp.drop (Imp.refl _))))))) | exact Imp.drop (Imp.drop (Imp.drop (Imp.drop (Imp.drop (Imp.drop (Imp.drop (Imp.drop (Imp.refl _)))))))) | assumption | exact imp_nil _ | exact Imp.drop2 (Imp.refl _) | exact Imp.drop2 (Imp.drop2 (Imp.refl _)) | exact Imp.drop (Imp.drop2 (Imp.refl _))) ?_
      · skip
        repeat (first | refine op_ ?_ | refine bx_ (fun _ => ?_))
        rename_i gp
        have iE1 : Imp (⟨gp, 3, [.int .i64 p.x, .int .i64 p.y], 2 * 1⟩ :: (X ++ (eb :: H))) (eb :: H) := Imp.drop iE0
        refine ha_fork1 14 (by rfl) (by kernel_rfl) (by rfl) (by first | exact Imp.refl _ | exact Imp.drop (Imp.refl _) | exact Imp.drop (Imp.drop (Imp.refl _)) | exact Imp.drop (Imp.drop (Imp.drop (Imp.refl _))) | exact Imp.drop (Imp.drop (Imp.drop (Imp.drop (Imp.refl _)))) | exact Imp.drop (Imp.drop (Imp.drop (Imp.drop (Imp.drop (Imp.refl _))))) | exact Imp.drop (Imp.drop (Imp.drop (Imp.drop (Imp.drop (Imp.drop (Imp.refl _)))))) | exact Imp.drop (Imp.drop (Imp.drop (Imp.drop (Imp.drop (Imp.drop (Imp.drop (Imp.refl _))))))) | exact Imp.drop (Imp.drop (Imp.drop (Imp.drop (Imp.drop (Imp.drop (Imp.drop (Imp.drop (Imp.refl _)))))))) | assumption | exact imp_nil _ | exact Imp.drop2 (Imp.refl _) | exact Imp.drop2 (Imp.drop2 (Imp.refl _)) | exact Imp.drop (Imp.drop2 (Imp.refl _))) ?_
        · skip
          refine hl_call rfl rfl (rnums_fn (cap := 2) (len := 2) (L := [p.x, p.y]) (NumR.ent (i := 0) (n := 2) .here rfl rfl) hwn (by decide)) (fun v M7 o7 => ?_)
          obtain ⟨a7, c7, rfl, _, _⟩ := o7.form
          obtain ⟨X7, hp7, ho7⟩ := o7.permE
          have hp7' : M7.Perm (X7 ++ (X ++ (⟨gp, 3, [.int .i64 p.x, .int .i64 p.y], 2 * 1⟩ :: (eb :: H)))) := hp7.trans (List.Perm.append_left X7 List.perm_middle.symm)
          have iE2 : Imp M7 (eb :: H) := o7.imp.trans iE1
          repeat (first | refine op_ ?_ | refine bx_ (fun _ => ?_))
          refine ha_fork1 15 (by rfl) (by kernel_rfl) (by rfl) (by first | exact Imp.refl _ | exact Imp.drop (Imp.refl _) | exact Imp.drop (Imp.drop (Imp.refl _)) | exact Imp.drop (Imp.drop (Imp.drop (Imp.refl _))) | exact Imp.drop (Imp.drop (Imp.drop (Imp.drop (Imp.refl _)))) | exact Imp.drop (Imp.drop (Imp.drop (Imp.drop (Imp.drop (Imp.refl _))))) | exact Imp.drop (Imp.drop (Imp.drop (Imp.drop (Imp.drop (Imp.drop (Imp.refl _)))))) | exact Imp.drop (Imp.drop (Imp.drop (Imp.drop (Imp.drop (Imp.drop (Imp.drop (Imp.refl _))))))) | exact Imp.drop (Imp.drop (Imp.drop (Imp.drop (Imp.drop (Imp.drop (Imp.drop (Imp.drop (Imp.refl _)))))))) | assumption | exact imp_nil _ | exact Imp.drop2 (Imp.refl _) | exact Imp.drop2 (Imp.drop2 (Imp.refl _)) | exact Imp.drop (Imp.drop2 (Imp.refl _))) ?_
          · skip
            refine hl_join rfl rfl rfl ho ho7 hp7' rfl (by omega) rfl (fun a8 c8 X8 ho8 => ?_)
            have iE8 : Imp (X8 ++ (⟨gp, 3, [.int .i64 p.x, .int .i64 p.y], 2 * 1⟩ :: (eb :: H))) (X8 ++ (eb :: H)) := Imp.sub (List.Sublist.append (List.Sublist.refl _) (List.sublist_cons_self _ _))
            have iE3 : Imp (X8 ++ (⟨gp, 3, [.int .i64 p.x, .int .i64 p.y], 2 * 1⟩ :: (eb :: H))) (eb :: H) := (Imp.tail X8 _).trans (Imp.drop (Imp.refl _))
            repeat (first | refine op_ ?_ | refine bx_ (fun _ => ?_))
            refine ha_quiet [16] (by rfl) (by kernel_rfl) ?_
            repeat (first | refine hl_load1 rfl txE rfl rfl ?_ | refine hl_loadRd (j := k * 2) rfl hS.rd (Imp.drop (Imp.refl _)) hc0 rfl ?_ | refine hl_loadRd (j := k * 2 + 1) rfl hS.rd (Imp.drop (Imp.refl _)) hc1 rfl ?_ | refine gd1_ ?_)
            refine ha_end (by rfl) (by kernel_rfl) (by first | exact Imp.refl _ | exact Imp.drop (Imp.refl _) | exact Imp.drop (Imp.drop (Imp.refl _)) | exact Imp.drop (Imp.drop (Imp.drop (Imp.refl _))) | exact Imp.drop (Imp.drop (Imp.drop (Imp.drop (Imp.refl _)))) | exact Imp.drop (Imp.drop (Imp.drop (Imp.drop (Imp.drop (Imp.refl _))))) | exact Imp.drop (Imp.drop (Imp.drop (Imp.drop (Imp.drop (Imp.drop (Imp.refl _)))))) | exact Imp.drop (Imp.drop (Imp.drop (Imp.drop (Imp.drop (Imp.drop (Imp.drop (Imp.refl _))))))) | exact Imp.drop (Imp.drop (Imp.drop (Imp.drop (Imp.drop (Imp.drop (Imp.drop (Imp.drop (Imp.refl _)))))))) | assumption | exact imp_nil _ | exact Imp.drop2 (Imp.refl _) | exact Imp.drop2 (Imp.drop2 (Imp.refl _)) | exact Imp.drop (Imp.drop2 (Imp.refl _))) ?_
            exact ⟨_, X8, ho8, iE8, rfl, rfl, rfl, trivial⟩
    rintro fr M ⟨sv8, X8, ho8, hi8, hf⟩
    obtain ⟨base, rfl⟩ := hf.out
    clear hf
    refine HC.imp ?_ hi8
    rw [List.append_assoc, ← hst] at ho8
    obtain ⟨a8, c8, rfl, _, _⟩ := (ho8 []).form
    repeat (first | refine go_ ?_ | refine bx_ (fun _ => ?_))
    exact ⟨q - 1, by omega, _, Imp.refl _, k + 1, _, _, X8, by omega, by rw [hst, ← List.append_assoc, List.length_append, List.length_append, ← hn], ho8, Imp.refl _, rfl, rfl, rfl, trivial⟩
  · obtain rfl : sn = k := by omega
    rw [show S.take sn = S by rw [← eS]; exact List.take_length] at ho l4 hn
    repeat (first | refine hl_load1 rfl (tx _ _) rfl rfl ?_ | refine go1_ ?_ | refine bx_ (fun _ => ?_) | refine hl_sliceArr (i := 0) (j := 6) (ki := .i64) (kj := .i64) rfl rfl rfl (by decide) (by decide) rfl (fun off' hof => ?_))
    obtain rfl : off' = 12 := by simpa using hof (by decide)
    refine hl_call rfl rfl (rnums_fn (cap := 6) (len := 6) (L := f6 m) (NumR.ent (i := 12) (n := 6) (tx _ _) rfl rfl) wm (by decide)) (fun v M o => ?_)
    obtain ⟨a6, c6, rfl, _, _⟩ := o.form
    obtain ⟨X6, hp6, ho6⟩ := o.permE
    repeat (first | refine go_ ?_ | refine bx_ (fun _ => ?_))
    refine hl_join rfl rfl rfl ho ho6 hp6 rfl (by omega) rfl (fun a7 c7 X7 ho7 => ?_)
    repeat (first | refine hl_load1 rfl (tx _ _) rfl rfl ?_ | refine go1_ ?_ | refine bx_ (fun _ => ?_))
    refine hl_call rfl rfl (rlist_fn (hQ.imp ((Imp.tail X7 _).trans (Imp.drop (Imp.refl _)))) wQ (by omega)) (fun v M o => ?_)
    obtain ⟨a8, c8, rfl, _, _⟩ := o.form
    obtain ⟨X8, hp8, ho8⟩ := o.permE
    repeat (first | refine go_ ?_ | refine bx_ (fun _ => ?_))
    refine hl_join rfl rfl rfl ho7 ho8 hp8 rfl (by omega) rfl (fun a9 c9 X9 ho9 => ?_)
    have e5 : b3 ++ ptsB S ++ numsB (f6 m) ++ lstB Q = Ed.put ⟨f10 f, P, S, f6 m, Q⟩ := by
      rw [hb3]
      unfold Ed.put
      dsimp only
      rw [eS]
      simp
    rw [e5] at ho9
    have e6 := congrArg List.length e5
    rw [List.length_append, List.length_append, List.length_append, ← hn] at e6
    rw [e6] at ho9 ⊢
    repeat (first | refine go_ ?_ | refine bx_ (fun _ => ?_))
    exact fin1S rfl rfl (ho9 H) (Imp.sub (List.Sublist.append (List.Sublist.refl _) (List.sublist_cons_self _ _)))
end
end Go.Proofs.Ytoobhebbgbhahaa
