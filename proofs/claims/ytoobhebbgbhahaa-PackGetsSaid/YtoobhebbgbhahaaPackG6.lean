/-
  What is like the document's. No condition.
-/
import Derived.Test.YtoobhebbgbhahaaPackG5
namespace Go.Proofs.Ytoobhebbgbhahaa
open Go.RowKit
section
variable {w0 : World} {B : Nat} {H R R0 : List Ent} {g : Nat}
set_option maxHeartbeats 16000000
set_option maxRecDepth 100000
theorem ints_fn {a a2 : Option Addr} {n n2 c c2 : Nat} {l : List Int} (hl : NumR w0 B H a n l) (hm : NumR w0 B H a2 n2 l) (hs : n ≤ 9223372036854775806) :
    Fn Try.prog w0 B 93 [.slice a n c, .slice a2 n2 c2] H (fun v H' => v = .bool true ∧ H' = H) := by
  have e1 := hl.eq
  have e2 := hm.eq
  obtain rfl : n = n2 := by omega
  refine fn_intro Try.func93 rfl (by kernel_rfl) rfl ?_
  repeat (first | refine go_ ?_ | refine bx_ (fun _ => ?_))
  refine hc_loopd (fun q fr M => ∃ k, k + q = n ∧ Agr fr [(1, .slice a2 n c2), (12, .slice a n c), (13, .int .i64 (n : Int)), (14, .int .i64 (k : Int))] ∧ M = H) n ?_ ?_
  · exact ⟨0, by omega, ⟨rfl, rfl, rfl, rfl, trivial⟩, rfl⟩
  rintro q fr M ⟨k, hk, hf, rfl⟩
  obtain ⟨base, rfl⟩ := hf.out
  clear hf
  by_cases hlt : k < n
  · obtain ⟨b1, o1, rfl⟩ := hl.pos (by omega)
    obtain ⟨b2, o2, rfl⟩ := hm.pos (by omega)
    have k1 : k < l.length := by omega
    have c1 : (l.map iV)[k]? = some (.int .i64 l[k]) := by simp [k1]
    generalize l[k] = z at *
    repeat (first | refine hl_loadRd rfl hl.rd (Imp.refl _) c1 rfl ?_ | refine hl_loadRd rfl hm.rd (Imp.refl _) c1 rfl ?_ | refine go1_ ?_ | refine bx_ (fun _ => ?_))
    exact ⟨q - 1, by omega, _, Imp.refl _, k + 1, by omega, ⟨rfl, rfl, rfl, rfl, trivial⟩, rfl⟩
  · repeat (first | refine go_ ?_ | refine bx_ (fun _ => ?_))
    exact fin1B rfl rfl ⟨rfl, rfl⟩
theorem likeLayer_fn {l : Ly} {t : Int} {pv mv qv pv' mv' qv' : Value} {ka : Option Addr} {kn kc : Nat} (hx : LyR w0 B H l pv mv qv) (hy : LyR w0 B H l pv' mv' qv') (hP : l.P.length ≤ 1000000000) (hQ : l.Q.length ≤ 1000000000) :
    Fn Try.prog w0 B 81 [.agg (lyC l pv mv qv (.slice ka kn kc)).toArray, .agg (rlC t l pv' mv' qv').toArray] H (fun v H' => v = .bool true ∧ H' = H) := by
  obtain ⟨⟨pa, pc, rfl, nP⟩, ⟨ma, mc, rfl, nM⟩, ⟨qa, qc, rfl, nQ⟩⟩ := hx
  obtain ⟨⟨pa', pc', rfl, nP'⟩, ⟨ma', mc', rfl, nM'⟩, ⟨qa', qc', rfl, nQ'⟩⟩ := hy
  refine fn_intro Try.func81 rfl (by kernel_rfl) rfl ?_
  have i2 : ∀ e e' : Ent, Imp (e :: e' :: H) H := fun e e' => Imp.drop (Imp.drop (Imp.refl _))
  have ha : ∀ e e' : Ent, Rds w0 B (e :: e' :: H) ma (l.M.map byteV) := fun e e' => nM.rd.weak fun w hw => i2 _ _ _ _ _ hw
  have hb : ∀ e e' : Ent, Rds w0 B (e :: e' :: H) ma' (l.M.map byteV) := fun e e' => nM'.rd.weak fun w hw => i2 _ _ _ _ _ hw
  have b1 : (!(l.d == l.d)) = false := by simp
  have b2 : (!(l.s == l.s)) = false := by simp
  repeat (first | rw [b1] | rw [b2] | refine hl_loadN (i := 9) (n := 6) (vs := l.mp.map intV) rfl (.there .here) rfl rfl rfl ?_ | refine hl_loadN (i := 10) (n := 6) (vs := l.mp.map intV) rfl .here rfl rfl rfl ?_ | refine hl_neArrF (l := l.mp) (m := l.mp) rfl rfl rfl rfl rfl ?_ | refine go1_ ?_ | refine bx_ (fun _ => ?_) | refine hl_convStr (l := l.M) rfl (ha _ _) rfl ?_ | refine hl_convStr (l := l.M) rfl (hb _ _) rfl ?_ | refine hl_strEqT rfl rfl rfl rfl ?_ | refine hl_callv rfl rfl (ints_fn (nP.imp (i2 _ _)) (nP'.imp (i2 _ _)) (by omega)) ?_ | refine hl_callv rfl rfl (ints_fn (nQ.imp (i2 _ _)) (nQ'.imp (i2 _ _)) (by omega)) ?_)
  exact fin1B rfl rfl ⟨rfl, rfl⟩
theorem kids_fn {w h n : Int} {lv : Value} {L : List Rl} (hl : L.length ≤ 1000000) : ∀ (N : Nat) (F : Fo), F.cnt < N → ∀ {t : Int} {v : Value} {H : List Ent}, RlR w0 B H lv L → FoR w0 B H v F → kidsL L t = F.tops → KdA L F → F.wf 1000000000 →
    Fn Try.prog w0 B 62 [v, .agg [.int .i64 w, .int .i64 h, .int .i64 n, lv].toArray, .int .i64 t] H (fun v H' => v = .bool true ∧ H' = H)
  | 0, F, hh, _, _, _, _, _, _, _, _ => absurd hh (by omega)
  | N + 1, F, hN, t, v, H, hL, hF, hk, hKd, hw => by
    have hL0 := hL
    obtain ⟨a, c, C, rfl, hC, hRl⟩ := hL
    obtain ⟨fa, fc, FC, rfl, hFC, hFo⟩ := hF
    have hil : (idx L t 0).length = F.len := by rw [idx_len, hk, F.tops_len]
    have hFl : F.len ≤ 1000000 := by
      rw [← hil, idx_len]; unfold kidsL; rw [List.length_map]
      exact Nat.le_trans (List.length_filter_le _ _) hl
    refine fn_intro Try.func62 rfl (by kernel_rfl) rfl ?_
    repeat (first | refine go_ ?_ | refine bx_ (fun _ => ?_))
    rename_i gd
    obtain ⟨db, hdb⟩ : ∃ db : Ent, db = ⟨gd, 58, [.int .i64 w, .int .i64 h, .int .i64 n, .slice a L.length c], 4⟩ := ⟨_, rfl⟩
    refine HL.perm (H' := db :: H) ?_ (by rw [hdb]; exact List.Perm.refl _)
    refine hl_call rfl rfl (rkids_fn (hL0.imp (Imp.drop (Imp.refl _))) hl) (fun v1 M1 o => ?_)
    obtain ⟨ka, kc, rfl, _, _⟩ := o.form
    obtain ⟨Xk, hpk, hok⟩ := o.permE
    refine HL.perm ?_ hpk
    clear hpk o
    obtain ⟨R1, hR1⟩ : ∃ R1, R1 = Xk ++ (db :: H) := ⟨_, rfl⟩
    rw [← hR1]
    have iR1 : Imp R1 H := by rw [hR1]; exact (Imp.tail Xk _).trans (Imp.drop (Imp.refl _))
    have tR1 : Take R1 ⟨gd, 58, [.int .i64 w, .int .i64 h, .int .i64 n, .slice a L.length c], 4⟩ (Xk ++ H) := by rw [hR1, hdb]; exact Take.app Xk .here
    have nK : NumR w0 B R1 ka (idx L t 0).length (idx L t 0) := by rw [hR1]; exact NumR.own (hok _)
    repeat (first | refine go_ ?_ | refine bx_ (fun _ => ?_))
    refine hc_loopd (fun q fr M => ∃ (G : Fo) (j : Nat) (D : List Value), j + G.len = F.len ∧ q = G.len ∧ F.tops.drop j = G.tops ∧ FC.drop (j * 19) = D ∧ FoC w0 B H G D ∧ KdA L G ∧ G.wf 1000000000 ∧ G.cnt ≤ F.cnt ∧ Imp M R1 ∧ Agr fr [(4, .pointer (some ⟨gd, 0, none⟩)), (7, .slice ka (idx L t 0).length kc), (18, .slice fa F.len fc), (19, .int .i64 (F.len : Int)), (20, .int .i64 (j : Int))]) F.len ?_ ?_
    · exact ⟨F, 0, FC, by omega, rfl, by simp, by simp, hFo, hKd, hw, Nat.le_refl _, Imp.refl _, rfl, rfl, rfl, rfl, rfl, trivial⟩
    clear hw hKd hFo
    rintro q fr M ⟨G, j, D, hj, rfl, hD, hE, hG, hKd, hw, hc, hi, hf⟩
    obtain ⟨base, rfl⟩ := hf.out
    clear hf
    refine HC.imp ?_ hi
    clear hi M
    cases G with
    | nil =>
      rw [Fo.len] at hj
      repeat (first | refine go_ ?_ | refine bx_ (fun _ => ?_))
      exact fin1B rfl rfl ⟨rfl, rfl⟩ (by rw [hR1]; exact (Imp.tail Xk _).trans (Imp.drop (Imp.refl _)))
    | cons l k r =>
      rw [Fo.len] at hj
      rw [Fo.cnt] at hc
      rw [Fo.tops] at hD
      obtain ⟨w1, w2, w3, w4⟩ := hw
      obtain ⟨hk1, hk2, hk3⟩ := hKd
      obtain ⟨pv, mv, qv, sa, sc, SK, C', rfl, hly0, hSK, hks, hr⟩ := hG
      have hly1 := hly0
      obtain ⟨⟨pa, pc, rfl, nP⟩, ⟨ma, mc, rfl, nM⟩, ⟨qa, qc, rfl, nQ⟩⟩ := hly1
      obtain ⟨hcellF, hnx⟩ := drop19 hE rfl
      have hji : j < (idx L t 0).length := by omega
      obtain ⟨p, hp, hp1, hp2, hp3⟩ := idx_get L t 0 j hji
      rw [hk, drop_cons_get hD] at hp3
      have hpl : L[p].l = l := (Option.some.inj hp3).symm
      have hp1' : ((idx L t 0).map iV)[j]? = some (.int .i64 (p : Int)) := by rw [List.getElem?_map, hp1]; simp
      obtain ⟨pv', mv', qv', hcell, hly⟩ := hRl.at' hp
      rw [hpl, hp2] at hcell
      rw [hpl] at hly
      have hly2 := hly
      obtain ⟨⟨pa', pc', rfl, _⟩, ⟨ma', mc', rfl, _⟩, ⟨qa', qc', rfl, _⟩⟩ := hly2
      obtain ⟨bb, off, rfl⟩ := hC.pos (by omega)
      obtain ⟨fbb, foff, rfl⟩ := hFC.pos (by omega)
      obtain ⟨kbb, koff, rfl⟩ := nK.pos (by omega)
      repeat (first | refine hl_loadRN (l := FC) rfl hFC.rd iR1 hcellF rfl rfl ?_ | refine go1_ ?_ | refine bx_ (fun _ => ?_))
      rename_i g9
      obtain ⟨eb, heb⟩ : ∃ eb : Ent, eb = ⟨g9, 116, lyC l (.slice pa l.P.length pc) (.slice ma l.M.length mc) (.slice qa l.Q.length qc) (.slice sa k.len sc), 19⟩ := ⟨_, rfl⟩
      refine HC.perm (H' := eb :: R1) ?_ (by rw [heb]; exact List.Perm.refl _)
      have tb : Take (eb :: R1) ⟨g9, 116, lyC l (.slice pa l.P.length pc) (.slice ma l.M.length mc) (.slice qa l.Q.length qc) (.slice sa k.len sc), 19⟩ R1 := by rw [heb]; exact .here
      have iE : Imp (eb :: R1) H := (Imp.drop (Imp.refl _)).trans iR1
      have c1 := likeLayer_fn (t := t) (ka := sa) (kn := k.len) (kc := sc) (hly0.imp iE) (hly.imp iE) w1.Pl w1.Ql
      have c2 := kids_fn hl N k (by omega) (w := w) (h := h) (n := n) (t := l.i) (hL0.imp iE) (FoR.imp ⟨sa, sc, SK, rfl, hSK, hks⟩ iE : FoR w0 B (eb :: R1) (.slice sa k.len sc) k) hk1 hk2 w3
      refine hc_meet (fun fr M => Agr fr [(4, .pointer (some ⟨gd, 0, none⟩)), (7, .slice (some ⟨kbb, koff, none⟩) (idx L t 0).length kc), (18, .slice (some ⟨fbb, foff, none⟩) F.len fc), (19, .int .i64 (F.len : Int)), (20, .int .i64 (j : Int)), (44, .bool false)] ∧ M = eb :: R1) ?_ ?_
      · (refine hc_draw (by kernel_rfl) (by kernel_rfl) ?_; repeat (first | refine hl_loadN (i := 0) (n := 19) (vs := lyC l (.slice pa l.P.length pc) (.slice ma l.M.length mc) (.slice qa l.Q.length qc) (.slice sa k.len sc)) rfl tb rfl rfl rfl ?_ | refine hl_load1 rfl tb rfl rfl ?_ | refine hl_load1 rfl (.there tR1) rfl rfl ?_ | refine hl_loadN (i := 0) (n := 4) (vs := [.int .i64 w, .int .i64 h, .int .i64 n, .slice (some ⟨bb, off, none⟩) L.length c]) rfl (.there tR1) rfl rfl rfl ?_ | refine hl_loadRd (j := j) rfl nK.rd (Imp.drop (Imp.refl _)) hp1' rfl ?_ | refine hl_loadRN (l := C) rfl hC.rd iE hcell rfl rfl ?_ | refine gd1_ ?_ | refine hd_call rfl rfl (c1) ?_ | refine hd_call rfl rfl (c2) ?_))
        refine thn_norm ?_
        exact ⟨⟨rfl, rfl, rfl, rfl, rfl, rfl, trivial⟩, rfl⟩
      rintro fr M ⟨hf, rfl⟩
      obtain ⟨base, rfl⟩ := hf.out
      clear hf
      repeat (first | refine go_ ?_ | refine bx_ (fun _ => ?_))
      exact ⟨r.len, by rw [Fo.len]; omega, _, Imp.drop (Imp.refl _), r, j + 1, C', by omega, rfl, drop_cons_next hD, hnx, hr, hk3, w4, by omega, Imp.refl _, rfl, rfl, rfl, rfl, rfl, trivial⟩
end
end Go.Proofs.Ytoobhebbgbhahaa
namespace Go.Proofs.Ytoobhebbgbhahaa
open Go.RowKit
section
variable {w0 : World} {B : Nat} {H R R0 : List Ent} {g : Nat}
set_option maxHeartbeats 16000000
set_option maxRecDepth 100000
theorem docLike_fn {D : Dc} {kv lv : Value} (hF : FoR w0 B H kv D.F) (hL : RlR w0 B H lv (D.F.flat 0)) (ok : D.ok) (hw : D.F.wf 1000000000) :
    Fn Try.prog w0 B 47 [.agg (dcC D kv).toArray, .agg (dcC D lv).toArray] H (fun v H' => v = .bool true ∧ H' = H) := by
  obtain ⟨ka, kc, rfl⟩ := hF.form
  obtain ⟨la, lc, rfl⟩ := hL.form
  obtain ⟨k1, k2⟩ := kd_flat ok.nd ok.z
  have hfl := D.F.flat_len 0
  have hcn := ok.c
  refine fn_intro Try.func47 rfl (by kernel_rfl) rfl ?_
  have i2 : ∀ e e' : Ent, Imp (e :: e' :: H) H := fun e e' => Imp.drop (Imp.drop (Imp.refl _))
  repeat (first | refine hl_loadN (i := 0) (n := 4) (vs := dcC D (.slice la (D.F.flat 0).length lc)) rfl .here rfl rfl rfl ?_ | refine go1_ ?_ | refine bx_ (fun _ => ?_) | refine hl_callv rfl rfl (kids_fn (by omega) (D.F.cnt + 1) D.F (by omega) (hL.imp (i2 _ _)) (hF.imp (i2 _ _)) k1 k2 hw) ?_)
  exact fin1B rfl rfl ⟨rfl, rfl⟩
theorem like_st_fn {S : Stt} {kv av bv kv' av' bv' : Value} (hS : StR w0 B H S kv av bv) (hT : RstR w0 B H S kv' av' bv') (ok : ∀ D ∈ S.D :: (S.A ++ S.B), D.ok ∧ D.F.wf 1000000000) (lA : S.A.length ≤ 1000000) (lB : S.B.length ≤ 1000000) :
    Fn Try.prog w0 B 24 [.agg (stC S kv av bv).toArray, .agg (stC S kv' av' bv').toArray] H (fun v H' => v = .bool true ∧ H' = H) := by
  obtain ⟨hD, hA, hB⟩ := hS
  obtain ⟨hD', hA', hB'⟩ := hT
  obtain ⟨ka, kc, rfl⟩ := hD.form
  obtain ⟨aa, ac, CA, rfl, cA, rA⟩ := hA
  obtain ⟨ba, bc, CB, rfl, cB, rB⟩ := hB
  obtain ⟨ka', kc', rfl⟩ := hD'.form
  obtain ⟨aa', ac', CA', rfl, cA', rA'⟩ := hA'
  obtain ⟨ba', bc', CB', rfl, cB', rB'⟩ := hB'
  obtain ⟨LA, hLA⟩ : ∃ LA : List Dc, LA = [S.D] ++ (S.A ++ S.B) := ⟨_, rfl⟩
  have hLl : LA.length = 1 + S.A.length + S.B.length := by rw [hLA]; simp; omega
  have dA : DsC w0 B H LA ((dcC S.D (.slice ka S.D.F.len kc) ++ CA) ++ CB) := by
    rw [hLA, List.append_assoc]
    exact DsC.append (L := [S.D]) ⟨_, [], (List.append_nil _).symm, hD, rfl⟩ (DsC.append rA rB)
  have dB : RdsC w0 B H LA ((dcC S.D (.slice ka' (S.D.F.flat 0).length kc') ++ CA') ++ CB') := by
    rw [hLA, List.append_assoc]
    exact RdsC.append (L := [S.D]) ⟨_, [], (List.append_nil _).symm, hD', rfl⟩ (RdsC.append rA' rB')
  refine fn_intro Try.func24 rfl (by kernel_rfl) rfl ?_
  repeat (first | refine go_ ?_ | refine bx_ (fun _ => ?_))
  rename_i gs gr
  obtain ⟨E, hE⟩ : ∃ E, E = (⟨gr, 61, stC S (.slice ka' (S.D.F.flat 0).length kc') (.slice aa' S.A.length ac') (.slice ba' S.B.length bc'), 6⟩ :: ⟨gs, 55, stC S (.slice ka S.D.F.len kc) (.slice aa S.A.length ac) (.slice ba S.B.length bc), 6⟩ :: H : List Ent) := ⟨_, rfl⟩
  have tr : Take E ⟨gr, 61, stC S (.slice ka' (S.D.F.flat 0).length kc') (.slice aa' S.A.length ac') (.slice ba' S.B.length bc'), 6⟩ (⟨gs, 55, stC S (.slice ka S.D.F.len kc) (.slice aa S.A.length ac) (.slice ba S.B.length bc), 6⟩ :: H) := by rw [hE]; exact .here
  have ts : Take E ⟨gs, 55, stC S (.slice ka S.D.F.len kc) (.slice aa S.A.length ac) (.slice ba S.B.length bc), 6⟩ (⟨gr, 61, stC S (.slice ka' (S.D.F.flat 0).length kc') (.slice aa' S.A.length ac') (.slice ba' S.B.length bc'), 6⟩ :: H) := by rw [hE]; exact .there .here
  have iE : Imp E H := by rw [hE]; exact Imp.drop (Imp.drop (Imp.refl _))
  refine HC.perm (H' := E) ?_ (by rw [hE]; exact List.Perm.refl _)
  refine hc_meet (fun fr M => ∃ ua uc va vc PA PB, (∀ F, Own 52 4 (.slice ua (1 + S.A.length + S.B.length) uc) (1 + S.A.length + S.B.length) ((dcC S.D (.slice ka S.D.F.len kc) ++ CA) ++ CB) F (PA ++ F)) ∧ (∀ F, Own 58 4 (.slice va (1 + S.A.length + S.B.length) vc) (1 + S.A.length + S.B.length) ((dcC S.D (.slice ka' (S.D.F.flat 0).length kc') ++ CA') ++ CB') F (PB ++ F)) ∧ Imp M (PA ++ (PB ++ E)) ∧ Agr fr [(2, .pointer (some ⟨gs, 0, none⟩)), (3, .pointer (some ⟨gr, 0, none⟩)), (5, .slice ua (1 + S.A.length + S.B.length) uc), (6, .slice va (1 + S.A.length + S.B.length) vc)]) ?_ ?_
  · obtain ⟨PA, hPA⟩ : ∃ PA, PA = ([] : List Ent) := ⟨_, rfl⟩
    obtain ⟨PB, hPB⟩ : ∃ PB, PB = ([] : List Ent) := ⟨_, rfl⟩
    refine HC.perm (H' := PA ++ (PB ++ E)) ?_ (by rw [hPA, hPB]; exact List.Perm.refl _)
    refine hc_drawA E (by kernel_rfl) ?_
    have iM := (Imp.tail PA _).trans (Imp.tail PB E)
    refine ha_quiet [0, 1, 3, 4, 6, 7, 9, 10, 12, 13, 15, 16] (by rfl) (by kernel_rfl) ?_
    repeat (first | refine hl_loadN (i := 0) (n := 4) (vs := dcC S.D (.slice ka S.D.F.len kc)) rfl ts rfl rfl rfl ?_ | refine hl_loadN (i := 0) (n := 4) (vs := dcC S.D (.slice ka' (S.D.F.flat 0).length kc')) rfl tr rfl rfl rfl ?_ | refine hl_load1 rfl ts rfl rfl ?_ | refine hl_load1 rfl tr rfl rfl ?_ | refine gd1_ ?_)
    refine ha_fork2 2 11 (by rfl) (by kernel_rfl) (by rfl) (by rfl) (by first | exact Imp.refl _ | exact Imp.drop (Imp.refl _) | exact Imp.drop (Imp.drop (Imp.refl _)) | exact Imp.drop (Imp.drop (Imp.drop (Imp.refl _))) | exact Imp.drop (Imp.drop (Imp.drop (Imp.drop (Imp.refl _)))) | exact Imp.drop (Imp.drop (Imp.drop (Imp.drop (Imp.drop (Imp.refl _))))) | exact Imp.drop (Imp.drop (Imp.drop (Imp.drop (Imp.drop (Imp.drop (Imp.refl _)))))) | exact Imp.drop (Imp.drop (Imp.drop (Imp.drop (Imp.drop (Imp.drop (Imp.drop (Imp.refl _))))))) | exact Imp.drop (Imp.drop (Imp.drop (Imp.drop (Imp.drop (Imp.drop (Imp.drop (Imp.drop (Imp.refl _)))))))) | assumption | exact Imp.drop (by assumption) | exact Imp.drop (Imp.drop (by assumption)) | exact imp_nil _ | exact Imp.drop2 (Imp.refl _) | exact Imp.drop2 (Imp.drop2 (Imp.refl _)) | exact Imp.drop (Imp.drop2 (Imp.refl _))) ?_ ?_
    · skip
      refine bx_ (fun g2 => ?_)
      have hoA : ∀ F, Own 52 4 (.slice (some ⟨g2, 0, none⟩) 1 1) 1 (dcC S.D (.slice ka S.D.F.len kc)) F ([⟨g2, 52, dcC S.D (.slice ka S.D.F.len kc), 1 * 4⟩] ++ F) := fun F => Own.mk (by omega) (by omega) rfl (List.Perm.refl _)
      obtain ⟨PA', hPA'⟩ : ∃ P : List Ent, P = [⟨g2, 52, dcC S.D (.slice ka S.D.F.len kc), 1 * 4⟩] := ⟨_, rfl⟩
      rw [← hPA'] at hoA
      refine HL.imp (H' := PA' ++ (PB ++ E)) ?_ (by rw [hPA']; exact Imp.sub (List.Sublist.cons_cons _ (List.sublist_append_right PA (PB ++ E))))
      clear hPA hPA'
      obtain ⟨PA, rfl⟩ : ∃ P, P = PA' := ⟨_, rfl⟩
      have iM := (Imp.tail PA _).trans (Imp.tail PB E)
      repeat (first | refine op_ ?_ | refine bx_ (fun _ => ?_))
      refine ha_fork2 5 11 (by rfl) (by kernel_rfl) (by rfl) (by rfl) (by first | exact Imp.refl _ | exact Imp.drop (Imp.refl _) | exact Imp.drop (Imp.drop (Imp.refl _)) | exact Imp.drop (Imp.drop (Imp.drop (Imp.refl _))) | exact Imp.drop (Imp.drop (Imp.drop (Imp.drop (Imp.refl _)))) | exact Imp.drop (Imp.drop (Imp.drop (Imp.drop (Imp.drop (Imp.refl _))))) | exact Imp.drop (Imp.drop (Imp.drop (Imp.drop (Imp.drop (Imp.drop (Imp.refl _)))))) | exact Imp.drop (Imp.drop (Imp.drop (Imp.drop (Imp.drop (Imp.drop (Imp.drop (Imp.refl _))))))) | exact Imp.drop (Imp.drop (Imp.drop (Imp.drop (Imp.drop (Imp.drop (Imp.drop (Imp.drop (Imp.refl _)))))))) | assumption | exact Imp.drop (by assumption) | exact Imp.drop (Imp.drop (by assumption)) | exact imp_nil _ | exact Imp.drop2 (Imp.refl _) | exact Imp.drop2 (Imp.drop2 (Imp.refl _)) | exact Imp.drop (Imp.drop2 (Imp.refl _))) ?_ ?_
      · skip
        refine hl_append_own (e := 52) (sz := 4) rfl rfl (hoA (PB ++ E)) (cA.rd.weak fun w hw => (iM.trans iE) _ _ _ hw) cA.eq rfl (by decide) (by omega) (by omega) rfl (fun v5 M5 o5 => ?_)
        obtain ⟨ua, uc, rfl, _, _⟩ := o5.form
        obtain ⟨PA, hZ, hoA⟩ := o5.permE
        refine HL.perm ?_ hZ
        have iM := (Imp.tail PA _).trans (Imp.tail PB E)
        repeat (first | refine op_ ?_ | refine bx_ (fun _ => ?_))
        refine ha_fork2 8 11 (by rfl) (by kernel_rfl) (by rfl) (by rfl) (by first | exact Imp.refl _ | exact Imp.drop (Imp.refl _) | exact Imp.drop (Imp.drop (Imp.refl _)) | exact Imp.drop (Imp.drop (Imp.drop (Imp.refl _))) | exact Imp.drop (Imp.drop (Imp.drop (Imp.drop (Imp.refl _)))) | exact Imp.drop (Imp.drop (Imp.drop (Imp.drop (Imp.drop (Imp.refl _))))) | exact Imp.drop (Imp.drop (Imp.drop (Imp.drop (Imp.drop (Imp.drop (Imp.refl _)))))) | exact Imp.drop (Imp.drop (Imp.drop (Imp.drop (Imp.drop (Imp.drop (Imp.drop (Imp.refl _))))))) | exact Imp.drop (Imp.drop (Imp.drop (Imp.drop (Imp.drop (Imp.drop (Imp.drop (Imp.drop (Imp.refl _)))))))) | assumption | exact Imp.drop (by assumption) | exact Imp.drop (Imp.drop (by assumption)) | exact imp_nil _ | exact Imp.drop2 (Imp.refl _) | exact Imp.drop2 (Imp.drop2 (Imp.refl _)) | exact Imp.drop (Imp.drop2 (Imp.refl _))) ?_ ?_
        · skip
          refine hl_append_own (e := 52) (sz := 4) rfl rfl (hoA (PB ++ E)) (cB.rd.weak fun w hw => (iM.trans iE) _ _ _ hw) cB.eq rfl (by decide) (by omega) (by omega) rfl (fun v5 M5 o5 => ?_)
          obtain ⟨ua, uc, rfl, _, _⟩ := o5.form
          obtain ⟨PA, hZ, hoA⟩ := o5.permE
          refine HL.perm ?_ hZ
          have iM := (Imp.tail PA _).trans (Imp.tail PB E)
          repeat (first | refine op_ ?_ | refine bx_ (fun _ => ?_))
          refine ha_fork1 11 (by rfl) (by kernel_rfl) (by rfl) (by first | exact Imp.refl _ | exact Imp.drop (Imp.refl _) | exact Imp.drop (Imp.drop (Imp.refl _)) | exact Imp.drop (Imp.drop (Imp.drop (Imp.refl _))) | exact Imp.drop (Imp.drop (Imp.drop (Imp.drop (Imp.refl _)))) | exact Imp.drop (Imp.drop (Imp.drop (Imp.drop (Imp.drop (Imp.refl _))))) | exact Imp.drop (Imp.drop (Imp.drop (Imp.drop (Imp.drop (Imp.drop (Imp.refl _)))))) | exact Imp.drop (Imp.drop (Imp.drop (Imp.drop (Imp.drop (Imp.drop (Imp.drop (Imp.refl _))))))) | exact Imp.drop (Imp.drop (Imp.drop (Imp.drop (Imp.drop (Imp.drop (Imp.drop (Imp.drop (Imp.refl _)))))))) | assumption | exact Imp.drop (by assumption) | exact Imp.drop (Imp.drop (by assumption)) | exact imp_nil _ | exact Imp.drop2 (Imp.refl _) | exact Imp.drop2 (Imp.drop2 (Imp.refl _)) | exact Imp.drop (Imp.drop2 (Imp.refl _))) ?_
          · skip
            refine bx_ (fun g3 => ?_)
            have hoB : ∀ F, Own 58 4 (.slice (some ⟨g3, 0, none⟩) 1 1) 1 (dcC S.D (.slice ka' (S.D.F.flat 0).length kc')) F ([⟨g3, 58, dcC S.D (.slice ka' (S.D.F.flat 0).length kc'), 1 * 4⟩] ++ F) := fun F => Own.mk (by omega) (by omega) rfl (List.Perm.refl _)
            obtain ⟨PB', hPB'⟩ : ∃ P : List Ent, P = [⟨g3, 58, dcC S.D (.slice ka' (S.D.F.flat 0).length kc'), 1 * 4⟩] := ⟨_, rfl⟩
            rw [← hPB'] at hoB
            refine HL.imp (H' := PA ++ (PB' ++ E)) ?_ (by rw [hPB']; exact Imp.perm (app_swap [_] PA (PB ++ E)) (Imp.sub (List.Sublist.append (List.Sublist.refl PA) (List.Sublist.cons_cons _ (List.sublist_append_right PB E)))))
            clear hPB hPB'
            obtain ⟨PB, rfl⟩ : ∃ P, P = PB' := ⟨_, rfl⟩
            have iM := (Imp.tail PA _).trans (Imp.tail PB E)
            repeat (first | refine op_ ?_ | refine bx_ (fun _ => ?_))
            refine ha_fork1 14 (by rfl) (by kernel_rfl) (by rfl) (by first | exact Imp.refl _ | exact Imp.drop (Imp.refl _) | exact Imp.drop (Imp.drop (Imp.refl _)) | exact Imp.drop (Imp.drop (Imp.drop (Imp.refl _))) | exact Imp.drop (Imp.drop (Imp.drop (Imp.drop (Imp.refl _)))) | exact Imp.drop (Imp.drop (Imp.drop (Imp.drop (Imp.drop (Imp.refl _))))) | exact Imp.drop (Imp.drop (Imp.drop (Imp.drop (Imp.drop (Imp.drop (Imp.refl _)))))) | exact Imp.drop (Imp.drop (Imp.drop (Imp.drop (Imp.drop (Imp.drop (Imp.drop (Imp.refl _))))))) | exact Imp.drop (Imp.drop (Imp.drop (Imp.drop (Imp.drop (Imp.drop (Imp.drop (Imp.drop (Imp.refl _)))))))) | assumption | exact Imp.drop (by assumption) | exact Imp.drop (Imp.drop (by assumption)) | exact imp_nil _ | exact Imp.drop2 (Imp.refl _) | exact Imp.drop2 (Imp.drop2 (Imp.refl _)) | exact Imp.drop (Imp.drop2 (Imp.refl _))) ?_
            · skip
              refine HL.perm ?_ (app_swap PA PB E)
              refine hl_append_own (e := 58) (sz := 4) rfl rfl (hoB (PA ++ E)) (cA'.rd.weak fun w hw => (((Imp.tail PB _).trans (Imp.tail PA E)).trans iE) _ _ _ hw) cA'.eq rfl (by decide) (by omega) (by omega) rfl (fun v5 M5 o5 => ?_)
              obtain ⟨va, vc, rfl, _, _⟩ := o5.form
              obtain ⟨PB, hZ, hoB⟩ := o5.permE
              refine HL.perm ?_ (hZ.trans (app_swap PB PA E))
              have iM := (Imp.tail PA _).trans (Imp.tail PB E)
              repeat (first | refine op_ ?_ | refine bx_ (fun _ => ?_))
              refine ha_fork1 17 (by rfl) (by kernel_rfl) (by rfl) (by first | exact Imp.refl _ | exact Imp.drop (Imp.refl _) | exact Imp.drop (Imp.drop (Imp.refl _)) | exact Imp.drop (Imp.drop (Imp.drop (Imp.refl _))) | exact Imp.drop (Imp.drop (Imp.drop (Imp.drop (Imp.refl _)))) | exact Imp.drop (Imp.drop (Imp.drop (Imp.drop (Imp.drop (Imp.refl _))))) | exact Imp.drop (Imp.drop (Imp.drop (Imp.drop (Imp.drop (Imp.drop (Imp.refl _)))))) | exact Imp.drop (Imp.drop (Imp.drop (Imp.drop (Imp.drop (Imp.drop (Imp.drop (Imp.refl _))))))) | exact Imp.drop (Imp.drop (Imp.drop (Imp.drop (Imp.drop (Imp.drop (Imp.drop (Imp.drop (Imp.refl _)))))))) | assumption | exact Imp.drop (by assumption) | exact Imp.drop (Imp.drop (by assumption)) | exact imp_nil _ | exact Imp.drop2 (Imp.refl _) | exact Imp.drop2 (Imp.drop2 (Imp.refl _)) | exact Imp.drop (Imp.drop2 (Imp.refl _))) ?_
              · skip
                refine HL.perm ?_ (app_swap PA PB E)
                refine hl_append_own (e := 58) (sz := 4) rfl rfl (hoB (PA ++ E)) (cB'.rd.weak fun w hw => (((Imp.tail PB _).trans (Imp.tail PA E)).trans iE) _ _ _ hw) cB'.eq rfl (by decide) (by omega) (by omega) rfl (fun v5 M5 o5 => ?_)
                obtain ⟨va, vc, rfl, _, _⟩ := o5.form
                obtain ⟨PB, hZ, hoB⟩ := o5.permE
                refine HL.perm ?_ (hZ.trans (app_swap PB PA E))
                have iM := (Imp.tail PA _).trans (Imp.tail PB E)
                repeat (first | refine op_ ?_ | refine bx_ (fun _ => ?_))
                refine ha_quiet [18, 19] (by rfl) (by kernel_rfl) ?_
                repeat (first | refine hl_loadN (i := 0) (n := 4) (vs := dcC S.D (.slice ka S.D.F.len kc)) rfl ts rfl rfl rfl ?_ | refine hl_loadN (i := 0) (n := 4) (vs := dcC S.D (.slice ka' (S.D.F.flat 0).length kc')) rfl tr rfl rfl rfl ?_ | refine hl_load1 rfl ts rfl rfl ?_ | refine hl_load1 rfl tr rfl rfl ?_ | refine gd1_ ?_)
                refine ha_end (by rfl) (by kernel_rfl) (by first | exact Imp.refl _ | exact Imp.drop (Imp.refl _) | exact Imp.drop (Imp.drop (Imp.refl _)) | exact Imp.drop (Imp.drop (Imp.drop (Imp.refl _))) | exact Imp.drop (Imp.drop (Imp.drop (Imp.drop (Imp.refl _)))) | exact Imp.drop (Imp.drop (Imp.drop (Imp.drop (Imp.drop (Imp.refl _))))) | exact Imp.drop (Imp.drop (Imp.drop (Imp.drop (Imp.drop (Imp.drop (Imp.refl _)))))) | exact Imp.drop (Imp.drop (Imp.drop (Imp.drop (Imp.drop (Imp.drop (Imp.drop (Imp.refl _))))))) | exact Imp.drop (Imp.drop (Imp.drop (Imp.drop (Imp.drop (Imp.drop (Imp.drop (Imp.drop (Imp.refl _)))))))) | assumption | exact Imp.drop (by assumption) | exact Imp.drop (Imp.drop (by assumption)) | exact imp_nil _ | exact Imp.drop2 (Imp.refl _) | exact Imp.drop2 (Imp.drop2 (Imp.refl _)) | exact Imp.drop (Imp.drop2 (Imp.refl _))) ?_
                exact ⟨ua, uc, va, vc, PA, PB, hoA, hoB, Imp.refl _, rfl, rfl, rfl, rfl, trivial⟩
        · skip
          refine bx_ (fun g3 => ?_)
          have hoB : ∀ F, Own 58 4 (.slice (some ⟨g3, 0, none⟩) 1 1) 1 (dcC S.D (.slice ka' (S.D.F.flat 0).length kc')) F ([⟨g3, 58, dcC S.D (.slice ka' (S.D.F.flat 0).length kc'), 1 * 4⟩] ++ F) := fun F => Own.mk (by omega) (by omega) rfl (List.Perm.refl _)
          obtain ⟨PB', hPB'⟩ : ∃ P : List Ent, P = [⟨g3, 58, dcC S.D (.slice ka' (S.D.F.flat 0).length kc'), 1 * 4⟩] := ⟨_, rfl⟩
          rw [← hPB'] at hoB
          refine HL.imp (H' := PA ++ (PB' ++ E)) ?_ (by rw [hPB']; exact Imp.perm (app_swap [_] PA (PB ++ E)) (Imp.sub (List.Sublist.append (List.Sublist.refl PA) (List.Sublist.cons_cons _ (List.sublist_append_right PB E)))))
          clear hPB hPB'
          obtain ⟨PB, rfl⟩ : ∃ P, P = PB' := ⟨_, rfl⟩
          have iM := (Imp.tail PA _).trans (Imp.tail PB E)
          repeat (first | refine op_ ?_ | refine bx_ (fun _ => ?_))
          refine ha_fork1 8 (by rfl) (by kernel_rfl) (by rfl) (by first | exact Imp.refl _ | exact Imp.drop (Imp.refl _) | exact Imp.drop (Imp.drop (Imp.refl _)) | exact Imp.drop (Imp.drop (Imp.drop (Imp.refl _))) | exact Imp.drop (Imp.drop (Imp.drop (Imp.drop (Imp.refl _)))) | exact Imp.drop (Imp.drop (Imp.drop (Imp.drop (Imp.drop (Imp.refl _))))) | exact Imp.drop (Imp.drop (Imp.drop (Imp.drop (Imp.drop (Imp.drop (Imp.refl _)))))) | exact Imp.drop (Imp.drop (Imp.drop (Imp.drop (Imp.drop (Imp.drop (Imp.drop (Imp.refl _))))))) | exact Imp.drop (Imp.drop (Imp.drop (Imp.drop (Imp.drop (Imp.drop (Imp.drop (Imp.drop (Imp.refl _)))))))) | assumption | exact Imp.drop (by assumption) | exact Imp.drop (Imp.drop (by assumption)) | exact imp_nil _ | exact Imp.drop2 (Imp.refl _) | exact Imp.drop2 (Imp.drop2 (Imp.refl _)) | exact Imp.drop (Imp.drop2 (Imp.refl _))) ?_
          · skip
            refine hl_append_own (e := 52) (sz := 4) rfl rfl (hoA (PB ++ E)) (cB.rd.weak fun w hw => (iM.trans iE) _ _ _ hw) cB.eq rfl (by decide) (by omega) (by omega) rfl (fun v5 M5 o5 => ?_)
            obtain ⟨ua, uc, rfl, _, _⟩ := o5.form
            obtain ⟨PA, hZ, hoA⟩ := o5.permE
            refine HL.perm ?_ hZ
            have iM := (Imp.tail PA _).trans (Imp.tail PB E)
            repeat (first | refine op_ ?_ | refine bx_ (fun _ => ?_))
            refine ha_fork1 14 (by rfl) (by kernel_rfl) (by rfl) (by first | exact Imp.refl _ | exact Imp.drop (Imp.refl _) | exact Imp.drop (Imp.drop (Imp.refl _)) | exact Imp.drop (Imp.drop (Imp.drop (Imp.refl _))) | exact Imp.drop (Imp.drop (Imp.drop (Imp.drop (Imp.refl _)))) | exact Imp.drop (Imp.drop (Imp.drop (Imp.drop (Imp.drop (Imp.refl _))))) | exact Imp.drop (Imp.drop (Imp.drop (Imp.drop (Imp.drop (Imp.drop (Imp.refl _)))))) | exact Imp.drop (Imp.drop (Imp.drop (Imp.drop (Imp.drop (Imp.drop (Imp.drop (Imp.refl _))))))) | exact Imp.drop (Imp.drop (Imp.drop (Imp.drop (Imp.drop (Imp.drop (Imp.drop (Imp.drop (Imp.refl _)))))))) | assumption | exact Imp.drop (by assumption) | exact Imp.drop (Imp.drop (by assumption)) | exact imp_nil _ | exact Imp.drop2 (Imp.refl _) | exact Imp.drop2 (Imp.drop2 (Imp.refl _)) | exact Imp.drop (Imp.drop2 (Imp.refl _))) ?_
            · skip
              refine HL.perm ?_ (app_swap PA PB E)
              refine hl_append_own (e := 58) (sz := 4) rfl rfl (hoB (PA ++ E)) (cA'.rd.weak fun w hw => (((Imp.tail PB _).trans (Imp.tail PA E)).trans iE) _ _ _ hw) cA'.eq rfl (by decide) (by omega) (by omega) rfl (fun v5 M5 o5 => ?_)
              obtain ⟨va, vc, rfl, _, _⟩ := o5.form
              obtain ⟨PB, hZ, hoB⟩ := o5.permE
              refine HL.perm ?_ (hZ.trans (app_swap PB PA E))
              have iM := (Imp.tail PA _).trans (Imp.tail PB E)
              repeat (first | refine op_ ?_ | refine bx_ (fun _ => ?_))
              refine ha_fork1 17 (by rfl) (by kernel_rfl) (by rfl) (by first | exact Imp.refl _ | exact Imp.drop (Imp.refl _) | exact Imp.drop (Imp.drop (Imp.refl _)) | exact Imp.drop (Imp.drop (Imp.drop (Imp.refl _))) | exact Imp.drop (Imp.drop (Imp.drop (Imp.drop (Imp.refl _)))) | exact Imp.drop (Imp.drop (Imp.drop (Imp.drop (Imp.drop (Imp.refl _))))) | exact Imp.drop (Imp.drop (Imp.drop (Imp.drop (Imp.drop (Imp.drop (Imp.refl _)))))) | exact Imp.drop (Imp.drop (Imp.drop (Imp.drop (Imp.drop (Imp.drop (Imp.drop (Imp.refl _))))))) | exact Imp.drop (Imp.drop (Imp.drop (Imp.drop (Imp.drop (Imp.drop (Imp.drop (Imp.drop (Imp.refl _)))))))) | assumption | exact Imp.drop (by assumption) | exact Imp.drop (Imp.drop (by assumption)) | exact imp_nil _ | exact Imp.drop2 (Imp.refl _) | exact Imp.drop2 (Imp.drop2 (Imp.refl _)) | exact Imp.drop (Imp.drop2 (Imp.refl _))) ?_
              · skip
                refine HL.perm ?_ (app_swap PA PB E)
                refine hl_append_own (e := 58) (sz := 4) rfl rfl (hoB (PA ++ E)) (cB'.rd.weak fun w hw => (((Imp.tail PB _).trans (Imp.tail PA E)).trans iE) _ _ _ hw) cB'.eq rfl (by decide) (by omega) (by omega) rfl (fun v5 M5 o5 => ?_)
                obtain ⟨va, vc, rfl, _, _⟩ := o5.form
                obtain ⟨PB, hZ, hoB⟩ := o5.permE
                refine HL.perm ?_ (hZ.trans (app_swap PB PA E))
                have iM := (Imp.tail PA _).trans (Imp.tail PB E)
                repeat (first | refine op_ ?_ | refine bx_ (fun _ => ?_))
                refine ha_quiet [18, 19] (by rfl) (by kernel_rfl) ?_
                repeat (first | refine hl_loadN (i := 0) (n := 4) (vs := dcC S.D (.slice ka S.D.F.len kc)) rfl ts rfl rfl rfl ?_ | refine hl_loadN (i := 0) (n := 4) (vs := dcC S.D (.slice ka' (S.D.F.flat 0).length kc')) rfl tr rfl rfl rfl ?_ | refine hl_load1 rfl ts rfl rfl ?_ | refine hl_load1 rfl tr rfl rfl ?_ | refine gd1_ ?_)
                refine ha_end (by rfl) (by kernel_rfl) (by first | exact Imp.refl _ | exact Imp.drop (Imp.refl _) | exact Imp.drop (Imp.drop (Imp.refl _)) | exact Imp.drop (Imp.drop (Imp.drop (Imp.refl _))) | exact Imp.drop (Imp.drop (Imp.drop (Imp.drop (Imp.refl _)))) | exact Imp.drop (Imp.drop (Imp.drop (Imp.drop (Imp.drop (Imp.refl _))))) | exact Imp.drop (Imp.drop (Imp.drop (Imp.drop (Imp.drop (Imp.drop (Imp.refl _)))))) | exact Imp.drop (Imp.drop (Imp.drop (Imp.drop (Imp.drop (Imp.drop (Imp.drop (Imp.refl _))))))) | exact Imp.drop (Imp.drop (Imp.drop (Imp.drop (Imp.drop (Imp.drop (Imp.drop (Imp.drop (Imp.refl _)))))))) | assumption | exact Imp.drop (by assumption) | exact Imp.drop (Imp.drop (by assumption)) | exact imp_nil _ | exact Imp.drop2 (Imp.refl _) | exact Imp.drop2 (Imp.drop2 (Imp.refl _)) | exact Imp.drop (Imp.drop2 (Imp.refl _))) ?_
                exact ⟨ua, uc, va, vc, PA, PB, hoA, hoB, Imp.refl _, rfl, rfl, rfl, rfl, trivial⟩
      · skip
        refine bx_ (fun g3 => ?_)
        have hoB : ∀ F, Own 58 4 (.slice (some ⟨g3, 0, none⟩) 1 1) 1 (dcC S.D (.slice ka' (S.D.F.flat 0).length kc')) F ([⟨g3, 58, dcC S.D (.slice ka' (S.D.F.flat 0).length kc'), 1 * 4⟩] ++ F) := fun F => Own.mk (by omega) (by omega) rfl (List.Perm.refl _)
        obtain ⟨PB', hPB'⟩ : ∃ P : List Ent, P = [⟨g3, 58, dcC S.D (.slice ka' (S.D.F.flat 0).length kc'), 1 * 4⟩] := ⟨_, rfl⟩
        rw [← hPB'] at hoB
        refine HL.imp (H' := PA ++ (PB' ++ E)) ?_ (by rw [hPB']; exact Imp.perm (app_swap [_] PA (PB ++ E)) (Imp.sub (List.Sublist.append (List.Sublist.refl PA) (List.Sublist.cons_cons _ (List.sublist_append_right PB E)))))
        clear hPB hPB'
        obtain ⟨PB, rfl⟩ : ∃ P, P = PB' := ⟨_, rfl⟩
        have iM := (Imp.tail PA _).trans (Imp.tail PB E)
        repeat (first | refine op_ ?_ | refine bx_ (fun _ => ?_))
        refine ha_fork1 5 (by rfl) (by kernel_rfl) (by rfl) (by first | exact Imp.refl _ | exact Imp.drop (Imp.refl _) | exact Imp.drop (Imp.drop (Imp.refl _)) | exact Imp.drop (Imp.drop (Imp.drop (Imp.refl _))) | exact Imp.drop (Imp.drop (Imp.drop (Imp.drop (Imp.refl _)))) | exact Imp.drop (Imp.drop (Imp.drop (Imp.drop (Imp.drop (Imp.refl _))))) | exact Imp.drop (Imp.drop (Imp.drop (Imp.drop (Imp.drop (Imp.drop (Imp.refl _)))))) | exact Imp.drop (Imp.drop (Imp.drop (Imp.drop (Imp.drop (Imp.drop (Imp.drop (Imp.refl _))))))) | exact Imp.drop (Imp.drop (Imp.drop (Imp.drop (Imp.drop (Imp.drop (Imp.drop (Imp.drop (Imp.refl _)))))))) | assumption | exact Imp.drop (by assumption) | exact Imp.drop (Imp.drop (by assumption)) | exact imp_nil _ | exact Imp.drop2 (Imp.refl _) | exact Imp.drop2 (Imp.drop2 (Imp.refl _)) | exact Imp.drop (Imp.drop2 (Imp.refl _))) ?_
        · skip
          refine hl_append_own (e := 52) (sz := 4) rfl rfl (hoA (PB ++ E)) (cA.rd.weak fun w hw => (iM.trans iE) _ _ _ hw) cA.eq rfl (by decide) (by omega) (by omega) rfl (fun v5 M5 o5 => ?_)
          obtain ⟨ua, uc, rfl, _, _⟩ := o5.form
          obtain ⟨PA, hZ, hoA⟩ := o5.permE
          refine HL.perm ?_ hZ
          have iM := (Imp.tail PA _).trans (Imp.tail PB E)
          repeat (first | refine op_ ?_ | refine bx_ (fun _ => ?_))
          refine ha_fork1 8 (by rfl) (by kernel_rfl) (by rfl) (by first | exact Imp.refl _ | exact Imp.drop (Imp.refl _) | exact Imp.drop (Imp.drop (Imp.refl _)) | exact Imp.drop (Imp.drop (Imp.drop (Imp.refl _))) | exact Imp.drop (Imp.drop (Imp.drop (Imp.drop (Imp.refl _)))) | exact Imp.drop (Imp.drop (Imp.drop (Imp.drop (Imp.drop (Imp.refl _))))) | exact Imp.drop (Imp.drop (Imp.drop (Imp.drop (Imp.drop (Imp.drop (Imp.refl _)))))) | exact Imp.drop (Imp.drop (Imp.drop (Imp.drop (Imp.drop (Imp.drop (Imp.drop (Imp.refl _))))))) | exact Imp.drop (Imp.drop (Imp.drop (Imp.drop (Imp.drop (Imp.drop (Imp.drop (Imp.drop (Imp.refl _)))))))) | assumption | exact Imp.drop (by assumption) | exact Imp.drop (Imp.drop (by assumption)) | exact imp_nil _ | exact Imp.drop2 (Imp.refl _) | exact Imp.drop2 (Imp.drop2 (Imp.refl _)) | exact Imp.drop (Imp.drop2 (Imp.refl _))) ?_
          · skip
            refine hl_append_own (e := 52) (sz := 4) rfl rfl (hoA (PB ++ E)) (cB.rd.weak fun w hw => (iM.trans iE) _ _ _ hw) cB.eq rfl (by decide) (by omega) (by omega) rfl (fun v5 M5 o5 => ?_)
            obtain ⟨ua, uc, rfl, _, _⟩ := o5.form
            obtain ⟨PA, hZ, hoA⟩ := o5.permE
            refine HL.perm ?_ hZ
            have iM := (Imp.tail PA _).trans (Imp.tail PB E)
            repeat (first | refine op_ ?_ | refine bx_ (fun _ => ?_))
            refine ha_fork1 14 (by rfl) (by kernel_rfl) (by rfl) (by first | exact Imp.refl _ | exact Imp.drop (Imp.refl _) | exact Imp.drop (Imp.drop (Imp.refl _)) | exact Imp.drop (Imp.drop (Imp.drop (Imp.refl _))) | exact Imp.drop (Imp.drop (Imp.drop (Imp.drop (Imp.refl _)))) | exact Imp.drop (Imp.drop (Imp.drop (Imp.drop (Imp.drop (Imp.refl _))))) | exact Imp.drop (Imp.drop (Imp.drop (Imp.drop (Imp.drop (Imp.drop (Imp.refl _)))))) | exact Imp.drop (Imp.drop (Imp.drop (Imp.drop (Imp.drop (Imp.drop (Imp.drop (Imp.refl _))))))) | exact Imp.drop (Imp.drop (Imp.drop (Imp.drop (Imp.drop (Imp.drop (Imp.drop (Imp.drop (Imp.refl _)))))))) | assumption | exact Imp.drop (by assumption) | exact Imp.drop (Imp.drop (by assumption)) | exact imp_nil _ | exact Imp.drop2 (Imp.refl _) | exact Imp.drop2 (Imp.drop2 (Imp.refl _)) | exact Imp.drop (Imp.drop2 (Imp.refl _))) ?_
            · skip
              refine HL.perm ?_ (app_swap PA PB E)
              refine hl_append_own (e := 58) (sz := 4) rfl rfl (hoB (PA ++ E)) (cA'.rd.weak fun w hw => (((Imp.tail PB _).trans (Imp.tail PA E)).trans iE) _ _ _ hw) cA'.eq rfl (by decide) (by omega) (by omega) rfl (fun v5 M5 o5 => ?_)
              obtain ⟨va, vc, rfl, _, _⟩ := o5.form
              obtain ⟨PB, hZ, hoB⟩ := o5.permE
              refine HL.perm ?_ (hZ.trans (app_swap PB PA E))
              have iM := (Imp.tail PA _).trans (Imp.tail PB E)
              repeat (first | refine op_ ?_ | refine bx_ (fun _ => ?_))
              refine ha_fork1 17 (by rfl) (by kernel_rfl) (by rfl) (by first | exact Imp.refl _ | exact Imp.drop (Imp.refl _) | exact Imp.drop (Imp.drop (Imp.refl _)) | exact Imp.drop (Imp.drop (Imp.drop (Imp.refl _))) | exact Imp.drop (Imp.drop (Imp.drop (Imp.drop (Imp.refl _)))) | exact Imp.drop (Imp.drop (Imp.drop (Imp.drop (Imp.drop (Imp.refl _))))) | exact Imp.drop (Imp.drop (Imp.drop (Imp.drop (Imp.drop (Imp.drop (Imp.refl _)))))) | exact Imp.drop (Imp.drop (Imp.drop (Imp.drop (Imp.drop (Imp.drop (Imp.drop (Imp.refl _))))))) | exact Imp.drop (Imp.drop (Imp.drop (Imp.drop (Imp.drop (Imp.drop (Imp.drop (Imp.drop (Imp.refl _)))))))) | assumption | exact Imp.drop (by assumption) | exact Imp.drop (Imp.drop (by assumption)) | exact imp_nil _ | exact Imp.drop2 (Imp.refl _) | exact Imp.drop2 (Imp.drop2 (Imp.refl _)) | exact Imp.drop (Imp.drop2 (Imp.refl _))) ?_
              · skip
                refine HL.perm ?_ (app_swap PA PB E)
                refine hl_append_own (e := 58) (sz := 4) rfl rfl (hoB (PA ++ E)) (cB'.rd.weak fun w hw => (((Imp.tail PB _).trans (Imp.tail PA E)).trans iE) _ _ _ hw) cB'.eq rfl (by decide) (by omega) (by omega) rfl (fun v5 M5 o5 => ?_)
                obtain ⟨va, vc, rfl, _, _⟩ := o5.form
                obtain ⟨PB, hZ, hoB⟩ := o5.permE
                refine HL.perm ?_ (hZ.trans (app_swap PB PA E))
                have iM := (Imp.tail PA _).trans (Imp.tail PB E)
                repeat (first | refine op_ ?_ | refine bx_ (fun _ => ?_))
                refine ha_quiet [18, 19] (by rfl) (by kernel_rfl) ?_
                repeat (first | refine hl_loadN (i := 0) (n := 4) (vs := dcC S.D (.slice ka S.D.F.len kc)) rfl ts rfl rfl rfl ?_ | refine hl_loadN (i := 0) (n := 4) (vs := dcC S.D (.slice ka' (S.D.F.flat 0).length kc')) rfl tr rfl rfl rfl ?_ | refine hl_load1 rfl ts rfl rfl ?_ | refine hl_load1 rfl tr rfl rfl ?_ | refine gd1_ ?_)
                refine ha_end (by rfl) (by kernel_rfl) (by first | exact Imp.refl _ | exact Imp.drop (Imp.refl _) | exact Imp.drop (Imp.drop (Imp.refl _)) | exact Imp.drop (Imp.drop (Imp.drop (Imp.refl _))) | exact Imp.drop (Imp.drop (Imp.drop (Imp.drop (Imp.refl _)))) | exact Imp.drop (Imp.drop (Imp.drop (Imp.drop (Imp.drop (Imp.refl _))))) | exact Imp.drop (Imp.drop (Imp.drop (Imp.drop (Imp.drop (Imp.drop (Imp.refl _)))))) | exact Imp.drop (Imp.drop (Imp.drop (Imp.drop (Imp.drop (Imp.drop (Imp.drop (Imp.refl _))))))) | exact Imp.drop (Imp.drop (Imp.drop (Imp.drop (Imp.drop (Imp.drop (Imp.drop (Imp.drop (Imp.refl _)))))))) | assumption | exact Imp.drop (by assumption) | exact Imp.drop (Imp.drop (by assumption)) | exact imp_nil _ | exact Imp.drop2 (Imp.refl _) | exact Imp.drop2 (Imp.drop2 (Imp.refl _)) | exact Imp.drop (Imp.drop2 (Imp.refl _))) ?_
                exact ⟨ua, uc, va, vc, PA, PB, hoA, hoB, Imp.refl _, rfl, rfl, rfl, rfl, trivial⟩
    · skip
      refine bx_ (fun g3 => ?_)
      have hoB : ∀ F, Own 58 4 (.slice (some ⟨g3, 0, none⟩) 1 1) 1 (dcC S.D (.slice ka' (S.D.F.flat 0).length kc')) F ([⟨g3, 58, dcC S.D (.slice ka' (S.D.F.flat 0).length kc'), 1 * 4⟩] ++ F) := fun F => Own.mk (by omega) (by omega) rfl (List.Perm.refl _)
      obtain ⟨PB', hPB'⟩ : ∃ P : List Ent, P = [⟨g3, 58, dcC S.D (.slice ka' (S.D.F.flat 0).length kc'), 1 * 4⟩] := ⟨_, rfl⟩
      rw [← hPB'] at hoB
      refine HL.imp (H' := PA ++ (PB' ++ E)) ?_ (by rw [hPB']; exact Imp.perm (app_swap [_] PA (PB ++ E)) (Imp.sub (List.Sublist.append (List.Sublist.refl PA) (List.Sublist.cons_cons _ (List.sublist_append_right PB E)))))
      clear hPB hPB'
      obtain ⟨PB, rfl⟩ : ∃ P, P = PB' := ⟨_, rfl⟩
      have iM := (Imp.tail PA _).trans (Imp.tail PB E)
      repeat (first | refine op_ ?_ | refine bx_ (fun _ => ?_))
      refine ha_fork1 2 (by rfl) (by kernel_rfl) (by rfl) (by first | exact Imp.refl _ | exact Imp.drop (Imp.refl _) | exact Imp.drop (Imp.drop (Imp.refl _)) | exact Imp.drop (Imp.drop (Imp.drop (Imp.refl _))) | exact Imp.drop (Imp.drop (Imp.drop (Imp.drop (Imp.refl _)))) | exact Imp.drop (Imp.drop (Imp.drop (Imp.drop (Imp.drop (Imp.refl _))))) | exact Imp.drop (Imp.drop (Imp.drop (Imp.drop (Imp.drop (Imp.drop (Imp.refl _)))))) | exact Imp.drop (Imp.drop (Imp.drop (Imp.drop (Imp.drop (Imp.drop (Imp.drop (Imp.refl _))))))) | exact Imp.drop (Imp.drop (Imp.drop (Imp.drop (Imp.drop (Imp.drop (Imp.drop (Imp.drop (Imp.refl _)))))))) | assumption | exact Imp.drop (by assumption) | exact Imp.drop (Imp.drop (by assumption)) | exact imp_nil _ | exact Imp.drop2 (Imp.refl _) | exact Imp.drop2 (Imp.drop2 (Imp.refl _)) | exact Imp.drop (Imp.drop2 (Imp.refl _))) ?_
      · skip
        refine bx_ (fun g2 => ?_)
        have hoA : ∀ F, Own 52 4 (.slice (some ⟨g2, 0, none⟩) 1 1) 1 (dcC S.D (.slice ka S.D.F.len kc)) F ([⟨g2, 52, dcC S.D (.slice ka S.D.F.len kc), 1 * 4⟩] ++ F) := fun F => Own.mk (by omega) (by omega) rfl (List.Perm.refl _)
        obtain ⟨PA', hPA'⟩ : ∃ P : List Ent, P = [⟨g2, 52, dcC S.D (.slice ka S.D.F.len kc), 1 * 4⟩] := ⟨_, rfl⟩
        rw [← hPA'] at hoA
        refine HL.imp (H' := PA' ++ (PB ++ E)) ?_ (by rw [hPA']; exact Imp.sub (List.Sublist.cons_cons _ (List.sublist_append_right PA (PB ++ E))))
        clear hPA hPA'
        obtain ⟨PA, rfl⟩ : ∃ P, P = PA' := ⟨_, rfl⟩
        have iM := (Imp.tail PA _).trans (Imp.tail PB E)
        repeat (first | refine op_ ?_ | refine bx_ (fun _ => ?_))
        refine ha_fork1 5 (by rfl) (by kernel_rfl) (by rfl) (by first | exact Imp.refl _ | exact Imp.drop (Imp.refl _) | exact Imp.drop (Imp.drop (Imp.refl _)) | exact Imp.drop (Imp.drop (Imp.drop (Imp.refl _))) | exact Imp.drop (Imp.drop (Imp.drop (Imp.drop (Imp.refl _)))) | exact Imp.drop (Imp.drop (Imp.drop (Imp.drop (Imp.drop (Imp.refl _))))) | exact Imp.drop (Imp.drop (Imp.drop (Imp.drop (Imp.drop (Imp.drop (Imp.refl _)))))) | exact Imp.drop (Imp.drop (Imp.drop (Imp.drop (Imp.drop (Imp.drop (Imp.drop (Imp.refl _))))))) | exact Imp.drop (Imp.drop (Imp.drop (Imp.drop (Imp.drop (Imp.drop (Imp.drop (Imp.drop (Imp.refl _)))))))) | assumption | exact Imp.drop (by assumption) | exact Imp.drop (Imp.drop (by assumption)) | exact imp_nil _ | exact Imp.drop2 (Imp.refl _) | exact Imp.drop2 (Imp.drop2 (Imp.refl _)) | exact Imp.drop (Imp.drop2 (Imp.refl _))) ?_
        · skip
          refine hl_append_own (e := 52) (sz := 4) rfl rfl (hoA (PB ++ E)) (cA.rd.weak fun w hw => (iM.trans iE) _ _ _ hw) cA.eq rfl (by decide) (by omega) (by omega) rfl (fun v5 M5 o5 => ?_)
          obtain ⟨ua, uc, rfl, _, _⟩ := o5.form
          obtain ⟨PA, hZ, hoA⟩ := o5.permE
          refine HL.perm ?_ hZ
          have iM := (Imp.tail PA _).trans (Imp.tail PB E)
          repeat (first | refine op_ ?_ | refine bx_ (fun _ => ?_))
          refine ha_fork1 8 (by rfl) (by kernel_rfl) (by rfl) (by first | exact Imp.refl _ | exact Imp.drop (Imp.refl _) | exact Imp.drop (Imp.drop (Imp.refl _)) | exact Imp.drop (Imp.drop (Imp.drop (Imp.refl _))) | exact Imp.drop (Imp.drop (Imp.drop (Imp.drop (Imp.refl _)))) | exact Imp.drop (Imp.drop (Imp.drop (Imp.drop (Imp.drop (Imp.refl _))))) | exact Imp.drop (Imp.drop (Imp.drop (Imp.drop (Imp.drop (Imp.drop (Imp.refl _)))))) | exact Imp.drop (Imp.drop (Imp.drop (Imp.drop (Imp.drop (Imp.drop (Imp.drop (Imp.refl _))))))) | exact Imp.drop (Imp.drop (Imp.drop (Imp.drop (Imp.drop (Imp.drop (Imp.drop (Imp.drop (Imp.refl _)))))))) | assumption | exact Imp.drop (by assumption) | exact Imp.drop (Imp.drop (by assumption)) | exact imp_nil _ | exact Imp.drop2 (Imp.refl _) | exact Imp.drop2 (Imp.drop2 (Imp.refl _)) | exact Imp.drop (Imp.drop2 (Imp.refl _))) ?_
          · skip
            refine hl_append_own (e := 52) (sz := 4) rfl rfl (hoA (PB ++ E)) (cB.rd.weak fun w hw => (iM.trans iE) _ _ _ hw) cB.eq rfl (by decide) (by omega) (by omega) rfl (fun v5 M5 o5 => ?_)
            obtain ⟨ua, uc, rfl, _, _⟩ := o5.form
            obtain ⟨PA, hZ, hoA⟩ := o5.permE
            refine HL.perm ?_ hZ
            have iM := (Imp.tail PA _).trans (Imp.tail PB E)
            repeat (first | refine op_ ?_ | refine bx_ (fun _ => ?_))
            refine ha_fork1 14 (by rfl) (by kernel_rfl) (by rfl) (by first | exact Imp.refl _ | exact Imp.drop (Imp.refl _) | exact Imp.drop (Imp.drop (Imp.refl _)) | exact Imp.drop (Imp.drop (Imp.drop (Imp.refl _))) | exact Imp.drop (Imp.drop (Imp.drop (Imp.drop (Imp.refl _)))) | exact Imp.drop (Imp.drop (Imp.drop (Imp.drop (Imp.drop (Imp.refl _))))) | exact Imp.drop (Imp.drop (Imp.drop (Imp.drop (Imp.drop (Imp.drop (Imp.refl _)))))) | exact Imp.drop (Imp.drop (Imp.drop (Imp.drop (Imp.drop (Imp.drop (Imp.drop (Imp.refl _))))))) | exact Imp.drop (Imp.drop (Imp.drop (Imp.drop (Imp.drop (Imp.drop (Imp.drop (Imp.drop (Imp.refl _)))))))) | assumption | exact Imp.drop (by assumption) | exact Imp.drop (Imp.drop (by assumption)) | exact imp_nil _ | exact Imp.drop2 (Imp.refl _) | exact Imp.drop2 (Imp.drop2 (Imp.refl _)) | exact Imp.drop (Imp.drop2 (Imp.refl _))) ?_
            · skip
              refine HL.perm ?_ (app_swap PA PB E)
              refine hl_append_own (e := 58) (sz := 4) rfl rfl (hoB (PA ++ E)) (cA'.rd.weak fun w hw => (((Imp.tail PB _).trans (Imp.tail PA E)).trans iE) _ _ _ hw) cA'.eq rfl (by decide) (by omega) (by omega) rfl (fun v5 M5 o5 => ?_)
              obtain ⟨va, vc, rfl, _, _⟩ := o5.form
              obtain ⟨PB, hZ, hoB⟩ := o5.permE
              refine HL.perm ?_ (hZ.trans (app_swap PB PA E))
              have iM := (Imp.tail PA _).trans (Imp.tail PB E)
              repeat (first | refine op_ ?_ | refine bx_ (fun _ => ?_))
              refine ha_fork1 17 (by rfl) (by kernel_rfl) (by rfl) (by first | exact Imp.refl _ | exact Imp.drop (Imp.refl _) | exact Imp.drop (Imp.drop (Imp.refl _)) | exact Imp.drop (Imp.drop (Imp.drop (Imp.refl _))) | exact Imp.drop (Imp.drop (Imp.drop (Imp.drop (Imp.refl _)))) | exact Imp.drop (Imp.drop (Imp.drop (Imp.drop (Imp.drop (Imp.refl _))))) | exact Imp.drop (Imp.drop (Imp.drop (Imp.drop (Imp.drop (Imp.drop (Imp.refl _)))))) | exact Imp.drop (Imp.drop (Imp.drop (Imp.drop (Imp.drop (Imp.drop (Imp.drop (Imp.refl _))))))) | exact Imp.drop (Imp.drop (Imp.drop (Imp.drop (Imp.drop (Imp.drop (Imp.drop (Imp.drop (Imp.refl _)))))))) | assumption | exact Imp.drop (by assumption) | exact Imp.drop (Imp.drop (by assumption)) | exact imp_nil _ | exact Imp.drop2 (Imp.refl _) | exact Imp.drop2 (Imp.drop2 (Imp.refl _)) | exact Imp.drop (Imp.drop2 (Imp.refl _))) ?_
              · skip
                refine HL.perm ?_ (app_swap PA PB E)
                refine hl_append_own (e := 58) (sz := 4) rfl rfl (hoB (PA ++ E)) (cB'.rd.weak fun w hw => (((Imp.tail PB _).trans (Imp.tail PA E)).trans iE) _ _ _ hw) cB'.eq rfl (by decide) (by omega) (by omega) rfl (fun v5 M5 o5 => ?_)
                obtain ⟨va, vc, rfl, _, _⟩ := o5.form
                obtain ⟨PB, hZ, hoB⟩ := o5.permE
                refine HL.perm ?_ (hZ.trans (app_swap PB PA E))
                have iM := (Imp.tail PA _).trans (Imp.tail PB E)
                repeat (first | refine op_ ?_ | refine bx_ (fun _ => ?_))
                refine ha_quiet [18, 19] (by rfl) (by kernel_rfl) ?_
                repeat (first | refine hl_loadN (i := 0) (n := 4) (vs := dcC S.D (.slice ka S.D.F.len kc)) rfl ts rfl rfl rfl ?_ | refine hl_loadN (i := 0) (n := 4) (vs := dcC S.D (.slice ka' (S.D.F.flat 0).length kc')) rfl tr rfl rfl rfl ?_ | refine hl_load1 rfl ts rfl rfl ?_ | refine hl_load1 rfl tr rfl rfl ?_ | refine gd1_ ?_)
                refine ha_end (by rfl) (by kernel_rfl) (by first | exact Imp.refl _ | exact Imp.drop (Imp.refl _) | exact Imp.drop (Imp.drop (Imp.refl _)) | exact Imp.drop (Imp.drop (Imp.drop (Imp.refl _))) | exact Imp.drop (Imp.drop (Imp.drop (Imp.drop (Imp.refl _)))) | exact Imp.drop (Imp.drop (Imp.drop (Imp.drop (Imp.drop (Imp.refl _))))) | exact Imp.drop (Imp.drop (Imp.drop (Imp.drop (Imp.drop (Imp.drop (Imp.refl _)))))) | exact Imp.drop (Imp.drop (Imp.drop (Imp.drop (Imp.drop (Imp.drop (Imp.drop (Imp.refl _))))))) | exact Imp.drop (Imp.drop (Imp.drop (Imp.drop (Imp.drop (Imp.drop (Imp.drop (Imp.drop (Imp.refl _)))))))) | assumption | exact Imp.drop (by assumption) | exact Imp.drop (Imp.drop (by assumption)) | exact imp_nil _ | exact Imp.drop2 (Imp.refl _) | exact Imp.drop2 (Imp.drop2 (Imp.refl _)) | exact Imp.drop (Imp.drop2 (Imp.refl _))) ?_
                exact ⟨ua, uc, va, vc, PA, PB, hoA, hoB, Imp.refl _, rfl, rfl, rfl, rfl, trivial⟩
  rintro fr M ⟨ua, uc, va, vc, PA, PB, hoA, hoB, him, hf⟩
  obtain ⟨base, rfl⟩ := hf.out
  clear hf
  refine HC.imp ?_ him
  clear him M
  obtain ⟨R1, hR1⟩ : ∃ R1, R1 = PA ++ (PB ++ E) := ⟨_, rfl⟩
  have nA : CsR w0 B R1 ua (1 + S.A.length + S.B.length) 4 ((dcC S.D (.slice ka S.D.F.len kc) ++ CA) ++ CB) := by rw [hR1]; exact CsR.own (hoA _) dA.one
  have nB : CsR w0 B R1 va (1 + S.A.length + S.B.length) 4 ((dcC S.D (.slice ka' (S.D.F.flat 0).length kc') ++ CA') ++ CB') := by rw [hR1]; exact (CsR.own (hoB _) dB.one).imp (Imp.tail PA _)
  have iR1 : Imp R1 H := by rw [hR1]; exact (Imp.tail PA _).trans ((Imp.tail PB _).trans iE)
  have t1 := Take.app PA (Take.app PB tr)
  have t2 := Take.app PA (Take.app PB ts)
  rw [← hR1] at t1 t2
  rw [← hR1]
  rw [← hLl] at nA nB ⊢
  generalize hCA : (dcC S.D (.slice ka S.D.F.len kc) ++ CA) ++ CB = CU at *
  generalize hCB : (dcC S.D (.slice ka' (S.D.F.flat 0).length kc') ++ CA') ++ CB' = CV at *
  repeat (first | refine hl_load1 rfl t1 rfl rfl ?_ | refine hl_load1 rfl t2 rfl rfl ?_ | refine go1_ ?_ | refine bx_ (fun _ => ?_))
  refine hc_loopd (fun q fr M => ∃ (G : List Dc) (j : Nat) (U V : List Value), j + G.length = LA.length ∧ q = G.length ∧ CU.drop (j * 4) = U ∧ CV.drop (j * 4) = V ∧ DsC w0 B H G U ∧ RdsC w0 B H G V ∧ (∀ D ∈ G, D ∈ S.D :: (S.A ++ S.B)) ∧ Imp M R1 ∧ Agr fr [(6, .slice va LA.length vc), (41, .slice ua LA.length uc), (42, .int .i64 (LA.length : Int)), (43, .int .i64 (j : Int))]) LA.length ?_ ?_
  · exact ⟨LA, 0, CU, CV, by omega, rfl, by simp, by simp, dA, dB, fun D hD => by rw [hLA] at hD; simpa using hD, Imp.refl _, rfl, rfl, rfl, rfl, trivial⟩
  rintro q fr M ⟨G, j, U, V, hj, rfl, hU, hV, dU, dV, hm, hi, hf⟩
  obtain ⟨base, rfl⟩ := hf.out
  clear hf
  refine HC.imp ?_ hi
  clear hi M
  cases G with
  | nil =>
    rw [List.length_nil] at hj
    repeat (first | refine go_ ?_ | refine bx_ (fun _ => ?_))
    exact fin1B rfl rfl ⟨rfl, rfl⟩ iR1
  | cons d r =>
    rw [List.length_cons] at hj
    obtain ⟨kv, C', rfl, hk, hr⟩ := dU
    obtain ⟨lv, C2', rfl, hk', hr'⟩ := dV
    obtain ⟨da, dc, rfl⟩ := hk.form
    obtain ⟨da', dc', rfl⟩ := hk'.form
    obtain ⟨hcell, hnx⟩ := dropN hU rfl
    obtain ⟨hcell', hnx'⟩ := dropN hV rfl
    obtain ⟨bb, off, rfl⟩ := nA.pos (by omega)
    obtain ⟨bb', off', rfl⟩ := nB.pos (by omega)
    obtain ⟨okd, wfd⟩ := ok d (hm d (by simp))
    repeat (first | refine hl_loadRN (l := CU) rfl nA.rd (Imp.refl _) hcell rfl rfl ?_ | refine go1_ ?_ | refine bx_ (fun _ => ?_))
    rename_i g8
    have iB : ∀ e : Ent, Imp (e :: R1) H := fun e => Imp.drop iR1
    refine hc_meet (fun fr M => Agr fr [(6, .slice (some ⟨bb', off', none⟩) LA.length vc), (41, .slice (some ⟨bb, off, none⟩) LA.length uc), (42, .int .i64 (LA.length : Int)), (43, .int .i64 (j : Int)), (54, .bool false)] ∧ Imp M R1) ?_ ?_
    · (refine hc_draw (by kernel_rfl) (by kernel_rfl) ?_; repeat (first | refine hl_loadN (i := 0) (n := 4) (vs := dcC d (.slice da d.F.len dc)) rfl .here rfl rfl rfl ?_ | refine hl_loadRN (l := CV) rfl nB.rd (Imp.drop (Imp.refl _)) hcell' rfl rfl ?_ | refine gd1_ ?_ | refine hd_call rfl rfl (docLike_fn (hk.imp (iB _)) (hk'.imp (iB _)) okd wfd) ?_))
      refine thn_norm ?_
      exact ⟨⟨rfl, rfl, rfl, rfl, rfl, trivial⟩, Imp.drop (Imp.refl _)⟩
    rintro fr M ⟨hf, him⟩
    obtain ⟨base, rfl⟩ := hf.out
    clear hf
    refine HC.imp ?_ him
    repeat (first | refine go_ ?_ | refine bx_ (fun _ => ?_))
    exact ⟨r.length, by rw [List.length_cons]; omega, _, Imp.refl _, r, j + 1, C', C2', by omega, rfl, hnx, hnx', hr, hr', fun D hD => hm D (by simp [hD]), Imp.refl _, rfl, rfl, rfl, rfl, trivial⟩
end
end Go.Proofs.Ytoobhebbgbhahaa
namespace Go.Proofs.Ytoobhebbgbhahaa
open Go.RowKit
/-- Layers that a play goes through with. -/
structure Good (L : List Rl) : Prop where
  nd : (L.map fun x => x.l.i).Nodup
  sm : ∀ x ∈ L, x.l.i ≠ 0 ∧ x.l.P.length ≤ 2000 ∧ x.l.M.length ≤ 2000 ∧ x.l.Q.length ≤ 100
section
variable {w0 : World} {B : Nat} {H R R0 : List Ent} {g : Nat}
set_option maxHeartbeats 16000000
set_option maxRecDepth 100000
/-- What is handed back: nothing, or all in one list. -/
def FlR (w0 : World) (B : Nat) (R0 R : List Ent) (L : List Rl) (u : Value) (H' : List Ent) : Prop :=
  (u = .tuple #[.slice none 0 0, .bool false] ∧ Imp H' R) ∨ ∃ sa sc C' X, u = .tuple #[.slice sa L.length sc, .bool true] ∧ Imp H' (X ++ R) ∧ (∀ F', Own 121 19 (.slice sa L.length sc) L.length C' F' (X ++ F')) ∧ RlC w0 B R0 L C' ∧ Good L ∧ L.length ≤ 300
theorem flat_fn : ∀ (N : Nat) (F : Fo), F.cnt < N → ∀ {v : Value} {t z : Int} {R Xo : List Ent} {oa : Option Addr} {oc : Nat} {L0 : List Rl} {C : List Value}, FoR w0 B R0 v F → Imp R R0 → 0 ≤ z → z ≤ 1000 → RlC w0 B R0 L0 C → Good L0 → L0.length ≤ 1000 → (∀ F', Own 121 19 (.slice oa L0.length oc) L0.length C F' (Xo ++ F')) →
    Fn Try.prog w0 B 49 [v, .int .i64 t, .int .i64 z, .slice oa L0.length oc] (Xo ++ R) (FlR w0 B R0 R (L0 ++ F.flat t))
  | 0, F, hh, _, _, _, _, _, _, _, _, _, _, _, _, _, _, _, _, _ => absurd hh (by omega)
  | N + 1, F, hN, v, t, z, R, Xo, oa, oc, L0, C, hF, hi, hz0, hz, hRl, hgd, hm, ho => by
    obtain ⟨fa, fc, FC, rfl, hFC, hFo⟩ := hF
    refine fn_intro Try.func49 rfl (by kernel_rfl) rfl ?_
    by_cases hz1 : 80 < z
    · repeat (first | refine go_ ?_ | refine bx_ (fun _ => ?_))
      exact fin2SB rfl rfl rfl (.inl ⟨rfl, Imp.refl _⟩) (Imp.tail Xo R)
    by_cases hfl : 300 - (L0.length : Int) < (F.len : Int)
    · repeat (first | refine go_ ?_ | refine bx_ (fun _ => ?_))
      exact fin2SB rfl rfl rfl (.inl ⟨rfl, Imp.refl _⟩) (Imp.tail Xo R)
    repeat (first | refine go_ ?_ | refine bx_ (fun _ => ?_))
    refine hc_loopd (fun q fr M => ∃ (G : Fo) (j : Nat) (D : List Value) (L1 : List Rl) (sa : Option Addr) (sc : Nat) (C1 : List Value) (X : List Ent), j + G.len = F.len ∧ q = G.len ∧ FC.drop (j * 19) = D ∧ FoC w0 B R0 G D ∧ G.cnt ≤ F.cnt ∧ L1 ++ G.flat t = L0 ++ F.flat t ∧ (∀ F', Own 121 19 (.slice sa L1.length sc) L1.length C1 F' (X ++ F')) ∧ RlC w0 B R0 L1 C1 ∧ Good L1 ∧ L1.length ≤ 300 ∧ Imp M (X ++ R) ∧ Agr fr [(1, .int .i64 t), (2, .int .i64 z), (3, .slice sa L1.length sc), (25, .slice fa F.len fc), (26, .int .i64 (F.len : Int)), (27, .int .i64 (j : Int))]) F.len ?_ ?_
    · exact ⟨F, 0, FC, L0, oa, oc, C, Xo, by omega, rfl, by simp, hFo, Nat.le_refl _, rfl, ho, hRl, hgd, by omega, Imp.refl _, rfl, rfl, rfl, rfl, rfl, rfl, trivial⟩
    have hFl : F.len ≤ 300 := by omega
    clear ho hRl hgd hFo hfl Xo oa oc C
    obtain ⟨LF, hLF⟩ : ∃ LF, LF = L0 ++ F.flat t := ⟨_, rfl⟩
    rw [← hLF]
    clear hLF hm L0
    rintro q fr M ⟨G, j, D, L1, sa, sc, C1, X, hj, rfl, hD, hG, hc, hL, ho, hRl, hgd, hm, him, hf⟩
    obtain ⟨base, rfl⟩ := hf.out
    clear hf
    refine HC.imp ?_ him
    clear him M
    cases G with
    | nil =>
      rw [Fo.len] at hj
      rw [Fo.flat, List.append_nil] at hL
      subst hL
      repeat (first | refine go_ ?_ | refine bx_ (fun _ => ?_))
      exact fin2SB rfl rfl rfl (.inr ⟨sa, sc, C1, X, rfl, Imp.refl _, ho, hRl, hgd, hm⟩) (Imp.refl _)
    | cons l k r =>
      rw [Fo.len] at hj
      rw [Fo.cnt] at hc
      rw [Fo.flat] at hL
      obtain ⟨pv, mv, qv, ka, kc, SK, C', rfl, hly0, hSK, hks, hr⟩ := hG
      have hly1 := hly0
      obtain ⟨⟨pa, pc, rfl, nP⟩, ⟨ma, mc, rfl, nM⟩, ⟨qa, qc, rfl, nQ⟩⟩ := hly1
      obtain ⟨hcell, hnx⟩ := drop19 hD rfl
      obtain ⟨fbb, foff, rfl⟩ := hFC.pos (by omega)
      repeat (first | refine hl_loadRN (l := FC) rfl hFC.rd ((Imp.tail X _).trans hi) hcell rfl rfl ?_ | refine go1_ ?_ | refine bx_ (fun _ => ?_))
      rename_i g11
      obtain ⟨eb, heb⟩ : ∃ eb : Ent, eb = ⟨g11, 116, lyC l (.slice pa l.P.length pc) (.slice ma l.M.length mc) (.slice qa l.Q.length qc) (.slice ka k.len kc), 19⟩ := ⟨_, rfl⟩
      have tx : ∀ (Y : List Ent), Take (Y ++ (eb :: R)) ⟨g11, 116, lyC l (.slice pa l.P.length pc) (.slice ma l.M.length mc) (.slice qa l.Q.length qc) (.slice ka k.len kc), 19⟩ (Y ++ R) := fun Y => by rw [heb]; exact Take.app Y .here
      have iR : Imp (eb :: R) R := Imp.drop (Imp.refl _)
      obtain ⟨R1, hR1⟩ : ∃ R1, R1 = X ++ (eb :: R) := ⟨_, rfl⟩
      have iX : Imp R1 R := by rw [hR1]; exact (Imp.tail X _).trans iR
      have hcR : CsR w0 B R1 sa L1.length 19 C1 := by rw [hR1]; exact CsR.own (ho _) hRl.one
      have tx1 := tx X
      rw [← hR1] at tx1
      refine HC.perm (H' := R1) ?_ (by rw [hR1, heb]; exact app_swap [_] X R)
      refine hc_loopd (fun q fr M => ∃ i2 : Nat, i2 + q = L1.length ∧ (∀ i, (h : i < L1.length) → i < i2 → L1[i].l.i ≠ l.i ∧ l.i ≠ 0) ∧ Imp M R1 ∧ Agr fr [(1, .int .i64 t), (2, .int .i64 z), (3, .slice sa L1.length sc), (11, .pointer (some ⟨g11, 0, none⟩)), (25, .slice (some ⟨fbb, foff, none⟩) F.len fc), (26, .int .i64 (F.len : Int)), (27, .int .i64 (j : Int)), (31, .slice sa L1.length sc), (32, .int .i64 (L1.length : Int)), (33, .int .i64 (i2 : Int))]) L1.length ?_ ?_
      · exact ⟨0, by omega, fun i h h2 => absurd h2 (by omega), Imp.refl _, rfl, rfl, rfl, rfl, rfl, rfl, rfl, rfl, rfl, rfl, trivial⟩
      rintro q2 fr M ⟨i2, hi2, hne, him, hf⟩
      obtain ⟨base, rfl⟩ := hf.out
      clear hf
      refine HC.imp ?_ him
      clear him M
      by_cases hlt : i2 < L1.length
      · obtain ⟨sbb, soff, rfl⟩ := hcR.pos (by omega)
        obtain ⟨pv', mv', qv', hcell', hly'⟩ := hRl.at' hlt
        obtain ⟨⟨pa', pc', rfl, _⟩, ⟨ma', mc', rfl, _⟩, ⟨qa', qc', rfl, _⟩⟩ := hly'
        have hx : ∀ i, (h : i < L1.length) → i < i2 + 1 → ¬ (L1[i2].l.i = l.i ∨ l.i = 0) → L1[i].l.i ≠ l.i ∧ l.i ≠ 0 := fun i h h2 h3 => by
          by_cases e : i = i2
          · subst e; exact ⟨fun e => h3 (.inl e), fun e => h3 (.inr e)⟩
          · exact hne i h (by omega)
        generalize L1[i2] = x at *
        by_cases hb : x.l.i = l.i ∨ l.i = 0
        · rcases hb with hb | hb
          · repeat (first | refine hl_load1 rfl (.there tx1) rfl rfl ?_ | refine hl_loadRN (l := C1) rfl hcR.rd (Imp.refl _) hcell' rfl rfl ?_ | refine go1_ ?_ | refine bx_ (fun _ => ?_))
            exact fin2SB rfl rfl rfl (.inl ⟨rfl, Imp.refl _⟩) (Imp.drop iX)
          · by_cases hb2 : x.l.i = l.i
            · repeat (first | refine hl_load1 rfl (.there tx1) rfl rfl ?_ | refine hl_loadRN (l := C1) rfl hcR.rd (Imp.refl _) hcell' rfl rfl ?_ | refine go1_ ?_ | refine bx_ (fun _ => ?_))
              exact fin2SB rfl rfl rfl (.inl ⟨rfl, Imp.refl _⟩) (Imp.drop iX)
            · repeat (first | refine hl_load1 rfl (.there tx1) rfl rfl ?_ | refine hl_loadRN (l := C1) rfl hcR.rd (Imp.refl _) hcell' rfl rfl ?_ | refine go1_ ?_ | refine bx_ (fun _ => ?_))
              exact fin2SB rfl rfl rfl (.inl ⟨rfl, Imp.refl _⟩) (Imp.drop iX)
        · have hb1 : x.l.i ≠ l.i := fun e => hb (.inl e)
          have hb2 : l.i ≠ 0 := fun e => hb (.inr e)
          repeat (first | refine hl_load1 rfl (.there tx1) rfl rfl ?_ | refine hl_loadRN (l := C1) rfl hcR.rd (Imp.refl _) hcell' rfl rfl ?_ | refine go1_ ?_ | refine bx_ (fun _ => ?_))
          exact ⟨q2 - 1, by omega, _, Imp.drop (Imp.refl _), i2 + 1, by omega, fun i h h2 => hx i h h2 hb, Imp.refl _, rfl, rfl, rfl, rfl, rfl, rfl, rfl, rfl, rfl, rfl, trivial⟩
      obtain rfl : i2 = L1.length := by omega
      by_cases hbad : l.i = 0 ∨ 2000 < l.P.length ∨ 2000 < l.M.length ∨ 100 < l.Q.length
      · by_cases h1 : l.i = 0
        · repeat (first | refine hl_load1 rfl tx1 rfl rfl ?_ | refine go1_ ?_ | refine bx_ (fun _ => ?_))
          exact fin2SB rfl rfl rfl (.inl ⟨rfl, Imp.refl _⟩) iX
        by_cases h2 : 2000 < l.P.length
        · repeat (first | refine hl_load1 rfl tx1 rfl rfl ?_ | refine go1_ ?_ | refine bx_ (fun _ => ?_))
          exact fin2SB rfl rfl rfl (.inl ⟨rfl, Imp.refl _⟩) iX
        by_cases h3 : 2000 < l.M.length
        · repeat (first | refine hl_load1 rfl tx1 rfl rfl ?_ | refine go1_ ?_ | refine bx_ (fun _ => ?_))
          exact fin2SB rfl rfl rfl (.inl ⟨rfl, Imp.refl _⟩) iX
        · have h4 : 100 < l.Q.length := by rcases hbad with h | h | h | h <;> first | contradiction | exact h
          repeat (first | refine hl_load1 rfl tx1 rfl rfl ?_ | refine go1_ ?_ | refine bx_ (fun _ => ?_))
          exact fin2SB rfl rfl rfl (.inl ⟨rfl, Imp.refl _⟩) iX
      have h1 : l.i ≠ 0 := fun e => hbad (.inl e)
      have h2 : ¬ 2000 < l.P.length := fun e => hbad (.inr (.inl e))
      have h3 : ¬ 2000 < l.M.length := fun e => hbad (.inr (.inr (.inl e)))
      have h4 : ¬ 100 < l.Q.length := fun e => hbad (.inr (.inr (.inr e)))
      clear hbad
      have hgd1 : Good (L1 ++ [⟨t, l⟩]) := by
        refine ⟨?_, fun x hx => ?_⟩
        · rw [List.map_append, List.nodup_append]
          refine ⟨hgd.nd, by simp, fun a ha b hb => ?_⟩
          obtain ⟨x, hx, rfl⟩ := List.mem_map.1 ha
          obtain ⟨i, hi, rfl⟩ := List.getElem_of_mem hx
          obtain rfl : b = l.i := by simpa using hb
          exact (hne i hi hi).1
        · rcases List.mem_append.1 hx with hx | hx
          · exact hgd.sm x hx
          · obtain rfl : x = ⟨t, l⟩ := by simpa using hx
            exact ⟨h1, by dsimp only; omega, by dsimp only; omega, by dsimp only; omega⟩
      have hRl1 : RlC w0 B R0 (L1 ++ [⟨t, l⟩]) (C1 ++ rlC t l (.slice pa l.P.length pc) (.slice ma l.M.length mc) (.slice qa l.Q.length qc)) :=
        RlC.append hRl ⟨_, _, _, [], (List.append_nil _).symm, hly0, rfl⟩
      repeat (first | refine hl_load1 rfl tx1 rfl rfl ?_ | refine hl_loadN (i := 9) (n := 6) (vs := l.mp.map intV) rfl tx1 rfl rfl rfl ?_ | refine go1_ ?_ | refine bx_ (fun _ => ?_))
      rename_i gb
      obtain ⟨bb, hbb⟩ : ∃ bb : Ent, bb = ⟨gb, 121, rlC t l (.slice pa l.P.length pc) (.slice ma l.M.length mc) (.slice qa l.Q.length qc), 1 * 19⟩ := ⟨_, rfl⟩
      refine HL.perm (H' := X ++ (bb :: (eb :: R))) ?_ (by rw [hR1, hbb]; exact app_swap [_] X (eb :: R))
      refine hl_append_own (e := 121) (sz := 19) (news := rlC t l (.slice pa l.P.length pc) (.slice ma l.M.length mc) (.slice qa l.Q.length qc)) rfl rfl (ho _) (Rds.ent (i := 0) (n := 19) (l := rlC t l (.slice pa l.P.length pc) (.slice ma l.M.length mc) (.slice qa l.Q.length qc)) (by rw [hbb]; exact Take.app X .here) rfl (by simp [rlC, Value.oneCell'])) rfl rfl (by decide) (by omega) (by omega) rfl (fun v5 M5 o5 => ?_)
      obtain ⟨a5', c5', rfl, _, _⟩ := o5.form
      obtain ⟨Z, hZ, hoZ⟩ := o5.permE
      refine HL.perm ?_ hZ
      refine HL.imp (H' := Z ++ (eb :: R)) ?_ (Imp.sub (List.Sublist.append (List.Sublist.refl _) (List.sublist_cons_self _ _)))
      have hlen : (L1 ++ [(⟨t, l⟩ : Rl)]).length = L1.length + 1 := by simp
      rw [← hlen] at hoZ ⊢
      repeat (first | refine hl_load1 rfl (tx Z) rfl rfl ?_ | refine go1_ ?_ | refine bx_ (fun _ => ?_))
      refine hl_call rfl rfl (flat_fn N k (by omega) (z := z + 1) (FoR.imp ⟨ka, kc, SK, rfl, hSK, hks⟩ (Imp.refl _) : FoR w0 B R0 (.slice ka k.len kc) k) (iR.trans hi) (by omega) (by omega) hRl1 hgd1 (by omega) hoZ) (fun v M o => ?_)
      rcases o with ⟨rfl, him⟩ | ⟨sa', sc', C2, X2, rfl, him, ho2, hRl2, hgd2, hm2⟩
      · repeat (first | refine go_ ?_ | refine bx_ (fun _ => ?_))
        exact fin2SB rfl rfl rfl (.inl ⟨rfl, him.trans iR⟩) (Imp.refl _)
      · refine HL.imp ?_ him
        repeat (first | refine go_ ?_ | refine bx_ (fun _ => ?_))
        exact ⟨r.len, by rw [Fo.len]; omega, _, Imp.sub (List.Sublist.append (List.Sublist.refl X2) (List.sublist_cons_self eb R)), r, j + 1, C', (L1 ++ [⟨t, l⟩]) ++ k.flat l.i, sa', sc', C2, X2, by omega, rfl, hnx, hr, by omega, by rw [← hL]; simp, ho2, hRl2, hgd2, hm2, Imp.refl _, rfl, rfl, rfl, rfl, rfl, rfl, trivial⟩
end
end Go.Proofs.Ytoobhebbgbhahaa
namespace Go.Proofs.Ytoobhebbgbhahaa
open Go.RowKit
section
variable {c : Cx} {Q : Pst} {fr : Fr} {H F : List Ent} {T : TypeId} {P : Program} {fn : Func} {R : Value → List Ent → Prop}
theorem finCB {t t2 g T' k n : Nat} {C : List Value} {H2 : List Ent} {z : Bool} (hr : fn.results.toList = [.cell t T, .tmp t2]) (hp : fr t = .pointer (some ⟨g, 0, none⟩)) (ht : Take H ⟨g, T', C, k⟩ F) (hv2 : fr t2 = .bool z) [TAgg P T] [hs : TSz P T n] (hn : C.length = n) (h : R (.tuple #[.agg C.toArray, .bool z]) H2)
    (hi : Imp H H2) : Pfn P fn R .ret fr H :=
  have : TSz P T C.length := hn ▸ hs
  ⟨.inr rfl, [.agg C.toArray, fr t2], H2, by rw [hr]; exact .cell hp ht (.tmp .nil), hi, by rw [hv2]; exact h⟩
end
section
variable {w0 : World} {B : Nat} {H R R0 : List Ent} {g : Nat}
set_option maxHeartbeats 16000000
set_option maxRecDepth 100000
def FdR (w0 : World) (B : Nat) (R0 R : List Ent) (D : Dc) (u : Value) (H' : List Ent) : Prop :=
  (u = .tuple #[.agg (dcC D (.slice none 0 0)).toArray, .bool false] ∧ Imp H' R) ∨ ∃ la lc X, u = .tuple #[.agg (dcC D (.slice la (D.F.flat 0).length lc)).toArray, .bool true] ∧ Imp H' (X ++ R) ∧ RlR w0 B (X ++ R0) (.slice la (D.F.flat 0).length lc) (D.F.flat 0) ∧ Good (D.F.flat 0) ∧ (D.F.flat 0).length ≤ 300
theorem Flat_fn {D : Dc} {kv : Value} (hF : FoR w0 B R0 kv D.F) (hi : Imp R R0) :
    Fn Try.prog w0 B 39 [.agg (dcC D kv).toArray] R (FdR w0 B R0 R D) := by
  obtain ⟨ka, kc, rfl⟩ := hF.form
  refine fn_intro Try.func39 rfl (by kernel_rfl) rfl ?_
  repeat (first | refine go_ ?_ | refine bx_ (fun _ => ?_))
  rename_i g1 g2
  obtain ⟨R1, hR1⟩ : ∃ R1, R1 = (⟨g2, 58, [.int .i64 0, .int .i64 0, .int .i64 0, .slice none 0 0], 4⟩ :: ⟨g1, 52, dcC D (.slice ka D.F.len kc), 4⟩ :: R : List Ent) := ⟨_, rfl⟩
  have iR1 : Imp R1 R := by rw [hR1]; exact Imp.drop (Imp.drop (Imp.refl _))
  refine HL.perm (H' := [] ++ R1) ?_ (by rw [hR1]; exact List.Perm.refl _)
  refine hl_call rfl rfl (flat_fn (D.F.cnt + 1) D.F (by omega) (L0 := []) (C := []) hF (iR1.trans hi) (by omega) (by omega) rfl ⟨by simp, by simp⟩ (by simp) (fun F => Own.nil)) (fun v M o => ?_)
  rw [List.nil_append] at o
  rcases o with ⟨rfl, him⟩ | ⟨sa, sc, C2, X, rfl, him, ho, hRl, hgd, hm⟩
  · refine HL.imp ?_ him
    rw [hR1]
    repeat (first | refine go_ ?_ | refine bx_ (fun _ => ?_))
    exact finCB rfl rfl .here rfl rfl (.inl ⟨rfl, Imp.refl _⟩) (Imp.drop (Imp.drop (Imp.refl _)))
  · refine HL.imp ?_ him
    rw [hR1]
    refine HL.perm ?_ (app_swap X [_, _] R)
    repeat (first | refine go_ ?_ | refine bx_ (fun _ => ?_))
    exact finCB rfl rfl .here rfl rfl (.inr ⟨sa, sc, X, rfl, Imp.refl _, ⟨sa, sc, C2, rfl, CsR.own (ho R0) hRl.one, hRl.imp (Imp.tail X R0)⟩, hgd, hm⟩) (Imp.drop (Imp.drop (Imp.refl _)))
/-- What is handed back of a state. -/
def PlR (w0 : World) (B : Nat) (H : List Ent) (S : Stt) (u : Value) (H' : List Ent) : Prop :=
  (∃ l : List Value, l.length = 6 ∧ (∀ v ∈ l, v.oneCell' = true) ∧ u = .tuple #[.agg l.toArray, .bool false] ∧ Imp H' H) ∨ ∃ lv av bv X, u = .tuple #[.agg (stC S lv av bv).toArray, .bool true] ∧ Imp H' (X ++ H) ∧ RstR w0 B (X ++ H) S lv av bv ∧ (∀ D ∈ S.D :: (S.A ++ S.B), Good (D.F.flat 0) ∧ (D.F.flat 0).length ≤ 300) ∧ S.A.length ≤ 8 ∧ S.B.length ≤ 8
theorem plain_fn {S : Stt} {kv av bv : Value} (hS : StR w0 B H S kv av bv) :
    Fn Try.prog w0 B 19 [.agg (stC S kv av bv).toArray] H (PlR w0 B H S) := by
  obtain ⟨hD, hA, hB⟩ := hS
  obtain ⟨ka, kc, rfl⟩ := hD.form
  obtain ⟨aa, ac, CA, rfl, cA, rA⟩ := hA
  obtain ⟨ba, bc, CB, rfl, cB, rB⟩ := hB
  refine fn_intro Try.func19 rfl (by kernel_rfl) rfl ?_
  repeat (first | refine hl_loadN (i := 0) (n := 4) (vs := dcC S.D (.slice ka S.D.F.len kc)) rfl (.there (.there .here)) rfl rfl rfl ?_ | refine go1_ ?_ | refine bx_ (fun _ => ?_))
  rename_i g1 g2 g4
  refine HL.perm (H' := ⟨g4, 61, [.int .i64 0, .int .i64 0, .int .i64 0, .slice none 0 0, .slice none 0 0, .slice none 0 0], 6⟩ :: ⟨g2, 61, [.int .i64 0, .int .i64 0, .int .i64 0, .slice none 0 0, .slice none 0 0, .slice none 0 0], 6⟩ :: ⟨g1, 55, stC S (.slice ka S.D.F.len kc) (.slice aa S.A.length ac) (.slice ba S.B.length bc), 6⟩ :: H) ?_ (List.Perm.refl _)
  have iR : Imp (⟨g4, 61, [.int .i64 0, .int .i64 0, .int .i64 0, .slice none 0 0, .slice none 0 0, .slice none 0 0], 6⟩ :: ⟨g2, 61, [.int .i64 0, .int .i64 0, .int .i64 0, .slice none 0 0, .slice none 0 0, .slice none 0 0], 6⟩ :: ⟨g1, 55, stC S (.slice ka S.D.F.len kc) (.slice aa S.A.length ac) (.slice ba S.B.length bc), 6⟩ :: H) H := Imp.drop (Imp.drop (Imp.drop (Imp.refl _)))
  refine hl_call rfl rfl (Flat_fn (R0 := H) hD iR) (fun v M o => ?_)
  rcases o with ⟨rfl, him⟩ | ⟨la, lc, XD, rfl, him, hRlD, hgdD, hmD⟩
  · refine HL.imp ?_ him
    repeat (first | refine go_ ?_ | refine bx_ (fun _ => ?_))
    refine hl_storeN (i := 0) (n := 4) rfl rfl rfl (by simp [dcC, Value.oneCell']) .here (by simp) rfl ?_
    refine HL.perm (H' := ⟨g4, 61, [.int .i64 S.D.w, .int .i64 S.D.h, .int .i64 S.D.n, .slice none 0 0, .slice none 0 0, .slice none 0 0], 6⟩ :: ⟨g2, 61, [.int .i64 0, .int .i64 0, .int .i64 0, .slice none 0 0, .slice none 0 0, .slice none 0 0], 6⟩ :: ⟨g1, 55, stC S (.slice ka S.D.F.len kc) (.slice aa S.A.length ac) (.slice ba S.B.length bc), 6⟩ :: H) ?_ (List.Perm.refl _)
    repeat (first | refine go_ ?_ | refine bx_ (fun _ => ?_))
    exact finCB rfl rfl .here rfl rfl (.inl ⟨_, rfl, by simp [Value.oneCell'], rfl, Imp.refl _⟩) (Imp.drop (Imp.drop (Imp.drop (Imp.refl _))))
  refine HL.imp ?_ him
  refine HL.perm ?_ (app_swap XD [_, _, _] H)
  repeat (first | refine go_ ?_ | refine bx_ (fun _ => ?_))
  refine hl_storeN (i := 0) (n := 4) rfl rfl rfl (by simp [dcC, Value.oneCell']) .here (by simp) rfl ?_
  refine HL.perm (H' := ⟨g4, 61, [.int .i64 S.D.w, .int .i64 S.D.h, .int .i64 S.D.n, .slice la (S.D.F.flat 0).length lc, .slice none 0 0, .slice none 0 0], 6⟩ :: ⟨g2, 61, [.int .i64 0, .int .i64 0, .int .i64 0, .slice none 0 0, .slice none 0 0, .slice none 0 0], 6⟩ :: ⟨g1, 55, stC S (.slice ka S.D.F.len kc) (.slice aa S.A.length ac) (.slice ba S.B.length bc), 6⟩ :: (XD ++ H)) ?_ (List.Perm.refl _)
  have iXD : Imp (XD ++ H) H := Imp.tail XD H
  by_cases h8 : 8 < S.A.length ∨ 8 < S.B.length
  · by_cases h8a : 8 < S.A.length
    · repeat (first | refine go_ ?_ | refine bx_ (fun _ => ?_))
      exact finCB rfl rfl .here rfl rfl (.inl ⟨_, rfl, by simp [Value.oneCell'], rfl, Imp.refl _⟩) (Imp.drop (Imp.drop (Imp.drop iXD)))
    · have h8b : 8 < S.B.length := by omega
      repeat (first | refine go_ ?_ | refine bx_ (fun _ => ?_))
      exact finCB rfl rfl .here rfl rfl (.inl ⟨_, rfl, by simp [Value.oneCell'], rfl, Imp.refl _⟩) (Imp.drop (Imp.drop (Imp.drop iXD)))
  have h8a : ¬ 8 < S.A.length := fun h => h8 (.inl h)
  have h8b : ¬ 8 < S.B.length := fun h => h8 (.inr h)
  have base := 0
  repeat (first | refine go_ ?_ | refine bx_ (fun _ => ?_))
  refine hc_loopd (fun q fr M => ∃ (G : List Dc) (j : Nat) (D : List Value) (L1 : List Dc) (sa : Option Addr) (sc : Nat) (C1 : List Value) (X Xs : List Ent), j + G.length = S.A.length ∧ q = G.length ∧ CA.drop (j * 4) = D ∧ DsC w0 B H G D ∧ L1 ++ G = S.A ∧ L1.length = j ∧ (∀ D ∈ L1, Good (D.F.flat 0) ∧ (D.F.flat 0).length ≤ 300) ∧ (∀ F', Own 58 4 (.slice sa j sc) j C1 F' (X ++ F')) ∧ RdsC w0 B (Xs ++ H) L1 C1 ∧ Imp M (⟨g4, 61, [.int .i64 S.D.w, .int .i64 S.D.h, .int .i64 S.D.n, .slice la (S.D.F.flat 0).length lc, .slice sa j sc, .slice none 0 0], 6⟩ :: ⟨g2, 61, [.int .i64 0, .int .i64 0, .int .i64 0, .slice none 0 0, .slice none 0 0, .slice none 0 0], 6⟩ :: ⟨g1, 55, stC S (.slice ka S.D.F.len kc) (.slice aa S.A.length ac) (.slice ba S.B.length bc), 6⟩ :: (X ++ (Xs ++ (XD ++ H)))) ∧ Agr fr [(1, .pointer (some ⟨g1, 0, none⟩)), (2, .pointer (some ⟨g2, 0, none⟩)), (4, .pointer (some ⟨g4, 0, none⟩)), (37, .slice aa S.A.length ac), (38, .int .i64 (S.A.length : Int)), (39, .int .i64 (j : Int))]) S.A.length ?_ ?_
  · exact ⟨S.A, 0, CA, [], none, 0, [], [], [], by omega, rfl, by simp, rA, rfl, rfl, by simp, fun F => Own.nil, rfl, Imp.refl _, rfl, rfl, rfl, rfl, rfl, rfl, trivial⟩
  clear base
  rintro q fr M ⟨G, j, D, L1, sa, sc, C1, X, Xs, hj, rfl, hD, hG, hL, hL1, hgd, ho, hRl, him, hf⟩
  obtain ⟨base, rfl⟩ := hf.out
  clear hf
  refine HC.imp ?_ him
  clear him M
  cases G with
  | cons d r =>
    rw [List.length_cons] at hj
    obtain ⟨kv, C', rfl, hk, hr⟩ := hG
    obtain ⟨da, dc, rfl⟩ := hk.form
    obtain ⟨hcell, hnx⟩ := dropN hD rfl
    obtain ⟨bb, off, rfl⟩ := cA.pos (by omega)
    have iTT : Imp (X ++ (Xs ++ (XD ++ H))) H := (Imp.tail X _).trans ((Imp.tail Xs _).trans iXD)
    repeat (first | refine hl_loadRN (l := CA) rfl cA.rd (Imp.drop (Imp.drop (Imp.drop iTT))) hcell rfl rfl ?_ | refine go1_ ?_ | refine bx_ (fun _ => ?_))
    rename_i g7
    refine HL.perm (H' := ⟨g7, 52, dcC d (.slice da d.F.len dc), 4⟩ :: ⟨g4, 61, [.int .i64 S.D.w, .int .i64 S.D.h, .int .i64 S.D.n, .slice la (S.D.F.flat 0).length lc, .slice sa j sc, .slice none 0 0], 6⟩ :: ⟨g2, 61, [.int .i64 0, .int .i64 0, .int .i64 0, .slice none 0 0, .slice none 0 0, .slice none 0 0], 6⟩ :: ⟨g1, 55, stC S (.slice ka S.D.F.len kc) (.slice (some ⟨bb, off, none⟩) S.A.length ac) (.slice ba S.B.length bc), 6⟩ :: (X ++ (Xs ++ (XD ++ H)))) ?_ (List.Perm.refl _)
    refine hl_call rfl rfl (Flat_fn (R0 := H) hk (Imp.drop (Imp.drop (Imp.drop (Imp.drop iTT))))) (fun v M o => ?_)
    rcases o with ⟨rfl, him⟩ | ⟨la', lc', X2, rfl, him, hRl2, hgd2, hm2⟩
    · refine HL.imp ?_ him
      repeat (first | refine go_ ?_ | refine bx_ (fun _ => ?_))
      exact finCB rfl rfl .here rfl rfl (.inl ⟨_, rfl, by simp [Value.oneCell'], rfl, Imp.refl _⟩) (Imp.drop (Imp.drop (Imp.drop (Imp.drop (Imp.drop iTT)))))
    · refine HL.imp ?_ him
      refine HL.perm ?_ (app_swap X2 [_, _, _, _] _)
      repeat (first | refine go_ ?_ | refine bx_ (fun _ => ?_))
      have hp1 : ∀ u x y z s t : Ent, (u :: x :: y :: z :: s :: t :: (X2 ++ (X ++ (Xs ++ (XD ++ H))))).Perm (X ++ (u :: x :: y :: z :: s :: t :: (X2 ++ (Xs ++ (XD ++ H))))) := fun u x y z s t => by
        simpa only [List.append_assoc, List.cons_append, List.nil_append] using app_swap ([u, x, y, z, s, t] ++ X2) X (Xs ++ (XD ++ H))
      have hp2 : ∀ (Z : List Ent) (u x y z s t : Ent), (Z ++ (u :: x :: y :: z :: s :: t :: (X2 ++ (Xs ++ (XD ++ H))))).Perm (u :: x :: y :: z :: s :: t :: (Z ++ ((X2 ++ Xs) ++ (XD ++ H)))) := fun Z u x y z s t => by
        simpa only [List.append_assoc, List.cons_append, List.nil_append] using app_swap Z [u, x, y, z, s, t] (X2 ++ (Xs ++ (XD ++ H)))
      refine HL.perm ?_ (hp1 _ _ _ _ _ _)
      refine hl_append_own (e := 58) (sz := 4) rfl rfl (ho _) (Rds.ent (i := 0) (n := 4) (l := dcC d (.slice la' (d.F.flat 0).length lc')) (Take.app X .here) rfl (by simp [dcC, Value.oneCell'])) rfl rfl (by decide) (by omega) (by omega) rfl (fun v5 M5 o5 => ?_)
      obtain ⟨a5', c5', rfl, _, _⟩ := o5.form
      obtain ⟨Z, hZ, hoZ⟩ := o5.permE
      refine HL.perm ?_ (hZ.trans (hp2 Z _ _ _ _ _ _))
      repeat (first | refine go_ ?_ | refine bx_ (fun _ => ?_))
      refine ⟨r.length, by rw [List.length_cons]; omega, _, Imp.drop2 (Imp.drop2 (Imp.drop2 (Imp.refl _))), r, j + 1, C', L1 ++ [d], a5', c5', _, Z, X2 ++ Xs, by omega, rfl, hnx, hr, by rw [← hL]; simp, by simp [hL1], ?_, hoZ, RdsC.append (hRl.imp ?_) ⟨.slice la' (d.F.flat 0).length lc', [], rfl, hRl2.imp ?_, rfl⟩, Imp.refl _, rfl, rfl, rfl, rfl, rfl, rfl, trivial⟩
      · intro D hD'
        rcases List.mem_append.1 hD' with h | h
        · exact hgd D h
        · obtain rfl : D = d := by simpa using h
          exact ⟨hgd2, hm2⟩
      · rw [List.append_assoc]; exact Imp.tail X2 _
      · rw [List.append_assoc]; exact Imp.sub (List.Sublist.append (List.Sublist.refl _) (List.sublist_append_right _ _))
  | nil =>
  rw [List.length_nil] at hj
  rw [List.append_nil] at hL
  subst hL
  have cA' : CsR w0 B (X ++ H) sa j 4 C1 := CsR.own (ho H) hRl.one
  have rA2 := hRl
  have hgA := hgd
  obtain ⟨T2, hT2⟩ : ∃ T2, T2 = X ++ (Xs ++ (XD ++ H)) := ⟨_, rfl⟩
  have iT2 : Imp T2 H := by rw [hT2]; exact (Imp.tail X _).trans ((Imp.tail Xs _).trans iXD)
  rw [← hT2]
  subst hL1
  repeat (first | refine go_ ?_ | refine bx_ (fun _ => ?_))
  refine hc_loopd (fun q fr M => ∃ (G : List Dc) (j2 : Nat) (D : List Value) (L2 : List Dc) (sb : Option Addr) (sd : Nat) (C3 : List Value) (Y Ys : List Ent), j2 + G.length = S.B.length ∧ q = G.length ∧ CB.drop (j2 * 4) = D ∧ DsC w0 B H G D ∧ L2 ++ G = S.B ∧ L2.length = j2 ∧ (∀ D ∈ L2, Good (D.F.flat 0) ∧ (D.F.flat 0).length ≤ 300) ∧ (∀ F', Own 58 4 (.slice sb j2 sd) j2 C3 F' (Y ++ F')) ∧ RdsC w0 B (Ys ++ H) L2 C3 ∧ Imp M (⟨g4, 61, [.int .i64 S.D.w, .int .i64 S.D.h, .int .i64 S.D.n, .slice la (S.D.F.flat 0).length lc, .slice sa S.A.length sc, .slice sb j2 sd], 6⟩ :: ⟨g2, 61, [.int .i64 0, .int .i64 0, .int .i64 0, .slice none 0 0, .slice none 0 0, .slice none 0 0], 6⟩ :: ⟨g1, 55, stC S (.slice ka S.D.F.len kc) (.slice aa S.A.length ac) (.slice ba S.B.length bc), 6⟩ :: (Y ++ (Ys ++ T2))) ∧ Agr fr [(1, .pointer (some ⟨g1, 0, none⟩)), (2, .pointer (some ⟨g2, 0, none⟩)), (4, .pointer (some ⟨g4, 0, none⟩)), (59, .slice ba S.B.length bc), (60, .int .i64 (S.B.length : Int)), (61, .int .i64 (j2 : Int))]) S.B.length ?_ ?_
  · exact ⟨S.B, 0, CB, [], none, 0, [], [], [], by omega, rfl, by simp, rB, rfl, rfl, by simp, fun F => Own.nil, rfl, Imp.refl _, rfl, rfl, rfl, rfl, rfl, rfl, trivial⟩
  clear base
  rintro q fr M ⟨G, j2, D, L2, sb, sd, C3, Y, Ys, hj, rfl, hD, hG, hLB, hL2, hgdB, hoB, hRlB, him, hf⟩
  obtain ⟨base, rfl⟩ := hf.out
  clear hf
  refine HC.imp ?_ him
  clear him M
  cases G with
  | cons d r =>
    rw [List.length_cons] at hj
    obtain ⟨kv, C', rfl, hk, hr⟩ := hG
    obtain ⟨da, dc, rfl⟩ := hk.form
    obtain ⟨hcell, hnx⟩ := dropN hD rfl
    obtain ⟨bb, off, rfl⟩ := cB.pos (by omega)
    have iTT : Imp (Y ++ (Ys ++ T2)) H := (Imp.tail Y _).trans ((Imp.tail Ys _).trans iT2)
    repeat (first | refine hl_loadRN (l := CB) rfl cB.rd (Imp.drop (Imp.drop (Imp.drop iTT))) hcell rfl rfl ?_ | refine go1_ ?_ | refine bx_ (fun _ => ?_))
    rename_i g7
    refine HL.perm (H' := ⟨g7, 52, dcC d (.slice da d.F.len dc), 4⟩ :: ⟨g4, 61, [.int .i64 S.D.w, .int .i64 S.D.h, .int .i64 S.D.n, .slice la (S.D.F.flat 0).length lc, .slice sa S.A.length sc, .slice sb j2 sd], 6⟩ :: ⟨g2, 61, [.int .i64 0, .int .i64 0, .int .i64 0, .slice none 0 0, .slice none 0 0, .slice none 0 0], 6⟩ :: ⟨g1, 55, stC S (.slice ka S.D.F.len kc) (.slice aa S.A.length ac) (.slice (some ⟨bb, off, none⟩) S.B.length bc), 6⟩ :: (Y ++ (Ys ++ T2))) ?_ (List.Perm.refl _)
    refine hl_call rfl rfl (Flat_fn (R0 := H) hk (Imp.drop (Imp.drop (Imp.drop (Imp.drop iTT))))) (fun v M o => ?_)
    rcases o with ⟨rfl, him⟩ | ⟨la', lc', X2, rfl, him, hRl2, hgd2, hm2⟩
    · refine HL.imp ?_ him
      repeat (first | refine go_ ?_ | refine bx_ (fun _ => ?_))
      exact finCB rfl rfl .here rfl rfl (.inl ⟨_, rfl, by simp [Value.oneCell'], rfl, Imp.refl _⟩) (Imp.drop (Imp.drop (Imp.drop (Imp.drop (Imp.drop iTT)))))
    · refine HL.imp ?_ him
      refine HL.perm ?_ (app_swap X2 [_, _, _, _] _)
      repeat (first | refine go_ ?_ | refine bx_ (fun _ => ?_))
      have hp1 : ∀ u x y z s t : Ent, (u :: x :: y :: z :: s :: t :: (X2 ++ (Y ++ (Ys ++ T2)))).Perm (Y ++ (u :: x :: y :: z :: s :: t :: (X2 ++ (Ys ++ T2)))) := fun u x y z s t => by
        simpa only [List.append_assoc, List.cons_append, List.nil_append] using app_swap ([u, x, y, z, s, t] ++ X2) Y (Ys ++ T2)
      have hp2 : ∀ (Z : List Ent) (u x y z s t : Ent), (Z ++ (u :: x :: y :: z :: s :: t :: (X2 ++ (Ys ++ T2)))).Perm (u :: x :: y :: z :: s :: t :: (Z ++ ((X2 ++ Ys) ++ T2))) := fun Z u x y z s t => by
        simpa only [List.append_assoc, List.cons_append, List.nil_append] using app_swap Z [u, x, y, z, s, t] (X2 ++ (Ys ++ T2))
      refine HL.perm ?_ (hp1 _ _ _ _ _ _)
      refine hl_append_own (e := 58) (sz := 4) rfl rfl (hoB _) (Rds.ent (i := 0) (n := 4) (l := dcC d (.slice la' (d.F.flat 0).length lc')) (Take.app Y .here) rfl (by simp [dcC, Value.oneCell'])) rfl rfl (by decide) (by omega) (by omega) rfl (fun v5 M5 o5 => ?_)
      obtain ⟨a5', c5', rfl, _, _⟩ := o5.form
      obtain ⟨Z, hZ, hoZ⟩ := o5.permE
      refine HL.perm ?_ (hZ.trans (hp2 Z _ _ _ _ _ _))
      repeat (first | refine go_ ?_ | refine bx_ (fun _ => ?_))
      refine ⟨r.length, by rw [List.length_cons]; omega, _, Imp.drop2 (Imp.drop2 (Imp.drop2 (Imp.refl _))), r, j2 + 1, C', L2 ++ [d], a5', c5', _, Z, X2 ++ Ys, by omega, rfl, hnx, hr, by rw [← hLB]; simp, by simp [hL2], ?_, hoZ, RdsC.append (hRlB.imp ?_) ⟨.slice la' (d.F.flat 0).length lc', [], rfl, hRl2.imp ?_, rfl⟩, Imp.refl _, rfl, rfl, rfl, rfl, rfl, rfl, trivial⟩
      · intro D hD'
        rcases List.mem_append.1 hD' with h | h
        · exact hgdB D h
        · obtain rfl : D = d := by simpa using h
          exact ⟨hgd2, hm2⟩
      · rw [List.append_assoc]; exact Imp.tail X2 _
      · rw [List.append_assoc]; exact Imp.sub (List.Sublist.append (List.Sublist.refl _) (List.sublist_append_right _ _))
  | nil =>
  rw [List.length_nil] at hj
  rw [List.append_nil] at hLB
  subst hLB
  subst hL2
  have hgall : ∀ D ∈ S.D :: (S.A ++ S.B), Good (D.F.flat 0) ∧ (D.F.flat 0).length ≤ 300 := fun D h => by
    simp only [List.mem_cons, List.mem_append] at h
    rcases h with rfl | h | h
    · exact ⟨hgdD, hmD⟩
    · exact hgd D h
    · exact hgdB D h
  have hass : (Y ++ (Ys ++ (X ++ (Xs ++ XD)))) ++ H = Y ++ (Ys ++ (X ++ (Xs ++ (XD ++ H)))) := by simp only [List.append_assoc]
  have j1 : Imp (Y ++ (Ys ++ (X ++ (Xs ++ (XD ++ H))))) (X ++ H) := (Imp.tail Y _).trans ((Imp.tail Ys _).trans (Imp.sub (List.Sublist.append (List.Sublist.refl X) ((List.sublist_append_right XD H).trans (List.sublist_append_right Xs _)))))
  have j2 : Imp (Y ++ (Ys ++ (X ++ (Xs ++ (XD ++ H))))) (Xs ++ H) := (Imp.tail Y _).trans ((Imp.tail Ys _).trans ((Imp.tail X _).trans (Imp.sub (List.Sublist.append (List.Sublist.refl Xs) (List.sublist_append_right XD H)))))
  have j3 : Imp (Y ++ (Ys ++ (X ++ (Xs ++ (XD ++ H))))) (XD ++ H) := (Imp.tail Y _).trans ((Imp.tail Ys _).trans ((Imp.tail X _).trans (Imp.tail Xs _)))
  have j4 : Imp (Y ++ (Ys ++ (X ++ (Xs ++ (XD ++ H))))) (Y ++ H) := Imp.sub (List.Sublist.append (List.Sublist.refl Y) ((List.sublist_append_right XD H).trans ((List.sublist_append_right Xs _).trans ((List.sublist_append_right X _).trans (List.sublist_append_right Ys _)))))
  have j5 : Imp (Y ++ (Ys ++ (X ++ (Xs ++ (XD ++ H))))) (Ys ++ H) := (Imp.tail Y _).trans (Imp.sub (List.Sublist.append (List.Sublist.refl Ys) ((List.sublist_append_right XD H).trans ((List.sublist_append_right Xs _).trans (List.sublist_append_right X _)))))
  have cB' : CsR w0 B (Y ++ H) sb S.B.length 4 C3 := CsR.own (hoB H) hRlB.one
  repeat (first | refine go_ ?_ | refine bx_ (fun _ => ?_))
  rw [hT2]
  exact finCB rfl rfl .here rfl rfl (.inr ⟨.slice la (S.D.F.flat 0).length lc, .slice sa S.A.length sc, .slice sb S.B.length sd, Y ++ (Ys ++ (X ++ (Xs ++ XD))), rfl, Imp.refl _, by rw [hass]; exact ⟨hRlD.imp j3, ⟨sa, sc, C1, rfl, cA'.imp j1, rA2.imp j2⟩, ⟨sb, sd, C3, rfl, cB'.imp j4, hRlB.imp j5⟩⟩, hgall, by omega, by omega⟩) (by rw [hass]; exact Imp.drop (Imp.drop (Imp.drop (Imp.refl _))))
end
end Go.Proofs.Ytoobhebbgbhahaa
namespace Go.Proofs.Ytoobhebbgbhahaa
open Go.RowKit

def mapV (m : Nat → Int) : Value := .agg (tab 6 m).toArray
def Rt (m : Nat → Int) : Prop := (∀ i, i < 4 → -16777216 ≤ m i ∧ m i ≤ 16777216) ∧ (∀ i, i < 6 → 4 ≤ i → -68719476736 ≤ m i ∧ m i ≤ 68719476736)
instance (m : Nat → Int) : Decidable (Rt m) := by unfold Rt; exact inferInstance
def Sm (m : Nat → Int) : Prop := ∀ i, i < 6 → -9223372036854775808 ≤ m i ∧ m i ≤ 9223372036854775807
def near16 (n : Int) : Int := (n + 32768) / 2 ^ 16
def rndZ (n d : Int) : Int := if d < 0 then (-2 * n - d) / (-2 * d) else (2 * n + d) / (2 * d)
section
variable {w0 : World} {B : Nat} {H : List Ent}
set_option maxHeartbeats 4000000 in
theorem right_fn (m : Nat → Int) (hs : Sm m) : Fn Try.prog w0 B 82 [mapV m] H (fun v H' => v = .bool (decide (Rt m)) ∧ H' = H) := by
  refine Fn.mono (R := fun v H' => ((v = .bool true ∧ Rt m) ∨ (v = .bool false ∧ ¬ Rt m)) ∧ H' = H) ?_ (fun v H' ⟨h, e⟩ => ⟨by rcases h with ⟨h, k⟩ | ⟨h, k⟩ <;> simp [h, k], e⟩)
  unfold mapV
  refine fn_intro Try.func82 rfl (by kernel_rfl) rfl ?_
  repeat (first | refine go_ ?_ | refine bx_ (fun _ => ?_))
  rename_i g
  refine hc_loop (fun z fr M => ∃ k, k + z = 6 ∧ Agr fr [(6, .agg (tab 6 m).toArray), (7, .int .i64 (k : Int))] ∧ M = ⟨g, 25, tab 6 m, 6⟩ :: H ∧ ∀ i, i < k → (i < 4 → -16777216 ≤ m i ∧ m i ≤ 16777216) ∧ (4 ≤ i → -68719476736 ≤ m i ∧ m i ≤ 68719476736)) 6 ?_ ?_
  · exact ⟨0, by omega, ⟨rfl, rfl, trivial⟩, rfl, fun i hi => by omega⟩
  rintro z fr M ⟨k, hk, hf, rfl, hall⟩
  obtain ⟨base, rfl⟩ := hf.out
  clear hf
  by_cases hlt : k < 6
  · have hb := hs k hlt
    have hnext : (k < 4 → -16777216 ≤ m k ∧ m k ≤ 16777216) → (4 ≤ k → -68719476736 ≤ m k ∧ m k ≤ 68719476736) → ∀ i, i < k + 1 → (i < 4 → -16777216 ≤ m i ∧ m i ≤ 16777216) ∧ (4 ≤ i → -68719476736 ≤ m i ∧ m i ≤ 68719476736) := fun h1 h2 i hi => by
      by_cases e : i = k
      · subst e; exact ⟨h1, h2⟩
      · exact hall i (by omega)
    by_cases h4 : 4 ≤ k
    · by_cases h1 : m k < -68719476736
      · repeat (first | refine go_ ?_ | refine bx_ (fun _ => ?_))
        exact fin1B rfl rfl ⟨.inr ⟨rfl, fun h => by have := h.2 k hlt h4; omega⟩, rfl⟩
      by_cases h2 : 68719476736 < m k
      · repeat (first | refine go_ ?_ | refine bx_ (fun _ => ?_))
        exact fin1B rfl rfl ⟨.inr ⟨rfl, fun h => by have := h.2 k hlt h4; omega⟩, rfl⟩
      repeat (first | refine go_ ?_ | refine bx_ (fun _ => ?_))
      exact ⟨z - 1, by omega, k + 1, by omega, ⟨rfl, rfl, trivial⟩, rfl, hnext (fun h => by omega) (fun h => by omega)⟩
    · by_cases h1 : m k < -16777216
      · repeat (first | refine go_ ?_ | refine bx_ (fun _ => ?_))
        exact fin1B rfl rfl ⟨.inr ⟨rfl, fun h => by have := h.1 k (by omega); omega⟩, rfl⟩
      by_cases h2 : 16777216 < m k
      · repeat (first | refine go_ ?_ | refine bx_ (fun _ => ?_))
        exact fin1B rfl rfl ⟨.inr ⟨rfl, fun h => by have := h.1 k (by omega); omega⟩, rfl⟩
      repeat (first | refine go_ ?_ | refine bx_ (fun _ => ?_))
      exact ⟨z - 1, by omega, k + 1, by omega, ⟨rfl, rfl, trivial⟩, rfl, hnext (fun h => by omega) (fun h => by omega)⟩
  · repeat (first | refine go_ ?_ | refine bx_ (fun _ => ?_))
    exact fin1B rfl rfl ⟨.inl ⟨rfl, fun i hi => (hall i (by omega)).1 hi, fun i hi h => (hall i (by omega)).2 h⟩, rfl⟩
set_option maxHeartbeats 4000000 in
theorem rright_fn (m : Nat → Int) (hs : Sm m) : Fn Try.prog w0 B 95 [mapV m] H (fun v H' => v = .bool (decide (Rt m)) ∧ H' = H) := by
  refine Fn.mono (R := fun v H' => ((v = .bool true ∧ Rt m) ∨ (v = .bool false ∧ ¬ Rt m)) ∧ H' = H) ?_ (fun v H' ⟨h, e⟩ => ⟨by rcases h with ⟨h, k⟩ | ⟨h, k⟩ <;> simp [h, k], e⟩)
  unfold mapV
  refine fn_intro Try.func95 rfl (by kernel_rfl) rfl ?_
  repeat (first | refine go_ ?_ | refine bx_ (fun _ => ?_))
  rename_i g
  refine hc_loop (fun z fr M => ∃ k, k + z = 4 ∧ Agr fr [(1, .pointer (some ⟨g, 0, none⟩)), (3, .int .i64 (k : Int))] ∧ M = ⟨g, 37, tab 6 m, 6⟩ :: H ∧ ∀ i, i < k → -16777216 ≤ m i ∧ m i ≤ 16777216) 4 ?_ ?_
  · exact ⟨0, by omega, ⟨rfl, rfl, trivial⟩, rfl, fun i hi => by omega⟩
  rintro z fr M ⟨k, hk, hf, rfl, hall⟩
  obtain ⟨base, rfl⟩ := hf.out
  clear hf
  by_cases hlt : k < 4
  · by_cases h1 : m k < -16777216
    · repeat (first | refine go_ ?_ | refine bx_ (fun _ => ?_))
      exact fin1B rfl rfl ⟨.inr ⟨rfl, fun h => by have := h.1 k (by omega); omega⟩, rfl⟩
    by_cases h2 : 16777216 < m k
    · repeat (first | refine go_ ?_ | refine bx_ (fun _ => ?_))
      exact fin1B rfl rfl ⟨.inr ⟨rfl, fun h => by have := h.1 k (by omega); omega⟩, rfl⟩
    repeat (first | refine go_ ?_ | refine bx_ (fun _ => ?_))
    refine ⟨z - 1, by omega, k + 1, by omega, ⟨rfl, rfl, trivial⟩, rfl, fun i hi => ?_⟩
    by_cases e : i = k
    · subst e; omega
    · exact hall i (by omega)
  obtain rfl : k = 4 := by omega
  clear hlt hk
  repeat (first | refine go_ ?_ | refine bx_ (fun _ => ?_))
  refine hc_loop (fun z fr M => ∃ k, k + z = 6 ∧ 4 ≤ k ∧ Agr fr [(1, .pointer (some ⟨g, 0, none⟩)), (4, .int .i64 (k : Int))] ∧ M = ⟨g, 37, tab 6 m, 6⟩ :: H ∧ ∀ i, i < k → 4 ≤ i → -68719476736 ≤ m i ∧ m i ≤ 68719476736) 2 ?_ ?_
  · exact ⟨4, by omega, by omega, ⟨rfl, rfl, trivial⟩, rfl, fun i hi => by omega⟩
  clear base
  rintro z fr M ⟨k, hk, h4, hf, rfl, hall2⟩
  obtain ⟨base, rfl⟩ := hf.out
  clear hf
  by_cases hlt : k < 6
  · by_cases h1 : m k < -68719476736
    · repeat (first | refine go_ ?_ | refine bx_ (fun _ => ?_))
      exact fin1B rfl rfl ⟨.inr ⟨rfl, fun h => by have := h.2 k hlt h4; omega⟩, rfl⟩
    by_cases h2 : 68719476736 < m k
    · repeat (first | refine go_ ?_ | refine bx_ (fun _ => ?_))
      exact fin1B rfl rfl ⟨.inr ⟨rfl, fun h => by have := h.2 k hlt h4; omega⟩, rfl⟩
    repeat (first | refine go_ ?_ | refine bx_ (fun _ => ?_))
    refine ⟨z - 1, by omega, k + 1, by omega, by omega, ⟨rfl, rfl, trivial⟩, rfl, fun i hi hi2 => ?_⟩
    by_cases e : i = k
    · subst e; omega
    · exact hall2 i (by omega) hi2
  · repeat (first | refine go_ ?_ | refine bx_ (fun _ => ?_))
    exact fin1B rfl rfl ⟨.inl ⟨rfl, hall, fun i hi h => hall2 i (by omega) h⟩, rfl⟩
theorem tdiv_floor (n m : Int) (hm : 0 < m) : n.tdiv m = if 0 ≤ n ∨ n % m = 0 then n / m else n / m + 1 := by
  rw [Int.tdiv_eq_ediv]
  have hd : m ∣ n ↔ n % m = 0 := Int.dvd_iff_emod_eq_zero ..
  simp only [hd]
  have hs : m.sign = 1 := Int.sign_eq_one_of_pos hm
  rw [hs]
  split <;> omega
theorem tmod_zero (n m : Int) : n.tmod m = 0 ↔ n % m = 0 := by rw [← Int.dvd_iff_emod_eq_zero, Int.dvd_iff_tmod_eq_zero]
def Big (n : Int) : Prop := -4611686018427387904 ≤ n ∧ n ≤ 4611686018427387904
theorem ediv_big {n m : Int} (hn : Big n) (hm : 0 < m) : Big (n / m) := by
  unfold Big at *
  constructor
  · rw [Int.le_ediv_iff_mul_le hm]
    have : (-4611686018427387904 : Int) * m ≤ -4611686018427387904 * 1 := Int.mul_le_mul_of_nonpos_left (by omega) (by omega)
    omega
  · refine Int.ediv_le_of_le_mul hm ?_
    have : (4611686018427387904 : Int) * 1 ≤ 4611686018427387904 * m := Int.mul_le_mul_of_nonneg_left (by omega) (by omega)
    omega
theorem floor_fn (n m : Int) (hn : Big n) (hm : 0 < m ∧ m ≤ 1152921504606846976) : Fn Try.prog w0 B 94 [.int .i64 n, .int .i64 m] H (fun v H' => v = .int .i64 (n / m) ∧ H' = H) := by
  refine fn_intro Try.func94 rfl (by kernel_rfl) rfl ?_
  have ht := tdiv_floor n m hm.1
  have hz := tmod_zero n m
  have hb := ediv_big hn hm.1
  unfold Big at hn hb
  by_cases h0 : 0 ≤ n
  · by_cases h1 : n % m = 0
    · repeat (first | refine go_ ?_ | refine bx_ (fun _ => ?_))
      exact fin1I rfl rfl ⟨rfl, rfl⟩
    · repeat (first | refine go_ ?_ | refine bx_ (fun _ => ?_))
      exact fin1I rfl rfl ⟨rfl, rfl⟩
  · by_cases h1 : n % m = 0
    · rw [if_pos (.inr h1)] at ht
      have h2 := hz.2 h1
      have hw : IntKind.i64.wrap (n / m) = n / m := IntWalk.i64_in _ (by omega)
      repeat (first | rw [ht, hw] | rw [h2] | refine go1_ ?_ | refine bx_ (fun _ => ?_))
      exact fin1I rfl rfl ⟨rfl, rfl⟩
    · rw [if_neg (by omega)] at ht
      have h2 : ¬ n.tmod m = 0 := fun h => h1 (hz.1 h)
      have hw : IntKind.i64.wrap (n / m + 1) = n / m + 1 := IntWalk.i64_in _ (by omega)
      repeat (first | rw [ht, hw] | refine go1_ ?_ | refine bx_ (fun _ => ?_))
      exact fin1I rfl rfl ⟨by rw [show n / m + 1 - 1 = n / m by omega], rfl⟩
theorem down_fn (n m : Int) (hn : Big n) (hm : 0 < m ∧ m ≤ 1152921504606846976) : Fn Try.prog w0 B 100 [.int .i64 n, .int .i64 m] H (fun v H' => v = .int .i64 (n / m) ∧ H' = H) := by
  refine fn_intro Try.func100 rfl (by kernel_rfl) rfl ?_
  have h1 := Int.emod_nonneg n (show m ≠ 0 by omega)
  have h2 := Int.emod_lt_of_pos n hm.1
  have h3 := Int.mul_ediv_add_emod n m
  have hb := ediv_big hn hm.1
  unfold Big at hn hb
  have ht : n.tmod m = if 0 ≤ n ∨ n % m = 0 then n % m else n % m - m := by
    rw [Int.tmod_eq_emod]
    have hd : m ∣ n ↔ n % m = 0 := Int.dvd_iff_emod_eq_zero ..
    simp only [hd]
    split <;> omega
  have hq : n - n % m = m * (n / m) := by omega
  have htd : (n - n % m).tdiv m = n / m := by rw [hq, Int.mul_tdiv_cancel_left _ (by omega)]
  have hw : IntKind.i64.wrap (n / m) = n / m := IntWalk.i64_in _ (by omega)
  have hde : (n - n % m) / m = n / m := by rw [hq, Int.mul_ediv_cancel_left _ (by omega)]
  by_cases hc : 0 ≤ n ∨ n % m = 0
  · rw [if_pos hc] at ht
    repeat (first | rw [ht] | rw [htd, hw] | rw [hde] | refine go1_ ?_ | refine bx_ (fun _ => ?_))
    exact fin1I rfl rfl ⟨rfl, rfl⟩
  · rw [if_neg hc] at ht
    repeat (first | rw [ht] | rw [htd, hw] | rw [hde] | rw [show n % m - m + m = n % m by omega] | refine go1_ ?_ | refine bx_ (fun _ => ?_))
    exact fin1I rfl rfl ⟨rfl, rfl⟩
def Mid (n : Int) : Prop := -144115188075855872 ≤ n ∧ n ≤ 144115188075855872
theorem round_fn (n d : Int) (hn : Mid n) (hd : Mid d) (h0 : d ≠ 0) : Fn Try.prog w0 B 83 [.int .i64 n, .int .i64 d] H (fun v H' => v = .int .i64 (rndZ n d) ∧ H' = H) := by
  refine fn_intro Try.func83 rfl (by kernel_rfl) rfl ?_
  unfold Mid at hn hd
  by_cases h1 : d < 0
  · repeat (first | refine go_ ?_ | refine bx_ (fun _ => ?_) | refine hl_callv rfl rfl (floor_fn _ _ (by unfold Big; omega) (by omega)) ?_)
    exact fin1I rfl rfl ⟨by unfold rndZ; rw [if_pos h1, show -2 * n - d = 2 * -n + -d by omega, show -2 * d = 2 * -d by omega], rfl⟩
  · repeat (first | refine go_ ?_ | refine bx_ (fun _ => ?_) | refine hl_callv rfl rfl (floor_fn _ _ (by unfold Big; omega) (by omega)) ?_)
    exact fin1I rfl rfl ⟨by unfold rndZ; rw [if_neg h1], rfl⟩
theorem rround_fn (n d : Int) (hn : Mid n) (hd : Mid d) (h0 : d ≠ 0) : Fn Try.prog w0 B 96 [.int .i64 n, .int .i64 d] H (fun v H' => v = .int .i64 (rndZ n d) ∧ H' = H) := by
  refine fn_intro Try.func96 rfl (by kernel_rfl) rfl ?_
  unfold Mid at hn hd
  by_cases h1 : d < 0
  · repeat (first | refine go_ ?_ | refine bx_ (fun _ => ?_) | refine hl_callv rfl rfl (down_fn _ _ (by unfold Big; omega) (by omega)) ?_)
    exact fin1I rfl rfl ⟨by unfold rndZ; rw [if_pos h1], rfl⟩
  · repeat (first | refine go_ ?_ | refine bx_ (fun _ => ?_) | refine hl_callv rfl rfl (down_fn _ _ (by unfold Big; omega) (by omega)) ?_)
    exact fin1I rfl rfl ⟨by unfold rndZ; rw [if_neg h1], rfl⟩
def Near (n : Int) : Prop := -2323857407723175936 ≤ n ∧ n ≤ 2323857407723175936
theorem near_fn (n : Int) (hn : Near n) : Fn Try.prog w0 B 84 [.int .i64 n] H (fun v H' => v = .int .i64 (near16 n) ∧ H' = H) := by
  refine fn_intro Try.func84 rfl (by kernel_rfl) rfl ?_
  unfold Near at hn
  repeat (first | refine go_ ?_ | refine bx_ (fun _ => ?_))
  exact fin1I rfl rfl ⟨rfl, rfl⟩
theorem rnear_fn (n : Int) (hn : Near n) : Fn Try.prog w0 B 97 [.int .i64 n] H (fun v H' => v = .int .i64 (near16 n) ∧ H' = H) := by
  refine fn_intro Try.func97 rfl (by kernel_rfl) rfl ?_
  unfold Near at hn
  repeat (first | refine go_ ?_ | refine bx_ (fun _ => ?_) | refine hl_callv rfl rfl (down_fn _ _ (by unfold Big; omega) (by omega)) ?_)
  exact fin1I rfl rfl ⟨rfl, rfl⟩
theorem rightY (m : Nat → Int) (hs : Sm m) (h : Rt m) : Fn Try.prog w0 B 82 [mapV m] H (fun v H' => v = .bool true ∧ H' = H) := by
  have := right_fn (w0 := w0) (B := B) (H := H) m hs
  rwa [decide_eq_true h] at this
theorem rightN (m : Nat → Int) (hs : Sm m) (h : ¬ Rt m) : Fn Try.prog w0 B 82 [mapV m] H (fun v H' => v = .bool false ∧ H' = H) := by
  have := right_fn (w0 := w0) (B := B) (H := H) m hs
  rwa [decide_eq_false h] at this
theorem rrightY (m : Nat → Int) (hs : Sm m) (h : Rt m) : Fn Try.prog w0 B 95 [mapV m] H (fun v H' => v = .bool true ∧ H' = H) := by
  have := rright_fn (w0 := w0) (B := B) (H := H) m hs
  rwa [decide_eq_true h] at this
theorem rrightN (m : Nat → Int) (hs : Sm m) (h : ¬ Rt m) : Fn Try.prog w0 B 95 [mapV m] H (fun v H' => v = .bool false ∧ H' = H) := by
  have := rright_fn (w0 := w0) (B := B) (H := H) m hs
  rwa [decide_eq_false h] at this
end
end Go.Proofs.Ytoobhebbgbhahaa
