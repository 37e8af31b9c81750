/-
  PackStates, given the program's Right. No condition but that.
-/
import Derived.Test.YtoobhebbgbhahaaPackG13
namespace Go.Proofs.Ytoobhebbgbhahaa
open Go.RowKit
theorem getS_zero {l : List UInt8} (h : (getS l).2 ≠ 0) : (getS l).1 = Stt.zero := by
  unfold getS at h ⊢
  split
  · rfl
  · rename_i h1
    rw [if_neg h1] at h
    split
    · rename_i h2; rw [if_pos h2] at h; exact absurd rfl h
    · rfl
theorem Fo.wf_up : ∀ F : Fo, F.wf 1000000 → F.wf 1000000000
  | .nil, _ => trivial
  | .cons l k r, ⟨a, b, c, d⟩ => ⟨⟨a.hd, a.P, a.mp, a.t, a.Q, by have := a.Pl; omega, by have := a.Ml; omega, by have := a.Ql; omega⟩, by omega, Fo.wf_up k c, Fo.wf_up r d⟩
section
variable {w0 : World} {B : Nat} {H R R0 : List Ent} {g : Nat}
set_option maxHeartbeats 16000000
set_option maxRecDepth 100000
theorem states_law {S : Stt} {kv av bv : Value} (hR : RightOk w0 B) (hS : StR w0 B H S kv av bv) (hw : S.wf NN) :
    Fn Try.prog w0 B 7 [.agg (stC S kv av bv).toArray] H (fun v _ => v = .bool true) := by
  obtain ⟨ka, kc, rfl⟩ := hS.D.form
  obtain ⟨aa, ac, rfl⟩ := hS.A.form
  obtain ⟨ba, bc, rfl⟩ := hS.B.form
  refine fn_intro Try.func7 rfl (by kernel_rfl) rfl ?_
  repeat (first | refine hl_loadN (i := 0) (n := 6) (vs := stC S (.slice ka S.D.F.len kc) (.slice aa S.A.length ac) (.slice ba S.B.length bc)) rfl .here rfl rfl rfl ?_ | refine go1_ ?_ | refine bx_ (fun _ => ?_) | refine hl_callv rfl rfl (anchor_fn) ?_)
  rename_i g1
  obtain ⟨e1, he1⟩ : ∃ e : Ent, e = ⟨g1, 55, stC S (.slice ka S.D.F.len kc) (.slice aa S.A.length ac) (.slice ba S.B.length bc), 6⟩ := ⟨_, rfl⟩
  refine HL.perm (H' := e1 :: H) ?_ (by rw [he1]; exact List.Perm.refl _)
  refine hl_call rfl rfl (plain_fn (hS.imp (Imp.drop (Imp.refl _)))) (fun v M o => ?_)
  rcases o with ⟨l, hl6, hone, rfl, him⟩ | ⟨lv, av', bv', X1, rfl, him, hRst, hgood, h8a, h8b⟩
  · refine HL.imp ?_ him
    repeat (first | refine go_ ?_ | refine bx_ (fun _ => ?_))
    refine hl_storeN (i := 0) (n := 6) rfl rfl hl6 hone .here (by simp) rfl ?_
    repeat (first | refine go_ ?_ | refine bx_ (fun _ => ?_))
    exact fin1B rfl rfl rfl
  obtain ⟨hok, hw6, hlen⟩ := good_state hw hgood h8a h8b
  refine HL.imp ?_ him
  obtain ⟨la, lc, rfl⟩ := hRst.D.form
  obtain ⟨ra, rc, rfl⟩ := hRst.A.form
  obtain ⟨sa, sc, rfl⟩ := hRst.B.form
  repeat (first | refine go_ ?_ | refine bx_ (fun _ => ?_))
  rename_i g3
  obtain ⟨M1, hM1⟩ : ∃ M, M = (⟨g3, 61, stC S (.slice la (S.D.F.flat 0).length lc) (.slice ra S.A.length rc) (.slice sa S.B.length sc), 6⟩ :: (X1 ++ (e1 :: H)) : List Ent) := ⟨_, rfl⟩
  obtain ⟨F1, t1⟩ : ∃ F, Take M1 ⟨g1, 55, stC S (.slice ka S.D.F.len kc) (.slice aa S.A.length ac) (.slice ba S.B.length bc), 6⟩ F := ⟨_, by rw [hM1, he1]; exact .there (Take.app X1 .here)⟩
  obtain ⟨F3, t3⟩ : ∃ F, Take M1 ⟨g3, 61, stC S (.slice la (S.D.F.flat 0).length lc) (.slice ra S.A.length rc) (.slice sa S.B.length sc), 6⟩ F := ⟨_, by rw [hM1]; exact .here⟩
  have i1 : Imp M1 (X1 ++ (e1 :: H)) := by rw [hM1]; exact Imp.drop (Imp.refl _)
  have iH : Imp M1 H := i1.trans ((Imp.tail X1 _).trans (Imp.drop (Imp.refl _)))
  refine HL.perm (H' := M1) ?_ (by rw [hM1]; exact List.Perm.refl _)
  repeat (first | refine hl_loadN (i := 0) (n := 6) (vs := stC S (.slice ka S.D.F.len kc) (.slice aa S.A.length ac) (.slice ba S.B.length bc)) rfl t1 rfl rfl rfl ?_ | refine go1_ ?_ | refine bx_ (fun _ => ?_))
  refine hl_call rfl rfl (putState_fn (hS.imp iH) hw6 (by omega)) (fun v M o => ?_)
  obtain ⟨ab, cb, rfl, _, _⟩ := o.form
  obtain ⟨Xb, hpb, hob⟩ := o.permE
  refine HL.perm ?_ hpb
  obtain ⟨b, hb⟩ : ∃ b, b = S.put := ⟨_, rfl⟩
  have hsm := smS_put hw6 (by omega) hok
  have hgp : (getS S.put).2 = 0 → (getS S.put).1 = S := getS_put hw6 (by omega)
  have hrp := fun (M : List Ent) (hi : Imp M M1) => rputState_fn (H := M) (hRst.imp (hi.trans i1)) (hok _ (by simp [Stt.all])) (fun D h => hok D (by simp [Stt.all, h])) (fun D h => hok D (by simp [Stt.all, h])) hw6 (by omega)
  rw [← hb] at hob hsm hgp hrp hlen ⊢
  obtain ⟨M2, hM2⟩ : ∃ M2, M2 = Xb ++ M1 := ⟨_, rfl⟩
  have i2 : Imp M2 M1 := by rw [hM2]; exact Imp.tail Xb _
  have bb : BytR w0 B M2 ab b.length cb b := by rw [hM2]; exact BytR.own (hob M1)
  have t32 := Take.app Xb t3
  have t12 := Take.app Xb t1
  rw [← hM2] at t32 t12 ⊢
  repeat (first | refine hl_loadN (i := 0) (n := 6) (vs := stC S (.slice la (S.D.F.flat 0).length lc) (.slice ra S.A.length rc) (.slice sa S.B.length sc)) rfl t32 rfl rfl rfl ?_ | refine go1_ ?_ | refine bx_ (fun _ => ?_))
  refine hl_call rfl rfl (hrp M2 i2) (fun v M o => ?_)
  obtain ⟨ar, cr, rfl, _, _⟩ := o.form
  obtain ⟨Xr, hpr, hor⟩ := o.permE
  refine HL.perm ?_ hpr
  have sm := same_fn (bb.imp (Imp.tail Xr M2)) (BytR.own (w0 := w0) (B := B) (hor M2)) (by omega)
  rw [show decide (b = b) = true from decide_eq_true rfl] at sm
  repeat (first | refine go_ ?_ | refine bx_ (fun _ => ?_) | refine hl_callv rfl rfl (sm) ?_)
  refine HL.imp ?_ (Imp.tail Xr M2)
  refine hl_call rfl rfl (getState_fn hR bb (by omega) hsm) (fun v M o => ?_)
  obtain ⟨kv, av, bv, Xg, rfl, himg, hSt⟩ := o
  refine HL.imp ?_ himg
  obtain ⟨G, hG⟩ : ∃ G, G = getS b := ⟨_, rfl⟩
  rw [← hG] at hSt hgp ⊢
  obtain ⟨ka2, kc2, rfl⟩ := hSt.D.form
  obtain ⟨aa2, ac2, rfl⟩ := hSt.A.form
  obtain ⟨ba2, bc2, rfl⟩ := hSt.B.form
  repeat (first | refine go_ ?_ | refine bx_ (fun _ => ?_))
  rename_i g6
  obtain ⟨M3, hM3⟩ : ∃ M, M = (⟨g6, 55, stC G.1 (.slice ka2 G.1.D.F.len kc2) (.slice aa2 G.1.A.length ac2) (.slice ba2 G.1.B.length bc2), 6⟩ :: (Xg ++ M2) : List Ent) := ⟨_, rfl⟩
  obtain ⟨F6, t6⟩ : ∃ F, Take M3 ⟨g6, 55, stC G.1 (.slice ka2 G.1.D.F.len kc2) (.slice aa2 G.1.A.length ac2) (.slice ba2 G.1.B.length bc2), 6⟩ F := ⟨_, by rw [hM3]; exact .here⟩
  obtain ⟨F33, t33⟩ : ∃ F, Take M3 ⟨g3, 61, stC S (.slice la (S.D.F.flat 0).length lc) (.slice ra S.A.length rc) (.slice sa S.B.length sc), 6⟩ F := ⟨_, by rw [hM3]; exact .there (Take.app Xg t32)⟩
  have i3g : Imp M3 (Xg ++ M2) := by rw [hM3]; exact Imp.drop (Imp.refl _)
  have i3 : Imp M3 M2 := i3g.trans (Imp.tail Xg _)
  refine HL.perm (H' := M3) ?_ (by rw [hM3]; exact List.Perm.refl _)
  refine hl_call rfl rfl (rgetState_fn (bb.imp i3) (by omega) hsm) (fun v M o => ?_)
  obtain ⟨lv3, av3, bv3, Xh, rfl, himh, hRt⟩ := o
  refine HL.imp ?_ himh
  rw [← hG] at hRt ⊢
  obtain ⟨la3, lc3, rfl⟩ := hRt.D.form
  obtain ⟨ra3, rc3, rfl⟩ := hRt.A.form
  obtain ⟨sa3, sc3, rfl⟩ := hRt.B.form
  have hGall : (∀ D ∈ G.1.D :: (G.1.A ++ G.1.B), D.ok ∧ D.F.wf 1000000000) ∧ G.1.A.length ≤ 1000000 ∧ G.1.B.length ≤ 1000000 := by
    by_cases h0 : G.2 = 0
    · rw [hgp h0]
      refine ⟨fun D h => ⟨hok D h, ?_⟩, hw6.Al, hw6.Bl⟩
      have h6 : D.F.wf 1000000 := by
        simp only [List.mem_cons, List.mem_append] at h
        rcases h with rfl | h | h
        · exact hw6.D.F
        · exact (hw6.A D h).F
        · exact (hw6.B D h).F
      exact Fo.wf_up D.F h6
    · have hz : G.1 = Stt.zero := by rw [hG] at h0 ⊢; exact getS_zero h0
      rw [hz]
      refine ⟨fun D h => ?_, by simp [Stt.zero], by simp [Stt.zero]⟩
      obtain rfl : D = ⟨0, 0, 0, .nil⟩ := by simpa [Stt.zero] using h
      exact ⟨⟨by simp [Fo.ids], by simp [Fo.ids], by simp [Fo.cnt]⟩, trivial⟩
  have hRs3 := hRst.imp ((i3.trans i2).trans i1)
  have c1 := fun e : Ent => like_st_fn (H := e :: (Xh ++ M3)) (hSt.imp (Imp.drop ((Imp.tail Xh _).trans i3g))) (hRt.imp (Imp.drop (Imp.refl _))) hGall.1 hGall.2.1 hGall.2.2
  by_cases h0 : G.2 = 0
  rotate_left
  · repeat (first | refine hl_loadN (i := 0) (n := 6) (vs := stC G.1 (.slice ka2 G.1.D.F.len kc2) (.slice aa2 G.1.A.length ac2) (.slice ba2 G.1.B.length bc2)) rfl (.there (Take.app Xh t6)) rfl rfl rfl ?_ | refine hl_loadN (i := 0) (n := 6) (vs := stC G.1 (.slice la3 (G.1.D.F.flat 0).length lc3) (.slice ra3 G.1.A.length rc3) (.slice sa3 G.1.B.length sc3)) rfl .here rfl rfl rfl ?_ | refine hl_loadN (i := 0) (n := 6) (vs := stC S (.slice la (S.D.F.flat 0).length lc) (.slice ra S.A.length rc) (.slice sa S.B.length sc)) rfl (.there (Take.app Xh t33)) rfl rfl rfl ?_ | refine go1_ ?_ | refine bx_ (fun _ => ?_) | refine hl_callv rfl rfl (c1 _) ?_)
    exact fin1B rfl rfl rfl
  · have c2 : ∀ e : Ent, Fn Try.prog w0 B 24 [.agg (stC G.1 (.slice ka2 G.1.D.F.len kc2) (.slice aa2 G.1.A.length ac2) (.slice ba2 G.1.B.length bc2)).toArray, .agg (stC S (.slice la (S.D.F.flat 0).length lc) (.slice ra S.A.length rc) (.slice sa S.B.length sc)).toArray] (e :: (Xh ++ M3)) (fun v H' => v = .bool true ∧ H' = e :: (Xh ++ M3)) := fun e => by
      have q := hSt.imp (Imp.drop (x := e) ((Imp.tail Xh _).trans i3g))
      have q2 := hGall
      rw [hgp h0] at q q2 ⊢
      exact like_st_fn q (hRs3.imp (Imp.drop (Imp.tail Xh _))) q2.1 q2.2.1 q2.2.2
    repeat (first | refine hl_loadN (i := 0) (n := 6) (vs := stC G.1 (.slice ka2 G.1.D.F.len kc2) (.slice aa2 G.1.A.length ac2) (.slice ba2 G.1.B.length bc2)) rfl (.there (Take.app Xh t6)) rfl rfl rfl ?_ | refine hl_loadN (i := 0) (n := 6) (vs := stC G.1 (.slice la3 (G.1.D.F.flat 0).length lc3) (.slice ra3 G.1.A.length rc3) (.slice sa3 G.1.B.length sc3)) rfl .here rfl rfl rfl ?_ | refine hl_loadN (i := 0) (n := 6) (vs := stC S (.slice la (S.D.F.flat 0).length lc) (.slice ra S.A.length rc) (.slice sa S.B.length sc)) rfl (.there (Take.app Xh t33)) rfl rfl rfl ?_ | refine go1_ ?_ | refine bx_ (fun _ => ?_) | refine hl_callv rfl rfl (c1 _) ?_ | refine hl_callv rfl rfl (c2 _) ?_)
    exact fin1B rfl rfl rfl
end
end Go.Proofs.Ytoobhebbgbhahaa
namespace Go.Proofs.Ytoobhebbgbhahaa
open Go.RowKit
theorem docs_mem {L : List Dc} {D : Dc} (h : D ∈ L) : D.put.length ≤ (docsB L).length := by
  induction L with
  | nil => cases h
  | cons x L ih =>
    rw [docsB_cons, List.length_append]
    rcases List.mem_cons.1 h with rfl | h
    · omega
    · have := ih h; omega
theorem st_mem {S : Stt} {D : Dc} (h : D ∈ S.all) : D.F.cnt ≤ S.put.length := by
  have a := D.F.cnt_body
  have b : D.F.body.length ≤ D.put.length := by
    unfold Dc.put Fo.put
    simp only [List.length_append]; omega
  have c : D.put.length ≤ S.put.length := by
    unfold Stt.put
    simp only [List.length_append]
    simp only [Stt.all, List.mem_cons, List.mem_append] at h
    rcases h with rfl | h | h
    · omega
    · have := docs_mem h; omega
    · have := docs_mem h; omega
  omega
theorem smS_of {b : List UInt8} (hb : b.length ≤ 1000000) : SmS b := fun h D hD => by
  obtain ⟨h0, hl⟩ := endE_nil h
  obtain ⟨g1, g2, g3⟩ := getSR_was (N := 1000000) h0 hb
  rw [hl, List.append_nil] at g1
  have hc := st_mem hD
  rw [← g1] at hc
  refine ⟨g3 D hD, ?_, by omega⟩
  simp only [Stt.all, List.mem_cons, List.mem_append] at hD
  rcases hD with h | h | h
  · rw [h]; exact g2.D.F
  · exact (g2.A D h).F
  · exact (g2.B D h).F
theorem getS_was {b : List UInt8} (hb : b.length ≤ 1000000) (h : (getS b).2 = 0) : b = (getS b).1.put ∧ (getS b).1.wf 1000000 ∧ ∀ D ∈ (getS b).1.all, D.ok := by
  unfold getS at h ⊢
  by_cases h1 : (getSR b).2.endE ≠ 0
  · rw [if_pos h1] at h; exact absurd h h1
  rw [if_neg h1] at h ⊢
  have h1' : (getSR b).2.endE = 0 := Classical.not_not.1 h1
  split
  · rename_i h2
    obtain ⟨h0, hl⟩ := endE_nil h1'
    obtain ⟨g1, g2, g3⟩ := getSR_was (N := 1000000) h0 hb
    rw [hl, List.append_nil] at g1
    refine ⟨g1, g2, fun D hD => ⟨(h2 D hD).nd, (h2 D hD).z, (smS_of hb h1' D hD).2.2⟩⟩
  · rename_i h2; rw [if_neg h2] at h; cases h
section
variable {w0 : World} {B : Nat} {H R R0 : List Ent} {g : Nat}
set_option maxHeartbeats 16000000
set_option maxRecDepth 100000
theorem gets_law {a : Option Addr} {n c : Nat} {b : List UInt8} (hR : RightOk w0 B) (hb : BytR w0 B H a n c b) :
    Fn Try.prog w0 B 8 [.slice a n c] H (fun v _ => v = .bool true) := by
  have hn := hb.eq
  refine fn_intro Try.func8 rfl (by kernel_rfl) rfl ?_
  by_cases h1 : 3000 < n
  · repeat (first | refine go_ ?_ | refine bx_ (fun _ => ?_) | refine hl_callv rfl rfl (anchor_fn) ?_)
    exact fin1B rfl rfl rfl
  have hsm : SmS b := smS_of (by omega)
  have hwas := getS_was (b := b) (by omega)
  repeat (first | refine go_ ?_ | refine bx_ (fun _ => ?_) | refine hl_callv rfl rfl (anchor_fn) ?_)
  refine hl_call rfl rfl (getState_fn hR hb (by omega) hsm) (fun v M o => ?_)
  obtain ⟨kv, av, bv, Xg, rfl, himg, hSt⟩ := o
  refine HL.imp ?_ himg
  obtain ⟨G, hG⟩ : ∃ G, G = getS b := ⟨_, rfl⟩
  have hz : G.2 ≠ 0 → G.1 = Stt.zero := fun h => by rw [hG] at h ⊢; exact getS_zero h
  rw [← hG] at hSt hwas ⊢
  obtain ⟨ka2, kc2, rfl⟩ := hSt.D.form
  obtain ⟨aa2, ac2, rfl⟩ := hSt.A.form
  obtain ⟨ba2, bc2, rfl⟩ := hSt.B.form
  repeat (first | refine go_ ?_ | refine bx_ (fun _ => ?_))
  rename_i g6
  obtain ⟨M3, hM3⟩ : ∃ M, M = (⟨g6, 55, stC G.1 (.slice ka2 G.1.D.F.len kc2) (.slice aa2 G.1.A.length ac2) (.slice ba2 G.1.B.length bc2), 6⟩ :: (Xg ++ H) : List Ent) := ⟨_, rfl⟩
  obtain ⟨F6, t6⟩ : ∃ F, Take M3 ⟨g6, 55, stC G.1 (.slice ka2 G.1.D.F.len kc2) (.slice aa2 G.1.A.length ac2) (.slice ba2 G.1.B.length bc2), 6⟩ F := ⟨_, by rw [hM3]; exact .here⟩
  have i3g : Imp M3 (Xg ++ H) := by rw [hM3]; exact Imp.drop (Imp.refl _)
  have i3 : Imp M3 H := i3g.trans (Imp.tail Xg _)
  refine HL.perm (H' := M3) ?_ (by rw [hM3]; exact List.Perm.refl _)
  refine hl_call rfl rfl (rgetState_fn (hb.imp i3) (by omega) hsm) (fun v M o => ?_)
  obtain ⟨lv3, av3, bv3, Xh, rfl, himh, hRt⟩ := o
  refine HL.imp ?_ himh
  rw [← hG] at hRt ⊢
  obtain ⟨la3, lc3, rfl⟩ := hRt.D.form
  obtain ⟨ra3, rc3, rfl⟩ := hRt.A.form
  obtain ⟨sa3, sc3, rfl⟩ := hRt.B.form
  by_cases h0 : G.2 = 0
  rotate_left
  · have e := hz h0
    have eK : G.1.D.F.len = 0 := by rw [e]; rfl
    have eW : G.1.D.w = 0 := by rw [e]; rfl
    have eA : G.1.A.length = 0 := by rw [e]; rfl
    repeat (first | refine hl_load1 rfl (.there (Take.app Xh t6)) rfl rfl ?_ | refine go1_ ?_ | refine bx_ (fun _ => ?_))
    exact fin1B rfl rfl rfl
  · obtain ⟨hput, hw6, hok⟩ := hwas h0
    have hall : ∀ D ∈ G.1.D :: (G.1.A ++ G.1.B), D.ok ∧ D.F.wf 1000000000 := fun D h => ⟨hok D h, by
      have h6 : D.F.wf 1000000 := by
        simp only [List.mem_cons, List.mem_append] at h
        rcases h with rfl | h | h
        · exact hw6.D.F
        · exact (hw6.A D h).F
        · exact (hw6.B D h).F
      exact Fo.wf_up D.F h6⟩
    have c1 := fun e : Ent => like_st_fn (H := e :: (Xh ++ M3)) (hSt.imp (Imp.drop ((Imp.tail Xh _).trans i3g))) (hRt.imp (Imp.drop (Imp.refl _))) hall hw6.Al hw6.Bl
    repeat (first | refine hl_loadN (i := 0) (n := 6) (vs := stC G.1 (.slice ka2 G.1.D.F.len kc2) (.slice aa2 G.1.A.length ac2) (.slice ba2 G.1.B.length bc2)) rfl (.there (Take.app Xh t6)) rfl rfl rfl ?_ | refine hl_loadN (i := 0) (n := 6) (vs := stC G.1 (.slice la3 (G.1.D.F.flat 0).length lc3) (.slice ra3 G.1.A.length rc3) (.slice sa3 G.1.B.length sc3)) rfl .here rfl rfl rfl ?_ | refine go1_ ?_ | refine bx_ (fun _ => ?_) | refine hl_callv rfl rfl (c1 _) ?_)
    refine hl_call rfl rfl (putState_fn (hSt.imp (Imp.drop ((Imp.tail Xh _).trans i3g))) hw6 (by rw [← hput]; omega)) (fun v M o => ?_)
    obtain ⟨ab, cb, rfl, _, _⟩ := o.form
    obtain ⟨Xb, hpb, hob⟩ := o.permE
    refine HL.perm ?_ hpb
    rw [← hput] at hob ⊢
    have sm := fun e : Ent => same_fn (BytR.own (w0 := w0) (B := B) (hob (e :: (Xh ++ M3)))) (hb.imp ((Imp.tail Xb _).trans (Imp.drop ((Imp.tail Xh _).trans i3)))) (by omega)
    rw [show decide (b = b) = true from decide_eq_true rfl] at sm
    repeat (first | refine go_ ?_ | refine bx_ (fun _ => ?_) | refine hl_callv rfl rfl (sm _) ?_)
    exact fin1B rfl rfl rfl
end
end Go.Proofs.Ytoobhebbgbhahaa
namespace Go.Proofs.Ytoobhebbgbhahaa
open Go.RowKit
section
variable {w0 : World} {B : Nat} {H R R0 : List Ent} {g gm : Nat}
set_option maxHeartbeats 32000000
set_option maxRecDepth 100000
theorem right_all {w h n : Int} {da : Option Addr} {dl dc : Nat} (hsz : SzQ w h) : ∀ (N : Nat) (l : Ly) (k : Fo), k.cnt < N → l.wf 1000000 → k.wf 1000000 → k.cnt ≤ 1000000 → ∀ R, Rc w0 B w h n (.slice da dl dc) gm R l k
  | 0, _, _, h, _, _, _ => absurd h (by omega)
  | N + 1, l, k, hN, hw, hkw, hkc => fun R => right_core hw hsz hkc fun g4 g5 R' _ => Fo.all_of k _ hkw fun l' k' a b e => cl_of fun R'' _ => right_all hsz N l' k' (by omega) a b (by omega) R''
theorem tDepth_fn {D : Dc} {kv : Value} (hF : FoR w0 B H kv D.F) (hc : D.F.cnt ≤ 1000000) : Fn Try.prog w0 B 54 [.agg (dcC D kv).toArray] H (fun v H' => v = .int .i64 (D.F.dep : Int) ∧ H' = H) := by
  have hF0 := hF
  obtain ⟨a, c, C, rfl, hC, hFo⟩ := hF
  refine fn_intro Try.func54 rfl (by kernel_rfl) rfl ?_
  repeat (first | refine go_ ?_ | refine bx_ (fun _ => ?_) | refine hl_callv rfl rfl (tdepth_fn _ D.F (Nat.lt_succ_self _) (hF0.imp (Imp.drop (Imp.refl _))) (by omega)) ?_)
  exact fin1I rfl rfl ⟨rfl, rfl⟩
theorem tCount_fn {D : Dc} {kv : Value} (hF : FoR w0 B H kv D.F) (hc : D.F.cnt ≤ 1000000) : Fn Try.prog w0 B 55 [.agg (dcC D kv).toArray] H (fun v H' => v = .int .i64 (D.F.cnt : Int) ∧ H' = H) := by
  have hF0 := hF
  obtain ⟨a, c, C, rfl, hC, hFo⟩ := hF
  refine fn_intro Try.func55 rfl (by kernel_rfl) rfl ?_
  repeat (first | refine go_ ?_ | refine bx_ (fun _ => ?_) | refine hl_callv rfl rfl (tcount_fn _ D.F (Nat.lt_succ_self _) (hF0.imp (Imp.drop (Imp.refl _))) (by omega)) ?_)
  exact fin1I rfl rfl ⟨rfl, rfl⟩
theorem right_ok : RightOk w0 B := by
  intro D kv H b hF hdep hwf hcnt hb
  have hF0 := hF
  have bf : ¬ RtQ D → b = false := fun h => by cases b; rfl; exact absurd (hb.1 rfl) h
  rw [rt_iff] at hb bf
  obtain ⟨a, c, C, rfl, hC, hFo⟩ := hF
  refine fn_intro Try.func44 rfl (by kernel_rfl) rfl ?_
  repeat (first | refine go_ ?_ | refine bx_ (fun _ => ?_))
  rename_i g1
  refine hl_call rfl rfl (tnew_fn D.w D.h) (fun v M o => ?_)
  obtain ⟨x1, x2, x3, rfl, rfl⟩ := o
  have cd := fun (M : List Ent) (hi : Imp M H) => tDepth_fn (hF0.imp hi) hcnt
  have cc := fun (M : List Ent) (hi : Imp M H) => tCount_fn (hF0.imp hi) hcnt
  by_cases hsz : ¬ SzQ D.w D.h
  · rw [if_neg hsz]
    obtain rfl := bf (fun q => hsz q.1)
    repeat (first | refine go_ ?_ | refine bx_ (fun _ => ?_))
    exact fin1B rfl rfl ⟨rfl, rfl⟩
  replace hsz : SzQ D.w D.h := Classical.not_not.1 hsz
  rw [if_pos hsz]
  by_cases hn1 : D.n < 1
  · obtain rfl := bf (fun q => by have := q.2.1; omega)
    repeat (first | refine go_ ?_ | refine bx_ (fun _ => ?_))
    exact fin1B rfl rfl ⟨rfl, rfl⟩
  by_cases hcc : 4096 < D.F.cnt
  · obtain rfl := bf (fun q => by have := q.2.2.1; omega)
    repeat (first | refine hl_loadN (i := 0) (n := 4) (vs := dcC D (.slice a D.F.len c)) rfl (.there .here) rfl rfl rfl ?_ | refine go1_ ?_ | refine bx_ (fun _ => ?_) | refine hl_callv rfl rfl (cd _ (Imp.drop (Imp.drop (Imp.refl _)))) ?_ | refine hl_callv rfl rfl (cc _ (Imp.drop (Imp.drop (Imp.refl _)))) ?_)
    exact fin1B rfl rfl ⟨rfl, rfl⟩
  repeat (first | refine hl_loadN (i := 0) (n := 4) (vs := dcC D (.slice a D.F.len c)) rfl (.there .here) rfl rfl rfl ?_ | refine go1_ ?_ | refine bx_ (fun _ => ?_) | refine hl_callv rfl rfl (cd _ (Imp.drop (Imp.drop (Imp.refl _)))) ?_ | refine hl_callv rfl rfl (cc _ (Imp.drop (Imp.drop (Imp.refl _)))) ?_)
  rename_i g2
  refine hl_makeMap rfl (fun gm => ?_)
  refine bx_ (fun g3 => ?_)
  refine hl_storeM rfl rfl .here (by decide) rfl ?_
  refine HL.perm (H' := mpE g3 gm :: mb gm 0 :: ⟨g2, 52, [.int .i64 x1, .int .i64 x2, .int .i64 x3, .slice none 0 0], 4⟩ :: docE g1 D.w D.h D.n (.slice a D.F.len c) :: H) ?_ (List.Perm.refl _)
  repeat (first | refine go_ ?_ | refine bx_ (fun _ => ?_))
  refine hl_makeFunc (caps := [.pointer (some ⟨g1, 0, none⟩), .pointer (some ⟨g3, 0, none⟩)]) rfl rfl ?_
  refine HL.perm (H' := mb gm 0 :: docE g1 D.w D.h D.n (.slice a D.F.len c) :: mpE g3 gm :: ⟨g2, 52, [.int .i64 x1, .int .i64 x2, .int .i64 x3, .slice none 0 0], 4⟩ :: H) ?_ ?_
  rotate_left
  · refine (List.Perm.swap _ _ _).trans (List.Perm.cons _ ?_)
    refine (List.Perm.cons _ (List.Perm.swap _ _ _)).trans ?_
    exact List.Perm.swap _ _ _
  refine hl_call rfl rfl (lyAny_fn (w := D.w) (h := D.h) (n := D.n) (S0 := 0) (hF0.imp (Imp.drop (Imp.drop (Imp.drop (Imp.refl _))))) (by omega) (Fo.all_of D.F _ hwf fun l k h1 h2 h3 => cl1_of fun R' _ => right_all hsz _ l k (Nat.lt_succ_self _) h1 h2 (by omega) R')) (fun v M o => ?_)
  obtain ⟨b', S', rfl, rfl, hb', hS'⟩ := o
  have hbb : b = b' := by
    rw [Bool.eq_iff_iff, hb, hb']
    exact ⟨fun q => q.2.2.2, fun q => ⟨hsz, by omega, by omega, q⟩⟩
  subst hbb
  cases b with
  | true =>
    repeat (first | refine go_ ?_ | refine bx_ (fun _ => ?_))
    exact fin1B rfl rfl ⟨rfl, rfl⟩
  | false =>
    repeat (first | refine go_ ?_ | refine bx_ (fun _ => ?_))
    exact fin1B rfl rfl ⟨rfl, rfl⟩
end
end Go.Proofs.Ytoobhebbgbhahaa
