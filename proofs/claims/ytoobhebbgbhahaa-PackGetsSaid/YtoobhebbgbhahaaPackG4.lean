/-
  The document's states that are written. No condition.
-/
import Derived.Test.YtoobhebbgbhahaaPackG3
namespace Go.Proofs.Ytoobhebbgbhahaa
open Go.RowKit
/-- Numbers that stand once, and none is 0; not too many. -/
structure Dc.ok (D : Dc) : Prop where
  nd : D.F.ids.Nodup
  z : (0 : Int) ∉ D.F.ids
  c : D.F.cnt ≤ 1000000
def RdsC (w0 : World) (B : Nat) (H : List Ent) : List Dc → List Value → Prop
  | [], C => C = []
  | D :: L, C => ∃ lv C', C = dcC D lv ++ C' ∧ RlR w0 B H lv (D.F.flat 0) ∧ RdsC w0 B H L C'
def RdsR (w0 : World) (B : Nat) (H : List Ent) (v : Value) (L : List Dc) : Prop := ∃ a c C, v = .slice a L.length c ∧ CsR w0 B H a L.length 4 C ∧ RdsC w0 B H L C
structure RstR (w0 : World) (B : Nat) (H : List Ent) (S : Stt) (lv av bv : Value) : Prop where
  D : RlR w0 B H lv (S.D.F.flat 0)
  A : RdsR w0 B H av S.A
  B : RdsR w0 B H bv S.B
section
variable {w0 : World} {B : Nat} {H H' : List Ent}
theorem RdsC.imp : ∀ {L : List Dc} {C : List Value}, RdsC w0 B H L C → Imp H' H → RdsC w0 B H' L C
  | [], _, h, _ => h
  | _ :: _, _, ⟨kv, C', e, h1, h2⟩, hi => ⟨kv, C', e, h1.imp hi, h2.imp hi⟩
theorem RdsR.imp {v : Value} {L : List Dc} (h : RdsR w0 B H v L) (hi : Imp H' H) : RdsR w0 B H' v L := by
  obtain ⟨a, c, C, e, h1, h2⟩ := h
  exact ⟨a, c, C, e, h1.imp hi, h2.imp hi⟩
theorem RstR.imp {S : Stt} {kv av bv : Value} (h : RstR w0 B H S kv av bv) (hi : Imp H' H) : RstR w0 B H' S kv av bv := ⟨h.D.imp hi, h.A.imp hi, h.B.imp hi⟩
theorem RlR.form {v : Value} {L : List Rl} (h : RlR w0 B H v L) : ∃ a c, v = .slice a L.length c := by
  obtain ⟨a, c, C, e, _⟩ := h
  exact ⟨a, c, e⟩
theorem RdsR.form {v : Value} {L : List Dc} (h : RdsR w0 B H v L) : ∃ a c, v = .slice a L.length c := by
  obtain ⟨a, c, C, e, _⟩ := h
  exact ⟨a, c, e⟩
theorem RdsC.one : ∀ {L : List Dc} {C : List Value}, RdsC w0 B H L C → ∀ u ∈ C, u.oneCell' = true
  | [], _, h, u, hu => by cases h; cases hu
  | _ :: _, _, ⟨kv, C', e, h1, h4⟩, u, hu => by
    obtain ⟨a, c, rfl⟩ := h1.form
    rw [e, List.mem_append] at hu
    rcases hu with hu | hu
    · simp only [dcC, List.mem_cons, List.not_mem_nil, or_false] at hu
      rcases hu with rfl | rfl | rfl | rfl <;> rfl
    · exact RdsC.one h4 u hu
theorem RdsC.append : ∀ {L M : List Dc} {C D : List Value}, RdsC w0 B H L C → RdsC w0 B H M D → RdsC w0 B H (L ++ M) (C ++ D)
  | [], _, _, _, h, h2 => by cases h; exact h2
  | _ :: _, _, _, _, ⟨kv, C', e, h1, h4⟩, h5 => ⟨kv, _, by rw [e, List.append_assoc], h1, RdsC.append h4 h5⟩
end
section
variable {w0 : World} {B : Nat} {H R : List Ent} {g : Nat}
set_option maxHeartbeats 16000000
set_option maxRecDepth 100000
theorem rdoc_fn {D : Dc} {lv : Value} (hL : RlR w0 B H lv (D.F.flat 0)) (ok : D.ok) (hw : D.wf 1000000) (hb : D.put.length ≤ 400000000) :
    Fn Try.prog w0 B 41 [.agg (dcC D lv).toArray] H (fun v H' => Own 5 1 v D.put.length (D.put.map byteV) H H') := by
  obtain ⟨la, lc, rfl⟩ := hL.form
  obtain ⟨k1, k2⟩ := kd_flat ok.nd ok.z
  have hfl := D.F.flat_len 0
  have hcn := ok.c
  obtain ⟨d1, d2, d3⟩ := hw
  have e1 := length_numsB_le d1
  simp only [List.length_cons, List.length_nil] at e1
  have hp : numsB [D.w, D.h, D.n] ++ D.F.put = D.put := rfl
  have hpl := congrArg List.length hp
  rw [List.length_append] at hpl
  refine fn_intro Try.func41 rfl (by kernel_rfl) rfl ?_
  repeat (first | refine go_ ?_ | refine bx_ (fun _ => ?_))
  rename_i gd gb
  refine hl_call rfl rfl (rnums_fn (cap := 3) (len := 3) (L := [D.w, D.h, D.n]) (NumR.ent (i := 0) (n := 3) .here rfl rfl) d1 (by decide)) (fun v M o => ?_)
  obtain ⟨a3, c3, rfl, _, _⟩ := o.form
  obtain ⟨X, hp3, ho⟩ := o.permE
  refine HL.perm ?_ hp3
  obtain ⟨E, hE⟩ : ∃ E, E = (⟨gb, 3, [.int .i64 D.w, .int .i64 D.h, .int .i64 D.n], 3 * 1⟩ :: ⟨gd, 58, dcC D (.slice la (D.F.flat 0).length lc), 4⟩ :: H : List Ent) := ⟨_, rfl⟩
  have tE : Take E ⟨gd, 58, dcC D (.slice la (D.F.flat 0).length lc), 4⟩ (⟨gb, 3, [.int .i64 D.w, .int .i64 D.h, .int .i64 D.n], 3 * 1⟩ :: H) := by rw [hE]; exact .there .here
  have iE : Imp E H := by rw [hE]; exact Imp.drop (Imp.drop (Imp.refl _))
  refine HL.perm (H' := X ++ E) ?_ (by rw [hE]; exact List.Perm.refl _)
  repeat (first | refine hl_loadN (i := 0) (n := 4) (vs := dcC D (.slice la (D.F.flat 0).length lc)) rfl (Take.app X tE) rfl rfl rfl ?_ | refine go1_ ?_ | refine bx_ (fun _ => ?_))
  refine hl_call rfl rfl (rlayers_fn (by omega) (D.F.cnt + 1) D.F (by omega) (hL.imp ((Imp.tail X _).trans iE)) k1 k2 d2 (by omega)) (fun v M o => ?_)
  obtain ⟨a4, c4, rfl, _, _⟩ := o.form
  obtain ⟨X4, hp4, ho4⟩ := o.permE
  repeat (first | refine go_ ?_ | refine bx_ (fun _ => ?_))
  refine hl_join rfl rfl rfl ho ho4 hp4 rfl (by omega) rfl (fun a5 c5 X ho => ?_)
  rw [hp, hpl] at ho
  rw [hpl]
  repeat (first | refine go_ ?_ | refine bx_ (fun _ => ?_))
  exact fin1S rfl rfl (ho H) (by rw [hE]; exact Imp.sub (List.Sublist.append (List.Sublist.refl _) ((List.sublist_cons_self _ _).trans (List.sublist_cons_self _ _))))
theorem rputState_fn {S : Stt} {lv av bv : Value} (hS : RstR w0 B H S lv av bv) (ok : S.D.ok) (okA : ∀ D ∈ S.A, D.ok) (okB : ∀ D ∈ S.B, D.ok) (hw : S.wf 1000000) (hb : S.put.length ≤ 400000000) :
    Fn Try.prog w0 B 21 [.agg (stC S lv av bv).toArray] H (fun v H' => Own 5 1 v S.put.length (S.put.map byteV) H H') := by
  obtain ⟨hD, hA, hB⟩ := hS
  obtain ⟨wD, wA, wB, lA, lB⟩ := hw
  obtain ⟨ka, kc, rfl⟩ := hD.form
  obtain ⟨aa, ac, CA, rfl, cA, rA⟩ := hA
  obtain ⟨ba, bc, CB, rfl, cB, rB⟩ := hB
  have hp : (((S.D.put ++ numB (S.A.length : Int)) ++ docsB S.A) ++ numB (S.B.length : Int)) ++ docsB S.B = S.put := by unfold Stt.put; simp only [List.append_assoc]
  have hpl := congrArg List.length hp
  simp only [List.length_append] at hpl
  have wn : I64 (S.A.length : Int) := ⟨by omega, by omega⟩
  have wn2 : I64 (S.B.length : Int) := ⟨by omega, by omega⟩
  refine fn_intro Try.func21 rfl (by kernel_rfl) rfl ?_
  repeat (first | refine hl_loadN (i := 0) (n := 4) (vs := dcC S.D (.slice ka (S.D.F.flat 0).length kc)) rfl (by first | exact .here | exact (.there .here) | exact (.there (.there .here)) | exact (.there (.there (.there .here))) | exact (.there (.there (.there (.there .here)))) | exact (.there (.there (.there (.there (.there .here))))) | exact (.there (.there (.there (.there (.there (.there .here)))))) | exact (.there (.there (.there (.there (.there (.there (.there .here))))))) | exact (.there (.there (.there (.there (.there (.there (.there (.there .here))))))))) rfl rfl rfl ?_ | refine go1_ ?_ | refine bx_ (fun _ => ?_))
  rename_i gE
  obtain ⟨eb, heb⟩ : ∃ eb : Ent, eb = ⟨gE, 61, stC S (.slice ka (S.D.F.flat 0).length kc) (.slice aa S.A.length ac) (.slice ba S.B.length bc), 6⟩ := ⟨_, rfl⟩
  have tx : ∀ (Y : List Ent), Take (Y ++ (eb :: H)) ⟨gE, 61, stC S (.slice ka (S.D.F.flat 0).length kc) (.slice aa S.A.length ac) (.slice ba S.B.length bc), 6⟩ (Y ++ H) := fun Y => by rw [heb]; exact Take.app Y .here
  have iR : Imp (eb :: H) H := Imp.drop (Imp.refl _)
  refine HL.perm (H' := eb :: H) ?_ (by rw [heb]; exact List.Perm.refl _)
  refine hl_call rfl rfl (rdoc_fn (hD.imp iR) ok wD (by omega)) (fun v M o => ?_)
  obtain ⟨a1, c1, rfl, _, _⟩ := o.form
  obtain ⟨X, hp1, ho⟩ := o.permE
  refine HL.perm ?_ hp1
  clear hp1 o
  repeat (first | refine hl_load1 rfl (tx _) rfl rfl ?_ | refine go1_ ?_ | refine bx_ (fun _ => ?_))
  refine hl_call rfl rfl (rnum_fn wn) (fun v M o => ?_)
  obtain ⟨a3, c3, rfl, _, _⟩ := o.form
  obtain ⟨X3, hp3, ho3⟩ := o.permE
  repeat (first | refine go_ ?_ | refine bx_ (fun _ => ?_))
  refine hl_join rfl rfl rfl ho ho3 hp3 rfl (by omega) rfl (fun a4 c4 X ho => ?_)
  obtain ⟨b1, hb1⟩ : ∃ b, b = S.D.put ++ numB (S.A.length : Int) := ⟨_, rfl⟩
  have n1 := congrArg List.length hb1
  rw [List.length_append] at n1
  rw [← hb1, ← n1] at ho
  rw [← n1]
  obtain ⟨T1, hT1⟩ : ∃ T, T = b1 ++ docsB S.A := ⟨_, rfl⟩
  have m1 := congrArg List.length hT1
  rw [List.length_append] at m1
  repeat (first | refine go_ ?_ | refine bx_ (fun _ => ?_))
  refine hc_loopd (fun q fr M => ∃ (G : List Dc) (j : Nat) (D : List Value) (sv : Value) (b0 : List UInt8) (X : List Ent), j + G.length = S.A.length ∧ q = G.length ∧ CA.drop (j * 4) = D ∧ RdsC w0 B H G D ∧ (∀ D ∈ G, D ∈ S.A) ∧ b0 ++ docsB G = T1 ∧ (∀ F, Own 5 1 sv b0.length (b0.map byteV) F (X ++ F)) ∧ Imp M (X ++ (eb :: H)) ∧ Agr fr [(1, .pointer (some ⟨gE, 0, none⟩)), (3, sv), (4, .int .i64 (j : Int))]) S.A.length ?_ ?_
  · exact ⟨S.A, 0, CA, _, b1, X, by omega, rfl, by simp, rA, fun D h => h, hT1.symm, ho, Imp.refl _, rfl, rfl, rfl, trivial⟩
  clear ho X
  rintro q fr M ⟨G, j, D, sv, b0, X, hj, rfl, hD', hG, hm, hTb, ho, hi, hf⟩
  obtain ⟨base, rfl⟩ := hf.out
  clear hf
  refine HC.imp ?_ hi
  clear hi M
  obtain ⟨av, cv, rfl, _, _⟩ := (ho []).form
  cases G with
  | cons d r =>
    rw [List.length_cons] at hj
    obtain ⟨kv, C', rfl, hk, hr⟩ := hG
    obtain ⟨da, dc, rfl⟩ := hk.form
    obtain ⟨hcell, hnx⟩ := dropN hD' rfl
    obtain ⟨bb, off, rfl⟩ := cA.pos (by omega)
    have hTk : (b0 ++ d.put) ++ docsB r = T1 := by rw [← hTb, docsB_cons]; simp only [List.append_assoc]
    have hTl2 := congrArg List.length hTk
    simp only [List.length_append] at hTl2
    repeat (first | refine hl_load1 rfl (tx _) rfl rfl ?_ | refine hl_loadRN (l := CA) rfl cA.rd ((Imp.tail X _).trans iR) hcell rfl rfl ?_ | refine go1_ ?_ | refine bx_ (fun _ => ?_))
    refine hl_call rfl rfl (rdoc_fn (hk.imp ((Imp.tail X _).trans iR)) (okA d (hm d (by simp))) (wA d (hm d (by simp))) (by omega)) (fun v M o => ?_)
    obtain ⟨a3, c3, rfl, _, _⟩ := o.form
    obtain ⟨X3, hp3, ho3⟩ := o.permE
    repeat (first | refine go_ ?_ | refine bx_ (fun _ => ?_))
    refine hl_join rfl rfl rfl ho ho3 hp3 rfl (by omega) rfl (fun a4 c4 X ho => ?_)
    repeat (first | refine hl_load1 rfl (tx _) rfl rfl ?_ | refine go1_ ?_ | refine bx_ (fun _ => ?_))
    exact ⟨r.length, by rw [List.length_cons]; omega, _, Imp.refl _, r, j + 1, C', _, _, X, by omega, rfl, hnx, hr, fun D hD => hm D (by simp [hD]), hTk, by rw [List.length_append]; exact ho, Imp.refl _, rfl, rfl, rfl, trivial⟩
  | nil =>
  rw [List.length_nil] at hj
  rw [show docsB [] = [] from rfl, List.append_nil] at hTb
  subst hTb
  repeat (first | refine hl_load1 rfl (tx _) rfl rfl ?_ | refine go1_ ?_ | refine bx_ (fun _ => ?_))
  refine hl_call rfl rfl (rnum_fn wn2) (fun v M o => ?_)
  obtain ⟨a3, c3, rfl, _, _⟩ := o.form
  obtain ⟨X3, hp3, ho3⟩ := o.permE
  repeat (first | refine go_ ?_ | refine bx_ (fun _ => ?_))
  refine hl_join rfl rfl rfl ho ho3 hp3 rfl (by omega) rfl (fun a4 c4 X ho => ?_)
  obtain ⟨b2, hb2⟩ : ∃ b, b = b0 ++ numB (S.B.length : Int) := ⟨_, rfl⟩
  have n2 := congrArg List.length hb2
  rw [List.length_append] at n2
  rw [← hb2, ← n2] at ho
  rw [← n2]
  obtain ⟨T2, hT2⟩ : ∃ T, T = b2 ++ docsB S.B := ⟨_, rfl⟩
  have m2 := congrArg List.length hT2
  rw [List.length_append] at m2
  have hfin : T2 = S.put := by rw [hT2, hb2, hT1, hb1]; exact hp
  repeat (first | refine go_ ?_ | refine bx_ (fun _ => ?_))
  refine hc_loopd (fun q fr M => ∃ (G : List Dc) (j : Nat) (D : List Value) (sv : Value) (b0 : List UInt8) (X : List Ent), j + G.length = S.B.length ∧ q = G.length ∧ CB.drop (j * 4) = D ∧ RdsC w0 B H G D ∧ (∀ D ∈ G, D ∈ S.B) ∧ b0 ++ docsB G = T2 ∧ (∀ F, Own 5 1 sv b0.length (b0.map byteV) F (X ++ F)) ∧ Imp M (X ++ (eb :: H)) ∧ Agr fr [(1, .pointer (some ⟨gE, 0, none⟩)), (3, sv), (5, .int .i64 (j : Int))]) S.B.length ?_ ?_
  · exact ⟨S.B, 0, CB, _, b2, X, by omega, rfl, by simp, rB, fun D h => h, hT2.symm, ho, Imp.refl _, rfl, rfl, rfl, trivial⟩
  clear ho X
  rintro q fr M ⟨G, j, D, sv, b0, X, hj, rfl, hD', hG, hm, hTb, ho, hi, hf⟩
  obtain ⟨base, rfl⟩ := hf.out
  clear hf
  refine HC.imp ?_ hi
  clear hi M
  obtain ⟨av, cv, rfl, _, _⟩ := (ho []).form
  cases G with
  | cons d r =>
    rw [List.length_cons] at hj
    obtain ⟨kv, C', rfl, hk, hr⟩ := hG
    obtain ⟨da, dc, rfl⟩ := hk.form
    obtain ⟨hcell, hnx⟩ := dropN hD' rfl
    obtain ⟨bb, off, rfl⟩ := cB.pos (by omega)
    have hTk : (b0 ++ d.put) ++ docsB r = T2 := by rw [← hTb, docsB_cons]; simp only [List.append_assoc]
    have hTl2 := congrArg List.length hTk
    simp only [List.length_append] at hTl2
    repeat (first | refine hl_load1 rfl (tx _) rfl rfl ?_ | refine hl_loadRN (l := CB) rfl cB.rd ((Imp.tail X _).trans iR) hcell rfl rfl ?_ | refine go1_ ?_ | refine bx_ (fun _ => ?_))
    refine hl_call rfl rfl (rdoc_fn (hk.imp ((Imp.tail X _).trans iR)) (okB d (hm d (by simp))) (wB d (hm d (by simp))) (by omega)) (fun v M o => ?_)
    obtain ⟨a3, c3, rfl, _, _⟩ := o.form
    obtain ⟨X3, hp3, ho3⟩ := o.permE
    repeat (first | refine go_ ?_ | refine bx_ (fun _ => ?_))
    refine hl_join rfl rfl rfl ho ho3 hp3 rfl (by omega) rfl (fun a4 c4 X ho => ?_)
    repeat (first | refine hl_load1 rfl (tx _) rfl rfl ?_ | refine go1_ ?_ | refine bx_ (fun _ => ?_))
    exact ⟨r.length, by rw [List.length_cons]; omega, _, Imp.refl _, r, j + 1, C', _, _, X, by omega, rfl, hnx, hr, fun D hD => hm D (by simp [hD]), hTk, by rw [List.length_append]; exact ho, Imp.refl _, rfl, rfl, rfl, trivial⟩
  | nil =>
  rw [List.length_nil] at hj
  rw [show docsB [] = [] from rfl, List.append_nil] at hTb
  subst hTb
  rw [hfin] at ho ⊢
  repeat (first | refine hl_load1 rfl (tx _) rfl rfl ?_ | refine go1_ ?_ | refine bx_ (fun _ => ?_))
  exact fin1S rfl rfl (ho H) (Imp.sub (List.Sublist.append (List.Sublist.refl _) (List.sublist_cons_self _ _)))
end
end Go.Proofs.Ytoobhebbgbhahaa
namespace Go.Proofs.Ytoobhebbgbhahaa
open Go.RowKit
theorem Rd.size_fit (s : Rd) : s.size.1 ≤ s.size.2.l.length := by
  rw [Rd.size]
  split
  · exact Nat.zero_le _
  · split
    · exact Nat.zero_le _
    · split
      · exact Nat.zero_le _
      · dsimp only; omega
theorem Rd.size_e {s : Rd} (h : 0 < s.size.1) : s.size.2.e = 0 := by
  rw [Rd.size] at h ⊢
  by_cases h1 : s.num.2.e ≠ 0
  · rw [if_pos h1] at h; exact absurd h (by simp)
  rw [if_neg h1] at h ⊢
  by_cases h2 : s.num.1 < 0
  · rw [if_pos h2] at h; exact absurd h (by simp)
  rw [if_neg h2] at h ⊢
  by_cases h3 : (s.num.2.l.length : Int) < s.num.1
  · rw [if_pos h3] at h; exact absurd h (by simp)
  rw [if_neg h3] at h ⊢
  exact Classical.not_not.1 h1
section
variable {w0 : World} {B : Nat} {H R R0 : List Ent} {g : Nat}
set_option maxHeartbeats 16000000
set_option maxRecDepth 100000
theorem iflag_fn {s : Rd} {a : Option Addr} {n c : Nat} (hb : BytR w0 B R0 a n c s.l) (hi : Imp R R0) :
    Fn Try.prog w0 B 66 [.pointer (some ⟨g, 0, none⟩)] (InB g a n c s.e :: R) (fun v H' => ∃ a' n' c', v = .bool s.flag.1 ∧ H' = InB g a' n' c' s.flag.2.e :: R ∧ BytR w0 B R0 a' n' c' s.flag.2.l) := by
  refine fn_intro Try.func66 rfl (by kernel_rfl) rfl ?_
  repeat (first | refine go_ ?_ | refine bx_ (fun _ => ?_))
  refine hl_call rfl rfl (inumS_fn (s := s) hb hi) (fun v M hv => ?_)
  obtain ⟨a', n', c', rfl, rfl, hb'⟩ := hv
  rw [Rd.flag]
  generalize s.num = r at *
  obtain ⟨z, l', e'⟩ := r
  dsimp only at *
  by_cases h0 : z = 0
  · subst h0
    rw [if_neg (by simp), show decide ((0 : Int) = 1) = false from rfl]
    repeat (first | refine go_ ?_ | refine bx_ (fun _ => ?_))
    exact fin1B rfl rfl ⟨a', n', c', rfl, rfl, hb'⟩
  by_cases h1 : z = 1
  · subst h1
    rw [if_neg (by simp), show decide ((1 : Int) = 1) = true from rfl]
    repeat (first | refine go_ ?_ | refine bx_ (fun _ => ?_))
    exact fin1B rfl rfl ⟨a', n', c', rfl, rfl, hb'⟩
  rw [if_pos ⟨h0, h1⟩, decide_eq_false h1]
  repeat (first | refine go_ ?_ | refine bx_ (fun _ => ?_))
  refine hl_call rfl rfl (ifail_fn (k := 25)) (fun v M hv => ?_)
  obtain ⟨rfl, rfl⟩ := hv
  repeat (first | refine go_ ?_ | refine bx_ (fun _ => ?_))
  exact fin1B rfl rfl ⟨a', n', c', rfl, rfl, hb'⟩
/-- What a reader of layers hands back. -/
def LaR (w0 : World) (B : Nat) (R0 R : List Ent) (g : Nat) (G : Fo × Rd) (v : Value) (H' : List Ent) : Prop :=
  ∃ a' n' c' X sa sn sc, Imp H' (InB g a' n' c' G.2.e :: (X ++ R)) ∧ BytR w0 B R0 a' n' c' G.2.l ∧ v = .slice sa sn sc ∧ (G.2.e = 0 → FoR w0 B X v G.1)
theorem ilayers_fn : ∀ (d : Nat) {s : Rd} {z : Int} {R : List Ent} {a : Option Addr} {n c : Nat}, d ≤ 65 → z = 65 - (d : Int) → BytR w0 B R0 a n c s.l → Imp R R0 → n ≤ 1000000000 →
    Fn Try.prog w0 B 52 [.pointer (some ⟨g, 0, none⟩), .int .i64 z] (InB g a n c s.e :: R) (LaR w0 B R0 R g (Rd.lay d s))
  | 0, s, z, R, a, n, c, hd, hz, hb, hi, hn => by
    refine fn_intro Try.func52 rfl (by kernel_rfl) rfl ?_
    repeat (first | refine go_ ?_ | refine bx_ (fun _ => ?_))
    refine hl_call rfl rfl (isizeS_fn (s := s) hb hi) (fun v M hv => ?_)
    obtain ⟨a', n', c', rfl, rfl, hb'⟩ := hv
    rw [Rd.lay]
    have hse := @Rd.size_e s
    have hfit := s.size_fit
    have heq := hb'.eq
    have heq0 := hb.eq
    have hln := s.size_len
    generalize s.size = r at *
    obtain ⟨K, l', e'⟩ := r
    dsimp only at *
    by_cases hK : 0 < K
    · rw [if_pos hK]
      obtain rfl := hse hK
      repeat (first | refine go_ ?_ | refine bx_ (fun _ => ?_))
      refine hl_call rfl rfl (ifail_fn (k := 31)) (fun v M hv => ?_)
      obtain ⟨rfl, rfl⟩ := hv
      rw [if_pos rfl]
      repeat (first | refine go_ ?_ | refine bx_ (fun _ => ?_))
      refine hc_loopd (fun q fr M => M = InB g a' n' c' 31 :: R ∧ Agr fr [(0, .pointer (some ⟨g, 0, none⟩)), (19, .int .i64 (K : Int)), (20, .int .i64 0)]) 0 ?_ ?_
      · exact ⟨rfl, rfl, rfl, rfl, trivial⟩
      rintro q fr M ⟨rfl, hf⟩
      obtain ⟨base, rfl⟩ := hf.out
      repeat (first | refine go_ ?_ | refine bx_ (fun _ => ?_))
      exact fin1S rfl rfl ⟨a', n', c', [], none, 0, 0, Imp.refl _, hb', rfl, fun h => by cases h⟩
    · rw [if_neg hK]
      obtain rfl : K = 0 := by omega
      repeat (first | refine go_ ?_ | refine bx_ (fun _ => ?_))
      refine hc_loopd (fun q fr M => M = InB g a' n' c' e' :: R ∧ Agr fr [(0, .pointer (some ⟨g, 0, none⟩)), (5, .slice none 0 0), (19, .int .i64 0), (20, .int .i64 0)]) 0 ?_ ?_
      · exact ⟨rfl, rfl, rfl, rfl, rfl, trivial⟩
      rintro q fr M ⟨rfl, hf⟩
      obtain ⟨base, rfl⟩ := hf.out
      repeat (first | refine go_ ?_ | refine bx_ (fun _ => ?_))
      exact fin1S rfl rfl ⟨a', n', c', [], none, 0, 0, Imp.refl _, hb', rfl, fun h => ⟨none, 0, [], rfl, CsR.nil, rfl⟩⟩
  | d + 1, s, z, R, a, n, c, hd, hz, hb, hi, hn => by
    refine fn_intro Try.func52 rfl (by kernel_rfl) rfl ?_
    repeat (first | refine go_ ?_ | refine bx_ (fun _ => ?_))
    refine hl_call rfl rfl (isizeS_fn (s := s) hb hi) (fun v M hv => ?_)
    obtain ⟨a', n', c', rfl, rfl, hb'⟩ := hv
    rw [Rd.lay]
    have hfit := s.size_fit
    have heq := hb'.eq
    have heq0 := hb.eq
    have hln := s.size_len
    generalize s.size = r at *
    obtain ⟨K, s1⟩ := r
    dsimp only at *
    obtain ⟨G, hG⟩ : ∃ G, G = Rd.layN (Rd.lay d) K s1 := ⟨_, rfl⟩
    rw [← hG]
    have hKn : K ≤ 1000000000 := by omega
    repeat (first | refine op_ ?_ | refine bx_ (fun _ => ?_))
    refine hc_seq ?_
    refine hc_meet (fun fr M => Agr fr [(0, .pointer (some ⟨g, 0, none⟩)), (1, .int .i64 z), (5, .slice none 0 0), (6, .int .i64 (K : Int))] ∧ M = InB g a' n' c' s1.e :: R) ?_ ?_
    · by_cases hK : 0 < K
      · repeat (first | refine go_ ?_ | refine bx_ (fun _ => ?_))
        exact ⟨⟨rfl, rfl, rfl, rfl, trivial⟩, rfl⟩
      · obtain rfl : K = 0 := by omega
        repeat (first | refine go_ ?_ | refine bx_ (fun _ => ?_))
        exact ⟨⟨rfl, rfl, rfl, rfl, trivial⟩, rfl⟩
    rintro fr M ⟨hf, rfl⟩
    obtain ⟨base, rfl⟩ := hf.out
    clear hf
    repeat (first | refine go_ ?_ | refine bx_ (fun _ => ?_))
    refine hc_loopd (fun q fr M => ∃ (j : Nat) (s' : Rd) (F1 : Fo) (sv : Value) (a : Option Addr) (n c : Nat) (C : List Value) (Xl Xs : List Ent), j + q = K ∧ (Rd.layN (Rd.lay d) q s').2 = G.2 ∧ (s'.e = 0 → FoC w0 B Xs F1 C ∧ F1.len = j ∧ F1.app (Rd.layN (Rd.lay d) q s').1 = G.1) ∧ (∀ u ∈ C, u.oneCell' = true) ∧ (∀ F, Own 116 19 sv j C F (Xl ++ F)) ∧ BytR w0 B R0 a n c s'.l ∧ n ≤ 1000000000 ∧ Imp M (InB g a n c s'.e :: (Xl ++ (Xs ++ R))) ∧ Agr fr [(0, .pointer (some ⟨g, 0, none⟩)), (1, .int .i64 z), (5, sv), (19, .int .i64 (K : Int)), (20, .int .i64 (j : Int))]) K ?_ ?_
    · exact ⟨0, s1, .nil, .slice none 0 0, a', n', c', [], [], [], by omega, by rw [hG], fun _ => ⟨rfl, rfl, by rw [hG]; rfl⟩, by simp, fun F => Own.nil, hb', by omega, Imp.refl _, rfl, rfl, rfl, rfl, rfl, trivial⟩
    clear hG hb hb' heq heq0 hln hn a n c a' n' c' hfit s1 s
    rintro q fr M ⟨j, s, F1, sv, a, n, c, C, Xl, Xs, hj, h2, h1, hone, ho, hb, hn, him, hf⟩
    obtain ⟨base, rfl⟩ := hf.out
    clear hf
    refine HC.imp ?_ him
    clear him M
    obtain ⟨av, cv, rfl, _, _⟩ := (ho []).form
    by_cases hq : q = 0
    · subst hq
      rw [Rd.layN] at h2 h1
      dsimp only at h2 h1
      obtain rfl : j = K := by omega
      repeat (first | refine go_ ?_ | refine bx_ (fun _ => ?_))
      refine fin1S rfl rfl ⟨a, n, c, Xl ++ Xs, av, j, cv, (by rw [← h2, List.append_assoc]; exact Imp.refl _), by rw [← h2]; exact hb, rfl, fun he => ?_⟩ (Imp.refl _)
      obtain ⟨f1, f2, f3⟩ := h1 (by rw [h2]; exact he)
      rw [Fo.app_nil] at f3
      rw [← f3]
      exact ⟨av, cv, C, by rw [f2], by rw [f2]; exact CsR.own (ho Xs) hone, f1.imp (Imp.tail Xl Xs)⟩
    obtain ⟨q, rfl⟩ : ∃ q', q = q' + 1 := ⟨q - 1, by omega⟩
    rw [Rd.layN] at h2 h1
    by_cases h0 : s.e = 0
    rotate_left
    · rw [if_pos h0] at h2
      dsimp only at h2
      repeat (first | refine go_ ?_ | refine bx_ (fun _ => ?_))
      exact fin1S rfl rfl ⟨a, n, c, Xl ++ Xs, none, 0, 0, (by rw [← h2, List.append_assoc]; exact Imp.refl _), by rw [← h2]; exact hb, rfl, fun he => absurd (by rw [h2]; exact he) h0⟩ (Imp.refl _)
    rw [if_neg (by simp [h0])] at h2 h1
    dsimp only at h2 h1
    obtain ⟨f1, f2, f3⟩ := h1 h0
    clear h1
    have iX : Imp (Xl ++ (Xs ++ R)) R0 := (Imp.tail Xl _).trans ((Imp.tail Xs _).trans hi)
    obtain ⟨Y, hY⟩ : ∃ Y, Y = Xl ++ (Xs ++ R) := ⟨_, rfl⟩
    rw [← hY] at iX ⊢
    have hlyr : s.lyr = s.lyr := rfl
    conv at hlyr => rhs; rw [Rd.lyr]
    unfold Rd.hdr at hlyr
    dsimp only at hlyr
    have he0 := hb.eq
    repeat (first | refine go_ ?_ | refine bx_ (fun _ => ?_))
    refine hl_call rfl rfl (inumS_fn (s := s) hb iX) (fun v M hv => ?_)
    obtain ⟨a1, n1, c1, rfl, rfl, hb1⟩ := hv
    have l1 := s.num_len
    generalize hs1 : s.num = s1 at *
    repeat (first | refine go_ ?_ | refine bx_ (fun _ => ?_))
    refine hl_call rfl rfl (inumS_fn hb1 iX) (fun v M hv => ?_)
    obtain ⟨a2, n2, c2, rfl, rfl, hb2⟩ := hv
    have l2 := s1.2.num_len
    generalize hs2 : s1.2.num = s2 at *
    repeat (first | refine go_ ?_ | refine bx_ (fun _ => ?_))
    refine hl_call rfl rfl (iflag_fn hb2 iX) (fun v M hv => ?_)
    obtain ⟨a3, n3, c3, rfl, rfl, hb3⟩ := hv
    have l3 := s2.2.flag_len
    generalize hs3 : s2.2.flag = s3 at *
    repeat (first | refine go_ ?_ | refine bx_ (fun _ => ?_))
    refine hl_call rfl rfl (inumS_fn hb3 iX) (fun v M hv => ?_)
    obtain ⟨a4, n4, c4, rfl, rfl, hb4⟩ := hv
    have l4 := s3.2.num_len
    generalize hs4 : s3.2.num = s4 at *
    repeat (first | refine go_ ?_ | refine bx_ (fun _ => ?_))
    refine hl_call rfl rfl (inumS_fn hb4 iX) (fun v M hv => ?_)
    obtain ⟨a5, n5, c5, rfl, rfl, hb5⟩ := hv
    have l5 := s4.2.num_len
    generalize hs5 : s4.2.num = s5 at *
    repeat (first | refine go_ ?_ | refine bx_ (fun _ => ?_))
    refine hl_call rfl rfl (inumS_fn hb5 iX) (fun v M hv => ?_)
    obtain ⟨a6, n6, c6, rfl, rfl, hb6⟩ := hv
    have l6 := s5.2.num_len
    generalize hs6 : s5.2.num = s6 at *
    repeat (first | refine go_ ?_ | refine bx_ (fun _ => ?_))
    refine hl_call rfl rfl (inumS_fn hb6 iX) (fun v M hv => ?_)
    obtain ⟨a7, n7, c7, rfl, rfl, hb7⟩ := hv
    have l7 := s6.2.num_len
    generalize hs7 : s6.2.num = s7 at *
    repeat (first | refine go_ ?_ | refine bx_ (fun _ => ?_))
    have he7 := hb7.eq
    refine hl_call rfl rfl (inumsS_fn hb7 iX (by omega)) (fun v M hv => ?_)
    obtain ⟨a8, n8, c8, Xp, him8, hop, hb8⟩ := hv
    have l8 := s7.2.nums_len
    generalize hs8 : s7.2.nums = s8 at *
    refine HL.imp ?_ him8
    obtain ⟨pa, pc, rfl, _, _⟩ := (hop []).form
    repeat (first | refine go_ ?_ | refine bx_ (fun _ => ?_))
    rename_i gl
    have iY : ∀ e : Ent, Imp (e :: (Xp ++ Y)) R0 := fun e => Imp.drop ((Imp.tail Xp _).trans iX)
    refine HL.perm ?_ (List.Perm.swap _ _ _)
    refine hl_call rfl rfl (isizeS_fn hb8 (iY _)) (fun v M hv => ?_)
    obtain ⟨a9, n9, c9, rfl, rfl, hb9⟩ := hv
    have l9 := s8.2.size_len
    have f9 := s8.2.size_fit
    generalize hs9 : s8.2.size = s9 at *
    have he9 := hb9.eq
    repeat (first | refine go_ ?_ | refine bx_ (fun _ => ?_) | refine hl_sliceBy (lo := none) (i := 0) (j := s9.1) (ki := .i64) (kj := .i64) rfl hb9 (Imp.drop (iY _)) rfl rfl (by omega) (by omega) rfl (fun am hbm => ?_))
    rw [List.drop_zero, Nat.sub_zero] at hbm
    have hml : (s9.2.l.take s9.1).length = s9.1 := by rw [List.length_take]; omega
    refine hl_append_own (e := 5) (sz := 1) (m := s9.1) rfl rfl Own.nil (hbm.rd.weak fun w hw => (Imp.drop (iY _)) _ _ _ hw) (by rw [List.length_map, hml]; omega) rfl (by decide) (by omega) (by omega) rfl (fun v4 M4 o4 => ?_)
    rw [List.nil_append, Nat.zero_add] at o4
    obtain ⟨ma, mc, rfl, _, _⟩ := o4.form
    obtain ⟨Xm, hpm, hom⟩ := o4.permE
    clear o4
    refine HL.perm ?_ (hpm.trans (app_swap Xm [_, _] _))
    repeat (first | refine go_ ?_ | refine bx_ (fun _ => ?_) | refine hl_sliceBy (hi := none) (i := s9.1) (j := n9) (ki := .i64) (kj := .i64) rfl hb9 (Imp.drop (Imp.drop ((Imp.tail Xm _).trans ((Imp.tail Xp _).trans iX)))) rfl rfl (by omega) (by omega) rfl (fun ar hbr => ?_))
    have hbA : BytR w0 B R0 ar (n9 - s9.1) (c9 - s9.1) (s9.2.skip s9.1).l := by
      have e : (s9.2.l.drop s9.1).take (n9 - s9.1) = s9.2.l.drop s9.1 := List.take_of_length_le (by rw [List.length_drop]; omega)
      rw [e] at hbr
      exact hbr
    have lA := s9.2.skip_len s9.1
    refine HL.perm (H' := InB g ar (n9 - s9.1) (c9 - s9.1) (s9.2.skip s9.1).e :: ⟨gl, 116, [.int .i64 s1.1, .int .i64 s2.1, .bool s3.1, .int .i64 s4.1, .int .i64 s5.1, .int .i64 s6.1, .int .i64 s7.1, .slice pa s8.1.length pc, .slice ma s9.1 mc, .int .i64 0, .int .i64 0, .int .i64 0, .int .i64 0, .int .i64 0, .int .i64 0, .bool false, .int .i64 0, .slice none 0 0, .slice none 0 0], 19⟩ :: (Xm ++ (Xp ++ Y))) ?_ (List.Perm.refl _)
    have hMt : s9.2.l.take s9.1 = s9.2.l.take s9.1 := rfl
    generalize hsA : s9.2.skip s9.1 = sA at *
    obtain ⟨Y2, hY2⟩ : ∃ Y2, Y2 = Xm ++ (Xp ++ Y) := ⟨_, rfl⟩
    have iY2 : Imp Y2 R0 := by rw [hY2]; exact (Imp.tail Xm _).trans ((Imp.tail Xp _).trans iX)
    refine HL.perm (H' := InB g ar (n9 - s9.1) (c9 - s9.1) sA.e :: ⟨gl, 116, [.int .i64 s1.1, .int .i64 s2.1, .bool s3.1, .int .i64 s4.1, .int .i64 s5.1, .int .i64 s6.1, .int .i64 s7.1, .slice pa s8.1.length pc, .slice ma s9.1 mc, .int .i64 0, .int .i64 0, .int .i64 0, .int .i64 0, .int .i64 0, .int .i64 0, .bool false, .int .i64 0, .slice none 0 0, .slice none 0 0], 19⟩ :: Y2) ?_ (by rw [hY2])
    refine hl_call rfl rfl (imapped_fn hbA (Imp.drop iY2)) (fun v M hv => ?_)
    obtain ⟨aB, nB, cB, m, rfl, hm6, rfl, hbB⟩ := hv
    have lB := Rd.fixL_len 6 sA
    generalize hsB : Rd.fix 6 sA = sB at *
    repeat (first | refine go_ ?_ | refine bx_ (fun _ => ?_))
    refine hl_call rfl rfl (iflag_fn hbB (Imp.drop iY2)) (fun v M hv => ?_)
    obtain ⟨aC, nC, cC, rfl, rfl, hbC⟩ := hv
    have lC := sB.2.flag_len
    generalize hsC : sB.2.flag = sC at *
    repeat (first | refine go_ ?_ | refine bx_ (fun _ => ?_))
    refine hl_call rfl rfl (inumS_fn hbC (Imp.drop iY2)) (fun v M hv => ?_)
    obtain ⟨aD, nD, cD, rfl, rfl, hbD⟩ := hv
    have lD := sC.2.num_len
    generalize hsD : sC.2.num = sD at *
    have heD := hbD.eq
    repeat (first | refine go_ ?_ | refine bx_ (fun _ => ?_))
    refine hl_call rfl rfl (inumsS_fn hbD (Imp.drop iY2) (by omega)) (fun v M hv => ?_)
    obtain ⟨aE, nE, cE, Xq, himE, hoq, hbE⟩ := hv
    have lE := sD.2.nums_len
    generalize hsE : sD.2.nums = sE at *
    have heE := hbE.eq
    obtain ⟨qa, qc, rfl, _, _⟩ := (hoq []).form
    refine HL.imp ?_ himE
    refine HL.perm ?_ (List.Perm.cons _ List.perm_middle)
    repeat (first | refine go_ ?_ | refine bx_ (fun _ => ?_))
    refine hl_storeN (i := 9) (n := 6) rfl rfl rfl (by simp [Value.oneCell']) (.there .here) (by simp) rfl ?_
    refine HL.perm (H' := ⟨gl, 116, [.int .i64 s1.1, .int .i64 s2.1, .bool s3.1, .int .i64 s4.1, .int .i64 s5.1, .int .i64 s6.1, .int .i64 s7.1, .slice pa s8.1.length pc, .slice ma s9.1 mc, .int .i64 (m 0), .int .i64 (m 1), .int .i64 (m 2), .int .i64 (m 3), .int .i64 (m 4), .int .i64 (m 5), .bool false, .int .i64 0, .slice none 0 0, .slice none 0 0], 19⟩ :: InB g aE nE cE sE.2.e :: (Xq ++ Y2)) ?_ (List.Perm.refl _)
    repeat (first | refine go_ ?_ | refine bx_ (fun _ => ?_))
    refine HL.perm (H' := InB g aE nE cE sE.2.e :: ⟨gl, 116, [.int .i64 s1.1, .int .i64 s2.1, .bool s3.1, .int .i64 s4.1, .int .i64 s5.1, .int .i64 s6.1, .int .i64 s7.1, .slice pa s8.1.length pc, .slice ma s9.1 mc, .int .i64 (m 0), .int .i64 (m 1), .int .i64 (m 2), .int .i64 (m 3), .int .i64 (m 4), .int .i64 (m 5), .bool sC.1, .int .i64 sD.1, .slice qa sE.1.length qc, .slice none 0 0], 19⟩ :: (Xq ++ Y2)) ?_ (List.Perm.swap _ _ _)
    refine hl_call rfl rfl (ilayers_fn d (s := sE.2) (by omega) (by omega) hbE (Imp.drop ((Imp.tail Xq _).trans iY2)) (by omega)) (fun v M hv => ?_)
    obtain ⟨aK, nK, cK, Xk, ka, kn, kc, himK, hbK, rfl, hFk⟩ := hv
    have lK := Rd.lay_len d sE.2
    have hly2 : s.lyr.2 = sE.2 := by rw [hlyr]
    rw [hly2] at h2 f3
    generalize hsK : Rd.lay d sE.2 = sK at *
    have heK := hbK.eq
    refine HL.imp ?_ himK
    refine HL.perm ?_ (List.Perm.cons _ List.perm_middle)
    repeat (first | refine go_ ?_ | refine bx_ (fun _ => ?_))
    rename_i gb
    have hly1 : s.lyr.1 = ⟨s1.1, s2.1, s3.1, s4.1, s5.1, s6.1, s7.1, s8.1, s9.2.l.take s9.1, m 0, m 1, m 2, m 3, m 4, m 5, sC.1, sD.1, sE.1⟩ := by rw [hlyr, hm6]; rfl
    clear hlyr
    have hp1 : ∀ x y z : Ent, (x :: y :: z :: (Xk ++ (Xq ++ Y2))).Perm (Xl ++ (x :: y :: z :: (Xk ++ (Xq ++ (Xm ++ (Xp ++ (Xs ++ R))))))) := fun x y z => by
      rw [hY2, hY]
      simpa only [List.append_assoc, List.cons_append, List.nil_append] using app_swap ([x, y, z] ++ (Xk ++ (Xq ++ (Xm ++ Xp)))) Xl (Xs ++ R)
    have hp2 : ∀ (Z : List Ent) (x y z : Ent), (Z ++ (x :: y :: z :: (Xk ++ (Xq ++ (Xm ++ (Xp ++ (Xs ++ R))))))).Perm (x :: y :: z :: (Z ++ ((Xk ++ (Xq ++ (Xm ++ (Xp ++ Xs)))) ++ R))) := fun Z x y z => by
      simpa only [List.append_assoc, List.cons_append, List.nil_append] using app_swap Z [x, y, z] (Xk ++ (Xq ++ (Xm ++ (Xp ++ (Xs ++ R)))))
    refine HL.perm ?_ (hp1 _ _ _)
    refine hl_append_own (e := 116) (sz := 19) rfl rfl (ho _) (Rds.ent (i := 0) (n := 19) (l := [.int .i64 s1.1, .int .i64 s2.1, .bool s3.1, .int .i64 s4.1, .int .i64 s5.1, .int .i64 s6.1, .int .i64 s7.1, .slice pa s8.1.length pc, .slice ma s9.1 mc, .int .i64 (m 0), .int .i64 (m 1), .int .i64 (m 2), .int .i64 (m 3), .int .i64 (m 4), .int .i64 (m 5), .bool sC.1, .int .i64 sD.1, .slice qa sE.1.length qc, .slice ka kn kc]) (Take.app Xl .here) rfl (by simp [Value.oneCell'])) rfl rfl (by decide) (by omega) (by omega) rfl (fun v5 M5 o5 => ?_)
    obtain ⟨a5', c5', rfl, _, _⟩ := o5.form
    obtain ⟨Z, hZ, hoZ⟩ := o5.permE
    refine HL.perm ?_ hZ
    repeat (first | refine go_ ?_ | refine bx_ (fun _ => ?_))
    refine ⟨q, by omega, _, Imp.perm (hp2 Z _ _ _) (Imp.drop (Imp.drop (Imp.refl _))), j + 1, sK.2, F1.app (.cons s.lyr.1 sK.1 .nil), _, aK, nK, cK, _, Z, Xk ++ (Xq ++ (Xm ++ (Xp ++ Xs))), by omega, h2, fun he => ?_, ?_, hoZ, hbK, by omega, Imp.refl _, rfl, rfl, rfl, rfl, rfl, trivial⟩
    · obtain ⟨ka', kc', K', hkv, hKc, hKf⟩ := hFk he
      obtain ⟨rfl, rfl, rfl⟩ : ka = ka' ∧ kn = sK.1.len ∧ kc = kc' := by
        injection hkv with e1 e2 e3
        exact ⟨e1, e2, e3⟩
      have iK : Imp (Xk ++ (Xq ++ (Xm ++ (Xp ++ Xs)))) Xk := Imp.sub (List.sublist_append_left _ _)
      have iQ : Imp (Xk ++ (Xq ++ (Xm ++ (Xp ++ Xs)))) Xq := (Imp.tail Xk _).trans (Imp.sub (List.sublist_append_left _ _))
      have iM : Imp (Xk ++ (Xq ++ (Xm ++ (Xp ++ Xs)))) Xm := (Imp.tail Xk _).trans ((Imp.tail Xq _).trans (Imp.sub (List.sublist_append_left _ _)))
      have iP : Imp (Xk ++ (Xq ++ (Xm ++ (Xp ++ Xs)))) Xp := (Imp.tail Xk _).trans ((Imp.tail Xq _).trans ((Imp.tail Xm _).trans (Imp.sub (List.sublist_append_left _ _))))
      have iS : Imp (Xk ++ (Xq ++ (Xm ++ (Xp ++ Xs)))) Xs := (Imp.tail Xk _).trans ((Imp.tail Xq _).trans ((Imp.tail Xm _).trans (Imp.tail Xp _)))
      have nP := NumR.own (w0 := w0) (B := B) (hop [])
      have nQ := NumR.own (w0 := w0) (B := B) (hoq [])
      have nM := BytR.own (w0 := w0) (B := B) (hom [])
      rw [List.append_nil] at nP nQ nM
      refine ⟨FoC.append (f1.imp iS) ⟨.slice pa s8.1.length pc, .slice ma s9.1 mc, .slice qa sE.1.length qc, ka, kc, K', [], by rw [hly1]; rfl, ?_, hKc.imp iK, hKf.imp iK, rfl⟩, ?_, ?_⟩
      · rw [hly1]
        exact ⟨⟨pa, pc, rfl, nP.imp iP⟩, ⟨ma, mc, by dsimp only; rw [hml], by dsimp only; rw [hml]; exact nM.imp iM⟩, ⟨qa, qc, rfl, nQ.imp iQ⟩⟩
      · rw [Fo.app_len, f2]; rfl
      · rw [Fo.app_assoc]; exact f3
    · intro u hu
      rcases List.mem_append.1 hu with hu | hu
      · exact hone u hu
      · simp only [List.mem_cons, List.not_mem_nil, or_false] at hu
        rcases hu with rfl | rfl | rfl | rfl | rfl | rfl | rfl | rfl | rfl | rfl | rfl | rfl | rfl | rfl | rfl | rfl | rfl | rfl | rfl <;> rfl
end
end Go.Proofs.Ytoobhebbgbhahaa
namespace Go.Proofs.Ytoobhebbgbhahaa
open Go.RowKit
section
variable {w0 : World} {B : Nat} {H R R0 : List Ent} {g : Nat}
set_option maxHeartbeats 16000000
set_option maxRecDepth 100000
def DoR (w0 : World) (B : Nat) (R0 R : List Ent) (g : Nat) (G : Dc × Rd) (v : Value) (H' : List Ent) : Prop :=
  ∃ a' n' c' X sa sn sc, Imp H' (InB g a' n' c' G.2.e :: (X ++ R)) ∧ BytR w0 B R0 a' n' c' G.2.l ∧ v = .agg (dcC G.1 (.slice sa sn sc)).toArray ∧ (G.2.e = 0 → FoR w0 B X (.slice sa sn sc) G.1.F)
theorem idoc_fn {s : Rd} {a : Option Addr} {n c : Nat} (hb : BytR w0 B R0 a n c s.l) (hi : Imp R R0) (hn : n ≤ 1000000000) :
    Fn Try.prog w0 B 42 [.pointer (some ⟨g, 0, none⟩)] (InB g a n c s.e :: R) (DoR w0 B R0 R g s.doc) := by
  have hd : s.doc = s.doc := rfl
  conv at hd => rhs; rw [Rd.doc]
  refine fn_intro Try.func42 rfl (by kernel_rfl) rfl ?_
  have he0 := hb.eq
  repeat (first | refine go_ ?_ | refine bx_ (fun _ => ?_))
  rename_i g2
  refine HL.perm ?_ (List.Perm.swap _ _ _)
  have iX : ∀ e : Ent, Imp (e :: R) R0 := fun e => Imp.drop hi
  refine hl_call rfl rfl (inumS_fn (s := s) hb (iX _)) (fun v M hv => ?_)
  obtain ⟨a1, n1, c1, rfl, rfl, hb1⟩ := hv
  have l1 := s.num_len
  generalize hs1 : s.num = s1 at *
  repeat (first | refine go_ ?_ | refine bx_ (fun _ => ?_))
  refine hl_call rfl rfl (inumS_fn hb1 (iX _)) (fun v M hv => ?_)
  obtain ⟨a2, n2, c2, rfl, rfl, hb2⟩ := hv
  have l2 := s1.2.num_len
  generalize hs2 : s1.2.num = s2 at *
  repeat (first | refine go_ ?_ | refine bx_ (fun _ => ?_))
  refine hl_call rfl rfl (inumS_fn hb2 (iX _)) (fun v M hv => ?_)
  obtain ⟨a3, n3, c3, rfl, rfl, hb3⟩ := hv
  have l3 := s2.2.num_len
  generalize hs3 : s2.2.num = s3 at *
  have he3 := hb3.eq
  repeat (first | refine go_ ?_ | refine bx_ (fun _ => ?_))
  rename_i g3
  obtain ⟨R2, hR2⟩ : ∃ R2, R2 = (⟨g3, 52, [.int .i64 s1.1, .int .i64 s2.1, .int .i64 s3.1, .slice none 0 0], 4⟩ :: ⟨g2, 52, [.int .i64 0, .int .i64 0, .int .i64 0, .slice none 0 0], 4⟩ :: R : List Ent) := ⟨_, rfl⟩
  have iR2 : Imp R2 R0 := by rw [hR2]; exact Imp.drop (iX _)
  refine HL.perm (H' := InB g a3 n3 c3 s3.2.e :: R2) ?_ (by rw [hR2]; exact List.Perm.swap _ _ _)
  refine hl_call rfl rfl (ilayers_fn 64 (s := s3.2) (by omega) (by omega) hb3 iR2 (by omega)) (fun v M hv => ?_)
  obtain ⟨aK, nK, cK, Xk, ka, kn, kc, himK, hbK, rfl, hFk⟩ := hv
  generalize hsK : Rd.lay 64 s3.2 = sK at *
  refine HL.imp ?_ himK
  rw [hR2]
  refine HL.perm (H' := ⟨g3, 52, [.int .i64 s1.1, .int .i64 s2.1, .int .i64 s3.1, .slice none 0 0], 4⟩ :: ⟨g2, 52, [.int .i64 0, .int .i64 0, .int .i64 0, .slice none 0 0], 4⟩ :: InB g aK nK cK sK.2.e :: (Xk ++ R)) ?_ (by simpa only [List.cons_append, List.nil_append] using app_swap (InB g aK nK cK sK.2.e :: Xk) [_, _] R)
  repeat (first | refine go_ ?_ | refine bx_ (fun _ => ?_))
  exact finC rfl rfl .here rfl ⟨aK, nK, cK, Xk, ka, kn, kc, Imp.refl _, by rw [hd]; exact hbK, by rw [hd]; rfl, by rw [hd]; exact hFk⟩ (by rw [hd]; exact Imp.drop (Imp.drop (Imp.refl _)))
/-- What a reader of documents hands back. -/
def DosR (w0 : World) (B : Nat) (R0 R : List Ent) (g : Nat) (G : List Dc × Rd) (v : Value) (H' : List Ent) : Prop :=
  ∃ a' n' c' X sa sn sc, Imp H' (InB g a' n' c' G.2.e :: (X ++ R)) ∧ BytR w0 B R0 a' n' c' G.2.l ∧ v = .slice sa sn sc ∧ (G.2.e = 0 → DsR w0 B X v G.1)
theorem idocs_fn {s : Rd} {R : List Ent} {a : Option Addr} {n c : Nat} (hb : BytR w0 B R0 a n c s.l) (hi : Imp R R0) (hn : n ≤ 1000000000) :
    Fn Try.prog w0 B 43 [.pointer (some ⟨g, 0, none⟩)] (InB g a n c s.e :: R) (DosR w0 B R0 R g s.docs) := by
  refine fn_intro Try.func43 rfl (by kernel_rfl) rfl ?_
  repeat (first | refine go_ ?_ | refine bx_ (fun _ => ?_))
  refine hl_call rfl rfl (isizeS_fn (s := s) hb hi) (fun v M hv => ?_)
  obtain ⟨a', n', c', rfl, rfl, hb'⟩ := hv
  rw [Rd.docs]
  have hfit := s.size_fit
  have heq := hb'.eq
  have heq0 := hb.eq
  have hln := s.size_len
  generalize s.size = r at *
  obtain ⟨K, s1⟩ := r
  dsimp only at *
  obtain ⟨G, hG⟩ : ∃ G, G = Rd.docsP K s1 := ⟨_, rfl⟩
  rw [← hG]
  have hKn : K ≤ 1000000000 := by omega
  repeat (first | refine go_ ?_ | refine bx_ (fun _ => ?_))
  refine hc_loopd (fun q fr M => ∃ (j : Nat) (s' : Rd) (F1 : List Dc) (sv : Value) (a : Option Addr) (n c : Nat) (C : List Value) (Xl Xs : List Ent), j + q = K ∧ (Rd.docsP q s').2 = G.2 ∧ (s'.e = 0 → DsC w0 B Xs F1 C ∧ F1.length = j ∧ F1 ++ (Rd.docsP q s').1 = G.1) ∧ (∀ u ∈ C, u.oneCell' = true) ∧ (∀ F, Own 52 4 sv j C F (Xl ++ F)) ∧ BytR w0 B R0 a n c s'.l ∧ n ≤ 1000000000 ∧ Imp M (InB g a n c s'.e :: (Xl ++ (Xs ++ R))) ∧ Agr fr [(0, .pointer (some ⟨g, 0, none⟩)), (3, sv), (5, .int .i64 (K : Int)), (6, .int .i64 (j : Int))]) K ?_ ?_
  · exact ⟨0, s1, [], .slice none 0 0, a', n', c', [], [], [], by omega, by rw [hG], fun _ => ⟨rfl, rfl, by rw [hG]; rfl⟩, by simp, fun F => Own.nil, hb', by omega, Imp.refl _, rfl, rfl, rfl, rfl, trivial⟩
  clear hG hb hb' heq heq0 hln hn a n c a' n' c' hfit s1 s
  rintro q fr M ⟨j, s, F1, sv, a, n, c, C, Xl, Xs, hj, h2, h1, hone, ho, hb, hn, him, hf⟩
  obtain ⟨base, rfl⟩ := hf.out
  clear hf
  refine HC.imp ?_ him
  clear him M
  obtain ⟨av, cv, rfl, _, _⟩ := (ho []).form
  by_cases hq : q = 0
  · subst hq
    rw [Rd.docsP] at h2 h1
    dsimp only at h2 h1
    obtain rfl : j = K := by omega
    repeat (first | refine go_ ?_ | refine bx_ (fun _ => ?_))
    refine fin1S rfl rfl ⟨a, n, c, Xl ++ Xs, av, j, cv, (by rw [← h2, List.append_assoc]; exact Imp.refl _), by rw [← h2]; exact hb, rfl, fun he => ?_⟩ (Imp.refl _)
    obtain ⟨f1, f2, f3⟩ := h1 (by rw [h2]; exact he)
    rw [List.append_nil] at f3
    rw [← f3]
    exact ⟨av, cv, C, by rw [f2], by rw [f2]; exact CsR.own (ho Xs) hone, f1.imp (Imp.tail Xl Xs)⟩
  obtain ⟨q, rfl⟩ : ∃ q', q = q' + 1 := ⟨q - 1, by omega⟩
  rw [Rd.docsP] at h2 h1
  by_cases h0 : s.e = 0
  rotate_left
  · rw [if_pos h0] at h2
    dsimp only at h2
    repeat (first | refine go_ ?_ | refine bx_ (fun _ => ?_))
    exact fin1S rfl rfl ⟨a, n, c, Xl ++ Xs, av, j, cv, (by rw [← h2, List.append_assoc]; exact Imp.refl _), by rw [← h2]; exact hb, rfl, fun he => absurd (by rw [h2]; exact he) h0⟩ (Imp.refl _)
  rw [if_neg (by simp [h0])] at h2 h1
  dsimp only at h2 h1
  obtain ⟨f1, f2, f3⟩ := h1 h0
  clear h1
  have iX : Imp (Xl ++ (Xs ++ R)) R0 := (Imp.tail Xl _).trans ((Imp.tail Xs _).trans hi)
  have hl := s.doc_len
  have he0 := hb.eq
  repeat (first | refine go_ ?_ | refine bx_ (fun _ => ?_))
  refine hl_call rfl rfl (idoc_fn (s := s) hb iX hn) (fun v M hv => ?_)
  obtain ⟨aK, nK, cK, Xk, ka, kn, kc, himK, hbK, rfl, hFk⟩ := hv
  generalize hsK : s.doc = sK at *
  have heK := hbK.eq
  refine HL.imp ?_ himK
  repeat (first | refine go_ ?_ | refine bx_ (fun _ => ?_))
  rename_i gb
  have hp1 : ∀ x y : Ent, (x :: y :: (Xk ++ (Xl ++ (Xs ++ R)))).Perm (Xl ++ (x :: y :: (Xk ++ (Xs ++ R)))) := fun x y => by
    simpa only [List.append_assoc, List.cons_append, List.nil_append] using app_swap ([x, y] ++ Xk) Xl (Xs ++ R)
  have hp2 : ∀ (Z : List Ent) (x y : Ent), (Z ++ (x :: y :: (Xk ++ (Xs ++ R)))).Perm (x :: y :: (Z ++ ((Xk ++ Xs) ++ R))) := fun Z x y => by
    simpa only [List.append_assoc, List.cons_append, List.nil_append] using app_swap Z [x, y] (Xk ++ (Xs ++ R))
  refine HL.perm ?_ (hp1 _ _)
  refine hl_append_own (e := 52) (sz := 4) rfl rfl (ho _) (Rds.ent (i := 0) (n := 4) (l := dcC sK.1 (.slice ka kn kc)) (Take.app Xl .here) rfl (by simp [dcC, Value.oneCell'])) rfl rfl (by decide) (by omega) (by omega) rfl (fun v5 M5 o5 => ?_)
  obtain ⟨a5', c5', rfl, _, _⟩ := o5.form
  obtain ⟨Z, hZ, hoZ⟩ := o5.permE
  refine HL.perm ?_ hZ
  repeat (first | refine go_ ?_ | refine bx_ (fun _ => ?_))
  refine ⟨q, by omega, _, Imp.perm (hp2 Z _ _) (Imp.drop (Imp.refl _)), j + 1, sK.2, F1 ++ [sK.1], _, aK, nK, cK, _, Z, Xk ++ Xs, by omega, h2, fun he => ?_, ?_, hoZ, hbK, by omega, Imp.refl _, rfl, rfl, rfl, rfl, trivial⟩
  · have hFR := hFk he
    refine ⟨DsC.append (f1.imp (Imp.tail Xk Xs)) ⟨.slice ka kn kc, [], rfl, hFR.imp (Imp.sub (List.sublist_append_left _ _)), rfl⟩, by simp [f2], ?_⟩
    rw [List.append_assoc]; exact f3
  · intro u hu
    rcases List.mem_append.1 hu with hu | hu
    · exact hone u hu
    · simp only [dcC, List.mem_cons, List.not_mem_nil, or_false] at hu
      rcases hu with rfl | rfl | rfl | rfl <;> rfl
end
end Go.Proofs.Ytoobhebbgbhahaa
