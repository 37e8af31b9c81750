/-
  The document's reader of layers. No condition.
-/
import Derived.Test.YtoobhebbgbhahaaPackG4
namespace Go.Proofs.Ytoobhebbgbhahaa
open Go.RowKit
theorem Fo.flat_app : ∀ (F G : Fo) (t : Int), (F.app G).flat t = F.flat t ++ G.flat t
  | .nil, _, _ => rfl
  | .cons l k r, G, t => by rw [Fo.app, Fo.flat, Fo.flat, Fo.flat_app r G t]; simp
theorem Rd.num_eats {s : Rd} (h : s.num.2.e = 0) : s.num.2.l.length + 1 ≤ s.l.length := by
  obtain ⟨_, h2, _⟩ := Rd.num_was h
  have := length_numB s.num.1
  rw [h2, List.length_append]; omega
section
variable {w0 : World} {B : Nat} {H R R0 : List Ent} {g : Nat}
set_option maxHeartbeats 16000000
set_option maxRecDepth 100000
theorem rrflag_fn {s : Rd} {a : Option Addr} {n c p : Nat} {b : List UInt8} (hb : BytR w0 B R0 a n c b) (hi : Imp R R0) (hs : s.l = b.drop p) (hp : p ≤ n) :
    Fn Try.prog w0 B 77 [.pointer (some ⟨g, 0, none⟩)] (RfB g a n c p s.e :: R) (fun v H' => ∃ p', v = .bool s.flag.1 ∧ H' = RfB g a n c p' s.flag.2.e :: R ∧ s.flag.2.l = b.drop p' ∧ p' ≤ n) := by
  refine fn_intro Try.func77 rfl (by kernel_rfl) rfl ?_
  repeat (first | refine go_ ?_ | refine bx_ (fun _ => ?_))
  refine hl_call rfl rfl (rrnum_fn (s := s) hb hi hs hp) (fun v M hv => ?_)
  obtain ⟨p', rfl, rfl, hs', hp'⟩ := hv
  rw [Rd.flag]
  generalize s.num = r at *
  obtain ⟨z, l', e'⟩ := r
  dsimp only at *
  by_cases h0 : z = 0
  · subst h0
    rw [if_neg (by simp), show decide ((0 : Int) = 1) = false from rfl]
    repeat (first | refine go_ ?_ | refine bx_ (fun _ => ?_))
    exact fin1B rfl rfl ⟨p', rfl, rfl, hs', hp'⟩
  by_cases h1 : z = 1
  · subst h1
    rw [if_neg (by simp), show decide ((1 : Int) = 1) = true from rfl]
    repeat (first | refine go_ ?_ | refine bx_ (fun _ => ?_))
    exact fin1B rfl rfl ⟨p', rfl, rfl, hs', hp'⟩
  rw [if_pos ⟨h0, h1⟩, decide_eq_false h1]
  repeat (first | refine go_ ?_ | refine bx_ (fun _ => ?_))
  refine hl_call rfl rfl (rfail_fn (k := 25)) (fun v M hv => ?_)
  obtain ⟨rfl, rfl⟩ := hv
  repeat (first | refine go_ ?_ | refine bx_ (fun _ => ?_))
  exact fin1B rfl rfl ⟨p', rfl, rfl, hs', hp'⟩
/-- What the document's reader of layers hands back. -/
def RlaR (w0 : World) (B : Nat) (R : List Ent) (g : Nat) (a : Option Addr) (n c : Nat) (b : List UInt8) (C : List Value) (m0 : Nat) (s : Rd) (t : Int) (G : Fo × Rd) (v : Value) (H' : List Ent) : Prop :=
  ∃ p' X Xn ra rm rc C', Imp H' (RfB g a n c p' G.2.e :: (X ++ (Xn ++ R))) ∧ G.2.l = b.drop p' ∧ p' ≤ n ∧ v = .slice ra rm rc ∧ (∀ F, Own 121 19 v rm (C ++ C') F (X ++ F)) ∧ (∀ u ∈ C', u.oneCell' = true) ∧ rm + G.2.l.length + min s.e 1 ≤ m0 + s.l.length + min G.2.e 1 ∧ (G.2.e = 0 → RlC w0 B Xn (G.1.flat t) C')
theorem rrlayers_fn {a : Option Addr} {n c : Nat} {b : List UInt8} (hb : BytR w0 B R0 a n c b) (hn : n ≤ 1000000000) : ∀ (N d : Nat) {s : Rd} {z t : Int} {R Xo : List Ent} {p m0 oc : Nat} {oa : Option Addr} {C : List Value}, d < N → d ≤ 65 → z = 65 - (d : Int) → Imp R R0 → s.l = b.drop p → p ≤ n → (∀ F, Own 121 19 (.slice oa m0 oc) m0 C F (Xo ++ F)) → (∀ u ∈ C, u.oneCell' = true) → m0 + s.l.length ≤ 2000000000 + min s.e 1 →
    Fn Try.prog w0 B 59 [.pointer (some ⟨g, 0, none⟩), .int .i64 t, .int .i64 z, .slice oa m0 oc] (RfB g a n c p s.e :: (Xo ++ R)) (RlaR w0 B R g a n c b C m0 s t (Rd.lay d s))
  | 0, _, _, _, _, _, _, _, _, _, _, _, hN, _, _, _, _, _, _, _, _ => absurd hN (by omega)
  | N + 1, d, s, z, t, R, Xo, p, m0, oc, oa, C, hN, hd, hz, hi, hs, hp, ho, hC, hm0 => by
    have hbe := hb.eq
    refine fn_intro Try.func59 rfl (by kernel_rfl) rfl ?_
    repeat (first | refine go_ ?_ | refine bx_ (fun _ => ?_))
    refine hl_call rfl rfl (rrsize_fn (s := s) hb ((Imp.tail Xo _).trans hi) hs hp) (fun v M hv => ?_)
    obtain ⟨p1, rfl, rfl, hs1, hp1⟩ := hv
    have hse := @Rd.size_e s
    have hfit := s.size_fit
    have hln := s.size_len
    have hme : min s.e 1 ≤ min s.size.2.e 1 := by
      by_cases h : s.size.2.e = 0
      · rw [(Rd.size_was h).1]; omega
      · omega
    obtain ⟨G, hG⟩ : ∃ G, G = Rd.lay d s := ⟨_, rfl⟩
    rw [← hG]
    have hll : s.l.length ≤ n := by rw [hs, List.length_drop]; omega
    cases d with
    | zero =>
      rw [Rd.lay] at hG
      generalize s.size = r at *
      obtain ⟨K, s1⟩ := r
      dsimp only at *
      by_cases hK : 0 < K
      · rw [if_pos hK] at hG
        have he1 := hse hK
        obtain ⟨l1, e1⟩ := s1
        dsimp only at he1 hs1 hln hfit hG
        subst he1
        repeat (first | refine go_ ?_ | refine bx_ (fun _ => ?_))
        refine hl_call rfl rfl (rfail_fn (k := 31)) (fun v M hv => ?_)
        obtain ⟨rfl, rfl⟩ := hv
        rw [if_pos rfl]
        repeat (first | refine go_ ?_ | refine bx_ (fun _ => ?_))
        refine hc_loopd (fun q fr M => M = RfB g a n c p1 31 :: (Xo ++ R) ∧ Agr fr [(0, .pointer (some ⟨g, 0, none⟩)), (3, .slice oa m0 oc), (9, .int .i64 (K : Int)), (10, .int .i64 0)]) 0 ?_ ?_
        · exact ⟨rfl, rfl, rfl, rfl, rfl, trivial⟩
        rintro q fr M ⟨rfl, hf⟩
        obtain ⟨base, rfl⟩ := hf.out
        repeat (first | refine go_ ?_ | refine bx_ (fun _ => ?_))
        rw [hG]
        exact fin1S rfl rfl ⟨p1, Xo, [], oa, m0, oc, [], Imp.refl _, hs1, hp1, rfl, by simpa using ho, by simp, by dsimp only [Rd.fail]; simp only [if_pos rfl]; omega, fun h => by cases h⟩
      · rw [if_neg hK] at hG
        obtain rfl : K = 0 := by omega
        repeat (first | refine go_ ?_ | refine bx_ (fun _ => ?_))
        refine hc_loopd (fun q fr M => M = RfB g a n c p1 s1.e :: (Xo ++ R) ∧ Agr fr [(0, .pointer (some ⟨g, 0, none⟩)), (3, .slice oa m0 oc), (9, .int .i64 0), (10, .int .i64 0)]) 0 ?_ ?_
        · exact ⟨rfl, rfl, rfl, rfl, rfl, trivial⟩
        rintro q fr M ⟨rfl, hf⟩
        obtain ⟨base, rfl⟩ := hf.out
        repeat (first | refine go_ ?_ | refine bx_ (fun _ => ?_))
        rw [hG]
        exact fin1S rfl rfl ⟨p1, Xo, [], oa, m0, oc, [], Imp.refl _, hs1, hp1, rfl, by simpa using ho, by simp, by dsimp only; omega, fun h => rfl⟩
    | succ d =>
    rw [Rd.lay] at hG
    generalize s.size = r at *
    obtain ⟨K, s1⟩ := r
    dsimp only at *
    have hKn : K ≤ 1000000000 := by omega
    repeat (first | refine op_ ?_ | refine bx_ (fun _ => ?_))
    refine hc_seq ?_
    refine hc_meet (fun fr M => Agr fr [(0, .pointer (some ⟨g, 0, none⟩)), (1, .int .i64 t), (2, .int .i64 z), (3, .slice oa m0 oc), (9, .int .i64 (K : Int))] ∧ M = RfB g a n c p1 s1.e :: (Xo ++ R)) ?_ ?_
    · by_cases hK : 0 < K
      · repeat (first | refine go_ ?_ | refine bx_ (fun _ => ?_))
        exact ⟨⟨rfl, rfl, rfl, rfl, rfl, trivial⟩, rfl⟩
      · obtain rfl : K = 0 := by omega
        repeat (first | refine go_ ?_ | refine bx_ (fun _ => ?_))
        exact ⟨⟨rfl, rfl, rfl, rfl, rfl, trivial⟩, rfl⟩
    rintro fr M ⟨hf, rfl⟩
    obtain ⟨base, rfl⟩ := hf.out
    clear hf
    repeat (first | refine go_ ?_ | refine bx_ (fun _ => ?_))
    refine hc_loopd (fun q fr M => ∃ (j p : Nat) (s' : Rd) (F1 : Fo) (oa : Option Addr) (m oc : Nat) (C1 : List Value) (Xl Xs : List Ent), j + q = K ∧ (Rd.layN (Rd.lay d) q s').2 = G.2 ∧ (s'.e = 0 → RlC w0 B Xs (F1.flat t) C1 ∧ F1.app (Rd.layN (Rd.lay d) q s').1 = G.1) ∧ (∀ u ∈ C1, u.oneCell' = true) ∧ (∀ F, Own 121 19 (.slice oa m oc) m (C ++ C1) F (Xl ++ F)) ∧ (s'.l = b.drop p ∧ p ≤ n) ∧ m + s'.l.length + min s.e 1 ≤ m0 + s.l.length + min s'.e 1 ∧ Imp M (RfB g a n c p s'.e :: (Xl ++ (Xs ++ R))) ∧ Agr fr [(0, .pointer (some ⟨g, 0, none⟩)), (1, .int .i64 t), (2, .int .i64 z), (3, .slice oa m oc), (9, .int .i64 (K : Int)), (10, .int .i64 (j : Int))]) K ?_ ?_
    · exact ⟨0, p1, s1, .nil, oa, m0, oc, [], Xo, [], by omega, by rw [hG], fun _ => ⟨rfl, by rw [hG]; rfl⟩, by simp, by simpa using ho, ⟨hs1, hp1⟩, by omega, Imp.refl _, rfl, rfl, rfl, rfl, rfl, rfl, trivial⟩
    clear ho hG hs1 hp1 hln hfit hse hme s1 oa oc Xo p1
    rintro q fr M ⟨j, p1, s1, F1, oa, m, oc, C1, Xl, Xs, hj, h2, h1, hone, ho, ⟨hs1, hp1⟩, hbd, him, hf⟩
    obtain ⟨base, rfl⟩ := hf.out
    clear hf
    refine HC.imp ?_ him
    clear him M
    by_cases hq : q = 0
    · subst hq
      rw [Rd.layN] at h2 h1
      dsimp only at h2 h1
      obtain rfl : j = K := by omega
      repeat (first | refine go_ ?_ | refine bx_ (fun _ => ?_))
      exact fin1S rfl rfl ⟨p1, Xl, Xs, oa, m, oc, C1, (by rw [← h2]; exact Imp.refl _), by rw [← h2]; exact hs1, hp1, rfl, ho, hone, by rw [← h2]; exact hbd, fun he => by
        obtain ⟨f1, f2⟩ := h1 (by rw [h2]; exact he)
        rw [Fo.app_nil] at f2
        rw [← f2]; exact f1⟩ (Imp.refl _)
    obtain ⟨q, rfl⟩ : ∃ q', q = q' + 1 := ⟨q - 1, by omega⟩
    rw [Rd.layN] at h2 h1
    by_cases h0 : s1.e = 0
    rotate_left
    · rw [if_pos h0] at h2
      dsimp only at h2
      repeat (first | refine go_ ?_ | refine bx_ (fun _ => ?_))
      exact fin1S rfl rfl ⟨p1, Xl, Xs, oa, m, oc, C1, (by rw [← h2]; exact Imp.refl _), by rw [← h2]; exact hs1, hp1, rfl, ho, hone, by rw [← h2]; exact hbd, fun he => absurd (by rw [h2]; exact he) h0⟩ (Imp.refl _)
    rw [if_neg (by simp [h0])] at h2 h1
    dsimp only at h2 h1
    obtain ⟨f1, f2⟩ := h1 h0
    clear h1
    obtain ⟨Y, hY⟩ : ∃ Y, Y = Xl ++ (Xs ++ R) := ⟨_, rfl⟩
    have iX : Imp Y R0 := by rw [hY]; exact (Imp.tail Xl _).trans ((Imp.tail Xs _).trans hi)
    have iY : ∀ e : Ent, Imp (e :: Y) R0 := fun e => Imp.drop iX
    rw [← hY]
    have hlyr : s1.lyr = s1.lyr := rfl
    conv at hlyr => rhs; rw [Rd.lyr]
    unfold Rd.hdr at hlyr
    dsimp only at hlyr
    have heat := @Rd.num_eats s1
    have hmono : s1.lyr.2.e = 0 → s1.num.2.e = 0 := fun h => by
      rw [hlyr] at h
      dsimp only at h
      obtain ⟨x1, _⟩ := Rd.nums_was h
      obtain ⟨x2, _⟩ := Rd.num_was x1
      obtain ⟨x3, _⟩ := Rd.flag_was x2
      obtain ⟨x4, _⟩ := Rd.fix_was _ _ x3
      obtain ⟨x5, _⟩ := Rd.size_was x4
      obtain ⟨x6, _⟩ := Rd.nums_was x5
      obtain ⟨x7, _⟩ := Rd.num_was x6
      obtain ⟨x8, _⟩ := Rd.num_was x7
      obtain ⟨x9, _⟩ := Rd.num_was x8
      obtain ⟨y1, _⟩ := Rd.num_was x9
      obtain ⟨y2, _⟩ := Rd.flag_was y1
      exact (Rd.num_was y2).1
    repeat (first | refine go_ ?_ | refine bx_ (fun _ => ?_))
    rename_i gl
    refine HL.perm ?_ (List.Perm.swap _ _ _)
    refine hl_call rfl rfl (rrnum_fn (s := s1) hb (iY _) hs1 hp1) (fun v M hv => ?_)
    obtain ⟨p2, rfl, rfl, hs2, hp2⟩ := hv
    have l2 := s1.num_len
    generalize hg2 : s1.num = s2 at *
    repeat (first | refine go_ ?_ | refine bx_ (fun _ => ?_))
    refine HL.perm ?_ (List.Perm.swap _ _ _)
    refine hl_call rfl rfl (rrnum_fn hb (iY _) hs2 hp2) (fun v M hv => ?_)
    obtain ⟨p3, rfl, rfl, hs3, hp3⟩ := hv
    have l3 := s2.2.num_len
    generalize hg3 : s2.2.num = s3 at *
    repeat (first | refine go_ ?_ | refine bx_ (fun _ => ?_))
    refine HL.perm ?_ (List.Perm.swap _ _ _)
    refine hl_call rfl rfl (rrflag_fn hb (iY _) hs3 hp3) (fun v M hv => ?_)
    obtain ⟨p4, rfl, rfl, hs4, hp4⟩ := hv
    have l4 := s3.2.flag_len
    generalize hg4 : s3.2.flag = s4 at *
    repeat (first | refine go_ ?_ | refine bx_ (fun _ => ?_))
    refine HL.perm ?_ (List.Perm.swap _ _ _)
    refine hl_call rfl rfl (rrnum_fn hb (iY _) hs4 hp4) (fun v M hv => ?_)
    obtain ⟨p5, rfl, rfl, hs5, hp5⟩ := hv
    have l5 := s4.2.num_len
    generalize hg5 : s4.2.num = s5 at *
    repeat (first | refine go_ ?_ | refine bx_ (fun _ => ?_))
    refine HL.perm ?_ (List.Perm.swap _ _ _)
    refine hl_call rfl rfl (rrnum_fn hb (iY _) hs5 hp5) (fun v M hv => ?_)
    obtain ⟨p6, rfl, rfl, hs6, hp6⟩ := hv
    have l6 := s5.2.num_len
    generalize hg6 : s5.2.num = s6 at *
    repeat (first | refine go_ ?_ | refine bx_ (fun _ => ?_))
    refine HL.perm ?_ (List.Perm.swap _ _ _)
    refine hl_call rfl rfl (rrnum_fn hb (iY _) hs6 hp6) (fun v M hv => ?_)
    obtain ⟨p7, rfl, rfl, hs7, hp7⟩ := hv
    have l7 := s6.2.num_len
    generalize hg7 : s6.2.num = s7 at *
    repeat (first | refine go_ ?_ | refine bx_ (fun _ => ?_))
    refine HL.perm ?_ (List.Perm.swap _ _ _)
    refine hl_call rfl rfl (rrnum_fn hb (iY _) hs7 hp7) (fun v M hv => ?_)
    obtain ⟨p8, rfl, rfl, hs8, hp8⟩ := hv
    have l8 := s7.2.num_len
    generalize hg8 : s7.2.num = s8 at *
    repeat (first | refine go_ ?_ | refine bx_ (fun _ => ?_))
    refine HL.perm ?_ (List.Perm.swap _ _ _)
    refine hl_call rfl rfl (rrnums_fn hb (iY _) hs8 hp8 hn) (fun v M hv => ?_)
    obtain ⟨p9, Xp, him9, hop, hs9, hp9⟩ := hv
    have l9 := s8.2.nums_len
    generalize hg9 : s8.2.nums = s9 at *
    refine HL.imp ?_ him9
    obtain ⟨pa, pc, rfl, _, _⟩ := (hop []).form
    refine HL.perm ?_ (List.Perm.cons _ List.perm_middle)
    repeat (first | refine go_ ?_ | refine bx_ (fun _ => ?_))
    obtain ⟨Y1, hY1⟩ : ∃ Y1, Y1 = Xp ++ Y := ⟨_, rfl⟩
    have iY1 : Imp Y1 R0 := by rw [hY1]; exact (Imp.tail Xp _).trans iX
    have iZ1 : ∀ e : Ent, Imp (e :: Y1) R0 := fun e => Imp.drop iY1
    refine HL.perm (H' := RfB g a n c p9 s9.2.e :: ⟨gl, 121, [.int .i64 s2.1, .int .i64 s3.1, .int .i64 t, .bool s4.1, .int .i64 s5.1, .int .i64 s6.1, .int .i64 s7.1, .int .i64 s8.1, .slice pa s9.1.length pc, .slice none 0 0, .int .i64 0, .int .i64 0, .int .i64 0, .int .i64 0, .int .i64 0, .int .i64 0, .bool false, .int .i64 0, .slice none 0 0], 19⟩ :: Y1) ?_ (by rw [hY1]; exact List.Perm.swap _ _ _)
    refine hl_call rfl rfl (rrsize_fn hb (iZ1 _) hs9 hp9) (fun v M hv => ?_)
    obtain ⟨pA, rfl, rfl, hsA, hpA⟩ := hv
    have lA := s9.2.size_len
    have fA := s9.2.size_fit
    generalize hgA : s9.2.size = sA at *
    have hAl : sA.2.l.length = n - pA := by rw [hsA, List.length_drop]; omega
    repeat (first | refine go_ ?_ | refine bx_ (fun _ => ?_))
    have hbAp : (b.drop pA).take sA.1 = sA.2.l.take sA.1 := by rw [hsA]
    have hml : (sA.2.l.take sA.1).length = sA.1 := by rw [List.length_take]; omega
    refine hc_meet (fun fr M => ∃ ma mc Xm, (∀ F, Own 5 1 (.slice ma sA.1 mc) sA.1 ((sA.2.l.take sA.1).map byteV) F (Xm ++ F)) ∧ Imp M (RfB g a n c pA sA.2.e :: ⟨gl, 121, [.int .i64 s2.1, .int .i64 s3.1, .int .i64 t, .bool s4.1, .int .i64 s5.1, .int .i64 s6.1, .int .i64 s7.1, .int .i64 s8.1, .slice pa s9.1.length pc, .slice ma sA.1 mc, .int .i64 0, .int .i64 0, .int .i64 0, .int .i64 0, .int .i64 0, .int .i64 0, .bool false, .int .i64 0, .slice none 0 0], 19⟩ :: (Xm ++ Y1)) ∧ Agr fr [(0, .pointer (some ⟨g, 0, none⟩)), (1, .int .i64 t), (2, .int .i64 z), (3, .slice oa m oc), (9, .int .i64 (K : Int)), (10, .int .i64 (j : Int)), (11, .pointer (some ⟨gl, 0, none⟩)), (12, .int .i64 (sA.1 : Int))]) ?_ ?_
    · obtain ⟨lb, hlb⟩ : ∃ lb : Ent, lb = ⟨gl, 121, [.int .i64 s2.1, .int .i64 s3.1, .int .i64 t, .bool s4.1, .int .i64 s5.1, .int .i64 s6.1, .int .i64 s7.1, .int .i64 s8.1, .slice pa s9.1.length pc, .slice none 0 0, .int .i64 0, .int .i64 0, .int .i64 0, .int .i64 0, .int .i64 0, .int .i64 0, .bool false, .int .i64 0, .slice none 0 0], 19⟩ := ⟨_, rfl⟩
      refine HC.perm (H' := RfB g a n c pA sA.2.e :: lb :: Y1) ?_ (by rw [hlb])
      refine hc_drawA [RfB g a n c pA sA.2.e] (by kernel_rfl) ?_
      have iE0 : Imp (RfB g a n c pA sA.2.e :: lb :: Y1) [RfB g a n c pA sA.2.e] := Imp.sub (List.Sublist.cons_cons _ (List.nil_sublist _))
      have iH0 : Imp (RfB g a n c pA sA.2.e :: lb :: Y1) R0 := Imp.drop (iZ1 _)
      refine ha_quiet [1, 2, 3, 4, 5, 6, 7, 8, 9, 10, 11, 12, 13, 14] (by rfl) (by kernel_rfl) ?_
      repeat (first | refine gd_ ?_)
      refine ha_fork2 0 15 (by rfl) (by kernel_rfl) (by rfl) (by rfl) (by first | exact Imp.refl _ | exact Imp.drop (Imp.refl _) | exact Imp.drop (Imp.drop (Imp.refl _)) | exact Imp.drop (Imp.drop (Imp.drop (Imp.refl _))) | exact Imp.drop (Imp.drop (Imp.drop (Imp.drop (Imp.refl _)))) | exact Imp.drop (Imp.drop (Imp.drop (Imp.drop (Imp.drop (Imp.refl _))))) | exact Imp.drop (Imp.drop (Imp.drop (Imp.drop (Imp.drop (Imp.drop (Imp.refl _)))))) | exact Imp.drop (Imp.drop (Imp.drop (Imp.drop (Imp.drop (Imp.drop (Imp.drop (Imp.refl _))))))) | exact Imp.drop (Imp.drop (Imp.drop (Imp.drop (Imp.drop (Imp.drop (Imp.drop (Imp.drop (Imp.refl _)))))))) | assumption | exact Imp.drop (by assumption) | exact Imp.drop (Imp.drop (by assumption)) | exact imp_nil _ | exact Imp.drop2 (Imp.refl _) | exact Imp.drop2 (Imp.drop2 (Imp.refl _)) | exact Imp.drop (Imp.drop2 (Imp.refl _))) ?_ ?_
      · skip
        repeat (first | refine op_ ?_ | refine bx_ (fun _ => ?_))
        rename_i g0
        refine ha_fork1 15 (by rfl) (by kernel_rfl) (by rfl) (by first | exact Imp.refl _ | exact Imp.drop (Imp.refl _) | exact Imp.drop (Imp.drop (Imp.refl _)) | exact Imp.drop (Imp.drop (Imp.drop (Imp.refl _))) | exact Imp.drop (Imp.drop (Imp.drop (Imp.drop (Imp.refl _)))) | exact Imp.drop (Imp.drop (Imp.drop (Imp.drop (Imp.drop (Imp.refl _))))) | exact Imp.drop (Imp.drop (Imp.drop (Imp.drop (Imp.drop (Imp.drop (Imp.refl _)))))) | exact Imp.drop (Imp.drop (Imp.drop (Imp.drop (Imp.drop (Imp.drop (Imp.drop (Imp.refl _))))))) | exact Imp.drop (Imp.drop (Imp.drop (Imp.drop (Imp.drop (Imp.drop (Imp.drop (Imp.drop (Imp.refl _)))))))) | assumption | exact Imp.drop (by assumption) | exact Imp.drop (Imp.drop (by assumption)) | exact imp_nil _ | exact Imp.drop2 (Imp.refl _) | exact Imp.drop2 (Imp.drop2 (Imp.refl _)) | exact Imp.drop (Imp.drop2 (Imp.refl _))) ?_
        · skip
          refine hl_sliceBy (i := pA) (j := pA + sA.1) (ki := .i64) (kj := .i64) rfl hb (by first | exact iH0 | exact Imp.drop iH0) rfl rfl (by omega) (by omega) rfl (fun am hbm => ?_)
          rw [show pA + sA.1 - pA = sA.1 by omega] at hbm ⊢
          rw [hbAp] at hbm
          repeat (first | refine op_ ?_ | refine bx_ (fun _ => ?_))
          refine ha_fork1 16 (by rfl) (by kernel_rfl) (by rfl) (by first | exact Imp.refl _ | exact Imp.drop (Imp.refl _) | exact Imp.drop (Imp.drop (Imp.refl _)) | exact Imp.drop (Imp.drop (Imp.drop (Imp.refl _))) | exact Imp.drop (Imp.drop (Imp.drop (Imp.drop (Imp.refl _)))) | exact Imp.drop (Imp.drop (Imp.drop (Imp.drop (Imp.drop (Imp.refl _))))) | exact Imp.drop (Imp.drop (Imp.drop (Imp.drop (Imp.drop (Imp.drop (Imp.refl _)))))) | exact Imp.drop (Imp.drop (Imp.drop (Imp.drop (Imp.drop (Imp.drop (Imp.drop (Imp.refl _))))))) | exact Imp.drop (Imp.drop (Imp.drop (Imp.drop (Imp.drop (Imp.drop (Imp.drop (Imp.drop (Imp.refl _)))))))) | assumption | exact Imp.drop (by assumption) | exact Imp.drop (Imp.drop (by assumption)) | exact imp_nil _ | exact Imp.drop2 (Imp.refl _) | exact Imp.drop2 (Imp.drop2 (Imp.refl _)) | exact Imp.drop (Imp.drop2 (Imp.refl _))) ?_
          · skip
            refine hl_append_own (e := 5) (sz := 1) (C := []) (F := RfB g a n c pA sA.2.e :: lb :: Y1) rfl rfl (Own.mk (n := 0) (cap := 0) (by omega) (by omega) rfl (List.Perm.refl _)) (hbm.rd.weak fun w hw => (Imp.drop iH0) _ _ _ hw) (by rw [List.length_map, hml]; omega) rfl (by decide) (by omega) (by omega) rfl (fun v4 M4 o4 => ?_)
            rw [List.nil_append, Nat.zero_add] at o4
            obtain ⟨ma, mc, rfl, _, _⟩ := o4.form
            obtain ⟨Xm, hpm, hom⟩ := o4.permE
            clear o4
            rw [hlb] at hpm
            refine HL.perm ?_ (hpm.trans (app_swap Xm [_, _] _))
            have iE16 : ∀ l : List Ent, Imp (RfB g a n c pA sA.2.e :: l) [RfB g a n c pA sA.2.e] := fun l => Imp.sub (List.Sublist.cons_cons _ (List.nil_sublist _))
            have iE17 := iE16 (⟨gl, 121, [.int .i64 s2.1, .int .i64 s3.1, .int .i64 t, .bool s4.1, .int .i64 s5.1, .int .i64 s6.1, .int .i64 s7.1, .int .i64 s8.1, .slice pa s9.1.length pc, .slice none 0 0, .int .i64 0, .int .i64 0, .int .i64 0, .int .i64 0, .int .i64 0, .int .i64 0, .bool false, .int .i64 0, .slice none 0 0], 19⟩ :: (Xm ++ Y1))
            have iE18 := iE16 (Xm ++ Y1)
            repeat (first | refine op_ ?_ | refine bx_ (fun _ => ?_))
            refine ha_quiet [17] (by rfl) (by kernel_rfl) ?_
            repeat (first | refine gd_ ?_)
            refine ha_fork1 18 (by rfl) (by kernel_rfl) (by rfl) (by first | exact Imp.refl _ | exact Imp.drop (Imp.refl _) | exact Imp.drop (Imp.drop (Imp.refl _)) | exact Imp.drop (Imp.drop (Imp.drop (Imp.refl _))) | exact Imp.drop (Imp.drop (Imp.drop (Imp.drop (Imp.refl _)))) | exact Imp.drop (Imp.drop (Imp.drop (Imp.drop (Imp.drop (Imp.refl _))))) | exact Imp.drop (Imp.drop (Imp.drop (Imp.drop (Imp.drop (Imp.drop (Imp.refl _)))))) | exact Imp.drop (Imp.drop (Imp.drop (Imp.drop (Imp.drop (Imp.drop (Imp.drop (Imp.refl _))))))) | exact Imp.drop (Imp.drop (Imp.drop (Imp.drop (Imp.drop (Imp.drop (Imp.drop (Imp.drop (Imp.refl _)))))))) | assumption | exact Imp.drop (by assumption) | exact Imp.drop (Imp.drop (by assumption)) | exact imp_nil _ | exact Imp.drop2 (Imp.refl _) | exact Imp.drop2 (Imp.drop2 (Imp.refl _)) | exact Imp.drop (Imp.drop2 (Imp.refl _))) ?_
            · skip
              repeat (first | refine op_ ?_ | refine bx_ (fun _ => ?_))
              refine ha_end (by rfl) (by kernel_rfl) (by first | exact Imp.refl _ | exact Imp.drop (Imp.refl _) | exact Imp.drop (Imp.drop (Imp.refl _)) | exact Imp.drop (Imp.drop (Imp.drop (Imp.refl _))) | exact Imp.drop (Imp.drop (Imp.drop (Imp.drop (Imp.refl _)))) | exact Imp.drop (Imp.drop (Imp.drop (Imp.drop (Imp.drop (Imp.refl _))))) | exact Imp.drop (Imp.drop (Imp.drop (Imp.drop (Imp.drop (Imp.drop (Imp.refl _)))))) | exact Imp.drop (Imp.drop (Imp.drop (Imp.drop (Imp.drop (Imp.drop (Imp.drop (Imp.refl _))))))) | exact Imp.drop (Imp.drop (Imp.drop (Imp.drop (Imp.drop (Imp.drop (Imp.drop (Imp.drop (Imp.refl _)))))))) | assumption | exact Imp.drop (by assumption) | exact Imp.drop (Imp.drop (by assumption)) | exact imp_nil _ | exact Imp.drop2 (Imp.refl _) | exact Imp.drop2 (Imp.drop2 (Imp.refl _)) | exact Imp.drop (Imp.drop2 (Imp.refl _))) ?_
              exact ⟨ma, mc, Xm, hom, Imp.perm (List.Perm.swap _ _ _) (Imp.refl _), rfl, rfl, rfl, rfl, rfl, rfl, rfl, rfl, trivial⟩
      · skip
        refine hl_sliceBy (i := pA) (j := pA + sA.1) (ki := .i64) (kj := .i64) rfl hb (by first | exact iH0 | exact Imp.drop iH0) rfl rfl (by omega) (by omega) rfl (fun am hbm => ?_)
        rw [show pA + sA.1 - pA = sA.1 by omega] at hbm ⊢
        rw [hbAp] at hbm
        repeat (first | refine op_ ?_ | refine bx_ (fun _ => ?_))
        refine ha_fork1 0 (by rfl) (by kernel_rfl) (by rfl) (by first | exact Imp.refl _ | exact Imp.drop (Imp.refl _) | exact Imp.drop (Imp.drop (Imp.refl _)) | exact Imp.drop (Imp.drop (Imp.drop (Imp.refl _))) | exact Imp.drop (Imp.drop (Imp.drop (Imp.drop (Imp.refl _)))) | exact Imp.drop (Imp.drop (Imp.drop (Imp.drop (Imp.drop (Imp.refl _))))) | exact Imp.drop (Imp.drop (Imp.drop (Imp.drop (Imp.drop (Imp.drop (Imp.refl _)))))) | exact Imp.drop (Imp.drop (Imp.drop (Imp.drop (Imp.drop (Imp.drop (Imp.drop (Imp.refl _))))))) | exact Imp.drop (Imp.drop (Imp.drop (Imp.drop (Imp.drop (Imp.drop (Imp.drop (Imp.drop (Imp.refl _)))))))) | assumption | exact Imp.drop (by assumption) | exact Imp.drop (Imp.drop (by assumption)) | exact imp_nil _ | exact Imp.drop2 (Imp.refl _) | exact Imp.drop2 (Imp.drop2 (Imp.refl _)) | exact Imp.drop (Imp.drop2 (Imp.refl _))) ?_
        · skip
          repeat (first | refine op_ ?_ | refine bx_ (fun _ => ?_))
          rename_i g0
          refine ha_fork1 16 (by rfl) (by kernel_rfl) (by rfl) (by first | exact Imp.refl _ | exact Imp.drop (Imp.refl _) | exact Imp.drop (Imp.drop (Imp.refl _)) | exact Imp.drop (Imp.drop (Imp.drop (Imp.refl _))) | exact Imp.drop (Imp.drop (Imp.drop (Imp.drop (Imp.refl _)))) | exact Imp.drop (Imp.drop (Imp.drop (Imp.drop (Imp.drop (Imp.refl _))))) | exact Imp.drop (Imp.drop (Imp.drop (Imp.drop (Imp.drop (Imp.drop (Imp.refl _)))))) | exact Imp.drop (Imp.drop (Imp.drop (Imp.drop (Imp.drop (Imp.drop (Imp.drop (Imp.refl _))))))) | exact Imp.drop (Imp.drop (Imp.drop (Imp.drop (Imp.drop (Imp.drop (Imp.drop (Imp.drop (Imp.refl _)))))))) | assumption | exact Imp.drop (by assumption) | exact Imp.drop (Imp.drop (by assumption)) | exact imp_nil _ | exact Imp.drop2 (Imp.refl _) | exact Imp.drop2 (Imp.drop2 (Imp.refl _)) | exact Imp.drop (Imp.drop2 (Imp.refl _))) ?_
          · skip
            refine hl_append_own (e := 5) (sz := 1) (C := []) (F := RfB g a n c pA sA.2.e :: lb :: Y1) rfl rfl (Own.mk (n := 0) (cap := 0) (by omega) (by omega) rfl (List.Perm.refl _)) (hbm.rd.weak fun w hw => (Imp.drop iH0) _ _ _ hw) (by rw [List.length_map, hml]; omega) rfl (by decide) (by omega) (by omega) rfl (fun v4 M4 o4 => ?_)
            rw [List.nil_append, Nat.zero_add] at o4
            obtain ⟨ma, mc, rfl, _, _⟩ := o4.form
            obtain ⟨Xm, hpm, hom⟩ := o4.permE
            clear o4
            rw [hlb] at hpm
            refine HL.perm ?_ (hpm.trans (app_swap Xm [_, _] _))
            have iE16 : ∀ l : List Ent, Imp (RfB g a n c pA sA.2.e :: l) [RfB g a n c pA sA.2.e] := fun l => Imp.sub (List.Sublist.cons_cons _ (List.nil_sublist _))
            have iE17 := iE16 (⟨gl, 121, [.int .i64 s2.1, .int .i64 s3.1, .int .i64 t, .bool s4.1, .int .i64 s5.1, .int .i64 s6.1, .int .i64 s7.1, .int .i64 s8.1, .slice pa s9.1.length pc, .slice none 0 0, .int .i64 0, .int .i64 0, .int .i64 0, .int .i64 0, .int .i64 0, .int .i64 0, .bool false, .int .i64 0, .slice none 0 0], 19⟩ :: (Xm ++ Y1))
            have iE18 := iE16 (Xm ++ Y1)
            repeat (first | refine op_ ?_ | refine bx_ (fun _ => ?_))
            refine ha_quiet [17] (by rfl) (by kernel_rfl) ?_
            repeat (first | refine gd_ ?_)
            refine ha_fork1 18 (by rfl) (by kernel_rfl) (by rfl) (by first | exact Imp.refl _ | exact Imp.drop (Imp.refl _) | exact Imp.drop (Imp.drop (Imp.refl _)) | exact Imp.drop (Imp.drop (Imp.drop (Imp.refl _))) | exact Imp.drop (Imp.drop (Imp.drop (Imp.drop (Imp.refl _)))) | exact Imp.drop (Imp.drop (Imp.drop (Imp.drop (Imp.drop (Imp.refl _))))) | exact Imp.drop (Imp.drop (Imp.drop (Imp.drop (Imp.drop (Imp.drop (Imp.refl _)))))) | exact Imp.drop (Imp.drop (Imp.drop (Imp.drop (Imp.drop (Imp.drop (Imp.drop (Imp.refl _))))))) | exact Imp.drop (Imp.drop (Imp.drop (Imp.drop (Imp.drop (Imp.drop (Imp.drop (Imp.drop (Imp.refl _)))))))) | assumption | exact Imp.drop (by assumption) | exact Imp.drop (Imp.drop (by assumption)) | exact imp_nil _ | exact Imp.drop2 (Imp.refl _) | exact Imp.drop2 (Imp.drop2 (Imp.refl _)) | exact Imp.drop (Imp.drop2 (Imp.refl _))) ?_
            · skip
              repeat (first | refine op_ ?_ | refine bx_ (fun _ => ?_))
              refine ha_end (by rfl) (by kernel_rfl) (by first | exact Imp.refl _ | exact Imp.drop (Imp.refl _) | exact Imp.drop (Imp.drop (Imp.refl _)) | exact Imp.drop (Imp.drop (Imp.drop (Imp.refl _))) | exact Imp.drop (Imp.drop (Imp.drop (Imp.drop (Imp.refl _)))) | exact Imp.drop (Imp.drop (Imp.drop (Imp.drop (Imp.drop (Imp.refl _))))) | exact Imp.drop (Imp.drop (Imp.drop (Imp.drop (Imp.drop (Imp.drop (Imp.refl _)))))) | exact Imp.drop (Imp.drop (Imp.drop (Imp.drop (Imp.drop (Imp.drop (Imp.drop (Imp.refl _))))))) | exact Imp.drop (Imp.drop (Imp.drop (Imp.drop (Imp.drop (Imp.drop (Imp.drop (Imp.drop (Imp.refl _)))))))) | assumption | exact Imp.drop (by assumption) | exact Imp.drop (Imp.drop (by assumption)) | exact imp_nil _ | exact Imp.drop2 (Imp.refl _) | exact Imp.drop2 (Imp.drop2 (Imp.refl _)) | exact Imp.drop (Imp.drop2 (Imp.refl _))) ?_
              exact ⟨ma, mc, Xm, hom, Imp.perm (List.Perm.swap _ _ _) (Imp.refl _), rfl, rfl, rfl, rfl, rfl, rfl, rfl, rfl, trivial⟩
    rintro fr M ⟨ma, mc, Xm, hom, him, hf⟩
    obtain ⟨base, rfl⟩ := hf.out
    clear hf
    refine HC.imp ?_ him
    clear him M
    have hsB : (sA.2.skip sA.1).l = b.drop (pA + sA.1) := by unfold Rd.skip; dsimp only; rw [hsA, List.drop_drop]
    have hpB : pA + sA.1 ≤ n := by omega
    have lB := sA.2.skip_len sA.1
    have heB : sA.2.e = (sA.2.skip sA.1).e := rfl
    generalize hgB : sA.2.skip sA.1 = sB at *
    obtain ⟨P10, hP10⟩ : ∃ P : List Value, P = [.int .i64 s2.1, .int .i64 s3.1, .int .i64 t, .bool s4.1, .int .i64 s5.1, .int .i64 s6.1, .int .i64 s7.1, .int .i64 s8.1, .slice pa s9.1.length pc, .slice ma sA.1 mc] := ⟨_, rfl⟩
    have hP10l : P10.length = 10 := by rw [hP10]; rfl
    obtain ⟨Y2, hY2⟩ : ∃ Y2, Y2 = Xm ++ Y1 := ⟨_, rfl⟩
    have iY2 : Imp Y2 R0 := by rw [hY2]; exact (Imp.tail Xm _).trans iY1
    have iZ2 : ∀ e : Ent, Imp (e :: Y2) R0 := fun e => Imp.drop iY2
    obtain ⟨G5, hG5⟩ : ∃ G5, G5 = Rd.fix 6 sB := ⟨_, rfl⟩
    repeat (first | refine go_ ?_ | refine bx_ (fun _ => ?_))
    refine HC.perm (H' := RfB g a n c (pA + sA.1) sB.e :: ⟨gl, 121, P10 ++ ((([] : List Int).map iV ++ List.replicate 6 (Value.int .i64 0)) ++ [Value.bool false, .int .i64 0, .slice none 0 0]), 19⟩ :: Y2) ?_ (by rw [hY2, ← heB, hP10]; exact List.Perm.refl _)
    refine hc_loopd (fun q fr M => ∃ jj L1 s p, jj + q = 6 ∧ L1.length = jj ∧ (L1 ++ (Rd.fix q s).1 = G5.1 ∧ (Rd.fix q s).2 = G5.2) ∧ (s.l = b.drop p ∧ p ≤ n) ∧
      M = RfB g a n c p s.e :: ⟨gl, 121, P10 ++ ((L1.map iV ++ List.replicate q (Value.int .i64 0)) ++ [Value.bool false, .int .i64 0, .slice none 0 0]), 19⟩ :: Y2 ∧ Agr fr [(0, .pointer (some ⟨g, 0, none⟩)), (1, .int .i64 t), (2, .int .i64 z), (3, .slice oa m oc), (9, .int .i64 (K : Int)), (10, .int .i64 (j : Int)), (11, .pointer (some ⟨gl, 0, none⟩)), (13, .int .i64 (jj : Int))]) 6 ?_ ?_
    · exact ⟨0, [], sB, pA + sA.1, by omega, rfl, ⟨by rw [hG5]; rfl, by rw [hG5]⟩, ⟨hsB, hpB⟩, rfl, rfl, rfl, rfl, rfl, rfl, rfl, rfl, rfl, trivial⟩
    clear hsB hpB
    rintro q6 fr M ⟨jj, L1, s6', p6', hjj, hL1, ⟨hh1, hh2⟩, ⟨hs6', hp6'⟩, rfl, hff⟩
    obtain ⟨base, rfl⟩ := hff.out
    clear hff
    by_cases hq6 : q6 = 0
    rotate_left
    · obtain ⟨q6, rfl⟩ : ∃ q', q6 = q' + 1 := ⟨q6 - 1, by omega⟩
      rw [Rd.fix] at hh1 hh2
      dsimp only at hh1 hh2
      have hlen : 10 + jj < (P10 ++ ((L1.map iV ++ List.replicate (q6 + 1) (Value.int .i64 0)) ++ [Value.bool false, .int .i64 0, .slice none 0 0])).length := by simp [hP10l]; omega
      have hset : ∀ z : Int, (P10 ++ ((L1.map iV ++ List.replicate (q6 + 1) (Value.int .i64 0)) ++ [Value.bool false, .int .i64 0, .slice none 0 0])).set (10 + jj) (.int .i64 z) = P10 ++ (((L1 ++ [z]).map iV ++ List.replicate q6 (Value.int .i64 0)) ++ [Value.bool false, .int .i64 0, .slice none 0 0]) := fun z => by
        rw [List.set_append_right _ _ (by omega), show 10 + jj - P10.length = jj by omega, List.set_append_left _ _ (by simp; omega), List.set_append_right _ _ (by simp; omega), List.length_map, hL1, Nat.sub_self, List.replicate_succ, List.set_cons_zero, List.map_append]
        simp
      repeat (first | refine go_ ?_ | refine bx_ (fun _ => ?_))
      refine hl_call rfl rfl (rrnum_fn hb (iZ2 _) hs6' hp6') (fun v M hv => ?_)
      obtain ⟨p', rfl, rfl, hs', hp'⟩ := hv
      repeat (first | refine go_ ?_ | refine bx_ (fun _ => ?_))
      refine ⟨q6, by omega, _, Imp.perm (List.Perm.swap _ _ _) (Imp.refl _), jj + 1, L1 ++ [s6'.num.1], s6'.num.2, p', by omega, by simp [hL1], ⟨by rw [← hh1]; simp, hh2⟩, ⟨hs', hp'⟩, by rw [hset s6'.num.1], rfl, rfl, rfl, rfl, rfl, rfl, rfl, rfl, trivial⟩
    subst hq6
    rw [Rd.fix] at hh1 hh2
    rw [List.append_nil] at hh1
    dsimp only at hh2
    obtain rfl : jj = 6 := by omega
    obtain ⟨mm, hm⟩ := six_of hL1
    rw [hG5] at hh1 hh2
    have lC := Rd.fixL_len 6 sB
    have hmC : (Rd.fix 6 sB).1 = f6 mm := by rw [← hh1, hm]
    generalize hgC : Rd.fix 6 sB = sC at *
    subst hh2
    refine HC.perm (H' := RfB g a n c p6' sC.2.e :: ⟨gl, 121, [.int .i64 s2.1, .int .i64 s3.1, .int .i64 t, .bool s4.1, .int .i64 s5.1, .int .i64 s6.1, .int .i64 s7.1, .int .i64 s8.1, .slice pa s9.1.length pc, .slice ma sA.1 mc, .int .i64 (mm 0), .int .i64 (mm 1), .int .i64 (mm 2), .int .i64 (mm 3), .int .i64 (mm 4), .int .i64 (mm 5), .bool false, .int .i64 0, .slice none 0 0], 19⟩ :: Y2) ?_ (by rw [hm, hP10]; exact List.Perm.refl _)
    repeat (first | refine go_ ?_ | refine bx_ (fun _ => ?_))
    refine hl_call rfl rfl (rrflag_fn hb (iZ2 _) hs6' hp6') (fun v M hv => ?_)
    obtain ⟨pD, rfl, rfl, hsD, hpD⟩ := hv
    have lD := sC.2.flag_len
    generalize hgD : sC.2.flag = sD at *
    repeat (first | refine go_ ?_ | refine bx_ (fun _ => ?_))
    refine HL.perm ?_ (List.Perm.swap _ _ _)
    refine hl_call rfl rfl (rrnum_fn hb (iZ2 _) hsD hpD) (fun v M hv => ?_)
    obtain ⟨pE, rfl, rfl, hsE, hpE⟩ := hv
    have lE := sD.2.num_len
    generalize hgE : sD.2.num = sE at *
    repeat (first | refine go_ ?_ | refine bx_ (fun _ => ?_))
    refine HL.perm ?_ (List.Perm.swap _ _ _)
    refine hl_call rfl rfl (rrnums_fn hb (iZ2 _) hsE hpE hn) (fun v M hv => ?_)
    obtain ⟨pF, Xq, himF, hoq, hsF, hpF⟩ := hv
    have lF := sE.2.nums_len
    generalize hgF : sE.2.nums = sF at *
    refine HL.imp ?_ himF
    obtain ⟨qa, qc, rfl, _, _⟩ := (hoq []).form
    refine HL.perm ?_ (List.Perm.cons _ List.perm_middle)
    repeat (first | refine go_ ?_ | refine bx_ (fun _ => ?_))
    rename_i gb
    have hly2 : s1.lyr.2 = sF.2 := by rw [hlyr]
    have hly1 : s1.lyr.1 = ⟨s2.1, s3.1, s4.1, s5.1, s6.1, s7.1, s8.1, s9.1, sA.2.l.take sA.1, mm 0, mm 1, mm 2, mm 3, mm 4, mm 5, sD.1, sE.1, sF.1⟩ := by rw [hlyr, hmC]; rfl
    clear hlyr
    rw [hly2] at hmono h2 f2
    have hstep : sF.2.l.length + 1 ≤ s1.l.length + min sF.2.e 1 := by
      by_cases h : sF.2.e = 0
      · have := heat (hmono h); omega
      · omega
    obtain ⟨CL, hCL⟩ : ∃ L : List Value, L = [.int .i64 s2.1, .int .i64 s3.1, .int .i64 t, .bool s4.1, .int .i64 s5.1, .int .i64 s6.1, .int .i64 s7.1, .int .i64 s8.1, .slice pa s9.1.length pc, .slice ma sA.1 mc, .int .i64 (mm 0), .int .i64 (mm 1), .int .i64 (mm 2), .int .i64 (mm 3), .int .i64 (mm 4), .int .i64 (mm 5), .bool sD.1, .int .i64 sE.1, .slice qa sF.1.length qc] := ⟨_, rfl⟩
    have oneCL : ∀ u ∈ CL, u.oneCell' = true := by rw [hCL]; simp [Value.oneCell']
    have hp1 : ∀ x y z : Ent, (x :: y :: z :: (Xq ++ Y2)).Perm (Xl ++ (x :: y :: z :: (Xq ++ (Xm ++ (Xp ++ (Xs ++ R)))))) := fun x y z => by
      rw [hY2, hY1, hY]
      simpa only [List.append_assoc, List.cons_append, List.nil_append] using app_swap ([x, y, z] ++ (Xq ++ (Xm ++ Xp))) Xl (Xs ++ R)
    have hp2 : ∀ (Z : List Ent) (x y z : Ent), (Z ++ (x :: y :: z :: (Xq ++ (Xm ++ (Xp ++ (Xs ++ R)))))).Perm (x :: y :: z :: (Z ++ (Xq ++ (Xm ++ (Xp ++ (Xs ++ R)))))) := fun Z x y z => app_swap Z [x, y, z] _
    refine HL.perm ?_ (hp1 _ _ _)
    refine hl_append_own (e := 121) (sz := 19) (news := CL) rfl rfl (ho _) (Rds.ent (i := 0) (n := 19) (l := CL) (Take.app Xl .here) (by rw [hCL]; rfl) oneCL) (by rw [hCL]; rfl) rfl (by decide) (by omega) (by omega) rfl (fun v5 M5 o5 => ?_)
    obtain ⟨a5', c5', rfl, _, _⟩ := o5.form
    obtain ⟨Z, hZ, hoZ⟩ := o5.permE
    refine HL.perm ?_ (hZ.trans (hp2 Z _ _ _))
    repeat (first | refine go_ ?_ | refine bx_ (fun _ => ?_))
    refine HL.imp ?_ (Imp.drop (Imp.drop (Imp.refl _)))
    have iT : Imp (Xq ++ (Xm ++ (Xp ++ (Xs ++ R)))) R0 := (Imp.tail Xq _).trans ((Imp.tail Xm _).trans ((Imp.tail Xp _).trans ((Imp.tail Xs _).trans hi)))
    have hCC : ∀ u ∈ (C ++ C1) ++ CL, u.oneCell' = true := fun u hu => by
      simp only [List.mem_append] at hu
      rcases hu with (hu | hu) | hu
      · exact hC u hu
      · exact hone u hu
      · exact oneCL u hu
    refine hl_call rfl rfl (rrlayers_fn hb hn N d (s := sF.2) (by omega) (by omega) (by omega) iT hsF hpF hoZ hCC (by omega)) (fun v M hv => ?_)
    obtain ⟨pK, XK, XnK, ra, rm, rc, CK, himK, hsK, hpK, rfl, hoK, hCK, hbdK, hRK⟩ := hv
    generalize hgK : Rd.lay d sF.2 = sK at *
    refine HL.imp ?_ himK
    repeat (first | refine go_ ?_ | refine bx_ (fun _ => ?_))
    refine ⟨q, by omega, _, (by simpa only [List.append_assoc] using Imp.refl (RfB g a n c pK sK.2.e :: (XK ++ ((XnK ++ (Xq ++ (Xm ++ (Xp ++ Xs)))) ++ R)))), j + 1, pK, sK.2, F1.app (.cons s1.lyr.1 sK.1 .nil), ra, rm, rc, C1 ++ (CL ++ CK), XK, XnK ++ (Xq ++ (Xm ++ (Xp ++ Xs))), by omega, h2, fun he => ⟨?_, ?_⟩, ?_, ?_, ⟨hsK, hpK⟩, by omega, (by simpa only [List.append_assoc] using Imp.refl (RfB g a n c pK sK.2.e :: (XK ++ ((XnK ++ (Xq ++ (Xm ++ (Xp ++ Xs)))) ++ R)))), rfl, rfl, rfl, rfl, rfl, rfl, trivial⟩
    · have iK : Imp (XnK ++ (Xq ++ (Xm ++ (Xp ++ Xs)))) XnK := Imp.sub (List.sublist_append_left _ _)
      have iQ : Imp (XnK ++ (Xq ++ (Xm ++ (Xp ++ Xs)))) Xq := (Imp.tail XnK _).trans (Imp.sub (List.sublist_append_left _ _))
      have iM : Imp (XnK ++ (Xq ++ (Xm ++ (Xp ++ Xs)))) Xm := (Imp.tail XnK _).trans ((Imp.tail Xq _).trans (Imp.sub (List.sublist_append_left _ _)))
      have iP : Imp (XnK ++ (Xq ++ (Xm ++ (Xp ++ Xs)))) Xp := (Imp.tail XnK _).trans ((Imp.tail Xq _).trans ((Imp.tail Xm _).trans (Imp.sub (List.sublist_append_left _ _))))
      have iS : Imp (XnK ++ (Xq ++ (Xm ++ (Xp ++ Xs)))) Xs := (Imp.tail XnK _).trans ((Imp.tail Xq _).trans ((Imp.tail Xm _).trans (Imp.tail Xp _)))
      have nP := NumR.own (w0 := w0) (B := B) (hop [])
      have nQ := NumR.own (w0 := w0) (B := B) (hoq [])
      have nM := BytR.own (w0 := w0) (B := B) (hom [])
      rw [List.append_nil] at nP nQ nM
      rw [Fo.flat_app, Fo.flat, Fo.flat, List.append_nil, hly1]
      refine RlC.append (f1.imp iS) ⟨.slice pa s9.1.length pc, .slice ma sA.1 mc, .slice qa sF.1.length qc, CK, by rw [hCL], ?_, (hRK he).imp iK⟩
      exact ⟨⟨pa, pc, rfl, nP.imp iP⟩, ⟨ma, mc, by dsimp only; rw [hml], by dsimp only; rw [hml]; exact nM.imp iM⟩, ⟨qa, qc, rfl, nQ.imp iQ⟩⟩
    · rw [Fo.app_assoc]; exact f2
    · intro u hu
      simp only [List.mem_append] at hu
      rcases hu with hu | hu | hu
      · exact hone u hu
      · exact oneCL u hu
      · exact hCK u hu
    · intro F
      rw [← List.append_assoc, ← List.append_assoc]
      exact hoK F
end
end Go.Proofs.Ytoobhebbgbhahaa
namespace Go.Proofs.Ytoobhebbgbhahaa
open Go.RowKit
section
variable {w0 : World} {B : Nat} {H R R0 : List Ent} {g : Nat}
set_option maxHeartbeats 16000000
set_option maxRecDepth 100000
def RdoR (w0 : World) (B : Nat) (R : List Ent) (g : Nat) (a : Option Addr) (n c : Nat) (b : List UInt8) (G : Dc × Rd) (v : Value) (H' : List Ent) : Prop :=
  ∃ p' X sa sn sc, Imp H' (RfB g a n c p' G.2.e :: (X ++ R)) ∧ G.2.l = b.drop p' ∧ p' ≤ n ∧ v = .agg (dcC G.1 (.slice sa sn sc)).toArray ∧ (G.2.e = 0 → RlR w0 B X (.slice sa sn sc) (G.1.F.flat 0))
theorem rrdoc_fn {s : Rd} {a : Option Addr} {n c p : Nat} {b : List UInt8} (hb : BytR w0 B R0 a n c b) (hi : Imp R R0) (hs : s.l = b.drop p) (hp : p ≤ n) (hn : n ≤ 1000000000) :
    Fn Try.prog w0 B 45 [.pointer (some ⟨g, 0, none⟩)] (RfB g a n c p s.e :: R) (RdoR w0 B R g a n c b s.doc) := by
  have hd : s.doc = s.doc := rfl
  conv at hd => rhs; rw [Rd.doc]
  refine fn_intro Try.func45 rfl (by kernel_rfl) rfl ?_
  have hbe := hb.eq
  repeat (first | refine go_ ?_ | refine bx_ (fun _ => ?_))
  rename_i g2 g3
  have iX : ∀ e e' : Ent, Imp (e :: e' :: R) R0 := fun e e' => Imp.drop (Imp.drop hi)
  refine HL.perm (H' := RfB g a n c p s.e :: ⟨g3, 58, [.int .i64 0, .int .i64 0, .int .i64 0, .slice none 0 0], 4⟩ :: ⟨g2, 58, [.int .i64 0, .int .i64 0, .int .i64 0, .slice none 0 0], 4⟩ :: R) ?_ (app_swap [_, _] [_] R)
  refine hl_call rfl rfl (rrnum_fn (s := s) hb (iX _ _) hs hp) (fun v M hv => ?_)
  obtain ⟨p1, rfl, rfl, h1, q1⟩ := hv
  generalize hs1 : s.num = s1 at *
  repeat (first | refine go_ ?_ | refine bx_ (fun _ => ?_))
  refine HL.perm ?_ (List.Perm.swap _ _ _)
  refine hl_call rfl rfl (rrnum_fn hb (iX _ _) h1 q1) (fun v M hv => ?_)
  obtain ⟨p2, rfl, rfl, h2, q2⟩ := hv
  generalize hs2 : s1.2.num = s2 at *
  repeat (first | refine go_ ?_ | refine bx_ (fun _ => ?_))
  refine HL.perm ?_ (List.Perm.swap _ _ _)
  refine hl_call rfl rfl (rrnum_fn hb (iX _ _) h2 q2) (fun v M hv => ?_)
  obtain ⟨p3, rfl, rfl, h3, q3⟩ := hv
  generalize hs3 : s2.2.num = s3 at *
  have l3 := congrArg List.length h3
  rw [List.length_drop] at l3
  repeat (first | refine go_ ?_ | refine bx_ (fun _ => ?_))
  obtain ⟨R2, hR2⟩ : ∃ R2, R2 = (⟨g3, 58, [.int .i64 s1.1, .int .i64 s2.1, .int .i64 s3.1, .slice none 0 0], 4⟩ :: ⟨g2, 58, [.int .i64 0, .int .i64 0, .int .i64 0, .slice none 0 0], 4⟩ :: R : List Ent) := ⟨_, rfl⟩
  have iR2 : Imp R2 R0 := by rw [hR2]; exact iX _ _
  refine HL.perm (H' := RfB g a n c p3 s3.2.e :: ([] ++ R2)) ?_ (by rw [hR2]; exact List.Perm.swap _ _ _)
  refine hl_call rfl rfl (rrlayers_fn hb hn 65 64 (s := s3.2) (C := []) (by omega) (by omega) (by omega) iR2 h3 q3 (fun F => Own.nil) (by simp) (by omega)) (fun v M hv => ?_)
  obtain ⟨pK, XK, XnK, ra, rm, rc, CK, himK, hsK, hpK, rfl, hoK, hCK, hbdK, hRK⟩ := hv
  generalize hsK' : Rd.lay 64 s3.2 = sK at *
  refine HL.imp ?_ himK
  rw [hR2]
  have hp : ∀ x y : Ent, (RfB g a n c pK sK.2.e :: (XK ++ (XnK ++ (x :: y :: R)))).Perm (x :: y :: RfB g a n c pK sK.2.e :: ((XK ++ XnK) ++ R)) := fun x y => by simpa only [List.cons_append, List.nil_append, List.append_assoc] using app_swap (RfB g a n c pK sK.2.e :: (XK ++ XnK)) [x, y] R
  refine HL.perm (H' := ⟨g3, 58, [.int .i64 s1.1, .int .i64 s2.1, .int .i64 s3.1, .slice none 0 0], 4⟩ :: ⟨g2, 58, [.int .i64 0, .int .i64 0, .int .i64 0, .slice none 0 0], 4⟩ :: RfB g a n c pK sK.2.e :: ((XK ++ XnK) ++ R)) ?_ (hp _ _)
  repeat (first | refine go_ ?_ | refine bx_ (fun _ => ?_))
  refine finC rfl rfl .here rfl ⟨pK, XK ++ XnK, ra, rm, rc, Imp.refl _, by rw [hd]; exact hsK, hpK, by rw [hd]; rfl, fun he => ?_⟩ (by rw [hd]; exact Imp.drop (Imp.drop (Imp.refl _)))
  rw [hd] at he ⊢
  have h := hRK he
  have hl := (hoK XnK).len
  rw [List.nil_append] at hl hoK
  rw [h.len] at hl
  have e : rm = (sK.1.flat 0).length := by omega
  subst e
  exact ⟨ra, rc, CK, rfl, CsR.own (hoK XnK) hCK, h.imp (Imp.tail XK XnK)⟩
end
end Go.Proofs.Ytoobhebbgbhahaa
