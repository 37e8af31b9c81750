/-
  The document's reader of layers. No condition.
-/
import Derived.MapKept
import Derived.Test.YtoobhebbgbhahaaPackG2
namespace Go.Proofs.Ytoobhebbgbhahaa
open Go.RowKit
theorem Fo.flat_app : ∀ (F G : Fo) (t : Int), (F.app G).flat t = F.flat t ++ G.flat t
  | .nil, _, _ => rfl
  | .cons l k r, G, t => by rw [Fo.app, Fo.flat, Fo.flat, Fo.flat_app r G t]; simp
theorem Rd.num_eats {s : Rd} (h : s.num.2.e = 0) : s.num.2.l.length + 1 ≤ s.l.length := by
  obtain ⟨_, h2, _⟩ := Rd.num_was h
  have := length_numB s.num.1
  rw [h2, List.length_append]; omega
section
variable {w0 : World} {B : Nat} {H R R0 : List Ent} {g : Nat}
set_option maxHeartbeats 16000000
set_option maxRecDepth 100000
theorem rrflag_fn {s : Rd} {a : Option Addr} {n c p : Nat} {b : List UInt8} (hb : BytR w0 B R0 a n c b) (hi : Imp R R0) (hs : s.l = b.drop p) (hp : p ≤ n) :
    Fn Try.prog w0 B 77 [.pointer (some ⟨g, 0, none⟩)] (RfB g a n c p s.e :: R) (fun v H' => ∃ p', v = .bool s.flag.1 ∧ H' = RfB g a n c p' s.flag.2.e :: R ∧ s.flag.2.l = b.drop p' ∧ p' ≤ n) := by
  refine fn_intro Try.func77 rfl (by kernel_rfl) rfl ?_
  repeat (first | refine go_ ?_ | refine bx_ (fun _ => ?_))
  refine hl_call rfl rfl (rrnum_fn (s := s) hb hi hs hp) (fun v M hv => ?_)
  obtain ⟨p', rfl, rfl, hs', hp'⟩ := hv
  rw [Rd.flag]
  generalize s.num = r at *
  obtain ⟨z, l', e'⟩ := r
  dsimp only at *
  by_cases h0 : z = 0
  · subst h0
    rw [if_neg (by simp), show decide ((0 : Int) = 1) = false from rfl]
    repeat (first | refine go_ ?_ | refine bx_ (fun _ => ?_))
    exact fin1B rfl rfl ⟨p', rfl, rfl, hs', hp'⟩
  by_cases h1 : z = 1
  · subst h1
    rw [if_neg (by simp), show decide ((1 : Int) = 1) = true from rfl]
    repeat (first | refine go_ ?_ | refine bx_ (fun _ => ?_))
    exact fin1B rfl rfl ⟨p', rfl, rfl, hs', hp'⟩
  rw [if_pos ⟨h0, h1⟩, decide_eq_false h1]
  repeat (first | refine go_ ?_ | refine bx_ (fun _ => ?_))
  refine hl_call rfl rfl (rfail_fn (k := 25)) (fun v M hv => ?_)
  obtain ⟨rfl, rfl⟩ := hv
  repeat (first | refine go_ ?_ | refine bx_ (fun _ => ?_))
  exact fin1B rfl rfl ⟨p', rfl, rfl, hs', hp'⟩
/-- What the document's reader of layers hands back. -/
def RlaR (w0 : World) (B : Nat) (R : List Ent) (g : Nat) (a : Option Addr) (n c : Nat) (b : List UInt8) (C : List Value) (m0 : Nat) (s : Rd) (t : Int) (G : Fo × Rd) (v : Value) (H' : List Ent) : Prop :=
  ∃ p' X Xn ra rm rc C', Imp H' (RfB g a n c p' G.2.e :: (X ++ (Xn ++ R))) ∧ G.2.l = b.drop p' ∧ p' ≤ n ∧ v = .slice ra rm rc ∧ (∀ F, Own 121 19 v rm (C ++ C') F (X ++ F)) ∧ (∀ u ∈ C', u.oneCell' = true) ∧ rm + G.2.l.length + min s.e 1 ≤ m0 + s.l.length + min G.2.e 1 ∧ (G.2.e = 0 → RlC w0 B Xn (G.1.flat t) C')
theorem rrlayers_fn {a : Option Addr} {n c : Nat} {b : List UInt8} (hb : BytR w0 B R0 a n c b) (hn : n ≤ 1000000000) : ∀ (N d : Nat) {s : Rd} {z t : Int} {R Xo : List Ent} {p m0 oc : Nat} {oa : Option Addr} {C : List Value}, d < N → d ≤ 65 → z = 65 - (d : Int) → Imp R R0 → s.l = b.drop p → p ≤ n → (∀ F, Own 121 19 (.slice oa m0 oc) m0 C F (Xo ++ F)) → (∀ u ∈ C, u.oneCell' = true) → m0 + s.l.length ≤ 2000000000 + min s.e 1 →
    Fn Try.prog w0 B 59 [.pointer (some ⟨g, 0, none⟩), .int .i64 t, .int .i64 z, .slice oa m0 oc] (RfB g a n c p s.e :: (Xo ++ R)) (RlaR w0 B R g a n c b C m0 s t (Rd.lay d s))
  | 0, _, _, _, _, _, _, _, _, _, _, _, hN, _, _, _, _, _, _, _, _ => absurd hN (by omega)
  | N + 1, d, s, z, t, R, Xo, p, m0, oc, oa, C, hN, hd, hz, hi, hs, hp, ho, hC, hm0 => by
    have hbe := hb.eq
    refine fn_intro Try.func59 rfl (by kernel_rfl) rfl ?_
    repeat (first | refine go_ ?_ | refine bx_ (fun _ => ?_))
    refine hl_call rfl rfl (rrsize_fn (s := s) hb ((Imp.tail Xo _).trans hi) hs hp) (fun v M hv => ?_)
    obtain ⟨p1, rfl, rfl, hs1, hp1⟩ := hv
    have hse := @Rd.size_e s
    have hfit := s.size_fit
    have hln := s.size_len
    have hme : min s.e 1 ≤ min s.size.2.e 1 := by
      by_cases h : s.size.2.e = 0
      · rw [(Rd.size_was h).1]; omega
      · omega
    obtain ⟨G, hG⟩ : ∃ G, G = Rd.lay d s := ⟨_, rfl⟩
    rw [← hG]
    have hll : s.l.length ≤ n := by rw [hs, List.length_drop]; omega
    cases d with
    | zero =>
      rw [Rd.lay] at hG
      generalize s.size = r at *
      obtain ⟨K, s1⟩ := r
      dsimp only at *
      by_cases hK : 0 < K
      · rw [if_pos hK] at hG
        have he1 := hse hK
        obtain ⟨l1, e1⟩ := s1
        dsimp only at he1 hs1 hln hfit hG
        subst he1
        repeat (first | refine go_ ?_ | refine bx_ (fun _ => ?_))
        refine hl_call rfl rfl (rfail_fn (k := 31)) (fun v M hv => ?_)
        obtain ⟨rfl, rfl⟩ := hv
        rw [if_pos rfl]
        repeat (first | refine go_ ?_ | refine bx_ (fun _ => ?_))
        refine hc_loopd (fun q fr M => M = RfB g a n c p1 31 :: (Xo ++ R) ∧ Agr fr [(0, .pointer (some ⟨g, 0, none⟩)), (3, .slice oa m0 oc), (9, .int .i64 (K : Int)), (10, .int .i64 0)]) 0 ?_ ?_
        · exact ⟨rfl, rfl, rfl, rfl, rfl, trivial⟩
        rintro q fr M ⟨rfl, hf⟩
        obtain ⟨base, rfl⟩ := hf.out
        repeat (first | refine go_ ?_ | refine bx_ (fun _ => ?_))
        rw [hG]
        exact fin1S rfl rfl ⟨p1, Xo, [], oa, m0, oc, [], Imp.refl _, hs1, hp1, rfl, by simpa using ho, by simp, by dsimp only [Rd.fail]; simp only [if_pos rfl]; omega, fun h => by cases h⟩
      · rw [if_neg hK] at hG
        obtain rfl : K = 0 := by omega
        repeat (first | refine go_ ?_ | refine bx_ (fun _ => ?_))
        refine hc_loopd (fun q fr M => M = RfB g a n c p1 s1.e :: (Xo ++ R) ∧ Agr fr [(0, .pointer (some ⟨g, 0, none⟩)), (3, .slice oa m0 oc), (9, .int .i64 0), (10, .int .i64 0)]) 0 ?_ ?_
        · exact ⟨rfl, rfl, rfl, rfl, rfl, trivial⟩
        rintro q fr M ⟨rfl, hf⟩
        obtain ⟨base, rfl⟩ := hf.out
        repeat (first | refine go_ ?_ | refine bx_ (fun _ => ?_))
        rw [hG]
        exact fin1S rfl rfl ⟨p1, Xo, [], oa, m0, oc, [], Imp.refl _, hs1, hp1, rfl, by simpa using ho, by simp, by dsimp only; omega, fun h => rfl⟩
    | succ d =>
    rw [Rd.lay] at hG
    generalize s.size = r at *
    obtain ⟨K, s1⟩ := r
    dsimp only at *
    have hKn : K ≤ 1000000000 := by omega
    repeat (first | refine op_ ?_ | refine bx_ (fun _ => ?_))
    refine hc_seq ?_
    refine hc_meet (fun fr M => Agr fr [(0, .pointer (some ⟨g, 0, none⟩)), (1, .int .i64 t), (2, .int .i64 z), (3, .slice oa m0 oc), (9, .int .i64 (K : Int))] ∧ M = RfB g a n c p1 s1.e :: (Xo ++ R)) ?_ ?_
    · by_cases hK : 0 < K
      · repeat (first | refine go_ ?_ | refine bx_ (fun _ => ?_))
        exact ⟨⟨rfl, rfl, rfl, rfl, rfl, trivial⟩, rfl⟩
      · obtain rfl : K = 0 := by omega
        repeat (first | refine go_ ?_ | refine bx_ (fun _ => ?_))
        exact ⟨⟨rfl, rfl, rfl, rfl, rfl, trivial⟩, rfl⟩
    rintro fr M ⟨hf, rfl⟩
    obtain ⟨base, rfl⟩ := hf.out
    clear hf
    repeat (first | refine go_ ?_ | refine bx_ (fun _ => ?_))
    refine hc_loopd (fun q fr M => ∃ (j p : Nat) (s' : Rd) (F1 : Fo) (oa : Option Addr) (m oc : Nat) (C1 : List Value) (Xl Xs : List Ent), j + q = K ∧ (Rd.layN (Rd.lay d) q s').2 = G.2 ∧ (s'.e = 0 → RlC w0 B Xs (F1.flat t) C1 ∧ F1.app (Rd.layN (Rd.lay d) q s').1 = G.1) ∧ (∀ u ∈ C1, u.oneCell' = true) ∧ (∀ F, Own 121 19 (.slice oa m oc) m (C ++ C1) F (Xl ++ F)) ∧ (s'.l = b.drop p ∧ p ≤ n) ∧ m + s'.l.length + min s.e 1 ≤ m0 + s.l.length + min s'.e 1 ∧ Imp M (RfB g a n c p s'.e :: (Xl ++ (Xs ++ R))) ∧ Agr fr [(0, .pointer (some ⟨g, 0, none⟩)), (1, .int .i64 t), (2, .int .i64 z), (3, .slice oa m oc), (9, .int .i64 (K : Int)), (10, .int .i64 (j : Int))]) K ?_ ?_
    · exact ⟨0, p1, s1, .nil, oa, m0, oc, [], Xo, [], by omega, by rw [hG], fun _ => ⟨rfl, by rw [hG]; rfl⟩, by simp, by simpa using ho, ⟨hs1, hp1⟩, by omega, Imp.refl _, rfl, rfl, rfl, rfl, rfl, rfl, trivial⟩
    clear ho hG hs1 hp1 hln hfit hse hme s1 oa oc Xo p1
    rintro q fr M ⟨j, p1, s1, F1, oa, m, oc, C1, Xl, Xs, hj, h2, h1, hone, ho, ⟨hs1, hp1⟩, hbd, him, hf⟩
    obtain ⟨base, rfl⟩ := hf.out
    clear hf
    refine HC.imp ?_ him
    clear him M
    by_cases hq : q = 0
    · subst hq
      rw [Rd.layN] at h2 h1
      dsimp only at h2 h1
      obtain rfl : j = K := by omega
      repeat (first | refine go_ ?_ | refine bx_ (fun _ => ?_))
      exact fin1S rfl rfl ⟨p1, Xl, Xs, oa, m, oc, C1, (by rw [← h2]; exact Imp.refl _), by rw [← h2]; exact hs1, hp1, rfl, ho, hone, by rw [← h2]; exact hbd, fun he => by
        obtain ⟨f1, f2⟩ := h1 (by rw [h2]; exact he)
        rw [Fo.app_nil] at f2
        rw [← f2]; exact f1⟩ (Imp.refl _)
    obtain ⟨q, rfl⟩ : ∃ q', q = q' + 1 := ⟨q - 1, by omega⟩
    rw [Rd.layN] at h2 h1
    by_cases h0 : s1.e = 0
    rotate_left
    · rw [if_pos h0] at h2
      dsimp only at h2
      repeat (first | refine go_ ?_ | refine bx_ (fun _ => ?_))
      exact fin1S rfl rfl ⟨p1, Xl, Xs, oa, m, oc, C1, (by rw [← h2]; exact Imp.refl _), by rw [← h2]; exact hs1, hp1, rfl, ho, hone, by rw [← h2]; exact hbd, fun he => absurd (by rw [h2]; exact he) h0⟩ (Imp.refl _)
    rw [if_neg (by simp [h0])] at h2 h1
    dsimp only at h2 h1
    obtain ⟨f1, f2⟩ := h1 h0
    clear h1
    obtain ⟨Y, hY⟩ : ∃ Y, Y = Xl ++ (Xs ++ R) := ⟨_, rfl⟩
    have iX : Imp Y R0 := by rw [hY]; exact (Imp.tail Xl _).trans ((Imp.tail Xs _).trans hi)
    have iY : ∀ e : Ent, Imp (e :: Y) R0 := fun e => Imp.drop iX
    rw [← hY]
    have hlyr : s1.lyr = s1.lyr := rfl
    conv at hlyr => rhs; rw [Rd.lyr]
    unfold Rd.hdr at hlyr
    dsimp only at hlyr
    have heat := @Rd.num_eats s1
    have hmono : s1.lyr.2.e = 0 → s1.num.2.e = 0 := fun h => by
      rw [hlyr] at h
      dsimp only at h
      obtain ⟨x1, _⟩ := Rd.nums_was h
      obtain ⟨x2, _⟩ := Rd.num_was x1
      obtain ⟨x3, _⟩ := Rd.flag_was x2
      obtain ⟨x4, _⟩ := Rd.fix_was _ _ x3
      obtain ⟨x5, _⟩ := Rd.size_was x4
      obtain ⟨x6, _⟩ := Rd.nums_was x5
      obtain ⟨x7, _⟩ := Rd.num_was x6
      obtain ⟨x8, _⟩ := Rd.num_was x7
      obtain ⟨x9, _⟩ := Rd.num_was x8
      obtain ⟨y1, _⟩ := Rd.num_was x9
      obtain ⟨y2, _⟩ := Rd.flag_was y1
      exact (Rd.num_was y2).1
    repeat (first | refine go_ ?_ | refine bx_ (fun _ => ?_))
    rename_i gl
    refine HL.perm ?_ (List.Perm.swap _ _ _)
    refine hl_call rfl rfl (rrnum_fn (s := s1) hb (iY _) hs1 hp1) (fun v M hv => ?_)
    obtain ⟨p2, rfl, rfl, hs2, hp2⟩ := hv
    have l2 := s1.num_len
    generalize hg2 : s1.num = s2 at *
    repeat (first | refine go_ ?_ | refine bx_ (fun _ => ?_))
    refine HL.perm ?_ (List.Perm.swap _ _ _)
    refine hl_call rfl rfl (rrnum_fn hb (iY _) hs2 hp2) (fun v M hv => ?_)
    obtain ⟨p3, rfl, rfl, hs3, hp3⟩ := hv
    have l3 := s2.2.num_len
    generalize hg3 : s2.2.num = s3 at *
    repeat (first | refine go_ ?_ | refine bx_ (fun _ => ?_))
    refine HL.perm ?_ (List.Perm.swap _ _ _)
    refine hl_call rfl rfl (rrflag_fn hb (iY _) hs3 hp3) (fun v M hv => ?_)
    obtain ⟨p4, rfl, rfl, hs4, hp4⟩ := hv
    have l4 := s3.2.flag_len
    generalize hg4 : s3.2.flag = s4 at *
    repeat (first | refine go_ ?_ | refine bx_ (fun _ => ?_))
    refine HL.perm ?_ (List.Perm.swap _ _ _)
    refine hl_call rfl rfl (rrnum_fn hb (iY _) hs4 hp4) (fun v M hv => ?_)
    obtain ⟨p5, rfl, rfl, hs5, hp5⟩ := hv
    have l5 := s4.2.num_len
    generalize hg5 : s4.2.num = s5 at *
    repeat (first | refine go_ ?_ | refine bx_ (fun _ => ?_))
    refine HL.perm ?_ (List.Perm.swap _ _ _)
    refine hl_call rfl rfl (rrnum_fn hb (iY _) hs5 hp5) (fun v M hv => ?_)
    obtain ⟨p6, rfl, rfl, hs6, hp6⟩ := hv
    have l6 := s5.2.num_len
    generalize hg6 : s5.2.num = s6 at *
    repeat (first | refine go_ ?_ | refine bx_ (fun _ => ?_))
    refine HL.perm ?_ (List.Perm.swap _ _ _)
    refine hl_call rfl rfl (rrnum_fn hb (iY _) hs6 hp6) (fun v M hv => ?_)
    obtain ⟨p7, rfl, rfl, hs7, hp7⟩ := hv
    have l7 := s6.2.num_len
    generalize hg7 : s6.2.num = s7 at *
    repeat (first | refine go_ ?_ | refine bx_ (fun _ => ?_))
    refine HL.perm ?_ (List.Perm.swap _ _ _)
    refine hl_call rfl rfl (rrnum_fn hb (iY _) hs7 hp7) (fun v M hv => ?_)
    obtain ⟨p8, rfl, rfl, hs8, hp8⟩ := hv
    have l8 := s7.2.num_len
    generalize hg8 : s7.2.num = s8 at *
    repeat (first | refine go_ ?_ | refine bx_ (fun _ => ?_))
    refine HL.perm ?_ (List.Perm.swap _ _ _)
    refine hl_call rfl rfl (rrnums_fn hb (iY _) hs8 hp8 hn) (fun v M hv => ?_)
    obtain ⟨p9, Xp, him9, hop, hs9, hp9⟩ := hv
    have l9 := s8.2.nums_len
    generalize hg9 : s8.2.nums = s9 at *
    refine HL.imp ?_ him9
    obtain ⟨pa, pc, rfl, _, _⟩ := (hop []).form
    refine HL.perm ?_ (List.Perm.cons _ List.perm_middle)
    repeat (first | refine go_ ?_ | refine bx_ (fun _ => ?_))
    obtain ⟨Y1, hY1⟩ : ∃ Y1, Y1 = Xp ++ Y := ⟨_, rfl⟩
    have iY1 : Imp Y1 R0 := by rw [hY1]; exact (Imp.tail Xp _).trans iX
    have iZ1 : ∀ e : Ent, Imp (e :: Y1) R0 := fun e => Imp.drop iY1
    refine HL.perm (H' := RfB g a n c p9 s9.2.e :: ⟨gl, 121, [.int .i64 s2.1, .int .i64 s3.1, .int .i64 t, .bool s4.1, .int .i64 s5.1, .int .i64 s6.1, .int .i64 s7.1, .int .i64 s8.1, .slice pa s9.1.length pc, .slice none 0 0, .int .i64 0, .int .i64 0, .int .i64 0, .int .i64 0, .int .i64 0, .int .i64 0, .bool false, .int .i64 0, .slice none 0 0], 19⟩ :: Y1) ?_ (by rw [hY1]; exact List.Perm.swap _ _ _)
    refine hl_call rfl rfl (rrsize_fn hb (iZ1 _) hs9 hp9) (fun v M hv => ?_)
    obtain ⟨pA, rfl, rfl, hsA, hpA⟩ := hv
    have lA := s9.2.size_len
    have fA := s9.2.size_fit
    generalize hgA : s9.2.size = sA at *
    have hAl : sA.2.l.length = n - pA := by rw [hsA, List.length_drop]; omega
    repeat (first | refine go_ ?_ | refine bx_ (fun _ => ?_))
    have hbAp : (b.drop pA).take sA.1 = sA.2.l.take sA.1 := by rw [hsA]
    have hml : (sA.2.l.take sA.1).length = sA.1 := by rw [List.length_take]; omega
    refine hc_meet (fun fr M => ∃ ma mc Xm, (∀ F, Own 5 1 (.slice ma sA.1 mc) sA.1 ((sA.2.l.take sA.1).map byteV) F (Xm ++ F)) ∧ Imp M (RfB g a n c pA sA.2.e :: ⟨gl, 121, [.int .i64 s2.1, .int .i64 s3.1, .int .i64 t, .bool s4.1, .int .i64 s5.1, .int .i64 s6.1, .int .i64 s7.1, .int .i64 s8.1, .slice pa s9.1.length pc, .slice ma sA.1 mc, .int .i64 0, .int .i64 0, .int .i64 0, .int .i64 0, .int .i64 0, .int .i64 0, .bool false, .int .i64 0, .slice none 0 0], 19⟩ :: (Xm ++ Y1)) ∧ Agr fr [(0, .pointer (some ⟨g, 0, none⟩)), (1, .int .i64 t), (2, .int .i64 z), (3, .slice oa m oc), (9, .int .i64 (K : Int)), (10, .int .i64 (j : Int)), (11, .pointer (some ⟨gl, 0, none⟩)), (12, .int .i64 (sA.1 : Int))]) ?_ ?_
    · obtain ⟨lb, hlb⟩ : ∃ lb : Ent, lb = ⟨gl, 121, [.int .i64 s2.1, .int .i64 s3.1, .int .i64 t, .bool s4.1, .int .i64 s5.1, .int .i64 s6.1, .int .i64 s7.1, .int .i64 s8.1, .slice pa s9.1.length pc, .slice none 0 0, .int .i64 0, .int .i64 0, .int .i64 0, .int .i64 0, .int .i64 0, .int .i64 0, .bool false, .int .i64 0, .slice none 0 0], 19⟩ := ⟨_, rfl⟩
      refine HC.perm (H' := RfB g a n c pA sA.2.e :: lb :: Y1) ?_ (by rw [hlb])
      refine hc_drawA [RfB g a n c pA sA.2.e] (by kernel_rfl) ?_
      have iE0 : Imp (RfB g a n c pA sA.2.e :: lb :: Y1) [RfB g a n c pA sA.2.e] := Imp.sub (List.Sublist.cons_cons _ (List.nil_sublist _))
      have iH0 : Imp (RfB g a n c pA sA.2.e :: lb :: Y1) R0 := Imp.drop (iZ1 _)
      refine ha_quiet [1, 2, 3, 4, 5, 6, 7, 8, 9, 10, 11, 12, 13, 14] (by rfl) (by kernel_rfl) ?_
      repeat (first | refine gd_ ?_)
      refine ha_fork2 0 15 (by rfl) (by kernel_rfl) (by rfl) (by rfl) (by first | exact Imp.refl _ | exact Imp.drop (Imp.refl _) | exact Imp.drop (Imp.drop (Imp.refl _)) | exact Imp.drop (Imp.drop (Imp.drop (Imp.refl _))) | exact Imp.drop (Imp.drop (Imp.drop (Imp.drop (Imp.refl _)))) | exact Imp.drop (Imp.drop (Imp.drop (Imp.drop (Imp.drop (Imp.refl _))))) | exact Imp.drop (Imp.drop (Imp.drop (Imp.drop (Imp.drop (Imp.drop (Imp.refl _)))))) | exact Imp.drop (Imp.drop (Imp.drop (Imp.drop (Imp.drop (Imp.drop (Imp.drop (Imp.refl _))))))) | exact Imp.drop (Imp.drop (Imp.drop (Imp.drop (Imp.drop (Imp.drop (Imp.drop (Imp.drop (Imp.refl _)))))))) | assumption | exact Imp.drop (by assumption) | exact Imp.drop (Imp.drop (by assumption)) | exact imp_nil _ | exact Imp.drop2 (Imp.refl _) | exact Imp.drop2 (Imp.drop2 (Imp.refl _)) | exact Imp.drop (Imp.drop2 (Imp.refl _))) ?_ ?_
      · skip
        repeat (first | refine op_ ?_ | refine bx_ (fun _ => ?_))
        rename_i g0
        refine ha_fork1 15 (by rfl) (by kernel_rfl) (by rfl) (by first | exact Imp.refl _ | exact Imp.drop (Imp.refl _) | exact Imp.drop (Imp.drop (Imp.refl _)) | exact Imp.drop (Imp.drop (Imp.drop (Imp.refl _))) | exact Imp.drop (Imp.drop (Imp.drop (Imp.drop (Imp.refl _)))) | exact Imp.drop (Imp.drop (Imp.drop (Imp.drop (Imp.drop (Imp.refl _))))) | exact Imp.drop (Imp.drop (Imp.drop (Imp.drop (Imp.drop (Imp.drop (Imp.refl _)))))) | exact Imp.drop (Imp.drop (Imp.drop (Imp.drop (Imp.drop (Imp.drop (Imp.drop (Imp.refl _))))))) | exact Imp.drop (Imp.drop (Imp.drop (Imp.drop (Imp.drop (Imp.drop (Imp.drop (Imp.drop (Imp.refl _)))))))) | assumption | exact Imp.drop (by assumption) | exact Imp.drop (Imp.drop (by assumption)) | exact imp_nil _ | exact Imp.drop2 (Imp.refl _) | exact Imp.drop2 (Imp.drop2 (Imp.refl _)) | exact Imp.drop (Imp.drop2 (Imp.refl _))) ?_
        · skip
          refine hl_sliceBy (i := pA) (j := pA + sA.1) (ki := .i64) (kj := .i64) rfl hb (by first | exact iH0 | exact Imp.drop iH0) rfl rfl (by omega) (by omega) rfl (fun am hbm => ?_)
          rw [show pA + sA.1 - pA = sA.1 by omega] at hbm ⊢
          rw [hbAp] at hbm
          repeat (first | refine op_ ?_ | refine bx_ (fun _ => ?_))
          refine ha_fork1 16 (by rfl) (by kernel_rfl) (by rfl) (by first | exact Imp.refl _ | exact Imp.drop (Imp.refl _) | exact Imp.drop (Imp.drop (Imp.refl _)) | exact Imp.drop (Imp.drop (Imp.drop (Imp.refl _))) | exact Imp.drop (Imp.drop (Imp.drop (Imp.drop (Imp.refl _)))) | exact Imp.drop (Imp.drop (Imp.drop (Imp.drop (Imp.drop (Imp.refl _))))) | exact Imp.drop (Imp.drop (Imp.drop (Imp.drop (Imp.drop (Imp.drop (Imp.refl _)))))) | exact Imp.drop (Imp.drop (Imp.drop (Imp.drop (Imp.drop (Imp.drop (Imp.drop (Imp.refl _))))))) | exact Imp.drop (Imp.drop (Imp.drop (Imp.drop (Imp.drop (Imp.drop (Imp.drop (Imp.drop (Imp.refl _)))))))) | assumption | exact Imp.drop (by assumption) | exact Imp.drop (Imp.drop (by assumption)) | exact imp_nil _ | exact Imp.drop2 (Imp.refl _) | exact Imp.drop2 (Imp.drop2 (Imp.refl _)) | exact Imp.drop (Imp.drop2 (Imp.refl _))) ?_
          · skip
            refine hl_append_own (e := 5) (sz := 1) (C := []) (F := RfB g a n c pA sA.2.e :: lb :: Y1) rfl rfl (Own.mk (n := 0) (cap := 0) (by omega) (by omega) rfl (List.Perm.refl _)) (hbm.rd.weak fun w hw => (Imp.drop iH0) _ _ _ hw) (by rw [List.length_map, hml]; omega) rfl (by decide) (by omega) (by omega) rfl (fun v4 M4 o4 => ?_)
            rw [List.nil_append, Nat.zero_add] at o4
            obtain ⟨ma, mc, rfl, _, _⟩ := o4.form
            obtain ⟨Xm, hpm, hom⟩ := o4.permE
            clear o4
            rw [hlb] at hpm
            refine HL.perm ?_ (hpm.trans (app_swap Xm [_, _] _))
            have iE16 : ∀ l : List Ent, Imp (RfB g a n c pA sA.2.e :: l) [RfB g a n c pA sA.2.e] := fun l => Imp.sub (List.Sublist.cons_cons _ (List.nil_sublist _))
            have iE17 := iE16 (⟨gl, 121, [.int .i64 s2.1, .int .i64 s3.1, .int .i64 t, .bool s4.1, .int .i64 s5.1, .int .i64 s6.1, .int .i64 s7.1, .int .i64 s8.1, .slice pa s9.1.length pc, .slice none 0 0, .int .i64 0, .int .i64 0, .int .i64 0, .int .i64 0, .int .i64 0, .int .i64 0, .bool false, .int .i64 0, .slice none 0 0], 19⟩ :: (Xm ++ Y1))
            have iE18 := iE16 (Xm ++ Y1)
            repeat (first | refine op_ ?_ | refine bx_ (fun _ => ?_))
            refine ha_quiet [17] (by rfl) (by kernel_rfl) ?_
            repeat (first | refine gd_ ?_)
            refine ha_fork1 18 (by rfl) (by kernel_rfl) (by rfl) (by first | exact Imp.refl _ | exact Imp.drop (Imp.refl _) | exact Imp.drop (Imp.drop (Imp.refl _)) | exact Imp.drop (Imp.drop (Imp.drop (Imp.refl _))) | exact Imp.drop (Imp.drop (Imp.drop (Imp.drop (Imp.refl _)))) | exact Imp.drop (Imp.drop (Imp.drop (Imp.drop (Imp.drop (Imp.refl _))))) | exact Imp.drop (Imp.drop (Imp.drop (Imp.drop (Imp.drop (Imp.drop (Imp.refl _)))))) | exact Imp.drop (Imp.drop (Imp.drop (Imp.drop (Imp.drop (Imp.drop (Imp.drop (Imp.refl _))))))) | exact Imp.drop (Imp.drop (Imp.drop (Imp.drop (Imp.drop (Imp.drop (Imp.drop (Imp.drop (Imp.refl _)))))))) | assumption | exact Imp.drop (by assumption) | exact Imp.drop (Imp.drop (by assumption)) | exact imp_nil _ | exact Imp.drop2 (Imp.refl _) | exact Imp.drop2 (Imp.drop2 (Imp.refl _)) | exact Imp.drop (Imp.drop2 (Imp.refl _))) ?_
            · skip
              repeat (first | refine op_ ?_ | refine bx_ (fun _ => ?_))
              refine ha_end (by rfl) (by kernel_rfl) (by first | exact Imp.refl _ | exact Imp.drop (Imp.refl _) | exact Imp.drop (Imp.drop (Imp.refl _)) | exact Imp.drop (Imp.drop (Imp.drop (Imp.refl _))) | exact Imp.drop (Imp.drop (Imp.drop (Imp.drop (Imp.refl _)))) | exact Imp.drop (Imp.drop (Imp.drop (Imp.drop (Imp.drop (Imp.refl _))))) | exact Imp.drop (Imp.drop (Imp.drop (Imp.drop (Imp.drop (Imp.drop (Imp.refl _)))))) | exact Imp.drop (Imp.drop (Imp.drop (Imp.drop (Imp.drop (Imp.drop (Imp.drop (Imp.refl _))))))) | exact Imp.drop (Imp.drop (Imp.drop (Imp.drop (Imp.drop (Imp.drop (Imp.drop (Imp.drop (Imp.refl _)))))))) | assumption | exact Imp.drop (by assumption) | exact Imp.drop (Imp.drop (by assumption)) | exact imp_nil _ | exact Imp.drop2 (Imp.refl _) | exact Imp.drop2 (Imp.drop2 (Imp.refl _)) | exact Imp.drop (Imp.drop2 (Imp.refl _))) ?_
              exact ⟨ma, mc, Xm, hom, Imp.perm (List.Perm.swap _ _ _) (Imp.refl _), rfl, rfl, rfl, rfl, rfl, rfl, rfl, rfl, trivial⟩
      · skip
        refine hl_sliceBy (i := pA) (j := pA + sA.1) (ki := .i64) (kj := .i64) rfl hb (by first | exact iH0 | exact Imp.drop iH0) rfl rfl (by omega) (by omega) rfl (fun am hbm => ?_)
        rw [show pA + sA.1 - pA = sA.1 by omega] at hbm ⊢
        rw [hbAp] at hbm
        repeat (first | refine op_ ?_ | refine bx_ (fun _ => ?_))
        refine ha_fork1 0 (by rfl) (by kernel_rfl) (by rfl) (by first | exact Imp.refl _ | exact Imp.drop (Imp.refl _) | exact Imp.drop (Imp.drop (Imp.refl _)) | exact Imp.drop (Imp.drop (Imp.drop (Imp.refl _))) | exact Imp.drop (Imp.drop (Imp.drop (Imp.drop (Imp.refl _)))) | exact Imp.drop (Imp.drop (Imp.drop (Imp.drop (Imp.drop (Imp.refl _))))) | exact Imp.drop (Imp.drop (Imp.drop (Imp.drop (Imp.drop (Imp.drop (Imp.refl _)))))) | exact Imp.drop (Imp.drop (Imp.drop (Imp.drop (Imp.drop (Imp.drop (Imp.drop (Imp.refl _))))))) | exact Imp.drop (Imp.drop (Imp.drop (Imp.drop (Imp.drop (Imp.drop (Imp.drop (Imp.drop (Imp.refl _)))))))) | assumption | exact Imp.drop (by assumption) | exact Imp.drop (Imp.drop (by assumption)) | exact imp_nil _ | exact Imp.drop2 (Imp.refl _) | exact Imp.drop2 (Imp.drop2 (Imp.refl _)) | exact Imp.drop (Imp.drop2 (Imp.refl _))) ?_
        · skip
          repeat (first | refine op_ ?_ | refine bx_ (fun _ => ?_))
          rename_i g0
          refine ha_fork1 16 (by rfl) (by kernel_rfl) (by rfl) (by first | exact Imp.refl _ | exact Imp.drop (Imp.refl _) | exact Imp.drop (Imp.drop (Imp.refl _)) | exact Imp.drop (Imp.drop (Imp.drop (Imp.refl _))) | exact Imp.drop (Imp.drop (Imp.drop (Imp.drop (Imp.refl _)))) | exact Imp.drop (Imp.drop (Imp.drop (Imp.drop (Imp.drop (Imp.refl _))))) | exact Imp.drop (Imp.drop (Imp.drop (Imp.drop (Imp.drop (Imp.drop (Imp.refl _)))))) | exact Imp.drop (Imp.drop (Imp.drop (Imp.drop (Imp.drop (Imp.drop (Imp.drop (Imp.refl _))))))) | exact Imp.drop (Imp.drop (Imp.drop (Imp.drop (Imp.drop (Imp.drop (Imp.drop (Imp.drop (Imp.refl _)))))))) | assumption | exact Imp.drop (by assumption) | exact Imp.drop (Imp.drop (by assumption)) | exact imp_nil _ | exact Imp.drop2 (Imp.refl _) | exact Imp.drop2 (Imp.drop2 (Imp.refl _)) | exact Imp.drop (Imp.drop2 (Imp.refl _))) ?_
          · skip
            refine hl_append_own (e := 5) (sz := 1) (C := []) (F := RfB g a n c pA sA.2.e :: lb :: Y1) rfl rfl (Own.mk (n := 0) (cap := 0) (by omega) (by omega) rfl (List.Perm.refl _)) (hbm.rd.weak fun w hw => (Imp.drop iH0) _ _ _ hw) (by rw [List.length_map, hml]; omega) rfl (by decide) (by omega) (by omega) rfl (fun v4 M4 o4 => ?_)
            rw [List.nil_append, Nat.zero_add] at o4
            obtain ⟨ma, mc, rfl, _, _⟩ := o4.form
            obtain ⟨Xm, hpm, hom⟩ := o4.permE
            clear o4
            rw [hlb] at hpm
            refine HL.perm ?_ (hpm.trans (app_swap Xm [_, _] _))
            have iE16 : ∀ l : List Ent, Imp (RfB g a n c pA sA.2.e :: l) [RfB g a n c pA sA.2.e] := fun l => Imp.sub (List.Sublist.cons_cons _ (List.nil_sublist _))
            have iE17 := iE16 (⟨gl, 121, [.int .i64 s2.1, .int .i64 s3.1, .int .i64 t, .bool s4.1, .int .i64 s5.1, .int .i64 s6.1, .int .i64 s7.1, .int .i64 s8.1, .slice pa s9.1.length pc, .slice none 0 0, .int .i64 0, .int .i64 0, .int .i64 0, .int .i64 0, .int .i64 0, .int .i64 0, .bool false, .int .i64 0, .slice none 0 0], 19⟩ :: (Xm ++ Y1))
            have iE18 := iE16 (Xm ++ Y1)
            repeat (first | refine op_ ?_ | refine bx_ (fun _ => ?_))
            refine ha_quiet [17] (by rfl) (by kernel_rfl) ?_
            repeat (first | refine gd_ ?_)
            refine ha_fork1 18 (by rfl) (by kernel_rfl) (by rfl) (by first | exact Imp.refl _ | exact Imp.drop (Imp.refl _) | exact Imp.drop (Imp.drop (Imp.refl _)) | exact Imp.drop (Imp.drop (Imp.drop (Imp.refl _))) | exact Imp.drop (Imp.drop (Imp.drop (Imp.drop (Imp.refl _)))) | exact Imp.drop (Imp.drop (Imp.drop (Imp.drop (Imp.drop (Imp.refl _))))) | exact Imp.drop (Imp.drop (Imp.drop (Imp.drop (Imp.drop (Imp.drop (Imp.refl _)))))) | exact Imp.drop (Imp.drop (Imp.drop (Imp.drop (Imp.drop (Imp.drop (Imp.drop (Imp.refl _))))))) | exact Imp.drop (Imp.drop (Imp.drop (Imp.drop (Imp.drop (Imp.drop (Imp.drop (Imp.drop (Imp.refl _)))))))) | assumption | exact Imp.drop (by assumption) | exact Imp.drop (Imp.drop (by assumption)) | exact imp_nil _ | exact Imp.drop2 (Imp.refl _) | exact Imp.drop2 (Imp.drop2 (Imp.refl _)) | exact Imp.drop (Imp.drop2 (Imp.refl _))) ?_
            · skip
              repeat (first | refine op_ ?_ | refine bx_ (fun _ => ?_))
              refine ha_end (by rfl) (by kernel_rfl) (by first | exact Imp.refl _ | exact Imp.drop (Imp.refl _) | exact Imp.drop (Imp.drop (Imp.refl _)) | exact Imp.drop (Imp.drop (Imp.drop (Imp.refl _))) | exact Imp.drop (Imp.drop (Imp.drop (Imp.drop (Imp.refl _)))) | exact Imp.drop (Imp.drop (Imp.drop (Imp.drop (Imp.drop (Imp.refl _))))) | exact Imp.drop (Imp.drop (Imp.drop (Imp.drop (Imp.drop (Imp.drop (Imp.refl _)))))) | exact Imp.drop (Imp.drop (Imp.drop (Imp.drop (Imp.drop (Imp.drop (Imp.drop (Imp.refl _))))))) | exact Imp.drop (Imp.drop (Imp.drop (Imp.drop (Imp.drop (Imp.drop (Imp.drop (Imp.drop (Imp.refl _)))))))) | assumption | exact Imp.drop (by assumption) | exact Imp.drop (Imp.drop (by assumption)) | exact imp_nil _ | exact Imp.drop2 (Imp.refl _) | exact Imp.drop2 (Imp.drop2 (Imp.refl _)) | exact Imp.drop (Imp.drop2 (Imp.refl _))) ?_
              exact ⟨ma, mc, Xm, hom, Imp.perm (List.Perm.swap _ _ _) (Imp.refl _), rfl, rfl, rfl, rfl, rfl, rfl, rfl, rfl, trivial⟩
    rintro fr M ⟨ma, mc, Xm, hom, him, hf⟩
    obtain ⟨base, rfl⟩ := hf.out
    clear hf
    refine HC.imp ?_ him
    clear him M
    have hsB : (sA.2.skip sA.1).l = b.drop (pA + sA.1) := by unfold Rd.skip; dsimp only; rw [hsA, List.drop_drop]
    have hpB : pA + sA.1 ≤ n := by omega
    have lB := sA.2.skip_len sA.1
    have heB : sA.2.e = (sA.2.skip sA.1).e := rfl
    generalize hgB : sA.2.skip sA.1 = sB at *
    obtain ⟨P10, hP10⟩ : ∃ P : List Value, P = [.int .i64 s2.1, .int .i64 s3.1, .int .i64 t, .bool s4.1, .int .i64 s5.1, .int .i64 s6.1, .int .i64 s7.1, .int .i64 s8.1, .slice pa s9.1.length pc, .slice ma sA.1 mc] := ⟨_, rfl⟩
    have hP10l : P10.length = 10 := by rw [hP10]; rfl
    obtain ⟨Y2, hY2⟩ : ∃ Y2, Y2 = Xm ++ Y1 := ⟨_, rfl⟩
    have iY2 : Imp Y2 R0 := by rw [hY2]; exact (Imp.tail Xm _).trans iY1
    have iZ2 : ∀ e : Ent, Imp (e :: Y2) R0 := fun e => Imp.drop iY2
    obtain ⟨G5, hG5⟩ : ∃ G5, G5 = Rd.fix 6 sB := ⟨_, rfl⟩
    repeat (first | refine go_ ?_ | refine bx_ (fun _ => ?_))
    refine HC.perm (H' := RfB g a n c (pA + sA.1) sB.e :: ⟨gl, 121, P10 ++ ((([] : List Int).map iV ++ List.replicate 6 (Value.int .i64 0)) ++ [Value.bool false, .int .i64 0, .slice none 0 0]), 19⟩ :: Y2) ?_ (by rw [hY2, ← heB, hP10]; exact List.Perm.refl _)
    refine hc_loopd (fun q fr M => ∃ jj L1 s p, jj + q = 6 ∧ L1.length = jj ∧ (L1 ++ (Rd.fix q s).1 = G5.1 ∧ (Rd.fix q s).2 = G5.2) ∧ (s.l = b.drop p ∧ p ≤ n) ∧
      M = RfB g a n c p s.e :: ⟨gl, 121, P10 ++ ((L1.map iV ++ List.replicate q (Value.int .i64 0)) ++ [Value.bool false, .int .i64 0, .slice none 0 0]), 19⟩ :: Y2 ∧ Agr fr [(0, .pointer (some ⟨g, 0, none⟩)), (1, .int .i64 t), (2, .int .i64 z), (3, .slice oa m oc), (9, .int .i64 (K : Int)), (10, .int .i64 (j : Int)), (11, .pointer (some ⟨gl, 0, none⟩)), (13, .int .i64 (jj : Int))]) 6 ?_ ?_
    · exact ⟨0, [], sB, pA + sA.1, by omega, rfl, ⟨by rw [hG5]; rfl, by rw [hG5]⟩, ⟨hsB, hpB⟩, rfl, rfl, rfl, rfl, rfl, rfl, rfl, rfl, rfl, trivial⟩
    clear hsB hpB
    rintro q6 fr M ⟨jj, L1, s6', p6', hjj, hL1, ⟨hh1, hh2⟩, ⟨hs6', hp6'⟩, rfl, hff⟩
    obtain ⟨base, rfl⟩ := hff.out
    clear hff
    by_cases hq6 : q6 = 0
    rotate_left
    · obtain ⟨q6, rfl⟩ : ∃ q', q6 = q' + 1 := ⟨q6 - 1, by omega⟩
      rw [Rd.fix] at hh1 hh2
      dsimp only at hh1 hh2
      have hlen : 10 + jj < (P10 ++ ((L1.map iV ++ List.replicate (q6 + 1) (Value.int .i64 0)) ++ [Value.bool false, .int .i64 0, .slice none 0 0])).length := by simp [hP10l]; omega
      have hset : ∀ z : Int, (P10 ++ ((L1.map iV ++ List.replicate (q6 + 1) (Value.int .i64 0)) ++ [Value.bool false, .int .i64 0, .slice none 0 0])).set (10 + jj) (.int .i64 z) = P10 ++ (((L1 ++ [z]).map iV ++ List.replicate q6 (Value.int .i64 0)) ++ [Value.bool false, .int .i64 0, .slice none 0 0]) := fun z => by
        rw [List.set_append_right _ _ (by omega), show 10 + jj - P10.length = jj by omega, List.set_append_left _ _ (by simp; omega), List.set_append_right _ _ (by simp; omega), List.length_map, hL1, Nat.sub_self, List.replicate_succ, List.set_cons_zero, List.map_append]
        simp
      repeat (first | refine go_ ?_ | refine bx_ (fun _ => ?_))
      refine hl_call rfl rfl (rrnum_fn hb (iZ2 _) hs6' hp6') (fun v M hv => ?_)
      obtain ⟨p', rfl, rfl, hs', hp'⟩ := hv
      repeat (first | refine go_ ?_ | refine bx_ (fun _ => ?_))
      refine ⟨q6, by omega, _, Imp.perm (List.Perm.swap _ _ _) (Imp.refl _), jj + 1, L1 ++ [s6'.num.1], s6'.num.2, p', by omega, by simp [hL1], ⟨by rw [← hh1]; simp, hh2⟩, ⟨hs', hp'⟩, by rw [hset s6'.num.1], rfl, rfl, rfl, rfl, rfl, rfl, rfl, rfl, trivial⟩
    subst hq6
    rw [Rd.fix] at hh1 hh2
    rw [List.append_nil] at hh1
    dsimp only at hh2
    obtain rfl : jj = 6 := by omega
    obtain ⟨mm, hm⟩ := six_of hL1
    rw [hG5] at hh1 hh2
    have lC := Rd.fixL_len 6 sB
    have hmC : (Rd.fix 6 sB).1 = f6 mm := by rw [← hh1, hm]
    generalize hgC : Rd.fix 6 sB = sC at *
    subst hh2
    refine HC.perm (H' := RfB g a n c p6' sC.2.e :: ⟨gl, 121, [.int .i64 s2.1, .int .i64 s3.1, .int .i64 t, .bool s4.1, .int .i64 s5.1, .int .i64 s6.1, .int .i64 s7.1, .int .i64 s8.1, .slice pa s9.1.length pc, .slice ma sA.1 mc, .int .i64 (mm 0), .int .i64 (mm 1), .int .i64 (mm 2), .int .i64 (mm 3), .int .i64 (mm 4), .int .i64 (mm 5), .bool false, .int .i64 0, .slice none 0 0], 19⟩ :: Y2) ?_ (by rw [hm, hP10]; exact List.Perm.refl _)
    repeat (first | refine go_ ?_ | refine bx_ (fun _ => ?_))
    refine hl_call rfl rfl (rrflag_fn hb (iZ2 _) hs6' hp6') (fun v M hv => ?_)
    obtain ⟨pD, rfl, rfl, hsD, hpD⟩ := hv
    have lD := sC.2.flag_len
    generalize hgD : sC.2.flag = sD at *
    repeat (first | refine go_ ?_ | refine bx_ (fun _ => ?_))
    refine HL.perm ?_ (List.Perm.swap _ _ _)
    refine hl_call rfl rfl (rrnum_fn hb (iZ2 _) hsD hpD) (fun v M hv => ?_)
    obtain ⟨pE, rfl, rfl, hsE, hpE⟩ := hv
    have lE := sD.2.num_len
    generalize hgE : sD.2.num = sE at *
    repeat (first | refine go_ ?_ | refine bx_ (fun _ => ?_))
    refine HL.perm ?_ (List.Perm.swap _ _ _)
    refine hl_call rfl rfl (rrnums_fn hb (iZ2 _) hsE hpE hn) (fun v M hv => ?_)
    obtain ⟨pF, Xq, himF, hoq, hsF, hpF⟩ := hv
    have lF := sE.2.nums_len
    generalize hgF : sE.2.nums = sF at *
    refine HL.imp ?_ himF
    obtain ⟨qa, qc, rfl, _, _⟩ := (hoq []).form
    refine HL.perm ?_ (List.Perm.cons _ List.perm_middle)
    repeat (first | refine go_ ?_ | refine bx_ (fun _ => ?_))
    rename_i gb
    have hly2 : s1.lyr.2 = sF.2 := by rw [hlyr]
    have hly1 : s1.lyr.1 = ⟨s2.1, s3.1, s4.1, s5.1, s6.1, s7.1, s8.1, s9.1, sA.2.l.take sA.1, mm 0, mm 1, mm 2, mm 3, mm 4, mm 5, sD.1, sE.1, sF.1⟩ := by rw [hlyr, hmC]; rfl
    clear hlyr
    rw [hly2] at hmono h2 f2
    have hstep : sF.2.l.length + 1 ≤ s1.l.length + min sF.2.e 1 := by
      by_cases h : sF.2.e = 0
      · have := heat (hmono h); omega
      · omega
    obtain ⟨CL, hCL⟩ : ∃ L : List Value, L = [.int .i64 s2.1, .int .i64 s3.1, .int .i64 t, .bool s4.1, .int .i64 s5.1, .int .i64 s6.1, .int .i64 s7.1, .int .i64 s8.1, .slice pa s9.1.length pc, .slice ma sA.1 mc, .int .i64 (mm 0), .int .i64 (mm 1), .int .i64 (mm 2), .int .i64 (mm 3), .int .i64 (mm 4), .int .i64 (mm 5), .bool sD.1, .int .i64 sE.1, .slice qa sF.1.length qc] := ⟨_, rfl⟩
    have oneCL : ∀ u ∈ CL, u.oneCell' = true := by rw [hCL]; simp [Value.oneCell']
    have hp1 : ∀ x y z : Ent, (x :: y :: z :: (Xq ++ Y2)).Perm (Xl ++ (x :: y :: z :: (Xq ++ (Xm ++ (Xp ++ (Xs ++ R)))))) := fun x y z => by
      rw [hY2, hY1, hY]
      simpa only [List.append_assoc, List.cons_append, List.nil_append] using app_swap ([x, y, z] ++ (Xq ++ (Xm ++ Xp))) Xl (Xs ++ R)
    have hp2 : ∀ (Z : List Ent) (x y z : Ent), (Z ++ (x :: y :: z :: (Xq ++ (Xm ++ (Xp ++ (Xs ++ R)))))).Perm (x :: y :: z :: (Z ++ (Xq ++ (Xm ++ (Xp ++ (Xs ++ R)))))) := fun Z x y z => app_swap Z [x, y, z] _
    refine HL.perm ?_ (hp1 _ _ _)
    refine hl_append_own (e := 121) (sz := 19) (news := CL) rfl rfl (ho _) (Rds.ent (i := 0) (n := 19) (l := CL) (Take.app Xl .here) (by rw [hCL]; rfl) oneCL) (by rw [hCL]; rfl) rfl (by decide) (by omega) (by omega) rfl (fun v5 M5 o5 => ?_)
    obtain ⟨a5', c5', rfl, _, _⟩ := o5.form
    obtain ⟨Z, hZ, hoZ⟩ := o5.permE
    refine HL.perm ?_ (hZ.trans (hp2 Z _ _ _))
    repeat (first | refine go_ ?_ | refine bx_ (fun _ => ?_))
    refine HL.imp ?_ (Imp.drop (Imp.drop (Imp.refl _)))
    have iT : Imp (Xq ++ (Xm ++ (Xp ++ (Xs ++ R)))) R0 := (Imp.tail Xq _).trans ((Imp.tail Xm _).trans ((Imp.tail Xp _).trans ((Imp.tail Xs _).trans hi)))
    have hCC : ∀ u ∈ (C ++ C1) ++ CL, u.oneCell' = true := fun u hu => by
      simp only [List.mem_append] at hu
      rcases hu with (hu | hu) | hu
      · exact hC u hu
      · exact hone u hu
      · exact oneCL u hu
    refine hl_call rfl rfl (rrlayers_fn hb hn N d (s := sF.2) (by omega) (by omega) (by omega) iT hsF hpF hoZ hCC (by omega)) (fun v M hv => ?_)
    obtain ⟨pK, XK, XnK, ra, rm, rc, CK, himK, hsK, hpK, rfl, hoK, hCK, hbdK, hRK⟩ := hv
    generalize hgK : Rd.lay d sF.2 = sK at *
    refine HL.imp ?_ himK
    repeat (first | refine go_ ?_ | refine bx_ (fun _ => ?_))
    refine ⟨q, by omega, _, (by simpa only [List.append_assoc] using Imp.refl (RfB g a n c pK sK.2.e :: (XK ++ ((XnK ++ (Xq ++ (Xm ++ (Xp ++ Xs)))) ++ R)))), j + 1, pK, sK.2, F1.app (.cons s1.lyr.1 sK.1 .nil), ra, rm, rc, C1 ++ (CL ++ CK), XK, XnK ++ (Xq ++ (Xm ++ (Xp ++ Xs))), by omega, h2, fun he => ⟨?_, ?_⟩, ?_, ?_, ⟨hsK, hpK⟩, by omega, (by simpa only [List.append_assoc] using Imp.refl (RfB g a n c pK sK.2.e :: (XK ++ ((XnK ++ (Xq ++ (Xm ++ (Xp ++ Xs)))) ++ R)))), rfl, rfl, rfl, rfl, rfl, rfl, trivial⟩
    · have iK : Imp (XnK ++ (Xq ++ (Xm ++ (Xp ++ Xs)))) XnK := Imp.sub (List.sublist_append_left _ _)
      have iQ : Imp (XnK ++ (Xq ++ (Xm ++ (Xp ++ Xs)))) Xq := (Imp.tail XnK _).trans (Imp.sub (List.sublist_append_left _ _))
      have iM : Imp (XnK ++ (Xq ++ (Xm ++ (Xp ++ Xs)))) Xm := (Imp.tail XnK _).trans ((Imp.tail Xq _).trans (Imp.sub (List.sublist_append_left _ _)))
      have iP : Imp (XnK ++ (Xq ++ (Xm ++ (Xp ++ Xs)))) Xp := (Imp.tail XnK _).trans ((Imp.tail Xq _).trans ((Imp.tail Xm _).trans (Imp.sub (List.sublist_append_left _ _))))
      have iS : Imp (XnK ++ (Xq ++ (Xm ++ (Xp ++ Xs)))) Xs := (Imp.tail XnK _).trans ((Imp.tail Xq _).trans ((Imp.tail Xm _).trans (Imp.tail Xp _)))
      have nP := NumR.own (w0 := w0) (B := B) (hop [])
      have nQ := NumR.own (w0 := w0) (B := B) (hoq [])
      have nM := BytR.own (w0 := w0) (B := B) (hom [])
      rw [List.append_nil] at nP nQ nM
      rw [Fo.flat_app, Fo.flat, Fo.flat, List.append_nil, hly1]
      refine RlC.append (f1.imp iS) ⟨.slice pa s9.1.length pc, .slice ma sA.1 mc, .slice qa sF.1.length qc, CK, by rw [hCL], ?_, (hRK he).imp iK⟩
      exact ⟨⟨pa, pc, rfl, nP.imp iP⟩, ⟨ma, mc, by dsimp only; rw [hml], by dsimp only; rw [hml]; exact nM.imp iM⟩, ⟨qa, qc, rfl, nQ.imp iQ⟩⟩
    · rw [Fo.app_assoc]; exact f2
    · intro u hu
      simp only [List.mem_append] at hu
      rcases hu with hu | hu | hu
      · exact hone u hu
      · exact oneCL u hu
      · exact hCK u hu
    · intro F
      rw [← List.append_assoc, ← List.append_assoc]
      exact hoK F
end
end Go.Proofs.Ytoobhebbgbhahaa
namespace Go.Proofs.Ytoobhebbgbhahaa
open Go.RowKit
section
variable {w0 : World} {B : Nat} {H R R0 : List Ent} {g : Nat}
set_option maxHeartbeats 16000000
set_option maxRecDepth 100000
def RdoR (w0 : World) (B : Nat) (R : List Ent) (g : Nat) (a : Option Addr) (n c : Nat) (b : List UInt8) (G : Dc × Rd) (v : Value) (H' : List Ent) : Prop :=
  ∃ p' X sa sn sc, Imp H' (RfB g a n c p' G.2.e :: (X ++ R)) ∧ G.2.l = b.drop p' ∧ p' ≤ n ∧ v = .agg (dcC G.1 (.slice sa sn sc)).toArray ∧ (G.2.e = 0 → RlR w0 B X (.slice sa sn sc) (G.1.F.flat 0))
theorem rrdoc_fn {s : Rd} {a : Option Addr} {n c p : Nat} {b : List UInt8} (hb : BytR w0 B R0 a n c b) (hi : Imp R R0) (hs : s.l = b.drop p) (hp : p ≤ n) (hn : n ≤ 1000000000) :
    Fn Try.prog w0 B 45 [.pointer (some ⟨g, 0, none⟩)] (RfB g a n c p s.e :: R) (RdoR w0 B R g a n c b s.doc) := by
  have hd : s.doc = s.doc := rfl
  conv at hd => rhs; rw [Rd.doc]
  refine fn_intro Try.func45 rfl (by kernel_rfl) rfl ?_
  have hbe := hb.eq
  repeat (first | refine go_ ?_ | refine bx_ (fun _ => ?_))
  rename_i g2 g3
  have iX : ∀ e e' : Ent, Imp (e :: e' :: R) R0 := fun e e' => Imp.drop (Imp.drop hi)
  refine HL.perm (H' := RfB g a n c p s.e :: ⟨g3, 58, [.int .i64 0, .int .i64 0, .int .i64 0, .slice none 0 0], 4⟩ :: ⟨g2, 58, [.int .i64 0, .int .i64 0, .int .i64 0, .slice none 0 0], 4⟩ :: R) ?_ (app_swap [_, _] [_] R)
  refine hl_call rfl rfl (rrnum_fn (s := s) hb (iX _ _) hs hp) (fun v M hv => ?_)
  obtain ⟨p1, rfl, rfl, h1, q1⟩ := hv
  generalize hs1 : s.num = s1 at *
  repeat (first | refine go_ ?_ | refine bx_ (fun _ => ?_))
  refine HL.perm ?_ (List.Perm.swap _ _ _)
  refine hl_call rfl rfl (rrnum_fn hb (iX _ _) h1 q1) (fun v M hv => ?_)
  obtain ⟨p2, rfl, rfl, h2, q2⟩ := hv
  generalize hs2 : s1.2.num = s2 at *
  repeat (first | refine go_ ?_ | refine bx_ (fun _ => ?_))
  refine HL.perm ?_ (List.Perm.swap _ _ _)
  refine hl_call rfl rfl (rrnum_fn hb (iX _ _) h2 q2) (fun v M hv => ?_)
  obtain ⟨p3, rfl, rfl, h3, q3⟩ := hv
  generalize hs3 : s2.2.num = s3 at *
  have l3 := congrArg List.length h3
  rw [List.length_drop] at l3
  repeat (first | refine go_ ?_ | refine bx_ (fun _ => ?_))
  obtain ⟨R2, hR2⟩ : ∃ R2, R2 = (⟨g3, 58, [.int .i64 s1.1, .int .i64 s2.1, .int .i64 s3.1, .slice none 0 0], 4⟩ :: ⟨g2, 58, [.int .i64 0, .int .i64 0, .int .i64 0, .slice none 0 0], 4⟩ :: R : List Ent) := ⟨_, rfl⟩
  have iR2 : Imp R2 R0 := by rw [hR2]; exact iX _ _
  refine HL.perm (H' := RfB g a n c p3 s3.2.e :: ([] ++ R2)) ?_ (by rw [hR2]; exact List.Perm.swap _ _ _)
  refine hl_call rfl rfl (rrlayers_fn hb hn 65 64 (s := s3.2) (C := []) (by omega) (by omega) (by omega) iR2 h3 q3 (fun F => Own.nil) (by simp) (by omega)) (fun v M hv => ?_)
  obtain ⟨pK, XK, XnK, ra, rm, rc, CK, himK, hsK, hpK, rfl, hoK, hCK, hbdK, hRK⟩ := hv
  generalize hsK' : Rd.lay 64 s3.2 = sK at *
  refine HL.imp ?_ himK
  rw [hR2]
  have hp : ∀ x y : Ent, (RfB g a n c pK sK.2.e :: (XK ++ (XnK ++ (x :: y :: R)))).Perm (x :: y :: RfB g a n c pK sK.2.e :: ((XK ++ XnK) ++ R)) := fun x y => by simpa only [List.cons_append, List.nil_append, List.append_assoc] using app_swap (RfB g a n c pK sK.2.e :: (XK ++ XnK)) [x, y] R
  refine HL.perm (H' := ⟨g3, 58, [.int .i64 s1.1, .int .i64 s2.1, .int .i64 s3.1, .slice none 0 0], 4⟩ :: ⟨g2, 58, [.int .i64 0, .int .i64 0, .int .i64 0, .slice none 0 0], 4⟩ :: RfB g a n c pK sK.2.e :: ((XK ++ XnK) ++ R)) ?_ (hp _ _)
  repeat (first | refine go_ ?_ | refine bx_ (fun _ => ?_))
  refine finC rfl rfl .here rfl ⟨pK, XK ++ XnK, ra, rm, rc, Imp.refl _, by rw [hd]; exact hsK, hpK, by rw [hd]; rfl, fun he => ?_⟩ (by rw [hd]; exact Imp.drop (Imp.drop (Imp.refl _)))
  rw [hd] at he ⊢
  have h := hRK he
  have hl := (hoK XnK).len
  rw [List.nil_append] at hl hoK
  rw [h.len] at hl
  have e : rm = (sK.1.flat 0).length := by omega
  subst e
  exact ⟨ra, rc, CK, rfl, CsR.own (hoK XnK) hCK, h.imp (Imp.tail XK XnK)⟩
end
end Go.Proofs.Ytoobhebbgbhahaa
namespace Go.Proofs.Ytoobhebbgbhahaa
open Go.RowKit
section
variable {w0 : World} {B : Nat} {H R R0 : List Ent} {g : Nat}
set_option maxHeartbeats 16000000
set_option maxRecDepth 100000
theorem ints_fn {a a2 : Option Addr} {n n2 c c2 : Nat} {l : List Int} (hl : NumR w0 B H a n l) (hm : NumR w0 B H a2 n2 l) (hs : n ≤ 9223372036854775806) :
    Fn Try.prog w0 B 93 [.slice a n c, .slice a2 n2 c2] H (fun v H' => v = .bool true ∧ H' = H) := by
  have e1 := hl.eq
  have e2 := hm.eq
  obtain rfl : n = n2 := by omega
  refine fn_intro Try.func93 rfl (by kernel_rfl) rfl ?_
  repeat (first | refine go_ ?_ | refine bx_ (fun _ => ?_))
  refine hc_loopd (fun q fr M => ∃ k, k + q = n ∧ Agr fr [(1, .slice a2 n c2), (12, .slice a n c), (13, .int .i64 (n : Int)), (14, .int .i64 (k : Int))] ∧ M = H) n ?_ ?_
  · exact ⟨0, by omega, ⟨rfl, rfl, rfl, rfl, trivial⟩, rfl⟩
  rintro q fr M ⟨k, hk, hf, rfl⟩
  obtain ⟨base, rfl⟩ := hf.out
  clear hf
  by_cases hlt : k < n
  · obtain ⟨b1, o1, rfl⟩ := hl.pos (by omega)
    obtain ⟨b2, o2, rfl⟩ := hm.pos (by omega)
    have k1 : k < l.length := by omega
    have c1 : (l.map iV)[k]? = some (.int .i64 l[k]) := by simp [k1]
    generalize l[k] = z at *
    repeat (first | refine hl_loadRd rfl hl.rd (Imp.refl _) c1 rfl ?_ | refine hl_loadRd rfl hm.rd (Imp.refl _) c1 rfl ?_ | refine go1_ ?_ | refine bx_ (fun _ => ?_))
    exact ⟨q - 1, by omega, _, Imp.refl _, k + 1, by omega, ⟨rfl, rfl, rfl, rfl, trivial⟩, rfl⟩
  · repeat (first | refine go_ ?_ | refine bx_ (fun _ => ?_))
    exact fin1B rfl rfl ⟨rfl, rfl⟩
theorem likeLayer_fn {l : Ly} {t : Int} {pv mv qv pv' mv' qv' : Value} {ka : Option Addr} {kn kc : Nat} (hx : LyR w0 B H l pv mv qv) (hy : LyR w0 B H l pv' mv' qv') (hP : l.P.length ≤ 1000000000) (hQ : l.Q.length ≤ 1000000000) :
    Fn Try.prog w0 B 81 [.agg (lyC l pv mv qv (.slice ka kn kc)).toArray, .agg (rlC t l pv' mv' qv').toArray] H (fun v H' => v = .bool true ∧ H' = H) := by
  obtain ⟨⟨pa, pc, rfl, nP⟩, ⟨ma, mc, rfl, nM⟩, ⟨qa, qc, rfl, nQ⟩⟩ := hx
  obtain ⟨⟨pa', pc', rfl, nP'⟩, ⟨ma', mc', rfl, nM'⟩, ⟨qa', qc', rfl, nQ'⟩⟩ := hy
  refine fn_intro Try.func81 rfl (by kernel_rfl) rfl ?_
  have i2 : ∀ e e' : Ent, Imp (e :: e' :: H) H := fun e e' => Imp.drop (Imp.drop (Imp.refl _))
  have ha : ∀ e e' : Ent, Rds w0 B (e :: e' :: H) ma (l.M.map byteV) := fun e e' => nM.rd.weak fun w hw => i2 _ _ _ _ _ hw
  have hb : ∀ e e' : Ent, Rds w0 B (e :: e' :: H) ma' (l.M.map byteV) := fun e e' => nM'.rd.weak fun w hw => i2 _ _ _ _ _ hw
  have b1 : (!(l.d == l.d)) = false := by simp
  have b2 : (!(l.s == l.s)) = false := by simp
  repeat (first | rw [b1] | rw [b2] | refine hl_loadN (i := 9) (n := 6) (vs := l.mp.map intV) rfl (.there .here) rfl rfl rfl ?_ | refine hl_loadN (i := 10) (n := 6) (vs := l.mp.map intV) rfl .here rfl rfl rfl ?_ | refine hl_neArrF (l := l.mp) (m := l.mp) rfl rfl rfl rfl rfl ?_ | refine go1_ ?_ | refine bx_ (fun _ => ?_) | refine hl_convStr (l := l.M) rfl (ha _ _) rfl ?_ | refine hl_convStr (l := l.M) rfl (hb _ _) rfl ?_ | refine hl_strEqT rfl rfl rfl rfl ?_ | refine hl_callv rfl rfl (ints_fn (nP.imp (i2 _ _)) (nP'.imp (i2 _ _)) (by omega)) ?_ | refine hl_callv rfl rfl (ints_fn (nQ.imp (i2 _ _)) (nQ'.imp (i2 _ _)) (by omega)) ?_)
  exact fin1B rfl rfl ⟨rfl, rfl⟩
theorem kids_fn {w h n : Int} {lv : Value} {L : List Rl} (hl : L.length ≤ 1000000) : ∀ (N : Nat) (F : Fo), F.cnt < N → ∀ {t : Int} {v : Value} {H : List Ent}, RlR w0 B H lv L → FoR w0 B H v F → kidsL L t = F.tops → KdA L F → F.wf 1000000000 →
    Fn Try.prog w0 B 62 [v, .agg [.int .i64 w, .int .i64 h, .int .i64 n, lv].toArray, .int .i64 t] H (fun v H' => v = .bool true ∧ H' = H)
  | 0, F, hh, _, _, _, _, _, _, _, _ => absurd hh (by omega)
  | N + 1, F, hN, t, v, H, hL, hF, hk, hKd, hw => by
    have hL0 := hL
    obtain ⟨a, c, C, rfl, hC, hRl⟩ := hL
    obtain ⟨fa, fc, FC, rfl, hFC, hFo⟩ := hF
    have hil : (idx L t 0).length = F.len := by rw [idx_len, hk, F.tops_len]
    have hFl : F.len ≤ 1000000 := by
      rw [← hil, idx_len]; unfold kidsL; rw [List.length_map]
      exact Nat.le_trans (List.length_filter_le _ _) hl
    refine fn_intro Try.func62 rfl (by kernel_rfl) rfl ?_
    repeat (first | refine go_ ?_ | refine bx_ (fun _ => ?_))
    rename_i gd
    obtain ⟨db, hdb⟩ : ∃ db : Ent, db = ⟨gd, 58, [.int .i64 w, .int .i64 h, .int .i64 n, .slice a L.length c], 4⟩ := ⟨_, rfl⟩
    refine HL.perm (H' := db :: H) ?_ (by rw [hdb]; exact List.Perm.refl _)
    refine hl_call rfl rfl (rkids_fn (hL0.imp (Imp.drop (Imp.refl _))) hl) (fun v1 M1 o => ?_)
    obtain ⟨ka, kc, rfl, _, _⟩ := o.form
    obtain ⟨Xk, hpk, hok⟩ := o.permE
    refine HL.perm ?_ hpk
    clear hpk o
    obtain ⟨R1, hR1⟩ : ∃ R1, R1 = Xk ++ (db :: H) := ⟨_, rfl⟩
    rw [← hR1]
    have iR1 : Imp R1 H := by rw [hR1]; exact (Imp.tail Xk _).trans (Imp.drop (Imp.refl _))
    have tR1 : Take R1 ⟨gd, 58, [.int .i64 w, .int .i64 h, .int .i64 n, .slice a L.length c], 4⟩ (Xk ++ H) := by rw [hR1, hdb]; exact Take.app Xk .here
    have nK : NumR w0 B R1 ka (idx L t 0).length (idx L t 0) := by rw [hR1]; exact NumR.own (hok _)
    repeat (first | refine go_ ?_ | refine bx_ (fun _ => ?_))
    refine hc_loopd (fun q fr M => ∃ (G : Fo) (j : Nat) (D : List Value), j + G.len = F.len ∧ q = G.len ∧ F.tops.drop j = G.tops ∧ FC.drop (j * 19) = D ∧ FoC w0 B H G D ∧ KdA L G ∧ G.wf 1000000000 ∧ G.cnt ≤ F.cnt ∧ Imp M R1 ∧ Agr fr [(4, .pointer (some ⟨gd, 0, none⟩)), (7, .slice ka (idx L t 0).length kc), (18, .slice fa F.len fc), (19, .int .i64 (F.len : Int)), (20, .int .i64 (j : Int))]) F.len ?_ ?_
    · exact ⟨F, 0, FC, by omega, rfl, by simp, by simp, hFo, hKd, hw, Nat.le_refl _, Imp.refl _, rfl, rfl, rfl, rfl, rfl, trivial⟩
    clear hw hKd hFo
    rintro q fr M ⟨G, j, D, hj, rfl, hD, hE, hG, hKd, hw, hc, hi, hf⟩
    obtain ⟨base, rfl⟩ := hf.out
    clear hf
    refine HC.imp ?_ hi
    clear hi M
    cases G with
    | nil =>
      rw [Fo.len] at hj
      repeat (first | refine go_ ?_ | refine bx_ (fun _ => ?_))
      exact fin1B rfl rfl ⟨rfl, rfl⟩ (by rw [hR1]; exact (Imp.tail Xk _).trans (Imp.drop (Imp.refl _)))
    | cons l k r =>
      rw [Fo.len] at hj
      rw [Fo.cnt] at hc
      rw [Fo.tops] at hD
      obtain ⟨w1, w2, w3, w4⟩ := hw
      obtain ⟨hk1, hk2, hk3⟩ := hKd
      obtain ⟨pv, mv, qv, sa, sc, SK, C', rfl, hly0, hSK, hks, hr⟩ := hG
      have hly1 := hly0
      obtain ⟨⟨pa, pc, rfl, nP⟩, ⟨ma, mc, rfl, nM⟩, ⟨qa, qc, rfl, nQ⟩⟩ := hly1
      obtain ⟨hcellF, hnx⟩ := drop19 hE rfl
      have hji : j < (idx L t 0).length := by omega
      obtain ⟨p, hp, hp1, hp2, hp3⟩ := idx_get L t 0 j hji
      rw [hk, drop_cons_get hD] at hp3
      have hpl : L[p].l = l := (Option.some.inj hp3).symm
      have hp1' : ((idx L t 0).map iV)[j]? = some (.int .i64 (p : Int)) := by rw [List.getElem?_map, hp1]; simp
      obtain ⟨pv', mv', qv', hcell, hly⟩ := hRl.at' hp
      rw [hpl, hp2] at hcell
      rw [hpl] at hly
      have hly2 := hly
      obtain ⟨⟨pa', pc', rfl, _⟩, ⟨ma', mc', rfl, _⟩, ⟨qa', qc', rfl, _⟩⟩ := hly2
      obtain ⟨bb, off, rfl⟩ := hC.pos (by omega)
      obtain ⟨fbb, foff, rfl⟩ := hFC.pos (by omega)
      obtain ⟨kbb, koff, rfl⟩ := nK.pos (by omega)
      repeat (first | refine hl_loadRN (l := FC) rfl hFC.rd iR1 hcellF rfl rfl ?_ | refine go1_ ?_ | refine bx_ (fun _ => ?_))
      rename_i g9
      obtain ⟨eb, heb⟩ : ∃ eb : Ent, eb = ⟨g9, 116, lyC l (.slice pa l.P.length pc) (.slice ma l.M.length mc) (.slice qa l.Q.length qc) (.slice sa k.len sc), 19⟩ := ⟨_, rfl⟩
      refine HC.perm (H' := eb :: R1) ?_ (by rw [heb]; exact List.Perm.refl _)
      have tb : Take (eb :: R1) ⟨g9, 116, lyC l (.slice pa l.P.length pc) (.slice ma l.M.length mc) (.slice qa l.Q.length qc) (.slice sa k.len sc), 19⟩ R1 := by rw [heb]; exact .here
      have iE : Imp (eb :: R1) H := (Imp.drop (Imp.refl _)).trans iR1
      have c1 := likeLayer_fn (t := t) (ka := sa) (kn := k.len) (kc := sc) (hly0.imp iE) (hly.imp iE) w1.Pl w1.Ql
      have c2 := kids_fn hl N k (by omega) (w := w) (h := h) (n := n) (t := l.i) (hL0.imp iE) (FoR.imp ⟨sa, sc, SK, rfl, hSK, hks⟩ iE : FoR w0 B (eb :: R1) (.slice sa k.len sc) k) hk1 hk2 w3
      refine hc_meet (fun fr M => Agr fr [(4, .pointer (some ⟨gd, 0, none⟩)), (7, .slice (some ⟨kbb, koff, none⟩) (idx L t 0).length kc), (18, .slice (some ⟨fbb, foff, none⟩) F.len fc), (19, .int .i64 (F.len : Int)), (20, .int .i64 (j : Int)), (44, .bool false)] ∧ M = eb :: R1) ?_ ?_
      · (refine hc_draw (by kernel_rfl) (by kernel_rfl) ?_; repeat (first | refine hl_loadN (i := 0) (n := 19) (vs := lyC l (.slice pa l.P.length pc) (.slice ma l.M.length mc) (.slice qa l.Q.length qc) (.slice sa k.len sc)) rfl tb rfl rfl rfl ?_ | refine hl_load1 rfl tb rfl rfl ?_ | refine hl_load1 rfl (.there tR1) rfl rfl ?_ | refine hl_loadN (i := 0) (n := 4) (vs := [.int .i64 w, .int .i64 h, .int .i64 n, .slice (some ⟨bb, off, none⟩) L.length c]) rfl (.there tR1) rfl rfl rfl ?_ | refine hl_loadRd (j := j) rfl nK.rd (Imp.drop (Imp.refl _)) hp1' rfl ?_ | refine hl_loadRN (l := C) rfl hC.rd iE hcell rfl rfl ?_ | refine gd1_ ?_ | refine hd_call rfl rfl (c1) ?_ | refine hd_call rfl rfl (c2) ?_))
        refine thn_norm ?_
        exact ⟨⟨rfl, rfl, rfl, rfl, rfl, rfl, trivial⟩, rfl⟩
      rintro fr M ⟨hf, rfl⟩
      obtain ⟨base, rfl⟩ := hf.out
      clear hf
      repeat (first | refine go_ ?_ | refine bx_ (fun _ => ?_))
      exact ⟨r.len, by rw [Fo.len]; omega, _, Imp.drop (Imp.refl _), r, j + 1, C', by omega, rfl, drop_cons_next hD, hnx, hr, hk3, w4, by omega, Imp.refl _, rfl, rfl, rfl, rfl, rfl, trivial⟩
end
end Go.Proofs.Ytoobhebbgbhahaa
namespace Go.Proofs.Ytoobhebbgbhahaa
open Go.RowKit
section
variable {w0 : World} {B : Nat} {H R R0 : List Ent} {g : Nat}
set_option maxHeartbeats 16000000
set_option maxRecDepth 100000
theorem docLike_fn {D : Dc} {kv lv : Value} (hF : FoR w0 B H kv D.F) (hL : RlR w0 B H lv (D.F.flat 0)) (ok : D.ok) (hw : D.F.wf 1000000000) :
    Fn Try.prog w0 B 47 [.agg (dcC D kv).toArray, .agg (dcC D lv).toArray] H (fun v H' => v = .bool true ∧ H' = H) := by
  obtain ⟨ka, kc, rfl⟩ := hF.form
  obtain ⟨la, lc, rfl⟩ := hL.form
  obtain ⟨k1, k2⟩ := kd_flat ok.nd ok.z
  have hfl := D.F.flat_len 0
  have hcn := ok.c
  refine fn_intro Try.func47 rfl (by kernel_rfl) rfl ?_
  have i2 : ∀ e e' : Ent, Imp (e :: e' :: H) H := fun e e' => Imp.drop (Imp.drop (Imp.refl _))
  repeat (first | refine hl_loadN (i := 0) (n := 4) (vs := dcC D (.slice la (D.F.flat 0).length lc)) rfl .here rfl rfl rfl ?_ | refine go1_ ?_ | refine bx_ (fun _ => ?_) | refine hl_callv rfl rfl (kids_fn (by omega) (D.F.cnt + 1) D.F (by omega) (hL.imp (i2 _ _)) (hF.imp (i2 _ _)) k1 k2 hw) ?_)
  exact fin1B rfl rfl ⟨rfl, rfl⟩
theorem like_st_fn {S : Stt} {kv av bv kv' av' bv' : Value} (hS : StR w0 B H S kv av bv) (hT : RstR w0 B H S kv' av' bv') (ok : ∀ D ∈ S.D :: (S.A ++ S.B), D.ok ∧ D.F.wf 1000000000) (lA : S.A.length ≤ 1000000) (lB : S.B.length ≤ 1000000) :
    Fn Try.prog w0 B 24 [.agg (stC S kv av bv).toArray, .agg (stC S kv' av' bv').toArray] H (fun v H' => v = .bool true ∧ H' = H) := by
  obtain ⟨hD, hA, hB⟩ := hS
  obtain ⟨hD', hA', hB'⟩ := hT
  obtain ⟨ka, kc, rfl⟩ := hD.form
  obtain ⟨aa, ac, CA, rfl, cA, rA⟩ := hA
  obtain ⟨ba, bc, CB, rfl, cB, rB⟩ := hB
  obtain ⟨ka', kc', rfl⟩ := hD'.form
  obtain ⟨aa', ac', CA', rfl, cA', rA'⟩ := hA'
  obtain ⟨ba', bc', CB', rfl, cB', rB'⟩ := hB'
  obtain ⟨LA, hLA⟩ : ∃ LA : List Dc, LA = [S.D] ++ (S.A ++ S.B) := ⟨_, rfl⟩
  have hLl : LA.length = 1 + S.A.length + S.B.length := by rw [hLA]; simp; omega
  have dA : DsC w0 B H LA ((dcC S.D (.slice ka S.D.F.len kc) ++ CA) ++ CB) := by
    rw [hLA, List.append_assoc]
    exact DsC.append (L := [S.D]) ⟨_, [], (List.append_nil _).symm, hD, rfl⟩ (DsC.append rA rB)
  have dB : RdsC w0 B H LA ((dcC S.D (.slice ka' (S.D.F.flat 0).length kc') ++ CA') ++ CB') := by
    rw [hLA, List.append_assoc]
    exact RdsC.append (L := [S.D]) ⟨_, [], (List.append_nil _).symm, hD', rfl⟩ (RdsC.append rA' rB')
  refine fn_intro Try.func24 rfl (by kernel_rfl) rfl ?_
  repeat (first | refine go_ ?_ | refine bx_ (fun _ => ?_))
  rename_i gs gr
  obtain ⟨E, hE⟩ : ∃ E, E = (⟨gr, 61, stC S (.slice ka' (S.D.F.flat 0).length kc') (.slice aa' S.A.length ac') (.slice ba' S.B.length bc'), 6⟩ :: ⟨gs, 55, stC S (.slice ka S.D.F.len kc) (.slice aa S.A.length ac) (.slice ba S.B.length bc), 6⟩ :: H : List Ent) := ⟨_, rfl⟩
  have tr : Take E ⟨gr, 61, stC S (.slice ka' (S.D.F.flat 0).length kc') (.slice aa' S.A.length ac') (.slice ba' S.B.length bc'), 6⟩ (⟨gs, 55, stC S (.slice ka S.D.F.len kc) (.slice aa S.A.length ac) (.slice ba S.B.length bc), 6⟩ :: H) := by rw [hE]; exact .here
  have ts : Take E ⟨gs, 55, stC S (.slice ka S.D.F.len kc) (.slice aa S.A.length ac) (.slice ba S.B.length bc), 6⟩ (⟨gr, 61, stC S (.slice ka' (S.D.F.flat 0).length kc') (.slice aa' S.A.length ac') (.slice ba' S.B.length bc'), 6⟩ :: H) := by rw [hE]; exact .there .here
  have iE : Imp E H := by rw [hE]; exact Imp.drop (Imp.drop (Imp.refl _))
  refine HC.perm (H' := E) ?_ (by rw [hE]; exact List.Perm.refl _)
  refine hc_meet (fun fr M => ∃ ua uc va vc PA PB, (∀ F, Own 52 4 (.slice ua (1 + S.A.length + S.B.length) uc) (1 + S.A.length + S.B.length) ((dcC S.D (.slice ka S.D.F.len kc) ++ CA) ++ CB) F (PA ++ F)) ∧ (∀ F, Own 58 4 (.slice va (1 + S.A.length + S.B.length) vc) (1 + S.A.length + S.B.length) ((dcC S.D (.slice ka' (S.D.F.flat 0).length kc') ++ CA') ++ CB') F (PB ++ F)) ∧ Imp M (PA ++ (PB ++ E)) ∧ Agr fr [(2, .pointer (some ⟨gs, 0, none⟩)), (3, .pointer (some ⟨gr, 0, none⟩)), (5, .slice ua (1 + S.A.length + S.B.length) uc), (6, .slice va (1 + S.A.length + S.B.length) vc)]) ?_ ?_
  · obtain ⟨PA, hPA⟩ : ∃ PA, PA = ([] : List Ent) := ⟨_, rfl⟩
    obtain ⟨PB, hPB⟩ : ∃ PB, PB = ([] : List Ent) := ⟨_, rfl⟩
    refine HC.perm (H' := PA ++ (PB ++ E)) ?_ (by rw [hPA, hPB]; exact List.Perm.refl _)
    refine hc_drawA E (by kernel_rfl) ?_
    have iM := (Imp.tail PA _).trans (Imp.tail PB E)
    refine ha_quiet [0, 1, 3, 4, 6, 7, 9, 10, 12, 13, 15, 16] (by rfl) (by kernel_rfl) ?_
    repeat (first | refine hl_loadN (i := 0) (n := 4) (vs := dcC S.D (.slice ka S.D.F.len kc)) rfl ts rfl rfl rfl ?_ | refine hl_loadN (i := 0) (n := 4) (vs := dcC S.D (.slice ka' (S.D.F.flat 0).length kc')) rfl tr rfl rfl rfl ?_ | refine hl_load1 rfl ts rfl rfl ?_ | refine hl_load1 rfl tr rfl rfl ?_ | refine gd1_ ?_)
    refine ha_fork2 2 11 (by rfl) (by kernel_rfl) (by rfl) (by rfl) (by first | exact Imp.refl _ | exact Imp.drop (Imp.refl _) | exact Imp.drop (Imp.drop (Imp.refl _)) | exact Imp.drop (Imp.drop (Imp.drop (Imp.refl _))) | exact Imp.drop (Imp.drop (Imp.drop (Imp.drop (Imp.refl _)))) | exact Imp.drop (Imp.drop (Imp.drop (Imp.drop (Imp.drop (Imp.refl _))))) | exact Imp.drop (Imp.drop (Imp.drop (Imp.drop (Imp.drop (Imp.drop (Imp.refl _)))))) | exact Imp.drop (Imp.drop (Imp.drop (Imp.drop (Imp.drop (Imp.drop (Imp.drop (Imp.refl _))))))) | exact Imp.drop (Imp.drop (Imp.drop (Imp.drop (Imp.drop (Imp.drop (Imp.drop (Imp.drop (Imp.refl _)))))))) | assumption | exact Imp.drop (by assumption) | exact Imp.drop (Imp.drop (by assumption)) | exact imp_nil _ | exact Imp.drop2 (Imp.refl _) | exact Imp.drop2 (Imp.drop2 (Imp.refl _)) | exact Imp.drop (Imp.drop2 (Imp.refl _))) ?_ ?_
    · skip
      refine bx_ (fun g2 => ?_)
      have hoA : ∀ F, Own 52 4 (.slice (some ⟨g2, 0, none⟩) 1 1) 1 (dcC S.D (.slice ka S.D.F.len kc)) F ([⟨g2, 52, dcC S.D (.slice ka S.D.F.len kc), 1 * 4⟩] ++ F) := fun F => Own.mk (by omega) (by omega) rfl (List.Perm.refl _)
      obtain ⟨PA', hPA'⟩ : ∃ P : List Ent, P = [⟨g2, 52, dcC S.D (.slice ka S.D.F.len kc), 1 * 4⟩] := ⟨_, rfl⟩
      rw [← hPA'] at hoA
      refine HL.imp (H' := PA' ++ (PB ++ E)) ?_ (by rw [hPA']; exact Imp.sub (List.Sublist.cons_cons _ (List.sublist_append_right PA (PB ++ E))))
      clear hPA hPA'
      obtain ⟨PA, rfl⟩ : ∃ P, P = PA' := ⟨_, rfl⟩
      have iM := (Imp.tail PA _).trans (Imp.tail PB E)
      repeat (first | refine op_ ?_ | refine bx_ (fun _ => ?_))
      refine ha_fork2 5 11 (by rfl) (by kernel_rfl) (by rfl) (by rfl) (by first | exact Imp.refl _ | exact Imp.drop (Imp.refl _) | exact Imp.drop (Imp.drop (Imp.refl _)) | exact Imp.drop (Imp.drop (Imp.drop (Imp.refl _))) | exact Imp.drop (Imp.drop (Imp.drop (Imp.drop (Imp.refl _)))) | exact Imp.drop (Imp.drop (Imp.drop (Imp.drop (Imp.drop (Imp.refl _))))) | exact Imp.drop (Imp.drop (Imp.drop (Imp.drop (Imp.drop (Imp.drop (Imp.refl _)))))) | exact Imp.drop (Imp.drop (Imp.drop (Imp.drop (Imp.drop (Imp.drop (Imp.drop (Imp.refl _))))))) | exact Imp.drop (Imp.drop (Imp.drop (Imp.drop (Imp.drop (Imp.drop (Imp.drop (Imp.drop (Imp.refl _)))))))) | assumption | exact Imp.drop (by assumption) | exact Imp.drop (Imp.drop (by assumption)) | exact imp_nil _ | exact Imp.drop2 (Imp.refl _) | exact Imp.drop2 (Imp.drop2 (Imp.refl _)) | exact Imp.drop (Imp.drop2 (Imp.refl _))) ?_ ?_
      · skip
        refine hl_append_own (e := 52) (sz := 4) rfl rfl (hoA (PB ++ E)) (cA.rd.weak fun w hw => (iM.trans iE) _ _ _ hw) cA.eq rfl (by decide) (by omega) (by omega) rfl (fun v5 M5 o5 => ?_)
        obtain ⟨ua, uc, rfl, _, _⟩ := o5.form
        obtain ⟨PA, hZ, hoA⟩ := o5.permE
        refine HL.perm ?_ hZ
        have iM := (Imp.tail PA _).trans (Imp.tail PB E)
        repeat (first | refine op_ ?_ | refine bx_ (fun _ => ?_))
        refine ha_fork2 8 11 (by rfl) (by kernel_rfl) (by rfl) (by rfl) (by first | exact Imp.refl _ | exact Imp.drop (Imp.refl _) | exact Imp.drop (Imp.drop (Imp.refl _)) | exact Imp.drop (Imp.drop (Imp.drop (Imp.refl _))) | exact Imp.drop (Imp.drop (Imp.drop (Imp.drop (Imp.refl _)))) | exact Imp.drop (Imp.drop (Imp.drop (Imp.drop (Imp.drop (Imp.refl _))))) | exact Imp.drop (Imp.drop (Imp.drop (Imp.drop (Imp.drop (Imp.drop (Imp.refl _)))))) | exact Imp.drop (Imp.drop (Imp.drop (Imp.drop (Imp.drop (Imp.drop (Imp.drop (Imp.refl _))))))) | exact Imp.drop (Imp.drop (Imp.drop (Imp.drop (Imp.drop (Imp.drop (Imp.drop (Imp.drop (Imp.refl _)))))))) | assumption | exact Imp.drop (by assumption) | exact Imp.drop (Imp.drop (by assumption)) | exact imp_nil _ | exact Imp.drop2 (Imp.refl _) | exact Imp.drop2 (Imp.drop2 (Imp.refl _)) | exact Imp.drop (Imp.drop2 (Imp.refl _))) ?_ ?_
        · skip
          refine hl_append_own (e := 52) (sz := 4) rfl rfl (hoA (PB ++ E)) (cB.rd.weak fun w hw => (iM.trans iE) _ _ _ hw) cB.eq rfl (by decide) (by omega) (by omega) rfl (fun v5 M5 o5 => ?_)
          obtain ⟨ua, uc, rfl, _, _⟩ := o5.form
          obtain ⟨PA, hZ, hoA⟩ := o5.permE
          refine HL.perm ?_ hZ
          have iM := (Imp.tail PA _).trans (Imp.tail PB E)
          repeat (first | refine op_ ?_ | refine bx_ (fun _ => ?_))
          refine ha_fork1 11 (by rfl) (by kernel_rfl) (by rfl) (by first | exact Imp.refl _ | exact Imp.drop (Imp.refl _) | exact Imp.drop (Imp.drop (Imp.refl _)) | exact Imp.drop (Imp.drop (Imp.drop (Imp.refl _))) | exact Imp.drop (Imp.drop (Imp.drop (Imp.drop (Imp.refl _)))) | exact Imp.drop (Imp.drop (Imp.drop (Imp.drop (Imp.drop (Imp.refl _))))) | exact Imp.drop (Imp.drop (Imp.drop (Imp.drop (Imp.drop (Imp.drop (Imp.refl _)))))) | exact Imp.drop (Imp.drop (Imp.drop (Imp.drop (Imp.drop (Imp.drop (Imp.drop (Imp.refl _))))))) | exact Imp.drop (Imp.drop (Imp.drop (Imp.drop (Imp.drop (Imp.drop (Imp.drop (Imp.drop (Imp.refl _)))))))) | assumption | exact Imp.drop (by assumption) | exact Imp.drop (Imp.drop (by assumption)) | exact imp_nil _ | exact Imp.drop2 (Imp.refl _) | exact Imp.drop2 (Imp.drop2 (Imp.refl _)) | exact Imp.drop (Imp.drop2 (Imp.refl _))) ?_
          · skip
            refine bx_ (fun g3 => ?_)
            have hoB : ∀ F, Own 58 4 (.slice (some ⟨g3, 0, none⟩) 1 1) 1 (dcC S.D (.slice ka' (S.D.F.flat 0).length kc')) F ([⟨g3, 58, dcC S.D (.slice ka' (S.D.F.flat 0).length kc'), 1 * 4⟩] ++ F) := fun F => Own.mk (by omega) (by omega) rfl (List.Perm.refl _)
            obtain ⟨PB', hPB'⟩ : ∃ P : List Ent, P = [⟨g3, 58, dcC S.D (.slice ka' (S.D.F.flat 0).length kc'), 1 * 4⟩] := ⟨_, rfl⟩
            rw [← hPB'] at hoB
            refine HL.imp (H' := PA ++ (PB' ++ E)) ?_ (by rw [hPB']; exact Imp.perm (app_swap [_] PA (PB ++ E)) (Imp.sub (List.Sublist.append (List.Sublist.refl PA) (List.Sublist.cons_cons _ (List.sublist_append_right PB E)))))
            clear hPB hPB'
            obtain ⟨PB, rfl⟩ : ∃ P, P = PB' := ⟨_, rfl⟩
            have iM := (Imp.tail PA _).trans (Imp.tail PB E)
            repeat (first | refine op_ ?_ | refine bx_ (fun _ => ?_))
            refine ha_fork1 14 (by rfl) (by kernel_rfl) (by rfl) (by first | exact Imp.refl _ | exact Imp.drop (Imp.refl _) | exact Imp.drop (Imp.drop (Imp.refl _)) | exact Imp.drop (Imp.drop (Imp.drop (Imp.refl _))) | exact Imp.drop (Imp.drop (Imp.drop (Imp.drop (Imp.refl _)))) | exact Imp.drop (Imp.drop (Imp.drop (Imp.drop (Imp.drop (Imp.refl _))))) | exact Imp.drop (Imp.drop (Imp.drop (Imp.drop (Imp.drop (Imp.drop (Imp.refl _)))))) | exact Imp.drop (Imp.drop (Imp.drop (Imp.drop (Imp.drop (Imp.drop (Imp.drop (Imp.refl _))))))) | exact Imp.drop (Imp.drop (Imp.drop (Imp.drop (Imp.drop (Imp.drop (Imp.drop (Imp.drop (Imp.refl _)))))))) | assumption | exact Imp.drop (by assumption) | exact Imp.drop (Imp.drop (by assumption)) | exact imp_nil _ | exact Imp.drop2 (Imp.refl _) | exact Imp.drop2 (Imp.drop2 (Imp.refl _)) | exact Imp.drop (Imp.drop2 (Imp.refl _))) ?_
            · skip
              refine HL.perm ?_ (app_swap PA PB E)
              refine hl_append_own (e := 58) (sz := 4) rfl rfl (hoB (PA ++ E)) (cA'.rd.weak fun w hw => (((Imp.tail PB _).trans (Imp.tail PA E)).trans iE) _ _ _ hw) cA'.eq rfl (by decide) (by omega) (by omega) rfl (fun v5 M5 o5 => ?_)
              obtain ⟨va, vc, rfl, _, _⟩ := o5.form
              obtain ⟨PB, hZ, hoB⟩ := o5.permE
              refine HL.perm ?_ (hZ.trans (app_swap PB PA E))
              have iM := (Imp.tail PA _).trans (Imp.tail PB E)
              repeat (first | refine op_ ?_ | refine bx_ (fun _ => ?_))
              refine ha_fork1 17 (by rfl) (by kernel_rfl) (by rfl) (by first | exact Imp.refl _ | exact Imp.drop (Imp.refl _) | exact Imp.drop (Imp.drop (Imp.refl _)) | exact Imp.drop (Imp.drop (Imp.drop (Imp.refl _))) | exact Imp.drop (Imp.drop (Imp.drop (Imp.drop (Imp.refl _)))) | exact Imp.drop (Imp.drop (Imp.drop (Imp.drop (Imp.drop (Imp.refl _))))) | exact Imp.drop (Imp.drop (Imp.drop (Imp.drop (Imp.drop (Imp.drop (Imp.refl _)))))) | exact Imp.drop (Imp.drop (Imp.drop (Imp.drop (Imp.drop (Imp.drop (Imp.drop (Imp.refl _))))))) | exact Imp.drop (Imp.drop (Imp.drop (Imp.drop (Imp.drop (Imp.drop (Imp.drop (Imp.drop (Imp.refl _)))))))) | assumption | exact Imp.drop (by assumption) | exact Imp.drop (Imp.drop (by assumption)) | exact imp_nil _ | exact Imp.drop2 (Imp.refl _) | exact Imp.drop2 (Imp.drop2 (Imp.refl _)) | exact Imp.drop (Imp.drop2 (Imp.refl _))) ?_
              · skip
                refine HL.perm ?_ (app_swap PA PB E)
                refine hl_append_own (e := 58) (sz := 4) rfl rfl (hoB (PA ++ E)) (cB'.rd.weak fun w hw => (((Imp.tail PB _).trans (Imp.tail PA E)).trans iE) _ _ _ hw) cB'.eq rfl (by decide) (by omega) (by omega) rfl (fun v5 M5 o5 => ?_)
                obtain ⟨va, vc, rfl, _, _⟩ := o5.form
                obtain ⟨PB, hZ, hoB⟩ := o5.permE
                refine HL.perm ?_ (hZ.trans (app_swap PB PA E))
                have iM := (Imp.tail PA _).trans (Imp.tail PB E)
                repeat (first | refine op_ ?_ | refine bx_ (fun _ => ?_))
                refine ha_quiet [18, 19] (by rfl) (by kernel_rfl) ?_
                repeat (first | refine hl_loadN (i := 0) (n := 4) (vs := dcC S.D (.slice ka S.D.F.len kc)) rfl ts rfl rfl rfl ?_ | refine hl_loadN (i := 0) (n := 4) (vs := dcC S.D (.slice ka' (S.D.F.flat 0).length kc')) rfl tr rfl rfl rfl ?_ | refine hl_load1 rfl ts rfl rfl ?_ | refine hl_load1 rfl tr rfl rfl ?_ | refine gd1_ ?_)
                refine ha_end (by rfl) (by kernel_rfl) (by first | exact Imp.refl _ | exact Imp.drop (Imp.refl _) | exact Imp.drop (Imp.drop (Imp.refl _)) | exact Imp.drop (Imp.drop (Imp.drop (Imp.refl _))) | exact Imp.drop (Imp.drop (Imp.drop (Imp.drop (Imp.refl _)))) | exact Imp.drop (Imp.drop (Imp.drop (Imp.drop (Imp.drop (Imp.refl _))))) | exact Imp.drop (Imp.drop (Imp.drop (Imp.drop (Imp.drop (Imp.drop (Imp.refl _)))))) | exact Imp.drop (Imp.drop (Imp.drop (Imp.drop (Imp.drop (Imp.drop (Imp.drop (Imp.refl _))))))) | exact Imp.drop (Imp.drop (Imp.drop (Imp.drop (Imp.drop (Imp.drop (Imp.drop (Imp.drop (Imp.refl _)))))))) | assumption | exact Imp.drop (by assumption) | exact Imp.drop (Imp.drop (by assumption)) | exact imp_nil _ | exact Imp.drop2 (Imp.refl _) | exact Imp.drop2 (Imp.drop2 (Imp.refl _)) | exact Imp.drop (Imp.drop2 (Imp.refl _))) ?_
                exact ⟨ua, uc, va, vc, PA, PB, hoA, hoB, Imp.refl _, rfl, rfl, rfl, rfl, trivial⟩
        · skip
          refine bx_ (fun g3 => ?_)
          have hoB : ∀ F, Own 58 4 (.slice (some ⟨g3, 0, none⟩) 1 1) 1 (dcC S.D (.slice ka' (S.D.F.flat 0).length kc')) F ([⟨g3, 58, dcC S.D (.slice ka' (S.D.F.flat 0).length kc'), 1 * 4⟩] ++ F) := fun F => Own.mk (by omega) (by omega) rfl (List.Perm.refl _)
          obtain ⟨PB', hPB'⟩ : ∃ P : List Ent, P = [⟨g3, 58, dcC S.D (.slice ka' (S.D.F.flat 0).length kc'), 1 * 4⟩] := ⟨_, rfl⟩
          rw [← hPB'] at hoB
          refine HL.imp (H' := PA ++ (PB' ++ E)) ?_ (by rw [hPB']; exact Imp.perm (app_swap [_] PA (PB ++ E)) (Imp.sub (List.Sublist.append (List.Sublist.refl PA) (List.Sublist.cons_cons _ (List.sublist_append_right PB E)))))
          clear hPB hPB'
          obtain ⟨PB, rfl⟩ : ∃ P, P = PB' := ⟨_, rfl⟩
          have iM := (Imp.tail PA _).trans (Imp.tail PB E)
          repeat (first | refine op_ ?_ | refine bx_ (fun _ => ?_))
          refine ha_fork1 8 (by rfl) (by kernel_rfl) (by rfl) (by first | exact Imp.refl _ | exact Imp.drop (Imp.refl _) | exact Imp.drop (Imp.drop (Imp.refl _)) | exact Imp.drop (Imp.drop (Imp.drop (Imp.refl _))) | exact Imp.drop (Imp.drop (Imp.drop (Imp.drop (Imp.refl _)))) | exact Imp.drop (Imp.drop (Imp.drop (Imp.drop (Imp.drop (Imp.refl _))))) | exact Imp.drop (Imp.drop (Imp.drop (Imp.drop (Imp.drop (Imp.drop (Imp.refl _)))))) | exact Imp.drop (Imp.drop (Imp.drop (Imp.drop (Imp.drop (Imp.drop (Imp.drop (Imp.refl _))))))) | exact Imp.drop (Imp.drop (Imp.drop (Imp.drop (Imp.drop (Imp.drop (Imp.drop (Imp.drop (Imp.refl _)))))))) | assumption | exact Imp.drop (by assumption) | exact Imp.drop (Imp.drop (by assumption)) | exact imp_nil _ | exact Imp.drop2 (Imp.refl _) | exact Imp.drop2 (Imp.drop2 (Imp.refl _)) | exact Imp.drop (Imp.drop2 (Imp.refl _))) ?_
          · skip
            refine hl_append_own (e := 52) (sz := 4) rfl rfl (hoA (PB ++ E)) (cB.rd.weak fun w hw => (iM.trans iE) _ _ _ hw) cB.eq rfl (by decide) (by omega) (by omega) rfl (fun v5 M5 o5 => ?_)
            obtain ⟨ua, uc, rfl, _, _⟩ := o5.form
            obtain ⟨PA, hZ, hoA⟩ := o5.permE
            refine HL.perm ?_ hZ
            have iM := (Imp.tail PA _).trans (Imp.tail PB E)
            repeat (first | refine op_ ?_ | refine bx_ (fun _ => ?_))
            refine ha_fork1 14 (by rfl) (by kernel_rfl) (by rfl) (by first | exact Imp.refl _ | exact Imp.drop (Imp.refl _) | exact Imp.drop (Imp.drop (Imp.refl _)) | exact Imp.drop (Imp.drop (Imp.drop (Imp.refl _))) | exact Imp.drop (Imp.drop (Imp.drop (Imp.drop (Imp.refl _)))) | exact Imp.drop (Imp.drop (Imp.drop (Imp.drop (Imp.drop (Imp.refl _))))) | exact Imp.drop (Imp.drop (Imp.drop (Imp.drop (Imp.drop (Imp.drop (Imp.refl _)))))) | exact Imp.drop (Imp.drop (Imp.drop (Imp.drop (Imp.drop (Imp.drop (Imp.drop (Imp.refl _))))))) | exact Imp.drop (Imp.drop (Imp.drop (Imp.drop (Imp.drop (Imp.drop (Imp.drop (Imp.drop (Imp.refl _)))))))) | assumption | exact Imp.drop (by assumption) | exact Imp.drop (Imp.drop (by assumption)) | exact imp_nil _ | exact Imp.drop2 (Imp.refl _) | exact Imp.drop2 (Imp.drop2 (Imp.refl _)) | exact Imp.drop (Imp.drop2 (Imp.refl _))) ?_
            · skip
              refine HL.perm ?_ (app_swap PA PB E)
              refine hl_append_own (e := 58) (sz := 4) rfl rfl (hoB (PA ++ E)) (cA'.rd.weak fun w hw => (((Imp.tail PB _).trans (Imp.tail PA E)).trans iE) _ _ _ hw) cA'.eq rfl (by decide) (by omega) (by omega) rfl (fun v5 M5 o5 => ?_)
              obtain ⟨va, vc, rfl, _, _⟩ := o5.form
              obtain ⟨PB, hZ, hoB⟩ := o5.permE
              refine HL.perm ?_ (hZ.trans (app_swap PB PA E))
              have iM := (Imp.tail PA _).trans (Imp.tail PB E)
              repeat (first | refine op_ ?_ | refine bx_ (fun _ => ?_))
              refine ha_fork1 17 (by rfl) (by kernel_rfl) (by rfl) (by first | exact Imp.refl _ | exact Imp.drop (Imp.refl _) | exact Imp.drop (Imp.drop (Imp.refl _)) | exact Imp.drop (Imp.drop (Imp.drop (Imp.refl _))) | exact Imp.drop (Imp.drop (Imp.drop (Imp.drop (Imp.refl _)))) | exact Imp.drop (Imp.drop (Imp.drop (Imp.drop (Imp.drop (Imp.refl _))))) | exact Imp.drop (Imp.drop (Imp.drop (Imp.drop (Imp.drop (Imp.drop (Imp.refl _)))))) | exact Imp.drop (Imp.drop (Imp.drop (Imp.drop (Imp.drop (Imp.drop (Imp.drop (Imp.refl _))))))) | exact Imp.drop (Imp.drop (Imp.drop (Imp.drop (Imp.drop (Imp.drop (Imp.drop (Imp.drop (Imp.refl _)))))))) | assumption | exact Imp.drop (by assumption) | exact Imp.drop (Imp.drop (by assumption)) | exact imp_nil _ | exact Imp.drop2 (Imp.refl _) | exact Imp.drop2 (Imp.drop2 (Imp.refl _)) | exact Imp.drop (Imp.drop2 (Imp.refl _))) ?_
              · skip
                refine HL.perm ?_ (app_swap PA PB E)
                refine hl_append_own (e := 58) (sz := 4) rfl rfl (hoB (PA ++ E)) (cB'.rd.weak fun w hw => (((Imp.tail PB _).trans (Imp.tail PA E)).trans iE) _ _ _ hw) cB'.eq rfl (by decide) (by omega) (by omega) rfl (fun v5 M5 o5 => ?_)
                obtain ⟨va, vc, rfl, _, _⟩ := o5.form
                obtain ⟨PB, hZ, hoB⟩ := o5.permE
                refine HL.perm ?_ (hZ.trans (app_swap PB PA E))
                have iM := (Imp.tail PA _).trans (Imp.tail PB E)
                repeat (first | refine op_ ?_ | refine bx_ (fun _ => ?_))
                refine ha_quiet [18, 19] (by rfl) (by kernel_rfl) ?_
                repeat (first | refine hl_loadN (i := 0) (n := 4) (vs := dcC S.D (.slice ka S.D.F.len kc)) rfl ts rfl rfl rfl ?_ | refine hl_loadN (i := 0) (n := 4) (vs := dcC S.D (.slice ka' (S.D.F.flat 0).length kc')) rfl tr rfl rfl rfl ?_ | refine hl_load1 rfl ts rfl rfl ?_ | refine hl_load1 rfl tr rfl rfl ?_ | refine gd1_ ?_)
                refine ha_end (by rfl) (by kernel_rfl) (by first | exact Imp.refl _ | exact Imp.drop (Imp.refl _) | exact Imp.drop (Imp.drop (Imp.refl _)) | exact Imp.drop (Imp.drop (Imp.drop (Imp.refl _))) | exact Imp.drop (Imp.drop (Imp.drop (Imp.drop (Imp.refl _)))) | exact Imp.drop (Imp.drop (Imp.drop (Imp.drop (Imp.drop (Imp.refl _))))) | exact Imp.drop (Imp.drop (Imp.drop (Imp.drop (Imp.drop (Imp.drop (Imp.refl _)))))) | exact Imp.drop (Imp.drop (Imp.drop (Imp.drop (Imp.drop (Imp.drop (Imp.drop (Imp.refl _))))))) | exact Imp.drop (Imp.drop (Imp.drop (Imp.drop (Imp.drop (Imp.drop (Imp.drop (Imp.drop (Imp.refl _)))))))) | assumption | exact Imp.drop (by assumption) | exact Imp.drop (Imp.drop (by assumption)) | exact imp_nil _ | exact Imp.drop2 (Imp.refl _) | exact Imp.drop2 (Imp.drop2 (Imp.refl _)) | exact Imp.drop (Imp.drop2 (Imp.refl _))) ?_
                exact ⟨ua, uc, va, vc, PA, PB, hoA, hoB, Imp.refl _, rfl, rfl, rfl, rfl, trivial⟩
      · skip
        refine bx_ (fun g3 => ?_)
        have hoB : ∀ F, Own 58 4 (.slice (some ⟨g3, 0, none⟩) 1 1) 1 (dcC S.D (.slice ka' (S.D.F.flat 0).length kc')) F ([⟨g3, 58, dcC S.D (.slice ka' (S.D.F.flat 0).length kc'), 1 * 4⟩] ++ F) := fun F => Own.mk (by omega) (by omega) rfl (List.Perm.refl _)
        obtain ⟨PB', hPB'⟩ : ∃ P : List Ent, P = [⟨g3, 58, dcC S.D (.slice ka' (S.D.F.flat 0).length kc'), 1 * 4⟩] := ⟨_, rfl⟩
        rw [← hPB'] at hoB
        refine HL.imp (H' := PA ++ (PB' ++ E)) ?_ (by rw [hPB']; exact Imp.perm (app_swap [_] PA (PB ++ E)) (Imp.sub (List.Sublist.append (List.Sublist.refl PA) (List.Sublist.cons_cons _ (List.sublist_append_right PB E)))))
        clear hPB hPB'
        obtain ⟨PB, rfl⟩ : ∃ P, P = PB' := ⟨_, rfl⟩
        have iM := (Imp.tail PA _).trans (Imp.tail PB E)
        repeat (first | refine op_ ?_ | refine bx_ (fun _ => ?_))
        refine ha_fork1 5 (by rfl) (by kernel_rfl) (by rfl) (by first | exact Imp.refl _ | exact Imp.drop (Imp.refl _) | exact Imp.drop (Imp.drop (Imp.refl _)) | exact Imp.drop (Imp.drop (Imp.drop (Imp.refl _))) | exact Imp.drop (Imp.drop (Imp.drop (Imp.drop (Imp.refl _)))) | exact Imp.drop (Imp.drop (Imp.drop (Imp.drop (Imp.drop (Imp.refl _))))) | exact Imp.drop (Imp.drop (Imp.drop (Imp.drop (Imp.drop (Imp.drop (Imp.refl _)))))) | exact Imp.drop (Imp.drop (Imp.drop (Imp.drop (Imp.drop (Imp.drop (Imp.drop (Imp.refl _))))))) | exact Imp.drop (Imp.drop (Imp.drop (Imp.drop (Imp.drop (Imp.drop (Imp.drop (Imp.drop (Imp.refl _)))))))) | assumption | exact Imp.drop (by assumption) | exact Imp.drop (Imp.drop (by assumption)) | exact imp_nil _ | exact Imp.drop2 (Imp.refl _) | exact Imp.drop2 (Imp.drop2 (Imp.refl _)) | exact Imp.drop (Imp.drop2 (Imp.refl _))) ?_
        · skip
          refine hl_append_own (e := 52) (sz := 4) rfl rfl (hoA (PB ++ E)) (cA.rd.weak fun w hw => (iM.trans iE) _ _ _ hw) cA.eq rfl (by decide) (by omega) (by omega) rfl (fun v5 M5 o5 => ?_)
          obtain ⟨ua, uc, rfl, _, _⟩ := o5.form
          obtain ⟨PA, hZ, hoA⟩ := o5.permE
          refine HL.perm ?_ hZ
          have iM := (Imp.tail PA _).trans (Imp.tail PB E)
          repeat (first | refine op_ ?_ | refine bx_ (fun _ => ?_))
          refine ha_fork1 8 (by rfl) (by kernel_rfl) (by rfl) (by first | exact Imp.refl _ | exact Imp.drop (Imp.refl _) | exact Imp.drop (Imp.drop (Imp.refl _)) | exact Imp.drop (Imp.drop (Imp.drop (Imp.refl _))) | exact Imp.drop (Imp.drop (Imp.drop (Imp.drop (Imp.refl _)))) | exact Imp.drop (Imp.drop (Imp.drop (Imp.drop (Imp.drop (Imp.refl _))))) | exact Imp.drop (Imp.drop (Imp.drop (Imp.drop (Imp.drop (Imp.drop (Imp.refl _)))))) | exact Imp.drop (Imp.drop (Imp.drop (Imp.drop (Imp.drop (Imp.drop (Imp.drop (Imp.refl _))))))) | exact Imp.drop (Imp.drop (Imp.drop (Imp.drop (Imp.drop (Imp.drop (Imp.drop (Imp.drop (Imp.refl _)))))))) | assumption | exact Imp.drop (by assumption) | exact Imp.drop (Imp.drop (by assumption)) | exact imp_nil _ | exact Imp.drop2 (Imp.refl _) | exact Imp.drop2 (Imp.drop2 (Imp.refl _)) | exact Imp.drop (Imp.drop2 (Imp.refl _))) ?_
          · skip
            refine hl_append_own (e := 52) (sz := 4) rfl rfl (hoA (PB ++ E)) (cB.rd.weak fun w hw => (iM.trans iE) _ _ _ hw) cB.eq rfl (by decide) (by omega) (by omega) rfl (fun v5 M5 o5 => ?_)
            obtain ⟨ua, uc, rfl, _, _⟩ := o5.form
            obtain ⟨PA, hZ, hoA⟩ := o5.permE
            refine HL.perm ?_ hZ
            have iM := (Imp.tail PA _).trans (Imp.tail PB E)
            repeat (first | refine op_ ?_ | refine bx_ (fun _ => ?_))
            refine ha_fork1 14 (by rfl) (by kernel_rfl) (by rfl) (by first | exact Imp.refl _ | exact Imp.drop (Imp.refl _) | exact Imp.drop (Imp.drop (Imp.refl _)) | exact Imp.drop (Imp.drop (Imp.drop (Imp.refl _))) | exact Imp.drop (Imp.drop (Imp.drop (Imp.drop (Imp.refl _)))) | exact Imp.drop (Imp.drop (Imp.drop (Imp.drop (Imp.drop (Imp.refl _))))) | exact Imp.drop (Imp.drop (Imp.drop (Imp.drop (Imp.drop (Imp.drop (Imp.refl _)))))) | exact Imp.drop (Imp.drop (Imp.drop (Imp.drop (Imp.drop (Imp.drop (Imp.drop (Imp.refl _))))))) | exact Imp.drop (Imp.drop (Imp.drop (Imp.drop (Imp.drop (Imp.drop (Imp.drop (Imp.drop (Imp.refl _)))))))) | assumption | exact Imp.drop (by assumption) | exact Imp.drop (Imp.drop (by assumption)) | exact imp_nil _ | exact Imp.drop2 (Imp.refl _) | exact Imp.drop2 (Imp.drop2 (Imp.refl _)) | exact Imp.drop (Imp.drop2 (Imp.refl _))) ?_
            · skip
              refine HL.perm ?_ (app_swap PA PB E)
              refine hl_append_own (e := 58) (sz := 4) rfl rfl (hoB (PA ++ E)) (cA'.rd.weak fun w hw => (((Imp.tail PB _).trans (Imp.tail PA E)).trans iE) _ _ _ hw) cA'.eq rfl (by decide) (by omega) (by omega) rfl (fun v5 M5 o5 => ?_)
              obtain ⟨va, vc, rfl, _, _⟩ := o5.form
              obtain ⟨PB, hZ, hoB⟩ := o5.permE
              refine HL.perm ?_ (hZ.trans (app_swap PB PA E))
              have iM := (Imp.tail PA _).trans (Imp.tail PB E)
              repeat (first | refine op_ ?_ | refine bx_ (fun _ => ?_))
              refine ha_fork1 17 (by rfl) (by kernel_rfl) (by rfl) (by first | exact Imp.refl _ | exact Imp.drop (Imp.refl _) | exact Imp.drop (Imp.drop (Imp.refl _)) | exact Imp.drop (Imp.drop (Imp.drop (Imp.refl _))) | exact Imp.drop (Imp.drop (Imp.drop (Imp.drop (Imp.refl _)))) | exact Imp.drop (Imp.drop (Imp.drop (Imp.drop (Imp.drop (Imp.refl _))))) | exact Imp.drop (Imp.drop (Imp.drop (Imp.drop (Imp.drop (Imp.drop (Imp.refl _)))))) | exact Imp.drop (Imp.drop (Imp.drop (Imp.drop (Imp.drop (Imp.drop (Imp.drop (Imp.refl _))))))) | exact Imp.drop (Imp.drop (Imp.drop (Imp.drop (Imp.drop (Imp.drop (Imp.drop (Imp.drop (Imp.refl _)))))))) | assumption | exact Imp.drop (by assumption) | exact Imp.drop (Imp.drop (by assumption)) | exact imp_nil _ | exact Imp.drop2 (Imp.refl _) | exact Imp.drop2 (Imp.drop2 (Imp.refl _)) | exact Imp.drop (Imp.drop2 (Imp.refl _))) ?_
              · skip
                refine HL.perm ?_ (app_swap PA PB E)
                refine hl_append_own (e := 58) (sz := 4) rfl rfl (hoB (PA ++ E)) (cB'.rd.weak fun w hw => (((Imp.tail PB _).trans (Imp.tail PA E)).trans iE) _ _ _ hw) cB'.eq rfl (by decide) (by omega) (by omega) rfl (fun v5 M5 o5 => ?_)
                obtain ⟨va, vc, rfl, _, _⟩ := o5.form
                obtain ⟨PB, hZ, hoB⟩ := o5.permE
                refine HL.perm ?_ (hZ.trans (app_swap PB PA E))
                have iM := (Imp.tail PA _).trans (Imp.tail PB E)
                repeat (first | refine op_ ?_ | refine bx_ (fun _ => ?_))
                refine ha_quiet [18, 19] (by rfl) (by kernel_rfl) ?_
                repeat (first | refine hl_loadN (i := 0) (n := 4) (vs := dcC S.D (.slice ka S.D.F.len kc)) rfl ts rfl rfl rfl ?_ | refine hl_loadN (i := 0) (n := 4) (vs := dcC S.D (.slice ka' (S.D.F.flat 0).length kc')) rfl tr rfl rfl rfl ?_ | refine hl_load1 rfl ts rfl rfl ?_ | refine hl_load1 rfl tr rfl rfl ?_ | refine gd1_ ?_)
                refine ha_end (by rfl) (by kernel_rfl) (by first | exact Imp.refl _ | exact Imp.drop (Imp.refl _) | exact Imp.drop (Imp.drop (Imp.refl _)) | exact Imp.drop (Imp.drop (Imp.drop (Imp.refl _))) | exact Imp.drop (Imp.drop (Imp.drop (Imp.drop (Imp.refl _)))) | exact Imp.drop (Imp.drop (Imp.drop (Imp.drop (Imp.drop (Imp.refl _))))) | exact Imp.drop (Imp.drop (Imp.drop (Imp.drop (Imp.drop (Imp.drop (Imp.refl _)))))) | exact Imp.drop (Imp.drop (Imp.drop (Imp.drop (Imp.drop (Imp.drop (Imp.drop (Imp.refl _))))))) | exact Imp.drop (Imp.drop (Imp.drop (Imp.drop (Imp.drop (Imp.drop (Imp.drop (Imp.drop (Imp.refl _)))))))) | assumption | exact Imp.drop (by assumption) | exact Imp.drop (Imp.drop (by assumption)) | exact imp_nil _ | exact Imp.drop2 (Imp.refl _) | exact Imp.drop2 (Imp.drop2 (Imp.refl _)) | exact Imp.drop (Imp.drop2 (Imp.refl _))) ?_
                exact ⟨ua, uc, va, vc, PA, PB, hoA, hoB, Imp.refl _, rfl, rfl, rfl, rfl, trivial⟩
    · skip
      refine bx_ (fun g3 => ?_)
      have hoB : ∀ F, Own 58 4 (.slice (some ⟨g3, 0, none⟩) 1 1) 1 (dcC S.D (.slice ka' (S.D.F.flat 0).length kc')) F ([⟨g3, 58, dcC S.D (.slice ka' (S.D.F.flat 0).length kc'), 1 * 4⟩] ++ F) := fun F => Own.mk (by omega) (by omega) rfl (List.Perm.refl _)
      obtain ⟨PB', hPB'⟩ : ∃ P : List Ent, P = [⟨g3, 58, dcC S.D (.slice ka' (S.D.F.flat 0).length kc'), 1 * 4⟩] := ⟨_, rfl⟩
      rw [← hPB'] at hoB
      refine HL.imp (H' := PA ++ (PB' ++ E)) ?_ (by rw [hPB']; exact Imp.perm (app_swap [_] PA (PB ++ E)) (Imp.sub (List.Sublist.append (List.Sublist.refl PA) (List.Sublist.cons_cons _ (List.sublist_append_right PB E)))))
      clear hPB hPB'
      obtain ⟨PB, rfl⟩ : ∃ P, P = PB' := ⟨_, rfl⟩
      have iM := (Imp.tail PA _).trans (Imp.tail PB E)
      repeat (first | refine op_ ?_ | refine bx_ (fun _ => ?_))
      refine ha_fork1 2 (by rfl) (by kernel_rfl) (by rfl) (by first | exact Imp.refl _ | exact Imp.drop (Imp.refl _) | exact Imp.drop (Imp.drop (Imp.refl _)) | exact Imp.drop (Imp.drop (Imp.drop (Imp.refl _))) | exact Imp.drop (Imp.drop (Imp.drop (Imp.drop (Imp.refl _)))) | exact Imp.drop (Imp.drop (Imp.drop (Imp.drop (Imp.drop (Imp.refl _))))) | exact Imp.drop (Imp.drop (Imp.drop (Imp.drop (Imp.drop (Imp.drop (Imp.refl _)))))) | exact Imp.drop (Imp.drop (Imp.drop (Imp.drop (Imp.drop (Imp.drop (Imp.drop (Imp.refl _))))))) | exact Imp.drop (Imp.drop (Imp.drop (Imp.drop (Imp.drop (Imp.drop (Imp.drop (Imp.drop (Imp.refl _)))))))) | assumption | exact Imp.drop (by assumption) | exact Imp.drop (Imp.drop (by assumption)) | exact imp_nil _ | exact Imp.drop2 (Imp.refl _) | exact Imp.drop2 (Imp.drop2 (Imp.refl _)) | exact Imp.drop (Imp.drop2 (Imp.refl _))) ?_
      · skip
        refine bx_ (fun g2 => ?_)
        have hoA : ∀ F, Own 52 4 (.slice (some ⟨g2, 0, none⟩) 1 1) 1 (dcC S.D (.slice ka S.D.F.len kc)) F ([⟨g2, 52, dcC S.D (.slice ka S.D.F.len kc), 1 * 4⟩] ++ F) := fun F => Own.mk (by omega) (by omega) rfl (List.Perm.refl _)
        obtain ⟨PA', hPA'⟩ : ∃ P : List Ent, P = [⟨g2, 52, dcC S.D (.slice ka S.D.F.len kc), 1 * 4⟩] := ⟨_, rfl⟩
        rw [← hPA'] at hoA
        refine HL.imp (H' := PA' ++ (PB ++ E)) ?_ (by rw [hPA']; exact Imp.sub (List.Sublist.cons_cons _ (List.sublist_append_right PA (PB ++ E))))
        clear hPA hPA'
        obtain ⟨PA, rfl⟩ : ∃ P, P = PA' := ⟨_, rfl⟩
        have iM := (Imp.tail PA _).trans (Imp.tail PB E)
        repeat (first | refine op_ ?_ | refine bx_ (fun _ => ?_))
        refine ha_fork1 5 (by rfl) (by kernel_rfl) (by rfl) (by first | exact Imp.refl _ | exact Imp.drop (Imp.refl _) | exact Imp.drop (Imp.drop (Imp.refl _)) | exact Imp.drop (Imp.drop (Imp.drop (Imp.refl _))) | exact Imp.drop (Imp.drop (Imp.drop (Imp.drop (Imp.refl _)))) | exact Imp.drop (Imp.drop (Imp.drop (Imp.drop (Imp.drop (Imp.refl _))))) | exact Imp.drop (Imp.drop (Imp.drop (Imp.drop (Imp.drop (Imp.drop (Imp.refl _)))))) | exact Imp.drop (Imp.drop (Imp.drop (Imp.drop (Imp.drop (Imp.drop (Imp.drop (Imp.refl _))))))) | exact Imp.drop (Imp.drop (Imp.drop (Imp.drop (Imp.drop (Imp.drop (Imp.drop (Imp.drop (Imp.refl _)))))))) | assumption | exact Imp.drop (by assumption) | exact Imp.drop (Imp.drop (by assumption)) | exact imp_nil _ | exact Imp.drop2 (Imp.refl _) | exact Imp.drop2 (Imp.drop2 (Imp.refl _)) | exact Imp.drop (Imp.drop2 (Imp.refl _))) ?_
        · skip
          refine hl_append_own (e := 52) (sz := 4) rfl rfl (hoA (PB ++ E)) (cA.rd.weak fun w hw => (iM.trans iE) _ _ _ hw) cA.eq rfl (by decide) (by omega) (by omega) rfl (fun v5 M5 o5 => ?_)
          obtain ⟨ua, uc, rfl, _, _⟩ := o5.form
          obtain ⟨PA, hZ, hoA⟩ := o5.permE
          refine HL.perm ?_ hZ
          have iM := (Imp.tail PA _).trans (Imp.tail PB E)
          repeat (first | refine op_ ?_ | refine bx_ (fun _ => ?_))
          refine ha_fork1 8 (by rfl) (by kernel_rfl) (by rfl) (by first | exact Imp.refl _ | exact Imp.drop (Imp.refl _) | exact Imp.drop (Imp.drop (Imp.refl _)) | exact Imp.drop (Imp.drop (Imp.drop (Imp.refl _))) | exact Imp.drop (Imp.drop (Imp.drop (Imp.drop (Imp.refl _)))) | exact Imp.drop (Imp.drop (Imp.drop (Imp.drop (Imp.drop (Imp.refl _))))) | exact Imp.drop (Imp.drop (Imp.drop (Imp.drop (Imp.drop (Imp.drop (Imp.refl _)))))) | exact Imp.drop (Imp.drop (Imp.drop (Imp.drop (Imp.drop (Imp.drop (Imp.drop (Imp.refl _))))))) | exact Imp.drop (Imp.drop (Imp.drop (Imp.drop (Imp.drop (Imp.drop (Imp.drop (Imp.drop (Imp.refl _)))))))) | assumption | exact Imp.drop (by assumption) | exact Imp.drop (Imp.drop (by assumption)) | exact imp_nil _ | exact Imp.drop2 (Imp.refl _) | exact Imp.drop2 (Imp.drop2 (Imp.refl _)) | exact Imp.drop (Imp.drop2 (Imp.refl _))) ?_
          · skip
            refine hl_append_own (e := 52) (sz := 4) rfl rfl (hoA (PB ++ E)) (cB.rd.weak fun w hw => (iM.trans iE) _ _ _ hw) cB.eq rfl (by decide) (by omega) (by omega) rfl (fun v5 M5 o5 => ?_)
            obtain ⟨ua, uc, rfl, _, _⟩ := o5.form
            obtain ⟨PA, hZ, hoA⟩ := o5.permE
            refine HL.perm ?_ hZ
            have iM := (Imp.tail PA _).trans (Imp.tail PB E)
            repeat (first | refine op_ ?_ | refine bx_ (fun _ => ?_))
            refine ha_fork1 14 (by rfl) (by kernel_rfl) (by rfl) (by first | exact Imp.refl _ | exact Imp.drop (Imp.refl _) | exact Imp.drop (Imp.drop (Imp.refl _)) | exact Imp.drop (Imp.drop (Imp.drop (Imp.refl _))) | exact Imp.drop (Imp.drop (Imp.drop (Imp.drop (Imp.refl _)))) | exact Imp.drop (Imp.drop (Imp.drop (Imp.drop (Imp.drop (Imp.refl _))))) | exact Imp.drop (Imp.drop (Imp.drop (Imp.drop (Imp.drop (Imp.drop (Imp.refl _)))))) | exact Imp.drop (Imp.drop (Imp.drop (Imp.drop (Imp.drop (Imp.drop (Imp.drop (Imp.refl _))))))) | exact Imp.drop (Imp.drop (Imp.drop (Imp.drop (Imp.drop (Imp.drop (Imp.drop (Imp.drop (Imp.refl _)))))))) | assumption | exact Imp.drop (by assumption) | exact Imp.drop (Imp.drop (by assumption)) | exact imp_nil _ | exact Imp.drop2 (Imp.refl _) | exact Imp.drop2 (Imp.drop2 (Imp.refl _)) | exact Imp.drop (Imp.drop2 (Imp.refl _))) ?_
            · skip
              refine HL.perm ?_ (app_swap PA PB E)
              refine hl_append_own (e := 58) (sz := 4) rfl rfl (hoB (PA ++ E)) (cA'.rd.weak fun w hw => (((Imp.tail PB _).trans (Imp.tail PA E)).trans iE) _ _ _ hw) cA'.eq rfl (by decide) (by omega) (by omega) rfl (fun v5 M5 o5 => ?_)
              obtain ⟨va, vc, rfl, _, _⟩ := o5.form
              obtain ⟨PB, hZ, hoB⟩ := o5.permE
              refine HL.perm ?_ (hZ.trans (app_swap PB PA E))
              have iM := (Imp.tail PA _).trans (Imp.tail PB E)
              repeat (first | refine op_ ?_ | refine bx_ (fun _ => ?_))
              refine ha_fork1 17 (by rfl) (by kernel_rfl) (by rfl) (by first | exact Imp.refl _ | exact Imp.drop (Imp.refl _) | exact Imp.drop (Imp.drop (Imp.refl _)) | exact Imp.drop (Imp.drop (Imp.drop (Imp.refl _))) | exact Imp.drop (Imp.drop (Imp.drop (Imp.drop (Imp.refl _)))) | exact Imp.drop (Imp.drop (Imp.drop (Imp.drop (Imp.drop (Imp.refl _))))) | exact Imp.drop (Imp.drop (Imp.drop (Imp.drop (Imp.drop (Imp.drop (Imp.refl _)))))) | exact Imp.drop (Imp.drop (Imp.drop (Imp.drop (Imp.drop (Imp.drop (Imp.drop (Imp.refl _))))))) | exact Imp.drop (Imp.drop (Imp.drop (Imp.drop (Imp.drop (Imp.drop (Imp.drop (Imp.drop (Imp.refl _)))))))) | assumption | exact Imp.drop (by assumption) | exact Imp.drop (Imp.drop (by assumption)) | exact imp_nil _ | exact Imp.drop2 (Imp.refl _) | exact Imp.drop2 (Imp.drop2 (Imp.refl _)) | exact Imp.drop (Imp.drop2 (Imp.refl _))) ?_
              · skip
                refine HL.perm ?_ (app_swap PA PB E)
                refine hl_append_own (e := 58) (sz := 4) rfl rfl (hoB (PA ++ E)) (cB'.rd.weak fun w hw => (((Imp.tail PB _).trans (Imp.tail PA E)).trans iE) _ _ _ hw) cB'.eq rfl (by decide) (by omega) (by omega) rfl (fun v5 M5 o5 => ?_)
                obtain ⟨va, vc, rfl, _, _⟩ := o5.form
                obtain ⟨PB, hZ, hoB⟩ := o5.permE
                refine HL.perm ?_ (hZ.trans (app_swap PB PA E))
                have iM := (Imp.tail PA _).trans (Imp.tail PB E)
                repeat (first | refine op_ ?_ | refine bx_ (fun _ => ?_))
                refine ha_quiet [18, 19] (by rfl) (by kernel_rfl) ?_
                repeat (first | refine hl_loadN (i := 0) (n := 4) (vs := dcC S.D (.slice ka S.D.F.len kc)) rfl ts rfl rfl rfl ?_ | refine hl_loadN (i := 0) (n := 4) (vs := dcC S.D (.slice ka' (S.D.F.flat 0).length kc')) rfl tr rfl rfl rfl ?_ | refine hl_load1 rfl ts rfl rfl ?_ | refine hl_load1 rfl tr rfl rfl ?_ | refine gd1_ ?_)
                refine ha_end (by rfl) (by kernel_rfl) (by first | exact Imp.refl _ | exact Imp.drop (Imp.refl _) | exact Imp.drop (Imp.drop (Imp.refl _)) | exact Imp.drop (Imp.drop (Imp.drop (Imp.refl _))) | exact Imp.drop (Imp.drop (Imp.drop (Imp.drop (Imp.refl _)))) | exact Imp.drop (Imp.drop (Imp.drop (Imp.drop (Imp.drop (Imp.refl _))))) | exact Imp.drop (Imp.drop (Imp.drop (Imp.drop (Imp.drop (Imp.drop (Imp.refl _)))))) | exact Imp.drop (Imp.drop (Imp.drop (Imp.drop (Imp.drop (Imp.drop (Imp.drop (Imp.refl _))))))) | exact Imp.drop (Imp.drop (Imp.drop (Imp.drop (Imp.drop (Imp.drop (Imp.drop (Imp.drop (Imp.refl _)))))))) | assumption | exact Imp.drop (by assumption) | exact Imp.drop (Imp.drop (by assumption)) | exact imp_nil _ | exact Imp.drop2 (Imp.refl _) | exact Imp.drop2 (Imp.drop2 (Imp.refl _)) | exact Imp.drop (Imp.drop2 (Imp.refl _))) ?_
                exact ⟨ua, uc, va, vc, PA, PB, hoA, hoB, Imp.refl _, rfl, rfl, rfl, rfl, trivial⟩
  rintro fr M ⟨ua, uc, va, vc, PA, PB, hoA, hoB, him, hf⟩
  obtain ⟨base, rfl⟩ := hf.out
  clear hf
  refine HC.imp ?_ him
  clear him M
  obtain ⟨R1, hR1⟩ : ∃ R1, R1 = PA ++ (PB ++ E) := ⟨_, rfl⟩
  have nA : CsR w0 B R1 ua (1 + S.A.length + S.B.length) 4 ((dcC S.D (.slice ka S.D.F.len kc) ++ CA) ++ CB) := by rw [hR1]; exact CsR.own (hoA _) dA.one
  have nB : CsR w0 B R1 va (1 + S.A.length + S.B.length) 4 ((dcC S.D (.slice ka' (S.D.F.flat 0).length kc') ++ CA') ++ CB') := by rw [hR1]; exact (CsR.own (hoB _) dB.one).imp (Imp.tail PA _)
  have iR1 : Imp R1 H := by rw [hR1]; exact (Imp.tail PA _).trans ((Imp.tail PB _).trans iE)
  have t1 := Take.app PA (Take.app PB tr)
  have t2 := Take.app PA (Take.app PB ts)
  rw [← hR1] at t1 t2
  rw [← hR1]
  rw [← hLl] at nA nB ⊢
  generalize hCA : (dcC S.D (.slice ka S.D.F.len kc) ++ CA) ++ CB = CU at *
  generalize hCB : (dcC S.D (.slice ka' (S.D.F.flat 0).length kc') ++ CA') ++ CB' = CV at *
  repeat (first | refine hl_load1 rfl t1 rfl rfl ?_ | refine hl_load1 rfl t2 rfl rfl ?_ | refine go1_ ?_ | refine bx_ (fun _ => ?_))
  refine hc_loopd (fun q fr M => ∃ (G : List Dc) (j : Nat) (U V : List Value), j + G.length = LA.length ∧ q = G.length ∧ CU.drop (j * 4) = U ∧ CV.drop (j * 4) = V ∧ DsC w0 B H G U ∧ RdsC w0 B H G V ∧ (∀ D ∈ G, D ∈ S.D :: (S.A ++ S.B)) ∧ Imp M R1 ∧ Agr fr [(6, .slice va LA.length vc), (41, .slice ua LA.length uc), (42, .int .i64 (LA.length : Int)), (43, .int .i64 (j : Int))]) LA.length ?_ ?_
  · exact ⟨LA, 0, CU, CV, by omega, rfl, by simp, by simp, dA, dB, fun D hD => by rw [hLA] at hD; simpa using hD, Imp.refl _, rfl, rfl, rfl, rfl, trivial⟩
  rintro q fr M ⟨G, j, U, V, hj, rfl, hU, hV, dU, dV, hm, hi, hf⟩
  obtain ⟨base, rfl⟩ := hf.out
  clear hf
  refine HC.imp ?_ hi
  clear hi M
  cases G with
  | nil =>
    rw [List.length_nil] at hj
    repeat (first | refine go_ ?_ | refine bx_ (fun _ => ?_))
    exact fin1B rfl rfl ⟨rfl, rfl⟩ iR1
  | cons d r =>
    rw [List.length_cons] at hj
    obtain ⟨kv, C', rfl, hk, hr⟩ := dU
    obtain ⟨lv, C2', rfl, hk', hr'⟩ := dV
    obtain ⟨da, dc, rfl⟩ := hk.form
    obtain ⟨da', dc', rfl⟩ := hk'.form
    obtain ⟨hcell, hnx⟩ := dropN hU rfl
    obtain ⟨hcell', hnx'⟩ := dropN hV rfl
    obtain ⟨bb, off, rfl⟩ := nA.pos (by omega)
    obtain ⟨bb', off', rfl⟩ := nB.pos (by omega)
    obtain ⟨okd, wfd⟩ := ok d (hm d (by simp))
    repeat (first | refine hl_loadRN (l := CU) rfl nA.rd (Imp.refl _) hcell rfl rfl ?_ | refine go1_ ?_ | refine bx_ (fun _ => ?_))
    rename_i g8
    have iB : ∀ e : Ent, Imp (e :: R1) H := fun e => Imp.drop iR1
    refine hc_meet (fun fr M => Agr fr [(6, .slice (some ⟨bb', off', none⟩) LA.length vc), (41, .slice (some ⟨bb, off, none⟩) LA.length uc), (42, .int .i64 (LA.length : Int)), (43, .int .i64 (j : Int)), (54, .bool false)] ∧ Imp M R1) ?_ ?_
    · (refine hc_draw (by kernel_rfl) (by kernel_rfl) ?_; repeat (first | refine hl_loadN (i := 0) (n := 4) (vs := dcC d (.slice da d.F.len dc)) rfl .here rfl rfl rfl ?_ | refine hl_loadRN (l := CV) rfl nB.rd (Imp.drop (Imp.refl _)) hcell' rfl rfl ?_ | refine gd1_ ?_ | refine hd_call rfl rfl (docLike_fn (hk.imp (iB _)) (hk'.imp (iB _)) okd wfd) ?_))
      refine thn_norm ?_
      exact ⟨⟨rfl, rfl, rfl, rfl, rfl, trivial⟩, Imp.drop (Imp.refl _)⟩
    rintro fr M ⟨hf, him⟩
    obtain ⟨base, rfl⟩ := hf.out
    clear hf
    refine HC.imp ?_ him
    repeat (first | refine go_ ?_ | refine bx_ (fun _ => ?_))
    exact ⟨r.length, by rw [List.length_cons]; omega, _, Imp.refl _, r, j + 1, C', C2', by omega, rfl, hnx, hnx', hr, hr', fun D hD => hm D (by simp [hD]), Imp.refl _, rfl, rfl, rfl, rfl, trivial⟩
end
end Go.Proofs.Ytoobhebbgbhahaa
namespace Go.Proofs.Ytoobhebbgbhahaa
open Go.RowKit
/-- Layers that a play goes through with. -/
structure Good (L : List Rl) : Prop where
  nd : (L.map fun x => x.l.i).Nodup
  sm : ∀ x ∈ L, x.l.i ≠ 0 ∧ x.l.P.length ≤ 2000 ∧ x.l.M.length ≤ 2000 ∧ x.l.Q.length ≤ 100
section
variable {w0 : World} {B : Nat} {H R R0 : List Ent} {g : Nat}
set_option maxHeartbeats 16000000
set_option maxRecDepth 100000
/-- What is handed back: nothing, or all in one list. -/
def FlR (w0 : World) (B : Nat) (R0 R : List Ent) (L : List Rl) (u : Value) (H' : List Ent) : Prop :=
  (u = .tuple #[.slice none 0 0, .bool false] ∧ Imp H' R) ∨ ∃ sa sc C' X, u = .tuple #[.slice sa L.length sc, .bool true] ∧ Imp H' (X ++ R) ∧ (∀ F', Own 121 19 (.slice sa L.length sc) L.length C' F' (X ++ F')) ∧ RlC w0 B R0 L C' ∧ Good L ∧ L.length ≤ 300
theorem flat_fn : ∀ (N : Nat) (F : Fo), F.cnt < N → ∀ {v : Value} {t z : Int} {R Xo : List Ent} {oa : Option Addr} {oc : Nat} {L0 : List Rl} {C : List Value}, FoR w0 B R0 v F → Imp R R0 → 0 ≤ z → z ≤ 1000 → RlC w0 B R0 L0 C → Good L0 → L0.length ≤ 1000 → (∀ F', Own 121 19 (.slice oa L0.length oc) L0.length C F' (Xo ++ F')) →
    Fn Try.prog w0 B 49 [v, .int .i64 t, .int .i64 z, .slice oa L0.length oc] (Xo ++ R) (FlR w0 B R0 R (L0 ++ F.flat t))
  | 0, F, hh, _, _, _, _, _, _, _, _, _, _, _, _, _, _, _, _, _ => absurd hh (by omega)
  | N + 1, F, hN, v, t, z, R, Xo, oa, oc, L0, C, hF, hi, hz0, hz, hRl, hgd, hm, ho => by
    obtain ⟨fa, fc, FC, rfl, hFC, hFo⟩ := hF
    refine fn_intro Try.func49 rfl (by kernel_rfl) rfl ?_
    by_cases hz1 : 80 < z
    · repeat (first | refine go_ ?_ | refine bx_ (fun _ => ?_))
      exact fin2SB rfl rfl rfl (.inl ⟨rfl, Imp.refl _⟩) (Imp.tail Xo R)
    by_cases hfl : 300 - (L0.length : Int) < (F.len : Int)
    · repeat (first | refine go_ ?_ | refine bx_ (fun _ => ?_))
      exact fin2SB rfl rfl rfl (.inl ⟨rfl, Imp.refl _⟩) (Imp.tail Xo R)
    repeat (first | refine go_ ?_ | refine bx_ (fun _ => ?_))
    refine hc_loopd (fun q fr M => ∃ (G : Fo) (j : Nat) (D : List Value) (L1 : List Rl) (sa : Option Addr) (sc : Nat) (C1 : List Value) (X : List Ent), j + G.len = F.len ∧ q = G.len ∧ FC.drop (j * 19) = D ∧ FoC w0 B R0 G D ∧ G.cnt ≤ F.cnt ∧ L1 ++ G.flat t = L0 ++ F.flat t ∧ (∀ F', Own 121 19 (.slice sa L1.length sc) L1.length C1 F' (X ++ F')) ∧ RlC w0 B R0 L1 C1 ∧ Good L1 ∧ L1.length ≤ 300 ∧ Imp M (X ++ R) ∧ Agr fr [(1, .int .i64 t), (2, .int .i64 z), (3, .slice sa L1.length sc), (25, .slice fa F.len fc), (26, .int .i64 (F.len : Int)), (27, .int .i64 (j : Int))]) F.len ?_ ?_
    · exact ⟨F, 0, FC, L0, oa, oc, C, Xo, by omega, rfl, by simp, hFo, Nat.le_refl _, rfl, ho, hRl, hgd, by omega, Imp.refl _, rfl, rfl, rfl, rfl, rfl, rfl, trivial⟩
    have hFl : F.len ≤ 300 := by omega
    clear ho hRl hgd hFo hfl Xo oa oc C
    obtain ⟨LF, hLF⟩ : ∃ LF, LF = L0 ++ F.flat t := ⟨_, rfl⟩
    rw [← hLF]
    clear hLF hm L0
    rintro q fr M ⟨G, j, D, L1, sa, sc, C1, X, hj, rfl, hD, hG, hc, hL, ho, hRl, hgd, hm, him, hf⟩
    obtain ⟨base, rfl⟩ := hf.out
    clear hf
    refine HC.imp ?_ him
    clear him M
    cases G with
    | nil =>
      rw [Fo.len] at hj
      rw [Fo.flat, List.append_nil] at hL
      subst hL
      repeat (first | refine go_ ?_ | refine bx_ (fun _ => ?_))
      exact fin2SB rfl rfl rfl (.inr ⟨sa, sc, C1, X, rfl, Imp.refl _, ho, hRl, hgd, hm⟩) (Imp.refl _)
    | cons l k r =>
      rw [Fo.len] at hj
      rw [Fo.cnt] at hc
      rw [Fo.flat] at hL
      obtain ⟨pv, mv, qv, ka, kc, SK, C', rfl, hly0, hSK, hks, hr⟩ := hG
      have hly1 := hly0
      obtain ⟨⟨pa, pc, rfl, nP⟩, ⟨ma, mc, rfl, nM⟩, ⟨qa, qc, rfl, nQ⟩⟩ := hly1
      obtain ⟨hcell, hnx⟩ := drop19 hD rfl
      obtain ⟨fbb, foff, rfl⟩ := hFC.pos (by omega)
      repeat (first | refine hl_loadRN (l := FC) rfl hFC.rd ((Imp.tail X _).trans hi) hcell rfl rfl ?_ | refine go1_ ?_ | refine bx_ (fun _ => ?_))
      rename_i g11
      obtain ⟨eb, heb⟩ : ∃ eb : Ent, eb = ⟨g11, 116, lyC l (.slice pa l.P.length pc) (.slice ma l.M.length mc) (.slice qa l.Q.length qc) (.slice ka k.len kc), 19⟩ := ⟨_, rfl⟩
      have tx : ∀ (Y : List Ent), Take (Y ++ (eb :: R)) ⟨g11, 116, lyC l (.slice pa l.P.length pc) (.slice ma l.M.length mc) (.slice qa l.Q.length qc) (.slice ka k.len kc), 19⟩ (Y ++ R) := fun Y => by rw [heb]; exact Take.app Y .here
      have iR : Imp (eb :: R) R := Imp.drop (Imp.refl _)
      obtain ⟨R1, hR1⟩ : ∃ R1, R1 = X ++ (eb :: R) := ⟨_, rfl⟩
      have iX : Imp R1 R := by rw [hR1]; exact (Imp.tail X _).trans iR
      have hcR : CsR w0 B R1 sa L1.length 19 C1 := by rw [hR1]; exact CsR.own (ho _) hRl.one
      have tx1 := tx X
      rw [← hR1] at tx1
      refine HC.perm (H' := R1) ?_ (by rw [hR1, heb]; exact app_swap [_] X R)
      refine hc_loopd (fun q fr M => ∃ i2 : Nat, i2 + q = L1.length ∧ (∀ i, (h : i < L1.length) → i < i2 → L1[i].l.i ≠ l.i ∧ l.i ≠ 0) ∧ Imp M R1 ∧ Agr fr [(1, .int .i64 t), (2, .int .i64 z), (3, .slice sa L1.length sc), (11, .pointer (some ⟨g11, 0, none⟩)), (25, .slice (some ⟨fbb, foff, none⟩) F.len fc), (26, .int .i64 (F.len : Int)), (27, .int .i64 (j : Int)), (31, .slice sa L1.length sc), (32, .int .i64 (L1.length : Int)), (33, .int .i64 (i2 : Int))]) L1.length ?_ ?_
      · exact ⟨0, by omega, fun i h h2 => absurd h2 (by omega), Imp.refl _, rfl, rfl, rfl, rfl, rfl, rfl, rfl, rfl, rfl, rfl, trivial⟩
      rintro q2 fr M ⟨i2, hi2, hne, him, hf⟩
      obtain ⟨base, rfl⟩ := hf.out
      clear hf
      refine HC.imp ?_ him
      clear him M
      by_cases hlt : i2 < L1.length
      · obtain ⟨sbb, soff, rfl⟩ := hcR.pos (by omega)
        obtain ⟨pv', mv', qv', hcell', hly'⟩ := hRl.at' hlt
        obtain ⟨⟨pa', pc', rfl, _⟩, ⟨ma', mc', rfl, _⟩, ⟨qa', qc', rfl, _⟩⟩ := hly'
        have hx : ∀ i, (h : i < L1.length) → i < i2 + 1 → ¬ (L1[i2].l.i = l.i ∨ l.i = 0) → L1[i].l.i ≠ l.i ∧ l.i ≠ 0 := fun i h h2 h3 => by
          by_cases e : i = i2
          · subst e; exact ⟨fun e => h3 (.inl e), fun e => h3 (.inr e)⟩
          · exact hne i h (by omega)
        generalize L1[i2] = x at *
        by_cases hb : x.l.i = l.i ∨ l.i = 0
        · rcases hb with hb | hb
          · repeat (first | refine hl_load1 rfl (.there tx1) rfl rfl ?_ | refine hl_loadRN (l := C1) rfl hcR.rd (Imp.refl _) hcell' rfl rfl ?_ | refine go1_ ?_ | refine bx_ (fun _ => ?_))
            exact fin2SB rfl rfl rfl (.inl ⟨rfl, Imp.refl _⟩) (Imp.drop iX)
          · by_cases hb2 : x.l.i = l.i
            · repeat (first | refine hl_load1 rfl (.there tx1) rfl rfl ?_ | refine hl_loadRN (l := C1) rfl hcR.rd (Imp.refl _) hcell' rfl rfl ?_ | refine go1_ ?_ | refine bx_ (fun _ => ?_))
              exact fin2SB rfl rfl rfl (.inl ⟨rfl, Imp.refl _⟩) (Imp.drop iX)
            · repeat (first | refine hl_load1 rfl (.there tx1) rfl rfl ?_ | refine hl_loadRN (l := C1) rfl hcR.rd (Imp.refl _) hcell' rfl rfl ?_ | refine go1_ ?_ | refine bx_ (fun _ => ?_))
              exact fin2SB rfl rfl rfl (.inl ⟨rfl, Imp.refl _⟩) (Imp.drop iX)
        · have hb1 : x.l.i ≠ l.i := fun e => hb (.inl e)
          have hb2 : l.i ≠ 0 := fun e => hb (.inr e)
          repeat (first | refine hl_load1 rfl (.there tx1) rfl rfl ?_ | refine hl_loadRN (l := C1) rfl hcR.rd (Imp.refl _) hcell' rfl rfl ?_ | refine go1_ ?_ | refine bx_ (fun _ => ?_))
          exact ⟨q2 - 1, by omega, _, Imp.drop (Imp.refl _), i2 + 1, by omega, fun i h h2 => hx i h h2 hb, Imp.refl _, rfl, rfl, rfl, rfl, rfl, rfl, rfl, rfl, rfl, rfl, trivial⟩
      obtain rfl : i2 = L1.length := by omega
      by_cases hbad : l.i = 0 ∨ 2000 < l.P.length ∨ 2000 < l.M.length ∨ 100 < l.Q.length
      · by_cases h1 : l.i = 0
        · repeat (first | refine hl_load1 rfl tx1 rfl rfl ?_ | refine go1_ ?_ | refine bx_ (fun _ => ?_))
          exact fin2SB rfl rfl rfl (.inl ⟨rfl, Imp.refl _⟩) iX
        by_cases h2 : 2000 < l.P.length
        · repeat (first | refine hl_load1 rfl tx1 rfl rfl ?_ | refine go1_ ?_ | refine bx_ (fun _ => ?_))
          exact fin2SB rfl rfl rfl (.inl ⟨rfl, Imp.refl _⟩) iX
        by_cases h3 : 2000 < l.M.length
        · repeat (first | refine hl_load1 rfl tx1 rfl rfl ?_ | refine go1_ ?_ | refine bx_ (fun _ => ?_))
          exact fin2SB rfl rfl rfl (.inl ⟨rfl, Imp.refl _⟩) iX
        · have h4 : 100 < l.Q.length := by rcases hbad with h | h | h | h <;> first | contradiction | exact h
          repeat (first | refine hl_load1 rfl tx1 rfl rfl ?_ | refine go1_ ?_ | refine bx_ (fun _ => ?_))
          exact fin2SB rfl rfl rfl (.inl ⟨rfl, Imp.refl _⟩) iX
      have h1 : l.i ≠ 0 := fun e => hbad (.inl e)
      have h2 : ¬ 2000 < l.P.length := fun e => hbad (.inr (.inl e))
      have h3 : ¬ 2000 < l.M.length := fun e => hbad (.inr (.inr (.inl e)))
      have h4 : ¬ 100 < l.Q.length := fun e => hbad (.inr (.inr (.inr e)))
      clear hbad
      have hgd1 : Good (L1 ++ [⟨t, l⟩]) := by
        refine ⟨?_, fun x hx => ?_⟩
        · rw [List.map_append, List.nodup_append]
          refine ⟨hgd.nd, by simp, fun a ha b hb => ?_⟩
          obtain ⟨x, hx, rfl⟩ := List.mem_map.1 ha
          obtain ⟨i, hi, rfl⟩ := List.getElem_of_mem hx
          obtain rfl : b = l.i := by simpa using hb
          exact (hne i hi hi).1
        · rcases List.mem_append.1 hx with hx | hx
          · exact hgd.sm x hx
          · obtain rfl : x = ⟨t, l⟩ := by simpa using hx
            exact ⟨h1, by dsimp only; omega, by dsimp only; omega, by dsimp only; omega⟩
      have hRl1 : RlC w0 B R0 (L1 ++ [⟨t, l⟩]) (C1 ++ rlC t l (.slice pa l.P.length pc) (.slice ma l.M.length mc) (.slice qa l.Q.length qc)) :=
        RlC.append hRl ⟨_, _, _, [], (List.append_nil _).symm, hly0, rfl⟩
      repeat (first | refine hl_load1 rfl tx1 rfl rfl ?_ | refine hl_loadN (i := 9) (n := 6) (vs := l.mp.map intV) rfl tx1 rfl rfl rfl ?_ | refine go1_ ?_ | refine bx_ (fun _ => ?_))
      rename_i gb
      obtain ⟨bb, hbb⟩ : ∃ bb : Ent, bb = ⟨gb, 121, rlC t l (.slice pa l.P.length pc) (.slice ma l.M.length mc) (.slice qa l.Q.length qc), 1 * 19⟩ := ⟨_, rfl⟩
      refine HL.perm (H' := X ++ (bb :: (eb :: R))) ?_ (by rw [hR1, hbb]; exact app_swap [_] X (eb :: R))
      refine hl_append_own (e := 121) (sz := 19) (news := rlC t l (.slice pa l.P.length pc) (.slice ma l.M.length mc) (.slice qa l.Q.length qc)) rfl rfl (ho _) (Rds.ent (i := 0) (n := 19) (l := rlC t l (.slice pa l.P.length pc) (.slice ma l.M.length mc) (.slice qa l.Q.length qc)) (by rw [hbb]; exact Take.app X .here) rfl (by simp [rlC, Value.oneCell'])) rfl rfl (by decide) (by omega) (by omega) rfl (fun v5 M5 o5 => ?_)
      obtain ⟨a5', c5', rfl, _, _⟩ := o5.form
      obtain ⟨Z, hZ, hoZ⟩ := o5.permE
      refine HL.perm ?_ hZ
      refine HL.imp (H' := Z ++ (eb :: R)) ?_ (Imp.sub (List.Sublist.append (List.Sublist.refl _) (List.sublist_cons_self _ _)))
      have hlen : (L1 ++ [(⟨t, l⟩ : Rl)]).length = L1.length + 1 := by simp
      rw [← hlen] at hoZ ⊢
      repeat (first | refine hl_load1 rfl (tx Z) rfl rfl ?_ | refine go1_ ?_ | refine bx_ (fun _ => ?_))
      refine hl_call rfl rfl (flat_fn N k (by omega) (z := z + 1) (FoR.imp ⟨ka, kc, SK, rfl, hSK, hks⟩ (Imp.refl _) : FoR w0 B R0 (.slice ka k.len kc) k) (iR.trans hi) (by omega) (by omega) hRl1 hgd1 (by omega) hoZ) (fun v M o => ?_)
      rcases o with ⟨rfl, him⟩ | ⟨sa', sc', C2, X2, rfl, him, ho2, hRl2, hgd2, hm2⟩
      · repeat (first | refine go_ ?_ | refine bx_ (fun _ => ?_))
        exact fin2SB rfl rfl rfl (.inl ⟨rfl, him.trans iR⟩) (Imp.refl _)
      · refine HL.imp ?_ him
        repeat (first | refine go_ ?_ | refine bx_ (fun _ => ?_))
        exact ⟨r.len, by rw [Fo.len]; omega, _, Imp.sub (List.Sublist.append (List.Sublist.refl X2) (List.sublist_cons_self eb R)), r, j + 1, C', (L1 ++ [⟨t, l⟩]) ++ k.flat l.i, sa', sc', C2, X2, by omega, rfl, hnx, hr, by omega, by rw [← hL]; simp, ho2, hRl2, hgd2, hm2, Imp.refl _, rfl, rfl, rfl, rfl, rfl, rfl, trivial⟩
end
end Go.Proofs.Ytoobhebbgbhahaa
namespace Go.Proofs.Ytoobhebbgbhahaa
open Go.RowKit
section
variable {c : Cx} {Q : Pst} {fr : Fr} {H F : List Ent} {T : TypeId} {P : Program} {fn : Func} {R : Value → List Ent → Prop}
theorem finCB {t t2 g T' k n : Nat} {C : List Value} {H2 : List Ent} {z : Bool} (hr : fn.results.toList = [.cell t T, .tmp t2]) (hp : fr t = .pointer (some ⟨g, 0, none⟩)) (ht : Take H ⟨g, T', C, k⟩ F) (hv2 : fr t2 = .bool z) [TAgg P T] [hs : TSz P T n] (hn : C.length = n) (h : R (.tuple #[.agg C.toArray, .bool z]) H2)
    (hi : Imp H H2) : Pfn P fn R .ret fr H :=
  have : TSz P T C.length := hn ▸ hs
  ⟨.inr rfl, [.agg C.toArray, fr t2], H2, by rw [hr]; exact .cell hp ht (.tmp .nil), hi, by rw [hv2]; exact h⟩
end
section
variable {w0 : World} {B : Nat} {H R R0 : List Ent} {g : Nat}
set_option maxHeartbeats 16000000
set_option maxRecDepth 100000
def FdR (w0 : World) (B : Nat) (R0 R : List Ent) (D : Dc) (u : Value) (H' : List Ent) : Prop :=
  (u = .tuple #[.agg (dcC D (.slice none 0 0)).toArray, .bool false] ∧ Imp H' R) ∨ ∃ la lc X, u = .tuple #[.agg (dcC D (.slice la (D.F.flat 0).length lc)).toArray, .bool true] ∧ Imp H' (X ++ R) ∧ RlR w0 B (X ++ R0) (.slice la (D.F.flat 0).length lc) (D.F.flat 0) ∧ Good (D.F.flat 0) ∧ (D.F.flat 0).length ≤ 300
theorem Flat_fn {D : Dc} {kv : Value} (hF : FoR w0 B R0 kv D.F) (hi : Imp R R0) :
    Fn Try.prog w0 B 39 [.agg (dcC D kv).toArray] R (FdR w0 B R0 R D) := by
  obtain ⟨ka, kc, rfl⟩ := hF.form
  refine fn_intro Try.func39 rfl (by kernel_rfl) rfl ?_
  repeat (first | refine go_ ?_ | refine bx_ (fun _ => ?_))
  rename_i g1 g2
  obtain ⟨R1, hR1⟩ : ∃ R1, R1 = (⟨g2, 58, [.int .i64 0, .int .i64 0, .int .i64 0, .slice none 0 0], 4⟩ :: ⟨g1, 52, dcC D (.slice ka D.F.len kc), 4⟩ :: R : List Ent) := ⟨_, rfl⟩
  have iR1 : Imp R1 R := by rw [hR1]; exact Imp.drop (Imp.drop (Imp.refl _))
  refine HL.perm (H' := [] ++ R1) ?_ (by rw [hR1]; exact List.Perm.refl _)
  refine hl_call rfl rfl (flat_fn (D.F.cnt + 1) D.F (by omega) (L0 := []) (C := []) hF (iR1.trans hi) (by omega) (by omega) rfl ⟨by simp, by simp⟩ (by simp) (fun F => Own.nil)) (fun v M o => ?_)
  rw [List.nil_append] at o
  rcases o with ⟨rfl, him⟩ | ⟨sa, sc, C2, X, rfl, him, ho, hRl, hgd, hm⟩
  · refine HL.imp ?_ him
    rw [hR1]
    repeat (first | refine go_ ?_ | refine bx_ (fun _ => ?_))
    exact finCB rfl rfl .here rfl rfl (.inl ⟨rfl, Imp.refl _⟩) (Imp.drop (Imp.drop (Imp.refl _)))
  · refine HL.imp ?_ him
    rw [hR1]
    refine HL.perm ?_ (app_swap X [_, _] R)
    repeat (first | refine go_ ?_ | refine bx_ (fun _ => ?_))
    exact finCB rfl rfl .here rfl rfl (.inr ⟨sa, sc, X, rfl, Imp.refl _, ⟨sa, sc, C2, rfl, CsR.own (ho R0) hRl.one, hRl.imp (Imp.tail X R0)⟩, hgd, hm⟩) (Imp.drop (Imp.drop (Imp.refl _)))
/-- What is handed back of a state. -/
def PlR (w0 : World) (B : Nat) (H : List Ent) (S : Stt) (u : Value) (H' : List Ent) : Prop :=
  (∃ l : List Value, l.length = 6 ∧ (∀ v ∈ l, v.oneCell' = true) ∧ u = .tuple #[.agg l.toArray, .bool false] ∧ Imp H' H) ∨ ∃ lv av bv X, u = .tuple #[.agg (stC S lv av bv).toArray, .bool true] ∧ Imp H' (X ++ H) ∧ RstR w0 B (X ++ H) S lv av bv ∧ (∀ D ∈ S.D :: (S.A ++ S.B), Good (D.F.flat 0) ∧ (D.F.flat 0).length ≤ 300) ∧ S.A.length ≤ 8 ∧ S.B.length ≤ 8
theorem plain_fn {S : Stt} {kv av bv : Value} (hS : StR w0 B H S kv av bv) :
    Fn Try.prog w0 B 19 [.agg (stC S kv av bv).toArray] H (PlR w0 B H S) := by
  obtain ⟨hD, hA, hB⟩ := hS
  obtain ⟨ka, kc, rfl⟩ := hD.form
  obtain ⟨aa, ac, CA, rfl, cA, rA⟩ := hA
  obtain ⟨ba, bc, CB, rfl, cB, rB⟩ := hB
  refine fn_intro Try.func19 rfl (by kernel_rfl) rfl ?_
  repeat (first | refine hl_loadN (i := 0) (n := 4) (vs := dcC S.D (.slice ka S.D.F.len kc)) rfl (.there (.there .here)) rfl rfl rfl ?_ | refine go1_ ?_ | refine bx_ (fun _ => ?_))
  rename_i g1 g2 g4
  refine HL.perm (H' := ⟨g4, 61, [.int .i64 0, .int .i64 0, .int .i64 0, .slice none 0 0, .slice none 0 0, .slice none 0 0], 6⟩ :: ⟨g2, 61, [.int .i64 0, .int .i64 0, .int .i64 0, .slice none 0 0, .slice none 0 0, .slice none 0 0], 6⟩ :: ⟨g1, 55, stC S (.slice ka S.D.F.len kc) (.slice aa S.A.length ac) (.slice ba S.B.length bc), 6⟩ :: H) ?_ (List.Perm.refl _)
  have iR : Imp (⟨g4, 61, [.int .i64 0, .int .i64 0, .int .i64 0, .slice none 0 0, .slice none 0 0, .slice none 0 0], 6⟩ :: ⟨g2, 61, [.int .i64 0, .int .i64 0, .int .i64 0, .slice none 0 0, .slice none 0 0, .slice none 0 0], 6⟩ :: ⟨g1, 55, stC S (.slice ka S.D.F.len kc) (.slice aa S.A.length ac) (.slice ba S.B.length bc), 6⟩ :: H) H := Imp.drop (Imp.drop (Imp.drop (Imp.refl _)))
  refine hl_call rfl rfl (Flat_fn (R0 := H) hD iR) (fun v M o => ?_)
  rcases o with ⟨rfl, him⟩ | ⟨la, lc, XD, rfl, him, hRlD, hgdD, hmD⟩
  · refine HL.imp ?_ him
    repeat (first | refine go_ ?_ | refine bx_ (fun _ => ?_))
    refine hl_storeN (i := 0) (n := 4) rfl rfl rfl (by simp [dcC, Value.oneCell']) .here (by simp) rfl ?_
    refine HL.perm (H' := ⟨g4, 61, [.int .i64 S.D.w, .int .i64 S.D.h, .int .i64 S.D.n, .slice none 0 0, .slice none 0 0, .slice none 0 0], 6⟩ :: ⟨g2, 61, [.int .i64 0, .int .i64 0, .int .i64 0, .slice none 0 0, .slice none 0 0, .slice none 0 0], 6⟩ :: ⟨g1, 55, stC S (.slice ka S.D.F.len kc) (.slice aa S.A.length ac) (.slice ba S.B.length bc), 6⟩ :: H) ?_ (List.Perm.refl _)
    repeat (first | refine go_ ?_ | refine bx_ (fun _ => ?_))
    exact finCB rfl rfl .here rfl rfl (.inl ⟨_, rfl, by simp [Value.oneCell'], rfl, Imp.refl _⟩) (Imp.drop (Imp.drop (Imp.drop (Imp.refl _))))
  refine HL.imp ?_ him
  refine HL.perm ?_ (app_swap XD [_, _, _] H)
  repeat (first | refine go_ ?_ | refine bx_ (fun _ => ?_))
  refine hl_storeN (i := 0) (n := 4) rfl rfl rfl (by simp [dcC, Value.oneCell']) .here (by simp) rfl ?_
  refine HL.perm (H' := ⟨g4, 61, [.int .i64 S.D.w, .int .i64 S.D.h, .int .i64 S.D.n, .slice la (S.D.F.flat 0).length lc, .slice none 0 0, .slice none 0 0], 6⟩ :: ⟨g2, 61, [.int .i64 0, .int .i64 0, .int .i64 0, .slice none 0 0, .slice none 0 0, .slice none 0 0], 6⟩ :: ⟨g1, 55, stC S (.slice ka S.D.F.len kc) (.slice aa S.A.length ac) (.slice ba S.B.length bc), 6⟩ :: (XD ++ H)) ?_ (List.Perm.refl _)
  have iXD : Imp (XD ++ H) H := Imp.tail XD H
  by_cases h8 : 8 < S.A.length ∨ 8 < S.B.length
  · by_cases h8a : 8 < S.A.length
    · repeat (first | refine go_ ?_ | refine bx_ (fun _ => ?_))
      exact finCB rfl rfl .here rfl rfl (.inl ⟨_, rfl, by simp [Value.oneCell'], rfl, Imp.refl _⟩) (Imp.drop (Imp.drop (Imp.drop iXD)))
    · have h8b : 8 < S.B.length := by omega
      repeat (first | refine go_ ?_ | refine bx_ (fun _ => ?_))
      exact finCB rfl rfl .here rfl rfl (.inl ⟨_, rfl, by simp [Value.oneCell'], rfl, Imp.refl _⟩) (Imp.drop (Imp.drop (Imp.drop iXD)))
  have h8a : ¬ 8 < S.A.length := fun h => h8 (.inl h)
  have h8b : ¬ 8 < S.B.length := fun h => h8 (.inr h)
  have base := 0
  repeat (first | refine go_ ?_ | refine bx_ (fun _ => ?_))
  refine hc_loopd (fun q fr M => ∃ (G : List Dc) (j : Nat) (D : List Value) (L1 : List Dc) (sa : Option Addr) (sc : Nat) (C1 : List Value) (X Xs : List Ent), j + G.length = S.A.length ∧ q = G.length ∧ CA.drop (j * 4) = D ∧ DsC w0 B H G D ∧ L1 ++ G = S.A ∧ L1.length = j ∧ (∀ D ∈ L1, Good (D.F.flat 0) ∧ (D.F.flat 0).length ≤ 300) ∧ (∀ F', Own 58 4 (.slice sa j sc) j C1 F' (X ++ F')) ∧ RdsC w0 B (Xs ++ H) L1 C1 ∧ Imp M (⟨g4, 61, [.int .i64 S.D.w, .int .i64 S.D.h, .int .i64 S.D.n, .slice la (S.D.F.flat 0).length lc, .slice sa j sc, .slice none 0 0], 6⟩ :: ⟨g2, 61, [.int .i64 0, .int .i64 0, .int .i64 0, .slice none 0 0, .slice none 0 0, .slice none 0 0], 6⟩ :: ⟨g1, 55, stC S (.slice ka S.D.F.len kc) (.slice aa S.A.length ac) (.slice ba S.B.length bc), 6⟩ :: (X ++ (Xs ++ (XD ++ H)))) ∧ Agr fr [(1, .pointer (some ⟨g1, 0, none⟩)), (2, .pointer (some ⟨g2, 0, none⟩)), (4, .pointer (some ⟨g4, 0, none⟩)), (37, .slice aa S.A.length ac), (38, .int .i64 (S.A.length : Int)), (39, .int .i64 (j : Int))]) S.A.length ?_ ?_
  · exact ⟨S.A, 0, CA, [], none, 0, [], [], [], by omega, rfl, by simp, rA, rfl, rfl, by simp, fun F => Own.nil, rfl, Imp.refl _, rfl, rfl, rfl, rfl, rfl, rfl, trivial⟩
  clear base
  rintro q fr M ⟨G, j, D, L1, sa, sc, C1, X, Xs, hj, rfl, hD, hG, hL, hL1, hgd, ho, hRl, him, hf⟩
  obtain ⟨base, rfl⟩ := hf.out
  clear hf
  refine HC.imp ?_ him
  clear him M
  cases G with
  | cons d r =>
    rw [List.length_cons] at hj
    obtain ⟨kv, C', rfl, hk, hr⟩ := hG
    obtain ⟨da, dc, rfl⟩ := hk.form
    obtain ⟨hcell, hnx⟩ := dropN hD rfl
    obtain ⟨bb, off, rfl⟩ := cA.pos (by omega)
    have iTT : Imp (X ++ (Xs ++ (XD ++ H))) H := (Imp.tail X _).trans ((Imp.tail Xs _).trans iXD)
    repeat (first | refine hl_loadRN (l := CA) rfl cA.rd (Imp.drop (Imp.drop (Imp.drop iTT))) hcell rfl rfl ?_ | refine go1_ ?_ | refine bx_ (fun _ => ?_))
    rename_i g7
    refine HL.perm (H' := ⟨g7, 52, dcC d (.slice da d.F.len dc), 4⟩ :: ⟨g4, 61, [.int .i64 S.D.w, .int .i64 S.D.h, .int .i64 S.D.n, .slice la (S.D.F.flat 0).length lc, .slice sa j sc, .slice none 0 0], 6⟩ :: ⟨g2, 61, [.int .i64 0, .int .i64 0, .int .i64 0, .slice none 0 0, .slice none 0 0, .slice none 0 0], 6⟩ :: ⟨g1, 55, stC S (.slice ka S.D.F.len kc) (.slice (some ⟨bb, off, none⟩) S.A.length ac) (.slice ba S.B.length bc), 6⟩ :: (X ++ (Xs ++ (XD ++ H)))) ?_ (List.Perm.refl _)
    refine hl_call rfl rfl (Flat_fn (R0 := H) hk (Imp.drop (Imp.drop (Imp.drop (Imp.drop iTT))))) (fun v M o => ?_)
    rcases o with ⟨rfl, him⟩ | ⟨la', lc', X2, rfl, him, hRl2, hgd2, hm2⟩
    · refine HL.imp ?_ him
      repeat (first | refine go_ ?_ | refine bx_ (fun _ => ?_))
      exact finCB rfl rfl .here rfl rfl (.inl ⟨_, rfl, by simp [Value.oneCell'], rfl, Imp.refl _⟩) (Imp.drop (Imp.drop (Imp.drop (Imp.drop (Imp.drop iTT)))))
    · refine HL.imp ?_ him
      refine HL.perm ?_ (app_swap X2 [_, _, _, _] _)
      repeat (first | refine go_ ?_ | refine bx_ (fun _ => ?_))
      have hp1 : ∀ u x y z s t : Ent, (u :: x :: y :: z :: s :: t :: (X2 ++ (X ++ (Xs ++ (XD ++ H))))).Perm (X ++ (u :: x :: y :: z :: s :: t :: (X2 ++ (Xs ++ (XD ++ H))))) := fun u x y z s t => by
        simpa only [List.append_assoc, List.cons_append, List.nil_append] using app_swap ([u, x, y, z, s, t] ++ X2) X (Xs ++ (XD ++ H))
      have hp2 : ∀ (Z : List Ent) (u x y z s t : Ent), (Z ++ (u :: x :: y :: z :: s :: t :: (X2 ++ (Xs ++ (XD ++ H))))).Perm (u :: x :: y :: z :: s :: t :: (Z ++ ((X2 ++ Xs) ++ (XD ++ H)))) := fun Z u x y z s t => by
        simpa only [List.append_assoc, List.cons_append, List.nil_append] using app_swap Z [u, x, y, z, s, t] (X2 ++ (Xs ++ (XD ++ H)))
      refine HL.perm ?_ (hp1 _ _ _ _ _ _)
      refine hl_append_own (e := 58) (sz := 4) rfl rfl (ho _) (Rds.ent (i := 0) (n := 4) (l := dcC d (.slice la' (d.F.flat 0).length lc')) (Take.app X .here) rfl (by simp [dcC, Value.oneCell'])) rfl rfl (by decide) (by omega) (by omega) rfl (fun v5 M5 o5 => ?_)
      obtain ⟨a5', c5', rfl, _, _⟩ := o5.form
      obtain ⟨Z, hZ, hoZ⟩ := o5.permE
      refine HL.perm ?_ (hZ.trans (hp2 Z _ _ _ _ _ _))
      repeat (first | refine go_ ?_ | refine bx_ (fun _ => ?_))
      refine ⟨r.length, by rw [List.length_cons]; omega, _, Imp.drop2 (Imp.drop2 (Imp.drop2 (Imp.refl _))), r, j + 1, C', L1 ++ [d], a5', c5', _, Z, X2 ++ Xs, by omega, rfl, hnx, hr, by rw [← hL]; simp, by simp [hL1], ?_, hoZ, RdsC.append (hRl.imp ?_) ⟨.slice la' (d.F.flat 0).length lc', [], rfl, hRl2.imp ?_, rfl⟩, Imp.refl _, rfl, rfl, rfl, rfl, rfl, rfl, trivial⟩
      · intro D hD'
        rcases List.mem_append.1 hD' with h | h
        · exact hgd D h
        · obtain rfl : D = d := by simpa using h
          exact ⟨hgd2, hm2⟩
      · rw [List.append_assoc]; exact Imp.tail X2 _
      · rw [List.append_assoc]; exact Imp.sub (List.Sublist.append (List.Sublist.refl _) (List.sublist_append_right _ _))
  | nil =>
  rw [List.length_nil] at hj
  rw [List.append_nil] at hL
  subst hL
  have cA' : CsR w0 B (X ++ H) sa j 4 C1 := CsR.own (ho H) hRl.one
  have rA2 := hRl
  have hgA := hgd
  obtain ⟨T2, hT2⟩ : ∃ T2, T2 = X ++ (Xs ++ (XD ++ H)) := ⟨_, rfl⟩
  have iT2 : Imp T2 H := by rw [hT2]; exact (Imp.tail X _).trans ((Imp.tail Xs _).trans iXD)
  rw [← hT2]
  subst hL1
  repeat (first | refine go_ ?_ | refine bx_ (fun _ => ?_))
  refine hc_loopd (fun q fr M => ∃ (G : List Dc) (j2 : Nat) (D : List Value) (L2 : List Dc) (sb : Option Addr) (sd : Nat) (C3 : List Value) (Y Ys : List Ent), j2 + G.length = S.B.length ∧ q = G.length ∧ CB.drop (j2 * 4) = D ∧ DsC w0 B H G D ∧ L2 ++ G = S.B ∧ L2.length = j2 ∧ (∀ D ∈ L2, Good (D.F.flat 0) ∧ (D.F.flat 0).length ≤ 300) ∧ (∀ F', Own 58 4 (.slice sb j2 sd) j2 C3 F' (Y ++ F')) ∧ RdsC w0 B (Ys ++ H) L2 C3 ∧ Imp M (⟨g4, 61, [.int .i64 S.D.w, .int .i64 S.D.h, .int .i64 S.D.n, .slice la (S.D.F.flat 0).length lc, .slice sa S.A.length sc, .slice sb j2 sd], 6⟩ :: ⟨g2, 61, [.int .i64 0, .int .i64 0, .int .i64 0, .slice none 0 0, .slice none 0 0, .slice none 0 0], 6⟩ :: ⟨g1, 55, stC S (.slice ka S.D.F.len kc) (.slice aa S.A.length ac) (.slice ba S.B.length bc), 6⟩ :: (Y ++ (Ys ++ T2))) ∧ Agr fr [(1, .pointer (some ⟨g1, 0, none⟩)), (2, .pointer (some ⟨g2, 0, none⟩)), (4, .pointer (some ⟨g4, 0, none⟩)), (59, .slice ba S.B.length bc), (60, .int .i64 (S.B.length : Int)), (61, .int .i64 (j2 : Int))]) S.B.length ?_ ?_
  · exact ⟨S.B, 0, CB, [], none, 0, [], [], [], by omega, rfl, by simp, rB, rfl, rfl, by simp, fun F => Own.nil, rfl, Imp.refl _, rfl, rfl, rfl, rfl, rfl, rfl, trivial⟩
  clear base
  rintro q fr M ⟨G, j2, D, L2, sb, sd, C3, Y, Ys, hj, rfl, hD, hG, hLB, hL2, hgdB, hoB, hRlB, him, hf⟩
  obtain ⟨base, rfl⟩ := hf.out
  clear hf
  refine HC.imp ?_ him
  clear him M
  cases G with
  | cons d r =>
    rw [List.length_cons] at hj
    obtain ⟨kv, C', rfl, hk, hr⟩ := hG
    obtain ⟨da, dc, rfl⟩ := hk.form
    obtain ⟨hcell, hnx⟩ := dropN hD rfl
    obtain ⟨bb, off, rfl⟩ := cB.pos (by omega)
    have iTT : Imp (Y ++ (Ys ++ T2)) H := (Imp.tail Y _).trans ((Imp.tail Ys _).trans iT2)
    repeat (first | refine hl_loadRN (l := CB) rfl cB.rd (Imp.drop (Imp.drop (Imp.drop iTT))) hcell rfl rfl ?_ | refine go1_ ?_ | refine bx_ (fun _ => ?_))
    rename_i g7
    refine HL.perm (H' := ⟨g7, 52, dcC d (.slice da d.F.len dc), 4⟩ :: ⟨g4, 61, [.int .i64 S.D.w, .int .i64 S.D.h, .int .i64 S.D.n, .slice la (S.D.F.flat 0).length lc, .slice sa S.A.length sc, .slice sb j2 sd], 6⟩ :: ⟨g2, 61, [.int .i64 0, .int .i64 0, .int .i64 0, .slice none 0 0, .slice none 0 0, .slice none 0 0], 6⟩ :: ⟨g1, 55, stC S (.slice ka S.D.F.len kc) (.slice aa S.A.length ac) (.slice (some ⟨bb, off, none⟩) S.B.length bc), 6⟩ :: (Y ++ (Ys ++ T2))) ?_ (List.Perm.refl _)
    refine hl_call rfl rfl (Flat_fn (R0 := H) hk (Imp.drop (Imp.drop (Imp.drop (Imp.drop iTT))))) (fun v M o => ?_)
    rcases o with ⟨rfl, him⟩ | ⟨la', lc', X2, rfl, him, hRl2, hgd2, hm2⟩
    · refine HL.imp ?_ him
      repeat (first | refine go_ ?_ | refine bx_ (fun _ => ?_))
      exact finCB rfl rfl .here rfl rfl (.inl ⟨_, rfl, by simp [Value.oneCell'], rfl, Imp.refl _⟩) (Imp.drop (Imp.drop (Imp.drop (Imp.drop (Imp.drop iTT)))))
    · refine HL.imp ?_ him
      refine HL.perm ?_ (app_swap X2 [_, _, _, _] _)
      repeat (first | refine go_ ?_ | refine bx_ (fun _ => ?_))
      have hp1 : ∀ u x y z s t : Ent, (u :: x :: y :: z :: s :: t :: (X2 ++ (Y ++ (Ys ++ T2)))).Perm (Y ++ (u :: x :: y :: z :: s :: t :: (X2 ++ (Ys ++ T2)))) := fun u x y z s t => by
        simpa only [List.append_assoc, List.cons_append, List.nil_append] using app_swap ([u, x, y, z, s, t] ++ X2) Y (Ys ++ T2)
      have hp2 : ∀ (Z : List Ent) (u x y z s t : Ent), (Z ++ (u :: x :: y :: z :: s :: t :: (X2 ++ (Ys ++ T2)))).Perm (u :: x :: y :: z :: s :: t :: (Z ++ ((X2 ++ Ys) ++ T2))) := fun Z u x y z s t => by
        simpa only [List.append_assoc, List.cons_append, List.nil_append] using app_swap Z [u, x, y, z, s, t] (X2 ++ (Ys ++ T2))
      refine HL.perm ?_ (hp1 _ _ _ _ _ _)
      refine hl_append_own (e := 58) (sz := 4) rfl rfl (hoB _) (Rds.ent (i := 0) (n := 4) (l := dcC d (.slice la' (d.F.flat 0).length lc')) (Take.app Y .here) rfl (by simp [dcC, Value.oneCell'])) rfl rfl (by decide) (by omega) (by omega) rfl (fun v5 M5 o5 => ?_)
      obtain ⟨a5', c5', rfl, _, _⟩ := o5.form
      obtain ⟨Z, hZ, hoZ⟩ := o5.permE
      refine HL.perm ?_ (hZ.trans (hp2 Z _ _ _ _ _ _))
      repeat (first | refine go_ ?_ | refine bx_ (fun _ => ?_))
      refine ⟨r.length, by rw [List.length_cons]; omega, _, Imp.drop2 (Imp.drop2 (Imp.drop2 (Imp.refl _))), r, j2 + 1, C', L2 ++ [d], a5', c5', _, Z, X2 ++ Ys, by omega, rfl, hnx, hr, by rw [← hLB]; simp, by simp [hL2], ?_, hoZ, RdsC.append (hRlB.imp ?_) ⟨.slice la' (d.F.flat 0).length lc', [], rfl, hRl2.imp ?_, rfl⟩, Imp.refl _, rfl, rfl, rfl, rfl, rfl, rfl, trivial⟩
      · intro D hD'
        rcases List.mem_append.1 hD' with h | h
        · exact hgdB D h
        · obtain rfl : D = d := by simpa using h
          exact ⟨hgd2, hm2⟩
      · rw [List.append_assoc]; exact Imp.tail X2 _
      · rw [List.append_assoc]; exact Imp.sub (List.Sublist.append (List.Sublist.refl _) (List.sublist_append_right _ _))
  | nil =>
  rw [List.length_nil] at hj
  rw [List.append_nil] at hLB
  subst hLB
  subst hL2
  have hgall : ∀ D ∈ S.D :: (S.A ++ S.B), Good (D.F.flat 0) ∧ (D.F.flat 0).length ≤ 300 := fun D h => by
    simp only [List.mem_cons, List.mem_append] at h
    rcases h with rfl | h | h
    · exact ⟨hgdD, hmD⟩
    · exact hgd D h
    · exact hgdB D h
  have hass : (Y ++ (Ys ++ (X ++ (Xs ++ XD)))) ++ H = Y ++ (Ys ++ (X ++ (Xs ++ (XD ++ H)))) := by simp only [List.append_assoc]
  have j1 : Imp (Y ++ (Ys ++ (X ++ (Xs ++ (XD ++ H))))) (X ++ H) := (Imp.tail Y _).trans ((Imp.tail Ys _).trans (Imp.sub (List.Sublist.append (List.Sublist.refl X) ((List.sublist_append_right XD H).trans (List.sublist_append_right Xs _)))))
  have j2 : Imp (Y ++ (Ys ++ (X ++ (Xs ++ (XD ++ H))))) (Xs ++ H) := (Imp.tail Y _).trans ((Imp.tail Ys _).trans ((Imp.tail X _).trans (Imp.sub (List.Sublist.append (List.Sublist.refl Xs) (List.sublist_append_right XD H)))))
  have j3 : Imp (Y ++ (Ys ++ (X ++ (Xs ++ (XD ++ H))))) (XD ++ H) := (Imp.tail Y _).trans ((Imp.tail Ys _).trans ((Imp.tail X _).trans (Imp.tail Xs _)))
  have j4 : Imp (Y ++ (Ys ++ (X ++ (Xs ++ (XD ++ H))))) (Y ++ H) := Imp.sub (List.Sublist.append (List.Sublist.refl Y) ((List.sublist_append_right XD H).trans ((List.sublist_append_right Xs _).trans ((List.sublist_append_right X _).trans (List.sublist_append_right Ys _)))))
  have j5 : Imp (Y ++ (Ys ++ (X ++ (Xs ++ (XD ++ H))))) (Ys ++ H) := (Imp.tail Y _).trans (Imp.sub (List.Sublist.append (List.Sublist.refl Ys) ((List.sublist_append_right XD H).trans ((List.sublist_append_right Xs _).trans (List.sublist_append_right X _)))))
  have cB' : CsR w0 B (Y ++ H) sb S.B.length 4 C3 := CsR.own (hoB H) hRlB.one
  repeat (first | refine go_ ?_ | refine bx_ (fun _ => ?_))
  rw [hT2]
  exact finCB rfl rfl .here rfl rfl (.inr ⟨.slice la (S.D.F.flat 0).length lc, .slice sa S.A.length sc, .slice sb S.B.length sd, Y ++ (Ys ++ (X ++ (Xs ++ XD))), rfl, Imp.refl _, by rw [hass]; exact ⟨hRlD.imp j3, ⟨sa, sc, C1, rfl, cA'.imp j1, rA2.imp j2⟩, ⟨sb, sd, C3, rfl, cB'.imp j4, hRlB.imp j5⟩⟩, hgall, by omega, by omega⟩) (by rw [hass]; exact Imp.drop (Imp.drop (Imp.drop (Imp.refl _))))
end
end Go.Proofs.Ytoobhebbgbhahaa
namespace Go.Proofs.Ytoobhebbgbhahaa
open Go.RowKit

def mapV (m : Nat → Int) : Value := .agg (tab 6 m).toArray
def Rt (m : Nat → Int) : Prop := (∀ i, i < 4 → -16777216 ≤ m i ∧ m i ≤ 16777216) ∧ (∀ i, i < 6 → 4 ≤ i → -68719476736 ≤ m i ∧ m i ≤ 68719476736)
instance (m : Nat → Int) : Decidable (Rt m) := by unfold Rt; exact inferInstance
def Sm (m : Nat → Int) : Prop := ∀ i, i < 6 → -9223372036854775808 ≤ m i ∧ m i ≤ 9223372036854775807
def near16 (n : Int) : Int := (n + 32768) / 2 ^ 16
def rndZ (n d : Int) : Int := if d < 0 then (-2 * n - d) / (-2 * d) else (2 * n + d) / (2 * d)
section
variable {w0 : World} {B : Nat} {H : List Ent}
set_option maxHeartbeats 4000000 in
theorem right_fn (m : Nat → Int) (hs : Sm m) : Fn Try.prog w0 B 82 [mapV m] H (fun v H' => v = .bool (decide (Rt m)) ∧ H' = H) := by
  refine Fn.mono (R := fun v H' => ((v = .bool true ∧ Rt m) ∨ (v = .bool false ∧ ¬ Rt m)) ∧ H' = H) ?_ (fun v H' ⟨h, e⟩ => ⟨by rcases h with ⟨h, k⟩ | ⟨h, k⟩ <;> simp [h, k], e⟩)
  unfold mapV
  refine fn_intro Try.func82 rfl (by kernel_rfl) rfl ?_
  repeat (first | refine go_ ?_ | refine bx_ (fun _ => ?_))
  rename_i g
  refine hc_loop (fun z fr M => ∃ k, k + z = 6 ∧ Agr fr [(6, .agg (tab 6 m).toArray), (7, .int .i64 (k : Int))] ∧ M = ⟨g, 25, tab 6 m, 6⟩ :: H ∧ ∀ i, i < k → (i < 4 → -16777216 ≤ m i ∧ m i ≤ 16777216) ∧ (4 ≤ i → -68719476736 ≤ m i ∧ m i ≤ 68719476736)) 6 ?_ ?_
  · exact ⟨0, by omega, ⟨rfl, rfl, trivial⟩, rfl, fun i hi => by omega⟩
  rintro z fr M ⟨k, hk, hf, rfl, hall⟩
  obtain ⟨base, rfl⟩ := hf.out
  clear hf
  by_cases hlt : k < 6
  · have hb := hs k hlt
    have hnext : (k < 4 → -16777216 ≤ m k ∧ m k ≤ 16777216) → (4 ≤ k → -68719476736 ≤ m k ∧ m k ≤ 68719476736) → ∀ i, i < k + 1 → (i < 4 → -16777216 ≤ m i ∧ m i ≤ 16777216) ∧ (4 ≤ i → -68719476736 ≤ m i ∧ m i ≤ 68719476736) := fun h1 h2 i hi => by
      by_cases e : i = k
      · subst e; exact ⟨h1, h2⟩
      · exact hall i (by omega)
    by_cases h4 : 4 ≤ k
    · by_cases h1 : m k < -68719476736
      · repeat (first | refine go_ ?_ | refine bx_ (fun _ => ?_))
        exact fin1B rfl rfl ⟨.inr ⟨rfl, fun h => by have := h.2 k hlt h4; omega⟩, rfl⟩
      by_cases h2 : 68719476736 < m k
      · repeat (first | refine go_ ?_ | refine bx_ (fun _ => ?_))
        exact fin1B rfl rfl ⟨.inr ⟨rfl, fun h => by have := h.2 k hlt h4; omega⟩, rfl⟩
      repeat (first | refine go_ ?_ | refine bx_ (fun _ => ?_))
      exact ⟨z - 1, by omega, k + 1, by omega, ⟨rfl, rfl, trivial⟩, rfl, hnext (fun h => by omega) (fun h => by omega)⟩
    · by_cases h1 : m k < -16777216
      · repeat (first | refine go_ ?_ | refine bx_ (fun _ => ?_))
        exact fin1B rfl rfl ⟨.inr ⟨rfl, fun h => by have := h.1 k (by omega); omega⟩, rfl⟩
      by_cases h2 : 16777216 < m k
      · repeat (first | refine go_ ?_ | refine bx_ (fun _ => ?_))
        exact fin1B rfl rfl ⟨.inr ⟨rfl, fun h => by have := h.1 k (by omega); omega⟩, rfl⟩
      repeat (first | refine go_ ?_ | refine bx_ (fun _ => ?_))
      exact ⟨z - 1, by omega, k + 1, by omega, ⟨rfl, rfl, trivial⟩, rfl, hnext (fun h => by omega) (fun h => by omega)⟩
  · repeat (first | refine go_ ?_ | refine bx_ (fun _ => ?_))
    exact fin1B rfl rfl ⟨.inl ⟨rfl, fun i hi => (hall i (by omega)).1 hi, fun i hi h => (hall i (by omega)).2 h⟩, rfl⟩
set_option maxHeartbeats 4000000 in
theorem rright_fn (m : Nat → Int) (hs : Sm m) : Fn Try.prog w0 B 95 [mapV m] H (fun v H' => v = .bool (decide (Rt m)) ∧ H' = H) := by
  refine Fn.mono (R := fun v H' => ((v = .bool true ∧ Rt m) ∨ (v = .bool false ∧ ¬ Rt m)) ∧ H' = H) ?_ (fun v H' ⟨h, e⟩ => ⟨by rcases h with ⟨h, k⟩ | ⟨h, k⟩ <;> simp [h, k], e⟩)
  unfold mapV
  refine fn_intro Try.func95 rfl (by kernel_rfl) rfl ?_
  repeat (first | refine go_ ?_ | refine bx_ (fun _ => ?_))
  rename_i g
  refine hc_loop (fun z fr M => ∃ k, k + z = 4 ∧ Agr fr [(1, .pointer (some ⟨g, 0, none⟩)), (3, .int .i64 (k : Int))] ∧ M = ⟨g, 37, tab 6 m, 6⟩ :: H ∧ ∀ i, i < k → -16777216 ≤ m i ∧ m i ≤ 16777216) 4 ?_ ?_
  · exact ⟨0, by omega, ⟨rfl, rfl, trivial⟩, rfl, fun i hi => by omega⟩
  rintro z fr M ⟨k, hk, hf, rfl, hall⟩
  obtain ⟨base, rfl⟩ := hf.out
  clear hf
  by_cases hlt : k < 4
  · by_cases h1 : m k < -16777216
    · repeat (first | refine go_ ?_ | refine bx_ (fun _ => ?_))
      exact fin1B rfl rfl ⟨.inr ⟨rfl, fun h => by have := h.1 k (by omega); omega⟩, rfl⟩
    by_cases h2 : 16777216 < m k
    · repeat (first | refine go_ ?_ | refine bx_ (fun _ => ?_))
      exact fin1B rfl rfl ⟨.inr ⟨rfl, fun h => by have := h.1 k (by omega); omega⟩, rfl⟩
    repeat (first | refine go_ ?_ | refine bx_ (fun _ => ?_))
    refine ⟨z - 1, by omega, k + 1, by omega, ⟨rfl, rfl, trivial⟩, rfl, fun i hi => ?_⟩
    by_cases e : i = k
    · subst e; omega
    · exact hall i (by omega)
  obtain rfl : k = 4 := by omega
  clear hlt hk
  repeat (first | refine go_ ?_ | refine bx_ (fun _ => ?_))
  refine hc_loop (fun z fr M => ∃ k, k + z = 6 ∧ 4 ≤ k ∧ Agr fr [(1, .pointer (some ⟨g, 0, none⟩)), (4, .int .i64 (k : Int))] ∧ M = ⟨g, 37, tab 6 m, 6⟩ :: H ∧ ∀ i, i < k → 4 ≤ i → -68719476736 ≤ m i ∧ m i ≤ 68719476736) 2 ?_ ?_
  · exact ⟨4, by omega, by omega, ⟨rfl, rfl, trivial⟩, rfl, fun i hi => by omega⟩
  clear base
  rintro z fr M ⟨k, hk, h4, hf, rfl, hall2⟩
  obtain ⟨base, rfl⟩ := hf.out
  clear hf
  by_cases hlt : k < 6
  · by_cases h1 : m k < -68719476736
    · repeat (first | refine go_ ?_ | refine bx_ (fun _ => ?_))
      exact fin1B rfl rfl ⟨.inr ⟨rfl, fun h => by have := h.2 k hlt h4; omega⟩, rfl⟩
    by_cases h2 : 68719476736 < m k
    · repeat (first | refine go_ ?_ | refine bx_ (fun _ => ?_))
      exact fin1B rfl rfl ⟨.inr ⟨rfl, fun h => by have := h.2 k hlt h4; omega⟩, rfl⟩
    repeat (first | refine go_ ?_ | refine bx_ (fun _ => ?_))
    refine ⟨z - 1, by omega, k + 1, by omega, by omega, ⟨rfl, rfl, trivial⟩, rfl, fun i hi hi2 => ?_⟩
    by_cases e : i = k
    · subst e; omega
    · exact hall2 i (by omega) hi2
  · repeat (first | refine go_ ?_ | refine bx_ (fun _ => ?_))
    exact fin1B rfl rfl ⟨.inl ⟨rfl, hall, fun i hi h => hall2 i (by omega) h⟩, rfl⟩
theorem tdiv_floor (n m : Int) (hm : 0 < m) : n.tdiv m = if 0 ≤ n ∨ n % m = 0 then n / m else n / m + 1 := by
  rw [Int.tdiv_eq_ediv]
  have hd : m ∣ n ↔ n % m = 0 := Int.dvd_iff_emod_eq_zero ..
  simp only [hd]
  have hs : m.sign = 1 := Int.sign_eq_one_of_pos hm
  rw [hs]
  split <;> omega
theorem tmod_zero (n m : Int) : n.tmod m = 0 ↔ n % m = 0 := by rw [← Int.dvd_iff_emod_eq_zero, Int.dvd_iff_tmod_eq_zero]
def Big (n : Int) : Prop := -4611686018427387904 ≤ n ∧ n ≤ 4611686018427387904
theorem ediv_big {n m : Int} (hn : Big n) (hm : 0 < m) : Big (n / m) := by
  unfold Big at *
  constructor
  · rw [Int.le_ediv_iff_mul_le hm]
    have : (-4611686018427387904 : Int) * m ≤ -4611686018427387904 * 1 := Int.mul_le_mul_of_nonpos_left (by omega) (by omega)
    omega
  · refine Int.ediv_le_of_le_mul hm ?_
    have : (4611686018427387904 : Int) * 1 ≤ 4611686018427387904 * m := Int.mul_le_mul_of_nonneg_left (by omega) (by omega)
    omega
theorem floor_fn (n m : Int) (hn : Big n) (hm : 0 < m ∧ m ≤ 1152921504606846976) : Fn Try.prog w0 B 94 [.int .i64 n, .int .i64 m] H (fun v H' => v = .int .i64 (n / m) ∧ H' = H) := by
  refine fn_intro Try.func94 rfl (by kernel_rfl) rfl ?_
  have ht := tdiv_floor n m hm.1
  have hz := tmod_zero n m
  have hb := ediv_big hn hm.1
  unfold Big at hn hb
  by_cases h0 : 0 ≤ n
  · by_cases h1 : n % m = 0
    · repeat (first | refine go_ ?_ | refine bx_ (fun _ => ?_))
      exact fin1I rfl rfl ⟨rfl, rfl⟩
    · repeat (first | refine go_ ?_ | refine bx_ (fun _ => ?_))
      exact fin1I rfl rfl ⟨rfl, rfl⟩
  · by_cases h1 : n % m = 0
    · rw [if_pos (.inr h1)] at ht
      have h2 := hz.2 h1
      have hw : IntKind.i64.wrap (n / m) = n / m := IntWalk.i64_in _ (by omega)
      repeat (first | rw [ht, hw] | rw [h2] | refine go1_ ?_ | refine bx_ (fun _ => ?_))
      exact fin1I rfl rfl ⟨rfl, rfl⟩
    · rw [if_neg (by omega)] at ht
      have h2 : ¬ n.tmod m = 0 := fun h => h1 (hz.1 h)
      have hw : IntKind.i64.wrap (n / m + 1) = n / m + 1 := IntWalk.i64_in _ (by omega)
      repeat (first | rw [ht, hw] | refine go1_ ?_ | refine bx_ (fun _ => ?_))
      exact fin1I rfl rfl ⟨by rw [show n / m + 1 - 1 = n / m by omega], rfl⟩
theorem down_fn (n m : Int) (hn : Big n) (hm : 0 < m ∧ m ≤ 1152921504606846976) : Fn Try.prog w0 B 100 [.int .i64 n, .int .i64 m] H (fun v H' => v = .int .i64 (n / m) ∧ H' = H) := by
  refine fn_intro Try.func100 rfl (by kernel_rfl) rfl ?_
  have h1 := Int.emod_nonneg n (show m ≠ 0 by omega)
  have h2 := Int.emod_lt_of_pos n hm.1
  have h3 := Int.mul_ediv_add_emod n m
  have hb := ediv_big hn hm.1
  unfold Big at hn hb
  have ht : n.tmod m = if 0 ≤ n ∨ n % m = 0 then n % m else n % m - m := by
    rw [Int.tmod_eq_emod]
    have hd : m ∣ n ↔ n % m = 0 := Int.dvd_iff_emod_eq_zero ..
    simp only [hd]
    split <;> omega
  have hq : n - n % m = m * (n / m) := by omega
  have htd : (n - n % m).tdiv m = n / m := by rw [hq, Int.mul_tdiv_cancel_left _ (by omega)]
  have hw : IntKind.i64.wrap (n / m) = n / m := IntWalk.i64_in _ (by omega)
  have hde : (n - n % m) / m = n / m := by rw [hq, Int.mul_ediv_cancel_left _ (by omega)]
  by_cases hc : 0 ≤ n ∨ n % m = 0
  · rw [if_pos hc] at ht
    repeat (first | rw [ht] | rw [htd, hw] | rw [hde] | refine go1_ ?_ | refine bx_ (fun _ => ?_))
    exact fin1I rfl rfl ⟨rfl, rfl⟩
  · rw [if_neg hc] at ht
    repeat (first | rw [ht] | rw [htd, hw] | rw [hde] | rw [show n % m - m + m = n % m by omega] | refine go1_ ?_ | refine bx_ (fun _ => ?_))
    exact fin1I rfl rfl ⟨rfl, rfl⟩
def Mid (n : Int) : Prop := -144115188075855872 ≤ n ∧ n ≤ 144115188075855872
theorem round_fn (n d : Int) (hn : Mid n) (hd : Mid d) (h0 : d ≠ 0) : Fn Try.prog w0 B 83 [.int .i64 n, .int .i64 d] H (fun v H' => v = .int .i64 (rndZ n d) ∧ H' = H) := by
  refine fn_intro Try.func83 rfl (by kernel_rfl) rfl ?_
  unfold Mid at hn hd
  by_cases h1 : d < 0
  · repeat (first | refine go_ ?_ | refine bx_ (fun _ => ?_) | refine hl_callv rfl rfl (floor_fn _ _ (by unfold Big; omega) (by omega)) ?_)
    exact fin1I rfl rfl ⟨by unfold rndZ; rw [if_pos h1, show -2 * n - d = 2 * -n + -d by omega, show -2 * d = 2 * -d by omega], rfl⟩
  · repeat (first | refine go_ ?_ | refine bx_ (fun _ => ?_) | refine hl_callv rfl rfl (floor_fn _ _ (by unfold Big; omega) (by omega)) ?_)
    exact fin1I rfl rfl ⟨by unfold rndZ; rw [if_neg h1], rfl⟩
theorem rround_fn (n d : Int) (hn : Mid n) (hd : Mid d) (h0 : d ≠ 0) : Fn Try.prog w0 B 96 [.int .i64 n, .int .i64 d] H (fun v H' => v = .int .i64 (rndZ n d) ∧ H' = H) := by
  refine fn_intro Try.func96 rfl (by kernel_rfl) rfl ?_
  unfold Mid at hn hd
  by_cases h1 : d < 0
  · repeat (first | refine go_ ?_ | refine bx_ (fun _ => ?_) | refine hl_callv rfl rfl (down_fn _ _ (by unfold Big; omega) (by omega)) ?_)
    exact fin1I rfl rfl ⟨by unfold rndZ; rw [if_pos h1], rfl⟩
  · repeat (first | refine go_ ?_ | refine bx_ (fun _ => ?_) | refine hl_callv rfl rfl (down_fn _ _ (by unfold Big; omega) (by omega)) ?_)
    exact fin1I rfl rfl ⟨by unfold rndZ; rw [if_neg h1], rfl⟩
def Near (n : Int) : Prop := -2323857407723175936 ≤ n ∧ n ≤ 2323857407723175936
theorem near_fn (n : Int) (hn : Near n) : Fn Try.prog w0 B 84 [.int .i64 n] H (fun v H' => v = .int .i64 (near16 n) ∧ H' = H) := by
  refine fn_intro Try.func84 rfl (by kernel_rfl) rfl ?_
  unfold Near at hn
  repeat (first | refine go_ ?_ | refine bx_ (fun _ => ?_))
  exact fin1I rfl rfl ⟨rfl, rfl⟩
theorem rnear_fn (n : Int) (hn : Near n) : Fn Try.prog w0 B 97 [.int .i64 n] H (fun v H' => v = .int .i64 (near16 n) ∧ H' = H) := by
  refine fn_intro Try.func97 rfl (by kernel_rfl) rfl ?_
  unfold Near at hn
  repeat (first | refine go_ ?_ | refine bx_ (fun _ => ?_) | refine hl_callv rfl rfl (down_fn _ _ (by unfold Big; omega) (by omega)) ?_)
  exact fin1I rfl rfl ⟨rfl, rfl⟩
theorem rightY (m : Nat → Int) (hs : Sm m) (h : Rt m) : Fn Try.prog w0 B 82 [mapV m] H (fun v H' => v = .bool true ∧ H' = H) := by
  have := right_fn (w0 := w0) (B := B) (H := H) m hs
  rwa [decide_eq_true h] at this
theorem rightN (m : Nat → Int) (hs : Sm m) (h : ¬ Rt m) : Fn Try.prog w0 B 82 [mapV m] H (fun v H' => v = .bool false ∧ H' = H) := by
  have := right_fn (w0 := w0) (B := B) (H := H) m hs
  rwa [decide_eq_false h] at this
theorem rrightY (m : Nat → Int) (hs : Sm m) (h : Rt m) : Fn Try.prog w0 B 95 [mapV m] H (fun v H' => v = .bool true ∧ H' = H) := by
  have := rright_fn (w0 := w0) (B := B) (H := H) m hs
  rwa [decide_eq_true h] at this
theorem rrightN (m : Nat → Int) (hs : Sm m) (h : ¬ Rt m) : Fn Try.prog w0 B 95 [mapV m] H (fun v H' => v = .bool false ∧ H' = H) := by
  have := rright_fn (w0 := w0) (B := B) (H := H) m hs
  rwa [decide_eq_false h] at this
end
end Go.Proofs.Ytoobhebbgbhahaa
namespace Go.Proofs.Ytoobhebbgbhahaa
open Go.RowKit

def L6 (a b c d e f : Int) (k : Nat) : Int := [a, b, c, d, e, f].getD k 0
def Z6 : Nat → Int := fun _ => 0
def det (m : Nat → Int) : Int := m 0 * m 3 - m 1 * m 2
def four (m : Nat → Int) : Nat → Int := L6 (rndZ (m 3 * 4294967296) (det m)) (rndZ (-m 1 * 4294967296) (det m)) (rndZ (-m 2 * 4294967296) (det m)) (rndZ (m 0 * 4294967296) (det m)) 0 0
def backZ (m : Nat → Int) : Nat → Int :=
  L6 (four m 0) (four m 1) (four m 2) (four m 3) (near16 (-(four m 0 * m 4 + four m 1 * m 5))) (near16 (-(four m 2 * m 4 + four m 3 * m 5)))
def backR (m : Nat → Int) : (Nat → Int) × Int :=
  if Rt m then (if det m = 0 then (Z6, 33) else if Rt (four m) then (if Rt (backZ m) then (backZ m, 0) else (Z6, 33)) else (Z6, 33)) else (Z6, 31)
def timesZ (m n : Nat → Int) : Nat → Int :=
  L6 (near16 (m 0 * n 0 + m 1 * n 2)) (near16 (m 0 * n 1 + m 1 * n 3)) (near16 (m 2 * n 0 + m 3 * n 2)) (near16 (m 2 * n 1 + m 3 * n 3)) (near16 (m 0 * n 4 + m 1 * n 5) + m 4) (near16 (m 2 * n 4 + m 3 * n 5) + m 5)
def timesR (m n : Nat → Int) : (Nat → Int) × Int := if Rt m ∧ Rt n then (if Rt (timesZ m n) then (timesZ m n, 0) else (Z6, 31)) else (Z6, 31)
theorem L6_sm {a b c d e f : Int} (ha : Big a) (hb : Big b) (hc : Big c) (hd : Big d) (he : Big e) (hf : Big f) : Sm (L6 a b c d e f) := fun i hi => by
  unfold Big at *
  match i, hi with
  | 0, _ => show -9223372036854775808 ≤ a ∧ a ≤ 9223372036854775807; omega
  | 1, _ => show -9223372036854775808 ≤ b ∧ b ≤ 9223372036854775807; omega
  | 2, _ => show -9223372036854775808 ≤ c ∧ c ≤ 9223372036854775807; omega
  | 3, _ => show -9223372036854775808 ≤ d ∧ d ≤ 9223372036854775807; omega
  | 4, _ => show -9223372036854775808 ≤ e ∧ e ≤ 9223372036854775807; omega
  | 5, _ => show -9223372036854775808 ≤ f ∧ f ≤ 9223372036854775807; omega
theorem rnd_big {n d : Int} (hn : Mid n) (hd : Mid d) (h0 : d ≠ 0) : Big (rndZ n d) := by
  unfold rndZ
  unfold Mid at hn hd
  split
  · exact ediv_big (by unfold Big; omega) (by omega)
  · exact ediv_big (by unfold Big; omega) (by omega)
section
variable {w0 : World} {B : Nat} {H : List Ent}
theorem lit6 (a b c d e f : Int) : [Value.int .i64 a, .int .i64 b, .int .i64 c, .int .i64 d, .int .i64 e, .int .i64 f] = tab 6 (L6 a b c d e f) := rfl
set_option maxHeartbeats 8000000 in
set_option maxRecDepth 100000 in
theorem back_fn (m : Nat → Int) (hs : Sm m) : Fn Try.prog w0 B 71 [mapV m] H (fun v H' => v = .tuple #[mapV (backR m).1, .int .i64 (backR m).2] ∧ H' = H) := by
  refine fn_intro Try.func71 rfl (by kernel_rfl) rfl ?_
  unfold mapV
  unfold backR
  by_cases h1 : ¬ Rt m
  · rw [if_neg h1]
    repeat (first | refine go_ ?_ | refine bx_ (fun _ => ?_) | refine hl_callv rfl rfl (rightN m hs h1) ?_)
    exact finCI rfl rfl .here rfl rfl ⟨rfl, rfl⟩
  replace h1 := Classical.not_not.1 h1
  rw [if_pos h1]
  have b0 := h1.1 0 (by omega)
  have b1 := h1.1 1 (by omega)
  have b2 := h1.1 2 (by omega)
  have b3 := h1.1 3 (by omega)
  have b4 := h1.2 4 (by omega) (by omega)
  have b5 := h1.2 5 (by omega) (by omega)
  have p1 := mul_bd b0 b3
  have p2 := mul_bd b1 b2
  have hdm : Mid (det m) := by unfold Mid det; omega
  have hde : m 0 * m 3 - m 1 * m 2 = det m := rfl
  by_cases h2 : det m = 0
  · rw [if_pos h2]
    repeat (first | rw [hde] | refine go1_ ?_ | refine bx_ (fun _ => ?_) | refine hl_callv rfl rfl (rightY m hs h1) ?_)
    exact finCI rfl rfl .here rfl rfl ⟨rfl, rfl⟩
  rw [if_neg h2]
  have q0 := rnd_big (n := m 3 * 4294967296) (by unfold Mid; omega) hdm h2
  have q1 := rnd_big (n := -m 1 * 4294967296) (by unfold Mid; omega) hdm h2
  have q2 := rnd_big (n := -m 2 * 4294967296) (by unfold Mid; omega) hdm h2
  have q3 := rnd_big (n := m 0 * 4294967296) (by unfold Mid; omega) hdm h2
  have z0 : Big 0 := by unfold Big; omega
  have hs4 : Sm (four m) := L6_sm q0 q1 q2 q3 z0 z0
  repeat (first | rw [hde] | refine go1_ ?_ | refine bx_ (fun _ => ?_) | refine hl_callv rfl rfl (rightY m hs h1) ?_)
  rename_i g1 g2
  refine hc_meet (fun fr M => ∃ g5, Agr fr [(1, .pointer (some ⟨g1, 0, none⟩)), (2, .pointer (some ⟨g2, 0, none⟩)), (5, .pointer (some ⟨g5, 0, none⟩))] ∧ M = ⟨g5, 25, tab 6 (four m), 6⟩ :: ⟨g2, 25, tab 6 Z6, 6⟩ :: ⟨g1, 25, tab 6 m, 6⟩ :: H) ?_ ?_
  · refine hc_drawA (⟨g1, 25, tab 6 m, 6⟩ :: H) (by kernel_rfl) ?_
    refine ha_quiet [0, 1, 2, 3, 4, 5, 6, 7, 8, 9, 10, 11, 12, 13, 14, 15, 16, 17, 18, 19, 20, 21, 22] (by rfl) (by kernel_rfl) ?_
    repeat (first | rw [show (2 : Int) ^ 32 = 4294967296 from rfl] | refine gd1_ ?_ | refine hq_call rfl rfl (fun H _ => round_fn _ _ (by unfold Mid; omega) hdm h2) ?_)
    refine ha_fork1 23 (by rfl) (by kernel_rfl) (by rfl) (by first | exact Imp.refl _ | exact Imp.drop (Imp.refl _) | exact Imp.drop (Imp.drop (Imp.refl _)) | exact Imp.drop (Imp.drop (Imp.drop (Imp.refl _))) | exact Imp.drop (Imp.drop (Imp.drop (Imp.drop (Imp.refl _)))) | exact Imp.drop (Imp.drop (Imp.drop (Imp.drop (Imp.drop (Imp.refl _))))) | exact Imp.drop (Imp.drop (Imp.drop (Imp.drop (Imp.drop (Imp.drop (Imp.refl _)))))) | exact Imp.drop (Imp.drop (Imp.drop (Imp.drop (Imp.drop (Imp.drop (Imp.drop (Imp.refl _))))))) | exact Imp.drop (Imp.drop (Imp.drop (Imp.drop (Imp.drop (Imp.drop (Imp.drop (Imp.drop (Imp.refl _)))))))) | assumption | exact Imp.drop (by assumption) | exact Imp.drop (Imp.drop (by assumption)) | exact imp_nil _ | exact Imp.drop2 (Imp.refl _) | exact Imp.drop2 (Imp.drop2 (Imp.refl _)) | exact Imp.drop (Imp.drop2 (Imp.refl _))) ?_
    · skip
      repeat (first | refine op_ ?_ | refine bx_ (fun _ => ?_))
      refine ha_fork1 24 (by rfl) (by kernel_rfl) (by rfl) (by first | exact Imp.refl _ | exact Imp.drop (Imp.refl _) | exact Imp.drop (Imp.drop (Imp.refl _)) | exact Imp.drop (Imp.drop (Imp.drop (Imp.refl _))) | exact Imp.drop (Imp.drop (Imp.drop (Imp.drop (Imp.refl _)))) | exact Imp.drop (Imp.drop (Imp.drop (Imp.drop (Imp.drop (Imp.refl _))))) | exact Imp.drop (Imp.drop (Imp.drop (Imp.drop (Imp.drop (Imp.drop (Imp.refl _)))))) | exact Imp.drop (Imp.drop (Imp.drop (Imp.drop (Imp.drop (Imp.drop (Imp.drop (Imp.refl _))))))) | exact Imp.drop (Imp.drop (Imp.drop (Imp.drop (Imp.drop (Imp.drop (Imp.drop (Imp.drop (Imp.refl _)))))))) | assumption | exact Imp.drop (by assumption) | exact Imp.drop (Imp.drop (by assumption)) | exact imp_nil _ | exact Imp.drop2 (Imp.refl _) | exact Imp.drop2 (Imp.drop2 (Imp.refl _)) | exact Imp.drop (Imp.drop2 (Imp.refl _))) ?_
      · skip
        repeat (first | refine op_ ?_ | refine bx_ (fun _ => ?_))
        refine ha_end (by rfl) (by kernel_rfl) (by first | exact Imp.refl _ | exact Imp.drop (Imp.refl _) | exact Imp.drop (Imp.drop (Imp.refl _)) | exact Imp.drop (Imp.drop (Imp.drop (Imp.refl _))) | exact Imp.drop (Imp.drop (Imp.drop (Imp.drop (Imp.refl _)))) | exact Imp.drop (Imp.drop (Imp.drop (Imp.drop (Imp.drop (Imp.refl _))))) | exact Imp.drop (Imp.drop (Imp.drop (Imp.drop (Imp.drop (Imp.drop (Imp.refl _)))))) | exact Imp.drop (Imp.drop (Imp.drop (Imp.drop (Imp.drop (Imp.drop (Imp.drop (Imp.refl _))))))) | exact Imp.drop (Imp.drop (Imp.drop (Imp.drop (Imp.drop (Imp.drop (Imp.drop (Imp.drop (Imp.refl _)))))))) | assumption | exact Imp.drop (by assumption) | exact Imp.drop (Imp.drop (by assumption)) | exact imp_nil _ | exact Imp.drop2 (Imp.refl _) | exact Imp.drop2 (Imp.drop2 (Imp.refl _)) | exact Imp.drop (Imp.drop2 (Imp.refl _))) ?_
        exact ⟨_, ⟨rfl, rfl, rfl, trivial⟩, rfl⟩
  rintro fr M ⟨g5, hf, rfl⟩
  obtain ⟨base, rfl⟩ := hf.out
  clear hf
  by_cases h3 : ¬ Rt (four m)
  · rw [if_neg h3]
    repeat (first | refine go_ ?_ | refine bx_ (fun _ => ?_) | refine hl_callv rfl rfl (rightN (four m) hs4 h3) ?_)
    exact finCI rfl rfl .here rfl rfl ⟨rfl, rfl⟩
  replace h3 := Classical.not_not.1 h3
  rw [if_pos h3]
  have c0 := h3.1 0 (by omega)
  have c1 := h3.1 1 (by omega)
  have c2 := h3.1 2 (by omega)
  have c3 := h3.1 3 (by omega)
  have r1 := mul_bd c0 b4
  have r2 := mul_bd c1 b5
  have r3 := mul_bd c2 b4
  have r4 := mul_bd c3 b5
  have hz4 : four m 4 = 0 := rfl
  have hz5 : four m 5 = 0 := rfl
  have hsb : Sm (backZ m) := L6_sm (by unfold Big; omega) (by unfold Big; omega) (by unfold Big; omega) (by unfold Big; omega) (by unfold Big near16; omega) (by unfold Big near16; omega)
  have s1 : ((tab 6 (four m)).set 4 (.int .i64 (near16 (-(four m 0 * m 4 + four m 1 * m 5))))).set 5 (.int .i64 (near16 (-(four m 2 * m 4 + four m 3 * m 5)))) = tab 6 (backZ m) := rfl
  have v2 : ((tab 6 (four m)).set 4 (.int .i64 (near16 (-(four m 0 * m 4 + four m 1 * m 5)))))[2]? = some (.int .i64 (four m 2)) := rfl
  have v3 : ((tab 6 (four m)).set 4 (.int .i64 (near16 (-(four m 0 * m 4 + four m 1 * m 5)))))[3]? = some (.int .i64 (four m 3)) := rfl
  by_cases h4 : Rt (backZ m)
  · rw [if_pos h4]
    repeat (first | rw [s1] | refine go1_ ?_ | refine bx_ (fun _ => ?_) | refine hl_callv rfl rfl (rightY (four m) hs4 h3) ?_ | refine hl_callv rfl rfl (near_fn _ (by unfold Near; omega)) ?_ | refine hl_callv rfl rfl (rightY (backZ m) hsb h4) ?_)
    exact finCI rfl rfl .here rfl rfl ⟨rfl, rfl⟩
  · rw [if_neg h4]
    repeat (first | rw [s1] | refine go1_ ?_ | refine bx_ (fun _ => ?_) | refine hl_callv rfl rfl (rightY (four m) hs4 h3) ?_ | refine hl_callv rfl rfl (near_fn _ (by unfold Near; omega)) ?_ | refine hl_callv rfl rfl (rightN (backZ m) hsb h4) ?_)
    exact finCI rfl rfl .here rfl rfl ⟨rfl, rfl⟩
set_option maxHeartbeats 8000000 in
set_option maxRecDepth 100000 in
theorem rback_fn (m : Nat → Int) (hs : Sm m) : Fn Try.prog w0 B 89 [mapV m] H (fun v H' => v = .tuple #[mapV (backR m).1, .int .i64 (backR m).2] ∧ H' = H) := by
  refine fn_intro Try.func89 rfl (by kernel_rfl) rfl ?_
  unfold mapV
  unfold backR
  by_cases h1 : ¬ Rt m
  · rw [if_neg h1]
    repeat (first | refine go_ ?_ | refine bx_ (fun _ => ?_) | refine hl_callv rfl rfl (rrightN m hs h1) ?_)
    exact finCI rfl rfl .here rfl rfl ⟨rfl, rfl⟩
  replace h1 := Classical.not_not.1 h1
  rw [if_pos h1]
  have b0 := h1.1 0 (by omega)
  have b1 := h1.1 1 (by omega)
  have b2 := h1.1 2 (by omega)
  have b3 := h1.1 3 (by omega)
  have b4 := h1.2 4 (by omega) (by omega)
  have b5 := h1.2 5 (by omega) (by omega)
  have p1 := mul_bd b0 b3
  have p2 := mul_bd b1 b2
  have hdm : Mid (det m) := by unfold Mid det; omega
  have hde : m 0 * m 3 - m 1 * m 2 = det m := rfl
  by_cases h2 : det m = 0
  · rw [if_pos h2]
    repeat (first | rw [hde] | refine go1_ ?_ | refine bx_ (fun _ => ?_) | refine hl_callv rfl rfl (rrightY m hs h1) ?_)
    exact finCI rfl rfl .here rfl rfl ⟨rfl, rfl⟩
  rw [if_neg h2]
  have q0 := rnd_big (n := m 3 * 4294967296) (by unfold Mid; omega) hdm h2
  have q1 := rnd_big (n := -m 1 * 4294967296) (by unfold Mid; omega) hdm h2
  have q2 := rnd_big (n := -m 2 * 4294967296) (by unfold Mid; omega) hdm h2
  have q3 := rnd_big (n := m 0 * 4294967296) (by unfold Mid; omega) hdm h2
  have z0 : Big 0 := by unfold Big; omega
  have hs4 : Sm (four m) := L6_sm q0 q1 q2 q3 z0 z0
  repeat (first | rw [hde] | refine go1_ ?_ | refine bx_ (fun _ => ?_) | refine hl_callv rfl rfl (rrightY m hs h1) ?_)
  rename_i g1 g2
  refine hc_meet (fun fr M => ∃ g5, Agr fr [(1, .pointer (some ⟨g1, 0, none⟩)), (2, .pointer (some ⟨g2, 0, none⟩)), (6, .pointer (some ⟨g5, 0, none⟩))] ∧ M = ⟨g5, 37, tab 6 (four m), 6⟩ :: ⟨g2, 37, tab 6 Z6, 6⟩ :: ⟨g1, 37, tab 6 m, 6⟩ :: H) ?_ ?_
  · refine hc_drawA (⟨g1, 37, tab 6 m, 6⟩ :: H) (by kernel_rfl) ?_
    refine ha_quiet [0, 1, 2, 3, 4, 5, 6, 7, 8, 9, 10, 11, 12, 13, 14, 15, 16, 17, 18, 19, 20, 21, 22, 23, 24, 25, 26] (by rfl) (by kernel_rfl) ?_
    repeat (first | refine gd_ ?_ | refine hq_call rfl rfl (fun H _ => rround_fn _ _ (by unfold Mid; omega) hdm h2) ?_)
    refine ha_fork1 27 (by rfl) (by kernel_rfl) (by rfl) (by first | exact Imp.refl _ | exact Imp.drop (Imp.refl _) | exact Imp.drop (Imp.drop (Imp.refl _)) | exact Imp.drop (Imp.drop (Imp.drop (Imp.refl _))) | exact Imp.drop (Imp.drop (Imp.drop (Imp.drop (Imp.refl _)))) | exact Imp.drop (Imp.drop (Imp.drop (Imp.drop (Imp.drop (Imp.refl _))))) | exact Imp.drop (Imp.drop (Imp.drop (Imp.drop (Imp.drop (Imp.drop (Imp.refl _)))))) | exact Imp.drop (Imp.drop (Imp.drop (Imp.drop (Imp.drop (Imp.drop (Imp.drop (Imp.refl _))))))) | exact Imp.drop (Imp.drop (Imp.drop (Imp.drop (Imp.drop (Imp.drop (Imp.drop (Imp.drop (Imp.refl _)))))))) | assumption | exact Imp.drop (by assumption) | exact Imp.drop (Imp.drop (by assumption)) | exact imp_nil _ | exact Imp.drop2 (Imp.refl _) | exact Imp.drop2 (Imp.drop2 (Imp.refl _)) | exact Imp.drop (Imp.drop2 (Imp.refl _))) ?_
    · skip
      repeat (first | refine op_ ?_ | refine bx_ (fun _ => ?_))
      refine ha_fork1 28 (by rfl) (by kernel_rfl) (by rfl) (by first | exact Imp.refl _ | exact Imp.drop (Imp.refl _) | exact Imp.drop (Imp.drop (Imp.refl _)) | exact Imp.drop (Imp.drop (Imp.drop (Imp.refl _))) | exact Imp.drop (Imp.drop (Imp.drop (Imp.drop (Imp.refl _)))) | exact Imp.drop (Imp.drop (Imp.drop (Imp.drop (Imp.drop (Imp.refl _))))) | exact Imp.drop (Imp.drop (Imp.drop (Imp.drop (Imp.drop (Imp.drop (Imp.refl _)))))) | exact Imp.drop (Imp.drop (Imp.drop (Imp.drop (Imp.drop (Imp.drop (Imp.drop (Imp.refl _))))))) | exact Imp.drop (Imp.drop (Imp.drop (Imp.drop (Imp.drop (Imp.drop (Imp.drop (Imp.drop (Imp.refl _)))))))) | assumption | exact Imp.drop (by assumption) | exact Imp.drop (Imp.drop (by assumption)) | exact imp_nil _ | exact Imp.drop2 (Imp.refl _) | exact Imp.drop2 (Imp.drop2 (Imp.refl _)) | exact Imp.drop (Imp.drop2 (Imp.refl _))) ?_
      · skip
        repeat (first | refine op_ ?_ | refine bx_ (fun _ => ?_))
        refine ha_end (by rfl) (by kernel_rfl) (by first | exact Imp.refl _ | exact Imp.drop (Imp.refl _) | exact Imp.drop (Imp.drop (Imp.refl _)) | exact Imp.drop (Imp.drop (Imp.drop (Imp.refl _))) | exact Imp.drop (Imp.drop (Imp.drop (Imp.drop (Imp.refl _)))) | exact Imp.drop (Imp.drop (Imp.drop (Imp.drop (Imp.drop (Imp.refl _))))) | exact Imp.drop (Imp.drop (Imp.drop (Imp.drop (Imp.drop (Imp.drop (Imp.refl _)))))) | exact Imp.drop (Imp.drop (Imp.drop (Imp.drop (Imp.drop (Imp.drop (Imp.drop (Imp.refl _))))))) | exact Imp.drop (Imp.drop (Imp.drop (Imp.drop (Imp.drop (Imp.drop (Imp.drop (Imp.drop (Imp.refl _)))))))) | assumption | exact Imp.drop (by assumption) | exact Imp.drop (Imp.drop (by assumption)) | exact imp_nil _ | exact Imp.drop2 (Imp.refl _) | exact Imp.drop2 (Imp.drop2 (Imp.refl _)) | exact Imp.drop (Imp.drop2 (Imp.refl _))) ?_
        exact ⟨_, ⟨rfl, rfl, rfl, trivial⟩, rfl⟩
  rintro fr M ⟨g5, hf, rfl⟩
  obtain ⟨base, rfl⟩ := hf.out
  clear hf
  by_cases h3 : ¬ Rt (four m)
  · rw [if_neg h3]
    repeat (first | refine go_ ?_ | refine bx_ (fun _ => ?_) | refine hl_callv rfl rfl (rrightN (four m) hs4 h3) ?_)
    exact finCI rfl rfl .here rfl rfl ⟨rfl, rfl⟩
  replace h3 := Classical.not_not.1 h3
  rw [if_pos h3]
  have c0 := h3.1 0 (by omega)
  have c1 := h3.1 1 (by omega)
  have c2 := h3.1 2 (by omega)
  have c3 := h3.1 3 (by omega)
  have r1 := mul_bd c0 b4
  have r2 := mul_bd c1 b5
  have r3 := mul_bd c2 b4
  have r4 := mul_bd c3 b5
  have hz4 : four m 4 = 0 := rfl
  have hz5 : four m 5 = 0 := rfl
  have hsb : Sm (backZ m) := L6_sm (by unfold Big; omega) (by unfold Big; omega) (by unfold Big; omega) (by unfold Big; omega) (by unfold Big near16; omega) (by unfold Big near16; omega)
  have s1 : ((tab 6 (four m)).set 4 (.int .i64 (near16 (-(four m 0 * m 4 + four m 1 * m 5))))).set 5 (.int .i64 (near16 (-(four m 2 * m 4 + four m 3 * m 5)))) = tab 6 (backZ m) := rfl
  have v2 : ((tab 6 (four m)).set 4 (.int .i64 (near16 (-(four m 0 * m 4 + four m 1 * m 5)))))[2]? = some (.int .i64 (four m 2)) := rfl
  have v3 : ((tab 6 (four m)).set 4 (.int .i64 (near16 (-(four m 0 * m 4 + four m 1 * m 5)))))[3]? = some (.int .i64 (four m 3)) := rfl
  by_cases h4 : Rt (backZ m)
  · rw [if_pos h4]
    repeat (first | rw [s1] | refine go1_ ?_ | refine bx_ (fun _ => ?_) | refine hl_callv rfl rfl (rrightY (four m) hs4 h3) ?_ | refine hl_callv rfl rfl (rnear_fn _ (by unfold Near; omega)) ?_ | refine hl_callv rfl rfl (rrightY (backZ m) hsb h4) ?_)
    exact finCI rfl rfl .here rfl rfl ⟨rfl, rfl⟩
  · rw [if_neg h4]
    repeat (first | rw [s1] | refine go1_ ?_ | refine bx_ (fun _ => ?_) | refine hl_callv rfl rfl (rrightY (four m) hs4 h3) ?_ | refine hl_callv rfl rfl (rnear_fn _ (by unfold Near; omega)) ?_ | refine hl_callv rfl rfl (rrightN (backZ m) hsb h4) ?_)
    exact finCI rfl rfl .here rfl rfl ⟨rfl, rfl⟩
theorem one_fn : Fn Try.prog w0 B 70 [] H (fun v H' => v = mapV (L6 65536 0 0 65536 0 0) ∧ H' = H) := by
  refine fn_intro Try.func70 rfl (by kernel_rfl) rfl ?_
  repeat (first | refine go_ ?_ | refine bx_ (fun _ => ?_))
  exact finC rfl rfl .here rfl ⟨rfl, rfl⟩
end
end Go.Proofs.Ytoobhebbgbhahaa
namespace Go.Proofs.Ytoobhebbgbhahaa
open Go.RowKit

section
variable {c : Cx} {Q : Pst} {fr : Fr} {H F : List Ent} {ops : Array Oper} {rest : List Oper} {dst : Option Nat} {ty : TypeId} {pos : String} {after : Array Edge}
variable {x : Operand} {S : List Oper → Fr → List Ent → Prop}
theorem hl_makeFunc {f : FuncId} {xs : List Operand} {caps : List Value} [Stp c ops S] (hxs : evs fr xs = caps) (hd : dOk c.n dst = true) (h : S rest (updO fr dst (.func (.func f) #[] caps.toArray)) H) :
    S (⟨dst, .makeFunc (.func f) #[] xs.toArray, ty, pos, after, none⟩ :: rest) fr H :=
  hl_pure hd (.func (.func f) #[] caps.toArray) (fun w _ => by
    subst hxs
    simp [execOp, Instr.makeFunc, evs_eq]) h
theorem hl_moveF {f : _root_.Go.Fn} {l l2 : Array Value} [Stp c ops S] (hx : ev fr x = .func f l l2) (hd : dOk c.n dst = true) (k : S rest (updO fr dst (.func f l l2)) H) : S (⟨dst, .move x, ty, pos, after, none⟩ :: rest) fr H := hl_move hx hd k
theorem hl_assignF {f : _root_.Go.Fn} {l l2 : Array Value} [Stp c ops S] (hx : ev fr x = .func f l l2) (hd : dOk c.n dst = true) (k : S rest (updO fr dst (.func f l l2)) H) : S (⟨dst, .assign x, ty, pos, after, none⟩ :: rest) fr H := hl_assign hx hd k
theorem hl_callc {f : FuncId} {xs : List Operand} {ts : Array TypeId} {args caps : List Value} {R : Value → List Ent → Prop} (hx : ev fr x = .func (.func f) #[] caps.toArray) (hxs : evs fr xs = args) (hd : dOk c.n dst = true) (hf : Fn c.P c.w0 c.B f (args ++ caps) H R)
    (h : ∀ v H', R v H' → HL c ops Q rest (updO fr dst v) H') : HL c ops Q (⟨dst, .call { callee := .value x, args := xs.toArray, argTypes := ts }, ty, pos, after, none⟩ :: rest) fr H := ⟨fun a w hs hh =>
  wpList_plain rfl fun K hK => by
    obtain ⟨⟨fn, h1, h2, h3⟩, hc⟩ := hf
    have hargs : (xs.toArray.map a.eval) = args.toArray := by rw [hs.eval, ← hxs, evs_eq]; simp
    have hxe : a.eval x = .func (.func f) #[] caps.toArray := by rw [hs.eval]; exact hx
    have hrun : (execOp a.eval ⟨dst, .call { callee := .value x, args := xs.toArray, argTypes := ts }, ty, pos, after, none⟩).run c.P w = .ok (.enter f (args ++ caps).toArray) w := by
      simp only [execOp, resolve, hargs]
      have h2' : ¬ (fn.name = "runtime.NumGoroutine") := by simpa using h2
      have h3' : ¬ (fn.body = none) := by intro h; rw [h] at h3; cases h3
      simp [hxe, Deferred.ofValue, invoke, callFunc, program, Sem.run, h1, h2', h3']
    unfold Oper.wp
    rw [hrun]
    refine (hc w hh).mono fun e w' ⟨v, H', he, hw', hR⟩ => ?_
    subst he
    exact hK _ _ ((h v H' hR).of _ _ (hs.put hd v) hw')⟩
theorem hl_min4 {x1 x2 x3 x4 : Operand} {k' : IntKind} {a1 a2 a3 a4 : Int} {ts : Array TypeId} [Stp c ops S] (h1 : ev fr x1 = .int k' a1) (h2 : ev fr x2 = .int k' a2) (h3 : ev fr x3 = .int k' a3) (h4 : ev fr x4 = .int k' a4) (hd : dOk c.n dst = true) (h : S rest (updO fr dst (.int k' (min (min (min a1 a2) a3) a4))) H) :
    S (⟨dst, .call { callee := .builtin .min, args := #[x1, x2, x3, x4], argTypes := ts }, ty, pos, after, none⟩ :: rest) fr H :=
  hl_pure hd _ (fun w _ => by
    have e : ∀ a b : Int, (if b < a then b else a) = min a b := fun a b => by split <;> omega
    simp [execOp, resolve, invoke, builtin, Builtin.min_, Builtin.min2, h1, h2, h3, h4, e]) h
theorem hl_max4 {x1 x2 x3 x4 : Operand} {k' : IntKind} {a1 a2 a3 a4 : Int} {ts : Array TypeId} [Stp c ops S] (h1 : ev fr x1 = .int k' a1) (h2 : ev fr x2 = .int k' a2) (h3 : ev fr x3 = .int k' a3) (h4 : ev fr x4 = .int k' a4) (hd : dOk c.n dst = true) (h : S rest (updO fr dst (.int k' (max (max (max a1 a2) a3) a4))) H) :
    S (⟨dst, .call { callee := .builtin .max, args := #[x1, x2, x3, x4], argTypes := ts }, ty, pos, after, none⟩ :: rest) fr H :=
  hl_pure hd _ (fun w _ => by
    have e : ∀ a b : Int, (if b > a then b else a) = max a b := fun a b => by split <;> omega
    have e2 : ∀ a b : Int, (if a < b then b else a) = max a b := fun a b => by split <;> omega
    simp [execOp, resolve, invoke, builtin, Builtin.max_, Builtin.max2, h1, h2, h3, h4, e, e2]) h
end
end Go.Proofs.Ytoobhebbgbhahaa
namespace Go.Proofs.Ytoobhebbgbhahaa
open Go.RowKit
section
variable {c : Cx} {Q : Pst} {fr : Fr} {H F : List Ent} {ops : Array Oper} {rest : List Oper} {dst : Option Nat} {ty : TypeId} {pos : String} {after : Array Edge}
variable {x : Operand} {S : List Oper → Fr → List Ent → Prop}
theorem hl_max3 {x1 x2 x3 : Operand} {k' : IntKind} {a1 a2 a3 : Int} {ts : Array TypeId} [Stp c ops S] (h1 : ev fr x1 = .int k' a1) (h2 : ev fr x2 = .int k' a2) (h3 : ev fr x3 = .int k' a3) (hd : dOk c.n dst = true) (h : S rest (updO fr dst (.int k' (max (max a1 a2) a3))) H) :
    S (⟨dst, .call { callee := .builtin .max, args := #[x1, x2, x3], argTypes := ts }, ty, pos, after, none⟩ :: rest) fr H :=
  hl_pure hd _ (fun w _ => by
    have e : ∀ a b : Int, (if b > a then b else a) = max a b := fun a b => by split <;> omega
    have e2 : ∀ a b : Int, (if a < b then b else a) = max a b := fun a b => by split <;> omega
    simp [execOp, resolve, invoke, builtin, Builtin.max_, Builtin.max2, h1, h2, h3, e, e2]) h
end
def PixQ (v : Int) : Prop := 0 ≤ v ∧ v < 4294967296 ∧ v / 2 ^ 24 % 256 ≤ v % 256 ∧ v / 2 ^ 16 % 256 ≤ v % 256 ∧ v / 2 ^ 8 % 256 ≤ v % 256
instance (v : Int) : Decidable (PixQ v) := by unfold PixQ; exact inferInstance
def SzQ (w h : Int) : Prop := 1 ≤ w ∧ 1 ≤ h ∧ w ≤ 32768 ∧ h ≤ 32768 ∧ w * h ≤ 4194304
instance (w h : Int) : Decidable (SzQ w h) := by unfold SzQ; exact inferInstance
theorem and255 (v : Int) : bits .and .i64 v 255 = v % 256 := by
  have e : BitVec.ofInt 64 v &&& BitVec.ofInt 64 255 = BitVec.ofNat 64 ((v % 256).toNat) := by
    apply BitVec.eq_of_toNat_eq
    rw [BitVec.toNat_and, BitVec.toNat_ofInt, BitVec.toNat_ofNat]
    rw [show (BitVec.ofInt 64 255).toNat = 2 ^ 8 - 1 from rfl, Nat.and_two_pow_sub_one_eq_mod]
    omega
  rw [show bits .and .i64 v 255 = IntKind.i64.wrap ((BitVec.ofInt 64 v &&& BitVec.ofInt 64 255).toNat : Int) from rfl, e, BitVec.toNat_ofNat]
  rw [IntWalk.i64_in _ (by omega)]; omega
section
variable {w0 : World} {B : Nat} {H R R0 : List Ent} {g : Nat}
set_option maxHeartbeats 8000000
set_option maxRecDepth 100000
theorem prod_bd {w h : Int} (h1 : 1 ≤ w) (h2 : 1 ≤ h) (h3 : w ≤ 32768) (h4 : h ≤ 32768) : 0 ≤ w * h ∧ w * h ≤ 1073741824 := by
  have a := Int.mul_nonneg (show 0 ≤ w by omega) (show 0 ≤ h by omega)
  have b := Int.mul_le_mul h3 h4 (by omega) (by omega : (0 : Int) ≤ 32768)
  omega
theorem sized_fn (w h : Int) : Fn Try.prog w0 B 78 [.int .i64 w, .int .i64 h] H (fun v H' => v = .bool (decide (SzQ w h)) ∧ H' = H) := by
  refine fn_intro Try.func78 rfl (by kernel_rfl) rfl ?_
  by_cases h1 : w < 1
  · rw [show decide (SzQ w h) = false from decide_eq_false (fun q => by unfold SzQ at q; omega)]
    repeat (first | refine go_ ?_ | refine bx_ (fun _ => ?_))
    exact fin1B rfl rfl ⟨rfl, rfl⟩
  by_cases h2 : h < 1
  · rw [show decide (SzQ w h) = false from decide_eq_false (fun q => by unfold SzQ at q; omega)]
    repeat (first | refine go_ ?_ | refine bx_ (fun _ => ?_))
    exact fin1B rfl rfl ⟨rfl, rfl⟩
  by_cases h3 : 32768 < w
  · rw [show decide (SzQ w h) = false from decide_eq_false (fun q => by unfold SzQ at q; omega)]
    repeat (first | refine go_ ?_ | refine bx_ (fun _ => ?_))
    exact fin1B rfl rfl ⟨rfl, rfl⟩
  by_cases h4 : 32768 < h
  · rw [show decide (SzQ w h) = false from decide_eq_false (fun q => by unfold SzQ at q; omega)]
    repeat (first | refine go_ ?_ | refine bx_ (fun _ => ?_))
    exact fin1B rfl rfl ⟨rfl, rfl⟩
  have hp := prod_bd (w := w) (h := h) (by omega) (by omega) (by omega) (by omega)
  by_cases h5 : 4194304 < w * h
  · rw [show decide (SzQ w h) = false from decide_eq_false (fun q => by unfold SzQ at q; omega)]
    repeat (first | refine go_ ?_ | refine bx_ (fun _ => ?_))
    exact fin1B rfl rfl ⟨rfl, rfl⟩
  rw [show decide (SzQ w h) = true from decide_eq_true (by unfold SzQ; omega)]
  repeat (first | refine go_ ?_ | refine bx_ (fun _ => ?_))
  exact fin1B rfl rfl ⟨rfl, rfl⟩
theorem tnew_fn (w h : Int) : Fn Try.prog w0 B 53 [.int .i64 w, .int .i64 h] H (fun v H' => ∃ a b c, v = .tuple #[.agg #[.int .i64 a, .int .i64 b, .int .i64 c, .slice none 0 0], .int .i64 (if SzQ w h then 0 else 31)] ∧ H' = H) := by
  refine fn_intro Try.func53 rfl (by kernel_rfl) rfl ?_
  by_cases h1 : w < 1
  · rw [if_neg (fun q => by unfold SzQ at q; omega)]
    repeat (first | refine go_ ?_ | refine bx_ (fun _ => ?_))
    exact finCI rfl rfl .here rfl rfl ⟨_, _, _, rfl, rfl⟩
  by_cases h2 : h < 1
  · rw [if_neg (fun q => by unfold SzQ at q; omega)]
    repeat (first | refine go_ ?_ | refine bx_ (fun _ => ?_))
    exact finCI rfl rfl .here rfl rfl ⟨_, _, _, rfl, rfl⟩
  by_cases h3 : 32768 < w
  · rw [if_neg (fun q => by unfold SzQ at q; omega)]
    repeat (first | refine go_ ?_ | refine bx_ (fun _ => ?_))
    exact finCI rfl rfl .here rfl rfl ⟨_, _, _, rfl, rfl⟩
  by_cases h4 : 32768 < h
  · rw [if_neg (fun q => by unfold SzQ at q; omega)]
    repeat (first | refine go_ ?_ | refine bx_ (fun _ => ?_))
    exact finCI rfl rfl .here rfl rfl ⟨_, _, _, rfl, rfl⟩
  have hp := prod_bd (w := w) (h := h) (by omega) (by omega) (by omega) (by omega)
  by_cases h5 : 4194304 < w * h
  · rw [if_neg (fun q => by unfold SzQ at q; omega)]
    repeat (first | refine go_ ?_ | refine bx_ (fun _ => ?_))
    exact finCI rfl rfl .here rfl rfl ⟨_, _, _, rfl, rfl⟩
  rw [if_pos (by unfold SzQ; omega)]
  repeat (first | refine go_ ?_ | refine bx_ (fun _ => ?_))
  exact finCI rfl rfl .here rfl rfl ⟨_, _, _, rfl, rfl⟩
theorem split_fn (v : Int) : Fn Try.prog w0 B 86 [.int .i64 v] H (fun r H' => r = .agg #[.int .i64 (bits .and .i64 (v / 2 ^ 24) 255), .int .i64 (bits .and .i64 (v / 2 ^ 16) 255), .int .i64 (bits .and .i64 (v / 2 ^ 8) 255), .int .i64 (bits .and .i64 v 255)] ∧ H' = H) := by
  refine fn_intro Try.func86 rfl (by kernel_rfl) rfl ?_
  repeat (first | refine go_ ?_ | refine bx_ (fun _ => ?_))
  exact finC rfl rfl .here rfl ⟨rfl, rfl⟩
theorem tpixel_fn (v : Int) (hv : v < 9223372036854775808) : Fn Try.prog w0 B 74 [.int .i64 v] H (fun r H' => r = .bool (decide (PixQ v)) ∧ H' = H) := by
  refine fn_intro Try.func74 rfl (by kernel_rfl) rfl ?_
  by_cases h1 : v < 0
  · rw [show decide (PixQ v) = false from decide_eq_false (fun q => by unfold PixQ at q; omega)]
    repeat (first | refine go_ ?_ | refine bx_ (fun _ => ?_) | refine hl_callv rfl rfl (split_fn v) ?_)
    exact fin1B rfl rfl ⟨rfl, rfl⟩
  by_cases h2 : 4294967296 ≤ v
  · rw [show decide (PixQ v) = false from decide_eq_false (fun q => by unfold PixQ at q; omega)]
    repeat (first | refine go_ ?_ | refine bx_ (fun _ => ?_) | refine hl_callv rfl rfl (split_fn v) ?_)
    exact fin1B rfl rfl ⟨rfl, rfl⟩
  have e0 := and255 (v / 2 ^ 24)
  have e1 := and255 (v / 2 ^ 16)
  have e2 := and255 (v / 2 ^ 8)
  have e3 := and255 v
  have hs := fun H => split_fn (w0 := w0) (B := B) (H := H) v
  rw [e0, e1, e2, e3] at hs
  by_cases h3 : max (max (v / 2 ^ 24 % 256) (v / 2 ^ 16 % 256)) (v / 2 ^ 8 % 256) ≤ v % 256
  · rw [show decide (PixQ v) = true from decide_eq_true (by unfold PixQ; omega)]
    repeat (first | refine go_ ?_ | refine bx_ (fun _ => ?_) | refine hl_callv rfl rfl (hs _) ?_ | refine hl_max3 rfl rfl rfl rfl ?_)
    exact fin1B rfl rfl ⟨rfl, rfl⟩
  · rw [show decide (PixQ v) = false from decide_eq_false (fun q => by unfold PixQ at q; omega)]
    repeat (first | refine go_ ?_ | refine bx_ (fun _ => ?_) | refine hl_callv rfl rfl (hs _) ?_ | refine hl_max3 rfl rfl rfl rfl ?_)
    exact fin1B rfl rfl ⟨rfl, rfl⟩
theorem part_any_fn (v : Int) (c : Nat) (hc : c ≤ 3) : Fn Try.prog w0 B 98 [.int .i64 v, .int .i64 (c : Int)] H (fun r H' => ∃ z, r = .int .i64 z ∧ (0 ≤ v → z = v / 2 ^ (24 - 8 * c) % 256) ∧ H' = H) := by
  refine fn_intro Try.func98 rfl (by kernel_rfl) rfl ?_
  by_cases hv : 0 ≤ v
  · have hq : 0 ≤ v / 2 ^ (24 - 8 * c) := Int.ediv_nonneg hv (by exact Int.le_of_lt (Int.pow_pos (by decide)))
    repeat (first | refine go_ ?_ | refine bx_ (fun _ => ?_) | refine hl_shr' (m := 24 - 8 * c) rfl rfl (by omega) (by simp only [IntKind.bits]; omega) rfl ?_)
    exact fin1I rfl rfl ⟨_, rfl, fun _ => rfl, rfl⟩
  · repeat (first | refine go_ ?_ | refine bx_ (fun _ => ?_) | refine hl_shr' (m := 24 - 8 * c) rfl rfl (by omega) (by simp only [IntKind.bits]; omega) rfl ?_)
    exact fin1I rfl rfl ⟨_, rfl, fun h => absurd h hv, rfl⟩
theorem rpixel_fn (v : Int) : Fn Try.prog w0 B 90 [.int .i64 v] H (fun r H' => r = .bool (decide (PixQ v)) ∧ H' = H) := by
  refine fn_intro Try.func90 rfl (by kernel_rfl) rfl ?_
  repeat (first | refine go_ ?_ | refine bx_ (fun _ => ?_))
  refine hc_loop (fun m fr M => ∃ c : Nat, c + m = 3 ∧ (0 ≤ v → ∀ i : Nat, i < c → v / 2 ^ (24 - 8 * i) % 256 ≤ v % 256) ∧ Agr fr [(0, .int .i64 v), (3, .int .i64 (c : Int))] ∧ Imp M H) 3 ?_ ?_
  · exact ⟨0, by omega, fun _ i h => absurd h (by omega), ⟨rfl, rfl, trivial⟩, Imp.refl _⟩
  rintro m fr M ⟨c, hc, hle, hf, him⟩
  obtain ⟨base, rfl⟩ := hf.out
  clear hf
  refine HC.imp ?_ him
  by_cases hlt : c < 3
  · repeat (first | refine go_ ?_ | refine bx_ (fun _ => ?_))
    refine hl_call rfl rfl (part_any_fn v c (by omega)) (fun r M1 o => ?_)
    obtain ⟨z1, rfl, hz1, rfl⟩ := o
    repeat (first | refine go_ ?_ | refine bx_ (fun _ => ?_))
    refine hl_call rfl rfl (part_any_fn v 3 (by omega)) (fun r M2 o => ?_)
    obtain ⟨z2, rfl, hz2, rfl⟩ := o
    by_cases hgt : z2 < z1
    · rw [show decide (PixQ v) = false from decide_eq_false (fun q => by
        unfold PixQ at q
        have a := hz1 q.1
        have b := hz2 q.1
        obtain rfl | rfl | rfl : c = 0 ∨ c = 1 ∨ c = 2 := by omega
        all_goals simp only [Nat.reduceMul, Nat.reduceSub] at a b
        all_goals omega)]
      repeat (first | refine go_ ?_ | refine bx_ (fun _ => ?_))
      exact fin1B rfl rfl ⟨rfl, rfl⟩
    · repeat (first | refine go_ ?_ | refine bx_ (fun _ => ?_))
      refine ⟨m - 1, by omega, c + 1, by omega, fun h0 i hi => ?_, ⟨rfl, rfl, trivial⟩, Imp.refl _⟩
      by_cases e : i = c
      · subst e
        have a := hz1 h0
        have b := hz2 h0
        simp only [Nat.reduceMul, Nat.reduceSub, Int.pow_zero, Int.ediv_one] at b
        omega
      · exact hle h0 i (by omega)
  · obtain rfl : c = 3 := by omega
    by_cases h0 : 0 ≤ v
    · have a0 := hle h0 0 (by omega)
      have a1 := hle h0 1 (by omega)
      have a2 := hle h0 2 (by omega)
      simp only [Nat.reduceMul, Nat.reduceSub] at a0 a1 a2
      by_cases h1 : v < 4294967296
      · rw [show decide (PixQ v) = true from decide_eq_true ⟨h0, h1, a0, a1, a2⟩]
        repeat (first | refine go_ ?_ | refine bx_ (fun _ => ?_))
        exact fin1B rfl rfl ⟨rfl, rfl⟩
      · rw [show decide (PixQ v) = false from decide_eq_false (fun q => by unfold PixQ at q; omega)]
        repeat (first | refine go_ ?_ | refine bx_ (fun _ => ?_))
        exact fin1B rfl rfl ⟨rfl, rfl⟩
    · rw [show decide (PixQ v) = false from decide_eq_false (fun q => by unfold PixQ at q; omega)]
      repeat (first | refine go_ ?_ | refine bx_ (fun _ => ?_))
      exact fin1B rfl rfl ⟨rfl, rfl⟩
end
end Go.Proofs.Ytoobhebbgbhahaa
namespace Go.Proofs.Ytoobhebbgbhahaa.Tb
open Go.Proofs.Ytoobhebbgbhahaa
open Go.RowKit

/-- A parameter that is a row of numbers. -/
structure Par (w0 : World) (B : Nat) (H : List Ent) (a : Option Addr) (n cap : Nat) (f : Nat → Int) : Prop where
  row : 0 < n → ∃ b off, a = some ⟨b, off, none⟩ ∧ Row w0 B H b off n .i64 f
  bd : ∀ i, i < n → -9223372036854775808 ≤ f i ∧ f i ≤ 9223372036854775807
  small : n ≤ 1000000
theorem Par.imp {w0 : World} {B : Nat} {H H' : List Ent} {a : Option Addr} {n cap : Nat} {f : Nat → Int} (h : Par w0 B H a n cap f) (hi : Imp H' H) : Par w0 B H' a n cap f :=
  ⟨fun h0 => by obtain ⟨b, off, e, r⟩ := h.row h0; exact ⟨b, off, e, r.imp hi⟩, h.bd, h.small⟩
def Ok1 (kind : Int) (f : Nat → Int) (i : Nat) : Prop := 0 ≤ f i ∧ f i ≤ 255 ∧ (kind = 1 → i % 2 = 0 → 0 < i → f (i - 2) < f i)
def Rt (kind : Int) (n : Nat) (f : Nat → Int) : Prop :=
  (∀ i, i < n → Ok1 kind f i) ∧ (kind = 0 ∧ n = 2 ∧ f 0 < f 1 ∨ kind = 1 ∧ 2 ≤ n ∧ n ≤ 32 ∧ n % 2 = 0 ∨ kind = 2 ∧ n = 0 ∨ kind = 3 ∧ n = 1)
section
variable {w0 : World} {B : Nat} {H : List Ent}
set_option maxHeartbeats 8000000 in
theorem right_fn (kind : Int) {a : Option Addr} {n cap : Nat} {f : Nat → Int} (h : Par w0 B H a n cap f) : Fn Try.prog w0 B 87 [.int .i64 kind, .slice a n cap] H (fun v H' => ((v = .bool true ∧ Rt kind n f) ∨ (v = .bool false ∧ ¬ Rt kind n f)) ∧ H' = H) := by
  have hn := h.small
  refine fn_intro Try.func87 rfl (by kernel_rfl) rfl ?_
  repeat (first | refine go_ ?_ | refine bx_ (fun _ => ?_))
  refine hc_loop (fun m fr M => ∃ k, k + m = n ∧ Agr fr [(0, .int .i64 kind), (1, .slice a n cap), (5, .int .i64 (n : Int)), (10, .slice a n cap), (11, .int .i64 (n : Int)), (12, .int .i64 (k : Int))] ∧ M = H ∧ ∀ i, i < k → Ok1 kind f i) n ?_ ?_
  · exact ⟨0, by omega, ⟨rfl, rfl, rfl, rfl, rfl, rfl, trivial⟩, rfl, fun i hi => by omega⟩
  rintro m fr M ⟨k, hk, hf, rfl, hall⟩
  obtain ⟨base, rfl⟩ := hf.out
  clear hf
  by_cases hlt : k < n
  · obtain ⟨b, off, rfl, hp⟩ := h.row (by omega)
    have hbd := h.bd k hlt
    have hno : ¬ Ok1 kind f k → ¬ Rt kind n f := fun h h2 => h (h2.1 k hlt)
    by_cases h1 : f k < 0
    · repeat (first | refine go_ ?_ | refine bx_ (fun _ => ?_))
      exact fin1B rfl rfl ⟨.inr ⟨rfl, hno fun h => by have := h.1; omega⟩, rfl⟩
    by_cases h2 : 255 < f k
    · repeat (first | refine go_ ?_ | refine bx_ (fun _ => ?_))
      exact fin1B rfl rfl ⟨.inr ⟨rfl, hno fun h => by have := h.2.1; omega⟩, rfl⟩
    have hnext : (kind = 1 → k % 2 = 0 → 0 < k → f (k - 2) < f k) → ∀ i, i < k + 1 → Ok1 kind f i := fun h3 i hi => by
      by_cases e : i = k
      · subst e; exact ⟨by omega, by omega, h3⟩
      · exact hall i (by omega)
    by_cases h3 : kind = 1
    · subst h3
      by_cases h4 : k % 2 = 0
      · by_cases h5 : 0 < k
        · have hbd2 := h.bd (k - 2) (by omega)
          have e2 : (k : Int) - 2 = ((k - 2 : Nat) : Int) := by omega
          by_cases h6 : f k ≤ f (k - 2)
          · repeat (first | rw [e2] | refine go1_ ?_ | refine bx_ (fun _ => ?_))
            exact fin1B rfl rfl ⟨.inr ⟨rfl, hno fun h => by have := h.2.2 rfl h4 h5; omega⟩, rfl⟩
          · repeat (first | rw [e2] | refine go1_ ?_ | refine bx_ (fun _ => ?_))
            exact ⟨m - 1, by omega, k + 1, by omega, ⟨rfl, rfl, rfl, rfl, rfl, rfl, trivial⟩, rfl, hnext fun _ _ _ => by omega⟩
        · repeat (first | refine go_ ?_ | refine bx_ (fun _ => ?_))
          exact ⟨m - 1, by omega, k + 1, by omega, ⟨rfl, rfl, rfl, rfl, rfl, rfl, trivial⟩, rfl, hnext fun _ _ _ => by omega⟩
      · repeat (first | refine go_ ?_ | refine bx_ (fun _ => ?_))
        exact ⟨m - 1, by omega, k + 1, by omega, ⟨rfl, rfl, rfl, rfl, rfl, rfl, trivial⟩, rfl, hnext fun _ _ _ => by omega⟩
    · repeat (first | refine go_ ?_ | refine bx_ (fun _ => ?_))
      exact ⟨m - 1, by omega, k + 1, by omega, ⟨rfl, rfl, rfl, rfl, rfl, rfl, trivial⟩, rfl, hnext fun _ _ _ => by omega⟩
  · obtain rfl : k = n := by omega
    have hiff : Rt kind k f ↔ (kind = 0 ∧ k = 2 ∧ f 0 < f 1 ∨ kind = 1 ∧ 2 ≤ k ∧ k ≤ 32 ∧ k % 2 = 0 ∨ kind = 2 ∧ k = 0 ∨ kind = 3 ∧ k = 1) := ⟨fun h => h.2, fun h => ⟨hall, h⟩⟩
    by_cases k0 : kind = 0
    · subst k0
      by_cases h2 : k = 2
      · subst h2
        obtain ⟨b, off, rfl, hp⟩ := h.row (by omega)
        by_cases h3 : f 0 < f 1
        · repeat (first | refine go_ ?_ | refine bx_ (fun _ => ?_))
          refine hc_draw (by kernel_rfl) (by kernel_rfl) ?_
          repeat (first | refine gd_ ?_)
          repeat (first | refine go_ ?_ | refine bx_ (fun _ => ?_))
          exact fin1B rfl rfl ⟨.inl ⟨rfl, hiff.2 (by omega)⟩, rfl⟩
        · repeat (first | refine go_ ?_ | refine bx_ (fun _ => ?_))
          refine hc_draw (by kernel_rfl) (by kernel_rfl) ?_
          repeat (first | refine gd_ ?_)
          repeat (first | refine go_ ?_ | refine bx_ (fun _ => ?_))
          exact fin1B rfl rfl ⟨.inr ⟨rfl, fun h => by have := hiff.1 h; omega⟩, rfl⟩
      · repeat (first | refine go_ ?_ | refine bx_ (fun _ => ?_))
        refine hc_draw (by kernel_rfl) (by kernel_rfl) ?_
        repeat (first | refine gd_ ?_)
        repeat (first | refine go_ ?_ | refine bx_ (fun _ => ?_))
        exact fin1B rfl rfl ⟨.inr ⟨rfl, fun h => by have := hiff.1 h; omega⟩, rfl⟩
    by_cases k1 : kind = 1
    · subst k1
      by_cases h2 : 2 ≤ k
      · by_cases h3 : k ≤ 32
        · by_cases h4 : k % 2 = 0
          · repeat (first | refine go_ ?_ | refine bx_ (fun _ => ?_))
            exact fin1B rfl rfl ⟨.inl ⟨rfl, hiff.2 (by omega)⟩, rfl⟩
          · repeat (first | refine go_ ?_ | refine bx_ (fun _ => ?_))
            exact fin1B rfl rfl ⟨.inr ⟨rfl, fun h => by have := hiff.1 h; omega⟩, rfl⟩
        · repeat (first | refine go_ ?_ | refine bx_ (fun _ => ?_))
          exact fin1B rfl rfl ⟨.inr ⟨rfl, fun h => by have := hiff.1 h; omega⟩, rfl⟩
      · repeat (first | refine go_ ?_ | refine bx_ (fun _ => ?_))
        exact fin1B rfl rfl ⟨.inr ⟨rfl, fun h => by have := hiff.1 h; omega⟩, rfl⟩
    by_cases k2 : kind = 2
    · subst k2
      by_cases h2 : k = 0
      · repeat (first | refine go_ ?_ | refine bx_ (fun _ => ?_))
        exact fin1B rfl rfl ⟨.inl ⟨rfl, hiff.2 (by omega)⟩, rfl⟩
      · repeat (first | refine go_ ?_ | refine bx_ (fun _ => ?_))
        exact fin1B rfl rfl ⟨.inr ⟨rfl, fun h => by have := hiff.1 h; omega⟩, rfl⟩
    by_cases k3 : kind = 3
    · subst k3
      by_cases h2 : k = 1
      · repeat (first | refine go_ ?_ | refine bx_ (fun _ => ?_))
        exact fin1B rfl rfl ⟨.inl ⟨rfl, hiff.2 (by omega)⟩, rfl⟩
      · repeat (first | refine go_ ?_ | refine bx_ (fun _ => ?_))
        exact fin1B rfl rfl ⟨.inr ⟨rfl, fun h => by have := hiff.1 h; omega⟩, rfl⟩
    · repeat (first | refine go_ ?_ | refine bx_ (fun _ => ?_))
      exact fin1B rfl rfl ⟨.inr ⟨rfl, fun h => by have := hiff.1 h; omega⟩, rfl⟩

/-! Curves -/
def cseg (f : Nat → Int) (v : Int) (i : Nat) : Int := f (i + 1) + ((f (i + 3) - f (i + 1)) * (v - f i)).tdiv (f (i + 2) - f i)
def cur (f : Nat → Int) (v last : Int) : Nat → Nat → Int
  | 0, _ => last
  | m + 1, i => if v < f (i + 2) then cseg f v i else cur f v last m (i + 2)
def curveZ (n : Nat) (f : Nat → Int) (v : Int) : Int := if v ≤ f 0 then f 1 else cur f v (f (n - 1)) ((n - 2) / 2) 0
structure Crv (n : Nat) (f : Nat → Int) : Prop where
  h1 : 2 ≤ n
  h2 : n ≤ 32
  h3 : n % 2 = 0
  byte : ∀ i, i < n → 0 ≤ f i ∧ f i ≤ 255
  mono : ∀ i, i % 2 = 0 → i + 2 < n → f i < f (i + 2)
theorem Rt.crv {n : Nat} {f : Nat → Int} (h : Rt 1 n f) : Crv n f := by
  obtain ⟨h1, h2⟩ := h
  refine ⟨by omega, by omega, by omega, fun i hi => ⟨(h1 i hi).1, (h1 i hi).2.1⟩, fun i he hi => ?_⟩
  have := (h1 (i + 2) hi).2.2 rfl (by omega) (by omega)
  rwa [show i + 2 - 2 = i by omega] at this
theorem tdiv_frac {a x y : Int} (hx : 0 ≤ x) (hxy : x ≤ y) (hy : 0 < y) : (0 ≤ a → 0 ≤ (a * x).tdiv y ∧ (a * x).tdiv y ≤ a) ∧ (a ≤ 0 → a ≤ (a * x).tdiv y ∧ (a * x).tdiv y ≤ 0) := by
  have key : ∀ b : Int, 0 ≤ b → 0 ≤ (b * x).tdiv y ∧ (b * x).tdiv y ≤ b := fun b hb => by
    have h0 : 0 ≤ b * x := Int.mul_nonneg hb hx
    rw [Int.tdiv_eq_ediv_of_nonneg h0]
    exact ⟨Int.ediv_nonneg h0 (by omega), Int.ediv_le_of_le_mul hy (Int.mul_le_mul_of_nonneg_left hxy hb)⟩
  refine ⟨key a, fun ha => ?_⟩
  have := key (-a) (by omega)
  rw [Int.neg_mul, Int.neg_tdiv] at this
  omega
theorem cseg_bd {n : Nat} {f : Nat → Int} (h : Crv n f) {v : Int} {i : Nat} (hi : i + 3 < n) (hv : f i ≤ v) (hv2 : v < f (i + 2)) : 0 ≤ cseg f v i ∧ cseg f v i ≤ 255 := by
  have h1 := h.byte (i + 1) (by omega)
  have h3 := h.byte (i + 3) hi
  have hd := tdiv_frac (a := f (i + 3) - f (i + 1)) (x := v - f i) (y := f (i + 2) - f i) (by omega) (by omega) (by omega)
  unfold cseg
  generalize ((f (i + 3) - f (i + 1)) * (v - f i)).tdiv (f (i + 2) - f i) = q at *
  rcases Int.le_total 0 (f (i + 3) - f (i + 1)) with h | h
  · have := hd.1 h; omega
  · have := hd.2 h; omega
theorem cur_bd {n : Nat} {f : Nat → Int} (h : Crv n f) {v : Int} : ∀ (m i : Nat), i % 2 = 0 → i + 2 + 2 * m = n → f i ≤ v → 0 ≤ cur f v (f (n - 1)) m i ∧ cur f v (f (n - 1)) m i ≤ 255
  | 0, i, _, _, _ => h.byte (n - 1) (by have := h.h1; omega)
  | m + 1, i, he, hi, hv => by
    unfold cur
    by_cases h1 : v < f (i + 2)
    · rw [if_pos h1]; exact cseg_bd h (by omega) hv h1
    · rw [if_neg h1]; exact cur_bd h m (i + 2) (by omega) (by omega) (by omega)
theorem cur_last {n : Nat} {f : Nat → Int} (h : Crv n f) {v : Int} (hv : f (n - 2) ≤ v) : ∀ (m i : Nat), i % 2 = 0 → i + 2 + 2 * m = n → cur f v (f (n - 1)) m i = f (n - 1)
  | 0, _, _, _ => rfl
  | m + 1, i, he, hi => by
    have hle : ∀ k j, j % 2 = 0 → j + 2 * k + 2 = n → f j ≤ v := by
      intro k
      induction k with
      | zero => intro j _ hj; rw [show j = n - 2 by omega]; exact hv
      | succ k ih => intro j hj1 hj2; have := ih (j + 2) (by omega) (by omega); have := h.mono j hj1 (by omega); omega
    have h1 := hle m (i + 2) (by omega) (by omega)
    unfold cur
    rw [if_neg (by omega)]
    exact cur_last h hv m (i + 2) (by omega) (by omega)
theorem curve_bd {n : Nat} {f : Nat → Int} (h : Crv n f) (v : Int) : 0 ≤ curveZ n f v ∧ curveZ n f v ≤ 255 := by
  unfold curveZ
  have := h.h1
  have := h.h3
  split
  · exact h.byte 1 (by omega)
  · exact cur_bd h _ 0 rfl (by omega) (by omega)

/-- Numbers so far, of a table. -/
def psel (g : Int → Int) (k j : Nat) : Int := if j < k then g j else 0
theorem psel_set (g : Int → Int) (n k : Nat) : (tab n (psel g k)).set k (.int .i64 (g k)) = tab n (psel g (k + 1)) := tab_set fun j _ => by
  unfold psel
  by_cases e : j = k
  · subst e; simp
  · by_cases h1 : j < k
    · rw [if_neg e, if_pos h1, if_pos (by omega)]
    · rw [if_neg e, if_neg h1, if_neg (by omega)]
theorem psel_zero (g : Int → Int) (k : Nat) (h : g k = 0) : tab 256 (psel g k) = tab 256 (psel g (k + 1)) := tab_congr fun j _ => by
  unfold psel
  by_cases e : j = k
  · subst e; simp [h]
  · by_cases h1 : j < k
    · rw [if_pos h1, if_pos (by omega)]
    · rw [if_neg h1, if_neg (by omega)]
theorem psel_end (g : Int → Int) (n : Nat) : tab n (psel g n) = tab n (fun v => g v) := tab_congr fun j hj => by unfold psel; rw [if_pos hj]
theorem rep_psel (g : Int → Int) : List.replicate 256 (Value.int .i64 0) = tab 256 (psel g 0) := by rw [← tab_zero]; exact tab_congr fun j _ => by unfold psel; simp
theorem i64small {x : Int} (h : -1000000 ≤ x ∧ x ≤ 1000000) : IntKind.i64.wrap x = x := IntWalk.i64_in _ (by omega)
set_option maxHeartbeats 8000000 in
set_option maxRecDepth 100000 in
theorem rcurve_fn {a : Option Addr} {n cap : Nat} {f : Nat → Int} (h : Par w0 B H a n cap f) (hc : Crv n f) (v : Int) (hv : 0 ≤ v ∧ v ≤ 255) : Fn Try.prog w0 B 99 [.slice a n cap, .int .i64 v] H (fun r H' => r = .int .i64 (curveZ n f v) ∧ H' = H) := by
  have c1 := hc.h1
  have c2 := hc.h2
  have c3 := hc.h3
  obtain ⟨b, off, rfl, hp⟩ := h.row (by omega)
  refine fn_intro Try.func99 rfl (by kernel_rfl) rfl ?_
  by_cases h0 : v ≤ f 0
  · repeat (first | refine go_ ?_ | refine bx_ (fun _ => ?_))
    exact fin1I rfl rfl ⟨by unfold curveZ; rw [if_pos h0], rfl⟩
  have hcz : curveZ n f v = cur f v (f (n - 1)) ((n - 2) / 2) 0 := by unfold curveZ; rw [if_neg h0]
  rw [hcz]
  repeat (first | refine go_ ?_ | refine bx_ (fun _ => ?_))
  refine hc_loop (fun m fr M => ∃ i, i + 2 + 2 * m = n ∧ i % 2 = 0 ∧ Agr fr [(0, .slice (some ⟨b, off, none⟩) n cap), (1, .int .i64 v), (5, .int .i64 ((i : Int) + 2))] ∧ M = H ∧ f i ≤ v ∧ cur f v (f (n - 1)) m i = cur f v (f (n - 1)) ((n - 2) / 2) 0) ((n - 2) / 2) ?_ ?_
  · exact ⟨0, by omega, by omega, ⟨rfl, rfl, rfl, trivial⟩, rfl, by omega, rfl⟩
  rintro m fr M ⟨i, hi, he, hf, rfl, hfi, hcu⟩
  obtain ⟨base, rfl⟩ := hf.out
  clear hf
  rw [← hcu]
  by_cases hlt : i + 2 < n
  · obtain ⟨q, rfl⟩ : ∃ q, m = q + 1 := ⟨m - 1, by omega⟩
    by_cases h1 : v < f (i + 2)
    · have hcs : cur f v (f (n - 1)) (q + 1) i = cseg f v i := by show (if v < f (i + 2) then _ else _) = _; rw [if_pos h1]
      rw [hcs]
      have b0 := hc.byte i (by omega)
      have b1 := hc.byte (i + 1) (by omega)
      have b2 := hc.byte (i + 2) (by omega)
      have b3 := hc.byte (i + 3) (by omega)
      have b4 := cseg_bd hc (by omega) hfi h1
      have hd := tdiv_frac (a := f (i + 3) - f (i + 1)) (x := v - f i) (y := f (i + 2) - f i) (by omega) (by omega) (by omega)
      have hm : -(255 * 255) ≤ (f (i + 3) - f (i + 1)) * (v - f i) ∧ (f (i + 3) - f (i + 1)) * (v - f i) ≤ 255 * 255 := by
        have h1 : 0 ≤ (255 - (f (i + 3) - f (i + 1))) * (v - f i) := Int.mul_nonneg (by omega) (by omega)
        have h2 : 0 ≤ (255 + (f (i + 3) - f (i + 1))) * (v - f i) := Int.mul_nonneg (by omega) (by omega)
        rw [Int.sub_mul] at h1
        rw [Int.add_mul] at h2
        omega
      have hq : -255 ≤ ((f (i + 3) - f (i + 1)) * (v - f i)).tdiv (f (i + 2) - f i) ∧ ((f (i + 3) - f (i + 1)) * (v - f i)).tdiv (f (i + 2) - f i) ≤ 255 := by
        rcases Int.le_total 0 (f (i + 3) - f (i + 1)) with h | h
        · have := hd.1 h; omega
        · have := hd.2 h; omega
      have hw := i64small (x := ((f (i + 3) - f (i + 1)) * (v - f i)).tdiv (f (i + 2) - f i)) (by omega)
      repeat (first | rw [show (i : Int) + 2 = ((i + 2 : Nat) : Int) by omega] | refine go1_ ?_ | refine bx_ (fun _ => ?_))
      refine hc_draw (by kernel_rfl) (by kernel_rfl) ?_
      repeat (first | rw [show (i : Int) + 2 = ((i + 2 : Nat) : Int) by omega] | rw [show ((i + 2 : Nat) : Int) - 1 = ((i + 1 : Nat) : Int) by omega] | rw [show ((i + 2 : Nat) : Int) + 1 = ((i + 3 : Nat) : Int) by omega] | rw [show ((i + 2 : Nat) : Int) - 2 = (i : Int) by omega] | rw [hw] | refine gd1_ ?_)
      repeat (first | refine go_ ?_ | refine bx_ (fun _ => ?_))
      exact fin1I rfl rfl ⟨rfl, rfl⟩
    · have hcs : cur f v (f (n - 1)) (q + 1) i = cur f v (f (n - 1)) q (i + 2) := by show (if v < f (i + 2) then _ else _) = _; rw [if_neg h1]
      repeat (first | rw [show (i : Int) + 2 = ((i + 2 : Nat) : Int) by omega] | refine go1_ ?_ | refine bx_ (fun _ => ?_))
      exact ⟨q, by omega, i + 2, by omega, by omega, ⟨rfl, rfl, rfl, trivial⟩, rfl, by omega, hcs.symm⟩
  · obtain rfl : m = 0 := by omega
    repeat (first | rw [show (n : Int) - 1 = ((n - 1 : Nat) : Int) by omega] | refine go1_ ?_ | refine bx_ (fun _ => ?_))
    exact fin1I rfl rfl ⟨rfl, rfl⟩
set_option maxHeartbeats 8000000 in
set_option maxRecDepth 100000 in
theorem curve_fn {a : Option Addr} {n cap : Nat} {f : Nat → Int} (h : Par w0 B H a n cap f) (hc : Crv n f) : Fn Try.prog w0 B 88 [.slice a n cap] H (fun r H' => ∃ g, r = .slice (some ⟨g, 0, none⟩) 256 256 ∧ H' = ⟨g, 3, tab 256 (fun v => curveZ n f v), 256⟩ :: H) := by
  have c1 := hc.h1
  have c2 := hc.h2
  have c3 := hc.h3
  obtain ⟨b, off, rfl, hp⟩ := h.row (by omega)
  refine fn_intro Try.func88 rfl (by kernel_rfl) rfl ?_
  repeat (first | refine go_ ?_ | refine bx_ (fun _ => ?_))
  refine hl_make1 (n := 256) rfl rfl rfl (by decide) (by decide) rfl (fun g => ?_)
  rw [rep_psel (curveZ n f)]
  repeat (first | refine go_ ?_ | refine bx_ (fun _ => ?_))
  refine hc_loop (fun m fr M => ∃ k, k + m = 256 ∧ Agr fr [(0, .slice (some ⟨b, off, none⟩) n cap), (3, .slice (some ⟨g, 0, none⟩) 256 256), (4, .int .i64 (n : Int)), (11, .int .i64 256), (12, .int .i64 (k : Int))] ∧ M = ⟨g, 3, tab 256 (psel (curveZ n f) k), 256⟩ :: H) 256 ?_ ?_
  · exact ⟨0, by omega, ⟨rfl, rfl, rfl, rfl, rfl, trivial⟩, rfl⟩
  rintro m fr M ⟨k, hk, hf, rfl⟩
  obtain ⟨base, rfl⟩ := hf.out
  clear hf
  by_cases hlt : k < 256
  · have hset := psel_set (curveZ n f) 256 k
    have hbf := hc.byte 0 (by omega)
    have hbl := hc.byte (n - 2) (by omega)
    have e2 : (n : Int) - 2 = ((n - 2 : Nat) : Int) := by omega
    have e1 : (n : Int) - 1 = ((n - 1 : Nat) : Int) := by omega
    by_cases h0 : (k : Int) ≤ f 0
    · have hcz : curveZ n f k = f 1 := by unfold curveZ; rw [if_pos h0]
      rw [hcz] at hset
      repeat (first | rw [hset] | refine go1_ ?_ | refine bx_ (fun _ => ?_))
      exact ⟨m - 1, by omega, k + 1, by omega, ⟨rfl, rfl, rfl, rfl, rfl, trivial⟩, rfl⟩
    by_cases hl : f (n - 2) ≤ (k : Int)
    · have hcz : curveZ n f k = f (n - 1) := by unfold curveZ; rw [if_neg h0]; exact cur_last hc hl _ 0 rfl (by omega)
      rw [hcz] at hset
      repeat (first | rw [hset] | rw [e2] | rw [e1] | refine go1_ ?_ | refine bx_ (fun _ => ?_))
      exact ⟨m - 1, by omega, k + 1, by omega, ⟨rfl, rfl, rfl, rfl, rfl, trivial⟩, rfl⟩
    have hcz : curveZ n f k = cur f k (f (n - 1)) ((n - 2) / 2) 0 := by unfold curveZ; rw [if_neg h0]
    rw [hcz] at hset
    obtain ⟨v, hv⟩ : ∃ v : Int, v = (k : Int) := ⟨_, rfl⟩
    rw [← hv] at h0 hl hset hcz
    repeat (first | rw [e2] | refine go1_ ?_ | refine bx_ (fun _ => ?_))
    refine hc_loop (fun z fr M => ∃ i, i + 2 + 2 * z = n ∧ i % 2 = 0 ∧ Agr fr [(0, .slice (some ⟨b, off, none⟩) n cap), (3, .slice (some ⟨g, 0, none⟩) 256 256), (4, .int .i64 (n : Int)), (11, .int .i64 256), (12, .int .i64 (k : Int)), (5, .int .i64 (k : Int)), (6, .int .i64 (i : Int))] ∧ M = ⟨g, 3, tab 256 (psel (curveZ n f) k), 256⟩ :: H ∧ f i ≤ v ∧ cur f v (f (n - 1)) z i = cur f v (f (n - 1)) ((n - 2) / 2) 0) ((n - 2) / 2) ?_ ?_
    · exact ⟨0, by omega, by omega, ⟨rfl, rfl, rfl, rfl, rfl, rfl, rfl, trivial⟩, rfl, by omega, rfl⟩
    clear base
    rintro z fr M ⟨i, hi, he, hf, rfl, hfi, hcu⟩
    obtain ⟨base, rfl⟩ := hf.out
    clear hf
    have hlt2 : i + 2 < n := by
      rcases Nat.lt_or_ge (i + 2) n with h | h
      · exact h
      · have : i = n - 2 := by omega
        rw [← this] at hl
        omega
    obtain ⟨q, rfl⟩ : ∃ q, z = q + 1 := ⟨z - 1, by omega⟩
    have bb2 := hc.byte (i + 2) (by omega)
    by_cases h1 : v < f (i + 2)
    · have hcs : cur f v (f (n - 1)) (q + 1) i = cseg f v i := by show (if v < f (i + 2) then _ else _) = _; rw [if_pos h1]
      rw [← hcu, hcs] at hset
      have b0 := hc.byte i (by omega)
      have b1 := hc.byte (i + 1) (by omega)
      have b2 := hc.byte (i + 2) (by omega)
      have b3 := hc.byte (i + 3) (by omega)
      have b4 := cseg_bd hc (by omega) hfi h1
      have hd := tdiv_frac (a := f (i + 3) - f (i + 1)) (x := v - f i) (y := f (i + 2) - f i) (by omega) (by omega) (by omega)
      have hm : -(255 * 255) ≤ (f (i + 3) - f (i + 1)) * (v - f i) ∧ (f (i + 3) - f (i + 1)) * (v - f i) ≤ 255 * 255 := by
        have h1 : 0 ≤ (255 - (f (i + 3) - f (i + 1))) * (v - f i) := Int.mul_nonneg (by omega) (by omega)
        have h2 : 0 ≤ (255 + (f (i + 3) - f (i + 1))) * (v - f i) := Int.mul_nonneg (by omega) (by omega)
        rw [Int.sub_mul] at h1
        rw [Int.add_mul] at h2
        omega
      have hq : -255 ≤ ((f (i + 3) - f (i + 1)) * (v - f i)).tdiv (f (i + 2) - f i) ∧ ((f (i + 3) - f (i + 1)) * (v - f i)).tdiv (f (i + 2) - f i) ≤ 255 := by
        rcases Int.le_total 0 (f (i + 3) - f (i + 1)) with h | h
        · have := hd.1 h; omega
        · have := hd.2 h; omega
      have hw := i64small (x := ((f (i + 3) - f (i + 1)) * (v - f i)).tdiv (f (i + 2) - f i)) (by omega)
      unfold cseg at hset b4
      rw [hv] at hset b4 hd hm hq hw h1
      repeat (first | rw [show (i : Int) + 2 = ((i + 2 : Nat) : Int) by omega] | refine go1_ ?_ | refine bx_ (fun _ => ?_))
      refine hc_drawS (by kernel_rfl) (by kernel_rfl) ?_
      repeat (first | rw [show (i : Int) + 2 = ((i + 2 : Nat) : Int) by omega] | rw [show (i : Int) + 1 = ((i + 1 : Nat) : Int) by omega] | rw [show (i : Int) + 3 = ((i + 3 : Nat) : Int) by omega] | rw [hw] | refine gd1_ ?_)
      repeat (first | rw [hset] | refine go1_ ?_ | refine bx_ (fun _ => ?_))
      exact ⟨m - 1, by omega, k + 1, by omega, ⟨rfl, rfl, rfl, rfl, rfl, trivial⟩, rfl⟩
    · have hcs : cur f v (f (n - 1)) (q + 1) i = cur f v (f (n - 1)) q (i + 2) := by show (if v < f (i + 2) then _ else _) = _; rw [if_neg h1]
      repeat (first | rw [show (i : Int) + 2 = ((i + 2 : Nat) : Int) by omega] | refine go1_ ?_ | refine bx_ (fun _ => ?_))
      exact ⟨q, by omega, i + 2, by omega, by omega, ⟨rfl, rfl, rfl, rfl, rfl, rfl, rfl, trivial⟩, rfl, by omega, by exact hcs.symm.trans hcu⟩
  · obtain rfl : k = 256 := by omega
    rw [psel_end]
    repeat (first | refine go_ ?_ | refine bx_ (fun _ => ?_))
    exact fin1S rfl rfl ⟨g, rfl, rfl⟩

/-! Tables -/
def t0 (p q v : Int) : Int := min 255 ((255 * max 0 (v - p) + (q - p) / 2) / (q - p))
def tblZ (kind : Int) (n : Nat) (f : Nat → Int) (v : Int) : Int :=
  if kind = 0 then t0 (f 0) (f 1) v else if kind = 1 then curveZ n f v else if kind = 2 then 255 - v else if f 0 ≤ v then 255 else 0
theorem t0_bd (p q v : Int) (h : p < q) : 0 ≤ t0 p q v ∧ t0 p q v ≤ 255 := by
  unfold t0
  have h1 : 0 ≤ (255 * max 0 (v - p) + (q - p) / 2) / (q - p) := Int.ediv_nonneg (by omega) (by omega)
  generalize (255 * max 0 (v - p) + (q - p) / 2) / (q - p) = x at *
  omega
theorem t0_hi (p q v : Int) (h : p < q) (hv : q ≤ v) : t0 p q v = 255 := by
  unfold t0
  have h1 : 255 ≤ (255 * max 0 (v - p) + (q - p) / 2) / (q - p) := by
    rw [Int.le_ediv_iff_mul_le (by omega)]
    omega
  generalize (255 * max 0 (v - p) + (q - p) / 2) / (q - p) = x at *
  omega
theorem t0_lo (p q v : Int) (h : p < q) (hv : v ≤ p) : t0 p q v = 0 := by
  unfold t0
  have h1 : (255 * max 0 (v - p) + (q - p) / 2) / (q - p) = 0 := Int.ediv_eq_zero_of_lt (by omega) (by omega)
  rw [h1]; rfl
theorem t0_mid (p q v : Int) (h : p < v) (hv : v < q) : t0 p q v = (255 * (v - p) + (q - p) / 2) / (q - p) := by
  unfold t0
  have h1 : max 0 (v - p) = v - p := by omega
  rw [h1]
  have h2 : (255 * (v - p) + (q - p) / 2) / (q - p) < 256 := Int.ediv_lt_of_lt_mul (by omega) (by omega)
  generalize (255 * (v - p) + (q - p) / 2) / (q - p) = x at *
  omega
theorem tbl_bd {kind : Int} {n : Nat} {f : Nat → Int} (h : Rt kind n f) {v : Int} (hv : 0 ≤ v ∧ v ≤ 255) : 0 ≤ tblZ kind n f v ∧ tblZ kind n f v ≤ 255 := by
  unfold tblZ
  by_cases k0 : kind = 0
  · subst k0; rw [if_pos rfl]; exact t0_bd _ _ _ (by have := h.2; omega)
  rw [if_neg k0]
  by_cases k1 : kind = 1
  · subst k1; rw [if_pos rfl]; exact curve_bd h.crv v
  rw [if_neg k1]
  split
  · omega
  · split <;> omega
/-- What a function of tables hands back. -/
def TabR (kind : Int) (n : Nat) (f : Nat → Int) (H : List Ent) (r : Value) (H' : List Ent) : Prop :=
  (Rt kind n f ∧ ∃ g, r = .tuple #[.slice (some ⟨g, 0, none⟩) 256 256, .bool true] ∧ H' = ⟨g, 3, tab 256 (fun v => tblZ kind n f v), 256⟩ :: H) ∨
  (¬ Rt kind n f ∧ (∃ a m c, r = .tuple #[.slice a m c, .bool false]) ∧ H' = H)
/-- The same; and what is none is empty. -/
def TabP (kind : Int) (n : Nat) (f : Nat → Int) (H : List Ent) (r : Value) (H' : List Ent) : Prop :=
  (Rt kind n f ∧ ∃ g, r = .tuple #[.slice (some ⟨g, 0, none⟩) 256 256, .bool true] ∧ H' = ⟨g, 3, tab 256 (fun v => tblZ kind n f v), 256⟩ :: H) ∨
  (¬ Rt kind n f ∧ r = .tuple #[.slice none 0 0, .bool false] ∧ H' = H)
set_option maxHeartbeats 8000000 in
set_option maxRecDepth 100000 in
theorem table_fn (kind : Int) {a : Option Addr} {n cap : Nat} {f : Nat → Int} (h : Par w0 B H a n cap f) : Fn Try.prog w0 B 75 [.int .i64 kind, .slice a n cap] H (fun r H' => TabP kind n f H r H') := by
  refine fn_intro Try.func75 rfl (by kernel_rfl) rfl ?_
  repeat (first | refine go_ ?_ | refine bx_ (fun _ => ?_))
  refine hl_call rfl rfl (right_fn kind h) (fun r H' hr => ?_)
  obtain ⟨⟨rfl, hR⟩ | ⟨rfl, hR⟩, rfl⟩ := hr
  rotate_left
  · repeat (first | refine go_ ?_ | refine bx_ (fun _ => ?_))
    exact fin2SB rfl rfl rfl (.inr ⟨hR, rfl, rfl⟩)
  by_cases k1 : kind = 1
  · subst k1
    repeat (first | refine go_ ?_ | refine bx_ (fun _ => ?_))
    refine hl_call rfl rfl (curve_fn h hR.crv) (fun r H' hr => ?_)
    obtain ⟨g, rfl, rfl⟩ := hr
    repeat (first | refine go_ ?_ | refine bx_ (fun _ => ?_))
    exact fin2SB rfl rfl rfl (.inl ⟨hR, g, rfl, rfl⟩)
  repeat (first | refine go_ ?_ | refine bx_ (fun _ => ?_))
  refine hl_make1 (n := 256) rfl rfl rfl (by decide) (by decide) rfl (fun g => ?_)
  rw [rep_psel (tblZ kind n f)]
  repeat (first | refine go_ ?_ | refine bx_ (fun _ => ?_))
  refine hc_loop (fun m fr M => ∃ k, k + m = 256 ∧ Agr fr [(0, .int .i64 kind), (1, .slice a n cap), (6, .slice (some ⟨g, 0, none⟩) 256 256), (19, .int .i64 256), (20, .int .i64 (k : Int))] ∧ M = ⟨g, 3, tab 256 (psel (tblZ kind n f) k), 256⟩ :: H') 256 ?_ ?_
  · exact ⟨0, by omega, ⟨rfl, rfl, rfl, rfl, rfl, trivial⟩, rfl⟩
  rintro m fr M ⟨k, hk, hf, rfl⟩
  obtain ⟨base, rfl⟩ := hf.out
  clear hf
  by_cases hlt : k < 256
  · have hset := psel_set (tblZ kind n f) 256 k
    have hall := hR.1
    have hR2 := hR.2
    have hz := psel_zero (tblZ kind n f) k
    by_cases k0 : kind = 0
    · subst k0
      have hv : tblZ 0 n f k = t0 (f 0) (f 1) k := by unfold tblZ; rw [if_pos rfl]
      obtain ⟨b, off, rfl, hp⟩ := h.row (by omega)
      have b0 := hall 0 (by omega)
      have b1 := hall 1 (by omega)
      unfold Ok1 at b0 b1
      rw [hv] at hset
      unfold t0 at hset
      repeat (first | refine go_ ?_ | refine bx_ (fun _ => ?_))
      refine hc_draw (by kernel_rfl) (by kernel_rfl) ?_
      repeat (first | refine gd_ ?_)
      repeat (first | rw [hset] | refine go1_ ?_ | refine bx_ (fun _ => ?_))
      exact ⟨m - 1, by omega, k + 1, by omega, ⟨rfl, rfl, rfl, rfl, rfl, trivial⟩, rfl⟩
    by_cases k2 : kind = 2
    · subst k2
      have hv : tblZ 2 n f k = 255 - k := by unfold tblZ; rw [if_neg (by decide), if_neg (by decide), if_pos rfl]
      rw [hv] at hset
      repeat (first | rw [hset] | refine go1_ ?_ | refine bx_ (fun _ => ?_))
      exact ⟨m - 1, by omega, k + 1, by omega, ⟨rfl, rfl, rfl, rfl, rfl, trivial⟩, rfl⟩
    have k3 : kind = 3 := by omega
    subst k3
    have hv : tblZ 3 n f k = if f 0 ≤ k then 255 else 0 := by unfold tblZ; rw [if_neg (by decide), if_neg (by decide), if_neg (by decide)]
    obtain ⟨b, off, rfl, hp⟩ := h.row (by omega)
    by_cases h1 : f 0 ≤ k
    · rw [hv, if_pos h1] at hset
      repeat (first | rw [hset] | refine go1_ ?_ | refine bx_ (fun _ => ?_))
      exact ⟨m - 1, by omega, k + 1, by omega, ⟨rfl, rfl, rfl, rfl, rfl, trivial⟩, rfl⟩
    · rw [hv, if_neg h1] at hz
      repeat (first | refine go_ ?_ | refine bx_ (fun _ => ?_))
      exact ⟨m - 1, by omega, k + 1, by omega, ⟨rfl, rfl, rfl, rfl, rfl, trivial⟩, by rw [hz rfl]⟩
  · obtain rfl : k = 256 := by omega
    rw [psel_end]
    repeat (first | refine go_ ?_ | refine bx_ (fun _ => ?_))
    exact fin2SB rfl rfl rfl (.inl ⟨hR, g, rfl, rfl⟩)
set_option maxHeartbeats 8000000 in
set_option maxRecDepth 100000 in
theorem rtable_fn (kind : Int) {a : Option Addr} {n cap : Nat} {f : Nat → Int} (h : Par w0 B H a n cap f) : Fn Try.prog w0 B 91 [.int .i64 kind, .slice a n cap] H (fun r H' => TabR kind n f H r H') := by
  have hn := h.small
  refine fn_intro Try.func91 rfl (by kernel_rfl) rfl ?_
  repeat (first | refine go_ ?_ | refine bx_ (fun _ => ?_))
  refine hc_loop (fun m fr M => ∃ k, k + m = n ∧ Agr fr [(0, .int .i64 kind), (1, .slice a n cap), (6, .int .i64 (n : Int)), (7, .int .i64 (k : Int))] ∧ M = H ∧ ∀ i, i < k → 0 ≤ f i ∧ f i ≤ 255) n ?_ ?_
  · exact ⟨0, by omega, ⟨rfl, rfl, rfl, rfl, trivial⟩, rfl, fun i hi => by omega⟩
  rintro m fr M ⟨k, hk, hf, rfl, hall⟩
  obtain ⟨base, rfl⟩ := hf.out
  clear hf
  by_cases hlt : k < n
  · obtain ⟨b, off, rfl, hp⟩ := h.row (by omega)
    have hbd := h.bd k hlt
    by_cases h1 : f k < 0
    · repeat (first | refine go_ ?_ | refine bx_ (fun _ => ?_))
      exact fin2SB rfl rfl rfl (.inr ⟨fun hR => by have := (hR.1 k hlt).1; omega, ⟨_, _, _, rfl⟩, rfl⟩)
    by_cases h2 : 255 < f k
    · repeat (first | refine go_ ?_ | refine bx_ (fun _ => ?_))
      exact fin2SB rfl rfl rfl (.inr ⟨fun hR => by have := (hR.1 k hlt).2.1; omega, ⟨_, _, _, rfl⟩, rfl⟩)
    repeat (first | refine go_ ?_ | refine bx_ (fun _ => ?_))
    refine ⟨m - 1, by omega, k + 1, by omega, ⟨rfl, rfl, rfl, rfl, trivial⟩, rfl, fun i hi => ?_⟩
    by_cases e : i = k
    · subst e; omega
    · exact hall i (by omega)
  obtain rfl : k = n := by omega
  clear hlt hk
  repeat (first | refine go_ ?_ | refine bx_ (fun _ => ?_))
  refine hl_make1 (n := 256) rfl rfl rfl (by decide) (by decide) rfl (fun g => ?_)
  rw [rep_psel (tblZ kind k f)]
  by_cases k0 : kind = 0
  · subst k0
    by_cases h2 : k = 2
    · subst h2
      obtain ⟨b, off, rfl, hp⟩ := h.row (by omega)
      have b0 := hall 0 (by omega)
      have b1 := hall 1 (by omega)
      by_cases h3 : f 0 < f 1
      · have hR : Rt 0 2 f := ⟨fun i hi => ⟨(hall i hi).1, (hall i hi).2, fun h => by omega⟩, by omega⟩
        repeat (first | refine go_ ?_ | refine bx_ (fun _ => ?_))
        refine hc_draw (by kernel_rfl) (by kernel_rfl) ?_
        repeat (first | refine gd_ ?_)
        repeat (first | refine go_ ?_ | refine bx_ (fun _ => ?_))
        refine hc_loop (fun m fr X => ∃ k, k + m = 256 ∧ Agr fr [(1, .slice (some ⟨b, off, none⟩) 2 cap), (8, .slice (some ⟨g, 0, none⟩) 256 256), (9, .int .i64 (k : Int))] ∧ X = ⟨g, 3, tab 256 (psel (tblZ 0 2 f) k), 256⟩ :: M) 256 ?_ ?_
        · exact ⟨0, by omega, ⟨rfl, rfl, rfl, trivial⟩, rfl⟩
        clear base
        rintro m fr X ⟨v, hv, hf, rfl⟩
        obtain ⟨base, rfl⟩ := hf.out
        clear hf
        by_cases hv2 : v < 256
        · have hset := psel_set (tblZ 0 2 f) 256 v
          have hz := psel_zero (tblZ 0 2 f) v
          have hv3 : tblZ 0 2 f v = t0 (f 0) (f 1) v := by unfold tblZ; rw [if_pos rfl]
          rw [hv3] at hset hz
          by_cases h4 : f 1 ≤ v
          · rw [t0_hi _ _ _ h3 h4] at hset
            repeat (first | rw [hset] | refine go1_ ?_ | refine bx_ (fun _ => ?_))
            exact ⟨m - 1, by omega, v + 1, by omega, ⟨rfl, rfl, rfl, trivial⟩, rfl⟩
          by_cases h5 : f 0 < v
          · rw [t0_mid _ _ _ h5 (by omega)] at hset
            repeat (first | refine go_ ?_ | refine bx_ (fun _ => ?_))
            refine hc_drawS (by kernel_rfl) (by kernel_rfl) ?_
            repeat (first | refine gd_ ?_)
            repeat (first | rw [hset] | refine go1_ ?_ | refine bx_ (fun _ => ?_))
            exact ⟨m - 1, by omega, v + 1, by omega, ⟨rfl, rfl, rfl, trivial⟩, rfl⟩
          · repeat (first | refine go_ ?_ | refine bx_ (fun _ => ?_))
            exact ⟨m - 1, by omega, v + 1, by omega, ⟨rfl, rfl, rfl, trivial⟩, by rw [hz (t0_lo _ _ _ h3 (by omega))]⟩
        · obtain rfl : v = 256 := by omega
          rw [psel_end]
          repeat (first | refine go_ ?_ | refine bx_ (fun _ => ?_))
          exact fin2SB rfl rfl rfl (.inl ⟨hR, g, rfl, rfl⟩)
      · repeat (first | refine go_ ?_ | refine bx_ (fun _ => ?_))
        refine hc_draw (by kernel_rfl) (by kernel_rfl) ?_
        repeat (first | refine gd_ ?_)
        repeat (first | refine go_ ?_ | refine bx_ (fun _ => ?_))
        exact fin2SB rfl rfl rfl (.inr ⟨fun hR => by have := hR.2; omega, ⟨_, _, _, rfl⟩, rfl⟩)
    · repeat (first | refine go_ ?_ | refine bx_ (fun _ => ?_))
      refine hc_draw (by kernel_rfl) (by kernel_rfl) ?_
      repeat (first | refine gd_ ?_)
      repeat (first | refine go_ ?_ | refine bx_ (fun _ => ?_))
      exact fin2SB rfl rfl rfl (.inr ⟨fun hR => by have := hR.2; omega, ⟨_, _, _, rfl⟩, rfl⟩)
  by_cases k1 : kind = 1
  · subst k1
    by_cases hn3 : 2 ≤ k ∧ k ≤ 32 ∧ k % 2 = 0
    · obtain ⟨b, off, rfl, hp⟩ := h.row (by omega)
      obtain ⟨n1, n2, n3⟩ := hn3
      repeat (first | refine go_ ?_ | refine bx_ (fun _ => ?_))
      refine hc_loop (fun m fr X => ∃ i, i + 2 * m = k ∧ i % 2 = 0 ∧ 2 ≤ i ∧ Agr fr [(1, .slice (some ⟨b, off, none⟩) k cap), (6, .int .i64 (k : Int)), (8, .slice (some ⟨g, 0, none⟩) 256 256), (10, .int .i64 (i : Int))] ∧ X = ⟨g, 3, tab 256 (psel (tblZ 1 k f) 0), 256⟩ :: M ∧ ∀ j, j < i → j % 2 = 0 → 0 < j → f (j - 2) < f j) ((k - 2) / 2) ?_ ?_
      · exact ⟨2, by omega, by omega, by omega, ⟨rfl, rfl, rfl, rfl, trivial⟩, rfl, fun j h1 h2 h3 => by omega⟩
      clear base
      rintro m fr X ⟨i, hi, he, h2, hf, rfl, hmo⟩
      obtain ⟨base, rfl⟩ := hf.out
      clear hf
      by_cases hik : i < k
      · have b0 := hall i hik
        have b1 := hall (i - 2) (by omega)
        by_cases h3 : f i ≤ f (i - 2)
        · repeat (first | refine go_ ?_ | refine bx_ (fun _ => ?_))
          refine hc_draw (by kernel_rfl) (by kernel_rfl) ?_
          repeat (first | rw [show (i : Int) - 2 = ((i - 2 : Nat) : Int) by omega] | refine gd1_ ?_)
          repeat (first | refine go_ ?_ | refine bx_ (fun _ => ?_))
          exact fin2SB rfl rfl rfl (.inr ⟨fun hR => by have := (hR.1 i hik).2.2 rfl he (by omega); omega, ⟨_, _, _, rfl⟩, rfl⟩)
        · repeat (first | refine go_ ?_ | refine bx_ (fun _ => ?_))
          refine hc_draw (by kernel_rfl) (by kernel_rfl) ?_
          repeat (first | rw [show (i : Int) - 2 = ((i - 2 : Nat) : Int) by omega] | refine gd1_ ?_)
          repeat (first | refine go_ ?_ | refine bx_ (fun _ => ?_))
          refine ⟨m - 1, by omega, i + 2, by omega, by omega, by omega, ⟨rfl, rfl, rfl, rfl, trivial⟩, rfl, fun j h1 h2 h4 => ?_⟩
          by_cases e : j = i
          · subst e; omega
          · exact hmo j (by omega) h2 h4
      · obtain rfl : i = k := by omega
        have hR : Rt 1 i f := ⟨fun j hj => ⟨(hall j hj).1, (hall j hj).2, fun _ h1 h2 => hmo j hj h1 h2⟩, by omega⟩
        repeat (first | refine go_ ?_ | refine bx_ (fun _ => ?_))
        refine hc_loop (fun m fr X => ∃ k, k + m = 256 ∧ Agr fr [(1, .slice (some ⟨b, off, none⟩) i cap), (8, .slice (some ⟨g, 0, none⟩) 256 256), (11, .int .i64 (k : Int))] ∧ X = ⟨g, 3, tab 256 (psel (tblZ 1 i f) k), 256⟩ :: M) 256 ?_ ?_
        · exact ⟨0, by omega, ⟨rfl, rfl, rfl, trivial⟩, rfl⟩
        clear base
        rintro m fr X ⟨v, hv, hf, rfl⟩
        obtain ⟨base, rfl⟩ := hf.out
        clear hf
        by_cases hv2 : v < 256
        · have hset := psel_set (tblZ 1 i f) 256 v
          have hz := psel_zero (tblZ 1 i f) v
          have hv3 : tblZ 1 i f v = curveZ i f v := by unfold tblZ; rw [if_neg (by decide), if_pos rfl]
          rw [hv3] at hset
          repeat (first | rw [hset] | refine go1_ ?_ | refine bx_ (fun _ => ?_) | refine hl_callv rfl rfl (rcurve_fn (h.imp (Imp.drop (Imp.refl _))) hR.crv v (by omega)) ?_)
          exact ⟨m - 1, by omega, v + 1, by omega, ⟨rfl, rfl, rfl, trivial⟩, rfl⟩
        · obtain rfl : v = 256 := by omega
          rw [psel_end]
          repeat (first | refine go_ ?_ | refine bx_ (fun _ => ?_))
          exact fin2SB rfl rfl rfl (.inl ⟨hR, g, rfl, rfl⟩)
    · by_cases n1 : k < 2
      · repeat (first | refine go_ ?_ | refine bx_ (fun _ => ?_))
        exact fin2SB rfl rfl rfl (.inr ⟨fun hR => by have := hR.2; omega, ⟨_, _, _, rfl⟩, rfl⟩)
      by_cases n2 : 32 < k
      · repeat (first | refine go_ ?_ | refine bx_ (fun _ => ?_))
        exact fin2SB rfl rfl rfl (.inr ⟨fun hR => by have := hR.2; omega, ⟨_, _, _, rfl⟩, rfl⟩)
      · have n3 : k % 2 = 1 := by omega
        repeat (first | refine go_ ?_ | refine bx_ (fun _ => ?_))
        exact fin2SB rfl rfl rfl (.inr ⟨fun hR => by have := hR.2; omega, ⟨_, _, _, rfl⟩, rfl⟩)
  by_cases k2 : kind = 2
  · subst k2
    repeat (first | refine go_ ?_ | refine bx_ (fun _ => ?_))
    have hR1 : ∀ i, i < k → Ok1 2 f i := fun i hi => ⟨(hall i hi).1, (hall i hi).2, fun h => by omega⟩
    refine hc_loop (fun m fr X => ∃ v, v + m = 256 ∧ Agr fr [(6, .int .i64 (k : Int)), (8, .slice (some ⟨g, 0, none⟩) 256 256), (12, .int .i64 (v : Int))] ∧ X = ⟨g, 3, tab 256 (psel (tblZ 2 k f) v), 256⟩ :: M) 256 ?_ ?_
    · exact ⟨0, by omega, ⟨rfl, rfl, rfl, trivial⟩, rfl⟩
    clear base
    rintro m fr X ⟨v, hv, hf, rfl⟩
    obtain ⟨base, rfl⟩ := hf.out
    clear hf
    by_cases hv2 : v < 256
    · have hset := psel_set (tblZ 2 k f) 256 v
      have hz := psel_zero (tblZ 2 k f) v
      have hv3 : tblZ 2 k f v = 255 - v := by unfold tblZ; rw [if_neg (by decide), if_neg (by decide), if_pos rfl]
      rw [hv3] at hset
      repeat (first | rw [hset] | refine go1_ ?_ | refine bx_ (fun _ => ?_))
      exact ⟨m - 1, by omega, v + 1, by omega, ⟨rfl, rfl, rfl, trivial⟩, rfl⟩
    · obtain rfl : v = 256 := by omega
      rw [psel_end]
      by_cases hk0 : k = 0
      · repeat (first | refine go_ ?_ | refine bx_ (fun _ => ?_))
        exact fin2SB rfl rfl rfl (.inl ⟨⟨hR1, by omega⟩, g, rfl, rfl⟩)
      · repeat (first | refine go_ ?_ | refine bx_ (fun _ => ?_))
        exact fin2SB rfl rfl rfl (.inr ⟨fun hR => by have := hR.2; omega, ⟨_, _, _, rfl⟩, rfl⟩)
  by_cases k3 : kind = 3
  · subst k3
    by_cases hk1 : k = 1
    · subst hk1
      obtain ⟨b, off, rfl, hp⟩ := h.row (by omega)
      have b0 := hall 0 (by omega)
      have hR : Rt 3 1 f := ⟨fun i hi => ⟨(hall i hi).1, (hall i hi).2, fun h => by omega⟩, by omega⟩
      have hv3 : ∀ v : Nat, tblZ 3 1 f v = if f 0 ≤ v then 255 else 0 := fun v => by unfold tblZ; rw [if_neg (by decide), if_neg (by decide), if_neg (by decide)]
      obtain ⟨p, hp0⟩ : ∃ p : Nat, f 0 = (p : Int) := ⟨(f 0).toNat, by omega⟩
      have hz : tab 256 (psel (tblZ 3 1 f) 0) = tab 256 (psel (tblZ 3 1 f) p) := tab_congr fun j _ => by
        unfold psel
        rw [if_neg (by omega)]
        by_cases h1 : j < p
        · rw [if_pos h1, hv3, if_neg (by omega)]
        · rw [if_neg h1]
      rw [hz]
      repeat (first | refine go_ ?_ | refine bx_ (fun _ => ?_))
      refine hc_loop (fun m fr X => ∃ v, v + m = 256 ∧ p ≤ v ∧ Agr fr [(8, .slice (some ⟨g, 0, none⟩) 256 256), (13, .int .i64 (v : Int))] ∧ X = ⟨g, 3, tab 256 (psel (tblZ 3 1 f) v), 256⟩ :: M) (256 - p) ?_ ?_
      · exact ⟨p, by omega, by omega, ⟨rfl, by rw [← hp0]; rfl, trivial⟩, rfl⟩
      clear base
      rintro m fr X ⟨v, hv, hpv, hf, rfl⟩
      obtain ⟨base, rfl⟩ := hf.out
      clear hf
      by_cases hv2 : v < 256
      · have hset := psel_set (tblZ 3 1 f) 256 v
        rw [hv3, if_pos (by omega)] at hset
        repeat (first | rw [hset] | refine go1_ ?_ | refine bx_ (fun _ => ?_))
        exact ⟨m - 1, by omega, v + 1, by omega, by omega, ⟨rfl, rfl, trivial⟩, rfl⟩
      · obtain rfl : v = 256 := by omega
        rw [psel_end]
        repeat (first | refine go_ ?_ | refine bx_ (fun _ => ?_))
        exact fin2SB rfl rfl rfl (.inl ⟨hR, g, rfl, rfl⟩)
    · repeat (first | refine go_ ?_ | refine bx_ (fun _ => ?_))
      exact fin2SB rfl rfl rfl (.inr ⟨fun hR => by have := hR.2; omega, ⟨_, _, _, rfl⟩, rfl⟩)
  · repeat (first | refine go_ ?_ | refine bx_ (fun _ => ?_))
    exact fin2SB rfl rfl rfl (.inr ⟨fun hR => by have := hR.2; omega, ⟨_, _, _, rfl⟩, rfl⟩)
end
end Go.Proofs.Ytoobhebbgbhahaa.Tb
namespace Go.Proofs.Ytoobhebbgbhahaa
open Go.RowKit
abbrev Ly.mf (l : Ly) : Nat → Int := L6 l.a0 l.a1 l.a2 l.a3 l.a4 l.a5
section
variable {c : Cx} {Q : Pst} {fr : Fr} {H : List Ent} {ops : Array Oper} {rest : List Oper} {dst : Option Nat} {ty : TypeId} {pos : String} {after : Array Edge} {x y : Operand} {T u : TypeId} {S : List Oper → Fr → List Ent → Prop}
theorem hl_neArrT [Stp c ops S] {l m : List Int} {n e : Nat} [TArr c.P T n e] [TInt c.P e .i64] [TSz c.P e 1] [TEqG c.P T] (hx : ev fr x = arrV l) (hy : ev fr y = arrV m) (hl : l.length = n) (hm : m.length = n) (hlm : l ≠ m) (hd : dOk c.n dst = true)
    (k : S rest (updO fr dst (.bool true)) H) : S (⟨dst, .binOp .neq T x y u, ty, pos, after, none⟩ :: rest) fr H := hl_neArr hx hy hl hm hd (by rw [show (l == m) = false by simpa using hlm]; exact k)
end
/-- What a layer of its kind has, and hasn't. -/
structure PlQ (l : Ly) : Prop where
  n0 : l.k ≠ 0 → l.w = 0 ∧ l.h = 0 ∧ l.P = [] ∧ l.mp = [65536, 0, 0, 65536, 0, 0] ∧ l.s = false
  n2 : l.k ≠ 2 → l.t = 2 ∧ l.Q = []
  k2 : l.k = 2 → l.e = 0
  k0 : l.k = 0 → (backR l.mf).2 = 0 ∧ SzQ l.w l.h ∧ (l.P.length : Int) = l.w * l.h ∧ ∀ v ∈ l.P, PixQ v
  tb : Tb.Rt l.t l.Q.length (fun i => l.Q.getD i 0)
theorem par_of {w0 : World} {B : Nat} {H : List Ent} {a : Option Addr} {n c : Nat} {l : List Int} (h : NumR w0 B H a n l) (hI : ∀ x ∈ l, I64 x) (hs : n ≤ 1000000) : Tb.Par w0 B H a n c (fun i => l.getD i 0) := by
  have he := h.eq
  refine ⟨fun h0 => ?_, fun i hi => ?_, hs⟩
  · obtain ⟨b, off, rfl⟩ := h.pos h0
    refine ⟨b, off, rfl, ⟨fun w hw j hj => ?_⟩⟩
    have := h.rd.cell w hw _ rfl j (.int .i64 (l.getD j 0)) (by rw [List.getElem?_map, List.getElem?_eq_getElem (by omega), List.getD_eq_getElem?_getD, List.getElem?_eq_getElem (by omega)]; rfl)
    rw [Addr.add_lit] at this
    exact this
  · rw [List.getD_eq_getElem?_getD, List.getElem?_eq_getElem (by omega)]
    exact hI _ (List.getElem_mem _)
theorem sm_mf {l : Ly} (h : ∀ n ∈ l.mp, I64 n) : Sm l.mf := by
  simp only [Ly.mp, List.mem_cons, List.not_mem_nil, or_false, forall_eq_or_imp, forall_eq, I64] at h
  obtain ⟨h0, h1, h2, h3, h4, h5⟩ := h
  intro i hi
  obtain rfl | rfl | rfl | rfl | rfl | rfl : i = 0 ∨ i = 1 ∨ i = 2 ∨ i = 3 ∨ i = 4 ∨ i = 5 := by omega
  · exact h0
  · exact h1
  · exact h2
  · exact h3
  · exact h4
  · exact h5
section
variable {w0 : World} {B : Nat} {H R R0 : List Ent} {g : Nat}
set_option maxHeartbeats 16000000
set_option maxRecDepth 100000
theorem rplain_fn {l : Ly} {t w h n : Int} {lv pv mv qv : Value} {la : Option Addr} {ln lc : Nat} (hlv : lv = .slice la ln lc) (hly : LyR w0 B H l pv mv qv) (hw : l.wf 1000000) (b : Bool) (hb : b = true ↔ PlQ l) :
    Fn Try.prog w0 B 79 [.agg [.int .i64 w, .int .i64 h, .int .i64 n, lv].toArray, .agg (rlC t l pv mv qv).toArray] H (fun v H' => v = .bool b ∧ H' = H) := by
  subst hlv
  obtain ⟨⟨pa, pc, rfl, nP⟩, ⟨ma, mc, rfl, nM⟩, ⟨qa, qc, rfl, nQ⟩⟩ := hly
  have bf : ¬ PlQ l → b = false := fun h => by cases b; rfl; exact absurd (hb.1 rfl) h
  have bt : PlQ l → b = true := hb.2
  clear hb
  obtain ⟨wh, wP, wm, wt, wQ, lP, lM, lQ⟩ := hw
  have hsm := sm_mf wm
  have hpar := par_of (c := qc) nQ wQ lQ
  refine fn_intro Try.func79 rfl (by kernel_rfl) rfl ?_
  by_cases k0 : l.k ≠ 0
  · have k0' : ¬ l.k = 0 := k0
    by_cases h1 : l.w ≠ 0
    · obtain rfl := bf (fun q => h1 (q.n0 k0).1)
      repeat (first | refine hl_loadN (i := 10) (n := 6) (vs := l.mp.map intV) rfl (.there .here) rfl rfl rfl ?_ | refine hl_loadN (i := 0) (n := 6) (vs := [65536, 0, 0, 65536, 0, 0].map intV) rfl .here rfl rfl rfl ?_ | refine go1_ ?_ | refine bx_ (fun _ => ?_))
      exact fin1B rfl rfl ⟨rfl, rfl⟩
    by_cases h2 : l.h ≠ 0
    · obtain rfl := bf (fun q => h2 (q.n0 k0).2.1)
      repeat (first | refine hl_loadN (i := 10) (n := 6) (vs := l.mp.map intV) rfl (.there .here) rfl rfl rfl ?_ | refine hl_loadN (i := 0) (n := 6) (vs := [65536, 0, 0, 65536, 0, 0].map intV) rfl .here rfl rfl rfl ?_ | refine go1_ ?_ | refine bx_ (fun _ => ?_))
      exact fin1B rfl rfl ⟨rfl, rfl⟩
    by_cases h3 : l.P.length ≠ 0
    · obtain rfl := bf (fun q => h3 (by rw [(q.n0 k0).2.2.1]; rfl))
      repeat (first | refine hl_loadN (i := 10) (n := 6) (vs := l.mp.map intV) rfl (.there .here) rfl rfl rfl ?_ | refine hl_loadN (i := 0) (n := 6) (vs := [65536, 0, 0, 65536, 0, 0].map intV) rfl .here rfl rfl rfl ?_ | refine go1_ ?_ | refine bx_ (fun _ => ?_))
      exact fin1B rfl rfl ⟨rfl, rfl⟩
    by_cases hmp : l.mp ≠ [65536, 0, 0, 65536, 0, 0]
    · obtain rfl := bf (fun q => hmp (q.n0 k0).2.2.2.1)
      repeat (first | refine hl_loadN (i := 10) (n := 6) (vs := l.mp.map intV) rfl (.there .here) rfl rfl rfl ?_ | refine hl_loadN (i := 0) (n := 6) (vs := [65536, 0, 0, 65536, 0, 0].map intV) rfl .here rfl rfl rfl ?_ | refine hl_neArrT (l := l.mp) (m := [65536, 0, 0, 65536, 0, 0]) rfl rfl rfl rfl hmp rfl ?_ | refine go1_ ?_ | refine bx_ (fun _ => ?_))
      exact fin1B rfl rfl ⟨rfl, rfl⟩
    replace hmp := Classical.not_not.1 hmp
    by_cases h5 : l.s = true
    · have bs := h5
      obtain rfl := bf (fun q => by rw [(q.n0 k0).2.2.2.2] at h5; cases h5)
      repeat (first | refine hl_loadN (i := 10) (n := 6) (vs := l.mp.map intV) rfl (.there .here) rfl rfl rfl ?_ | refine hl_loadN (i := 0) (n := 6) (vs := [65536, 0, 0, 65536, 0, 0].map intV) rfl .here rfl rfl rfl ?_ | refine hl_neArrF (l := l.mp) (m := [65536, 0, 0, 65536, 0, 0]) rfl rfl rfl hmp rfl ?_ | rw [bs] | refine go1_ ?_ | refine bx_ (fun _ => ?_))
      exact fin1B rfl rfl ⟨rfl, rfl⟩
    replace h5 : l.s = false := by simpa using h5
    have hP0 : l.P = [] := List.length_eq_zero_iff.1 (by omega)
    by_cases k2 : l.k ≠ 2
    · by_cases g1 : l.t ≠ 2
      · obtain rfl := bf (fun q => g1 (q.n2 k2).1)
        repeat (first | refine hl_loadN (i := 10) (n := 6) (vs := l.mp.map intV) rfl (.there .here) rfl rfl rfl ?_ | refine hl_loadN (i := 0) (n := 6) (vs := [65536, 0, 0, 65536, 0, 0].map intV) rfl .here rfl rfl rfl ?_ | refine hl_neArrF (l := l.mp) (m := [65536, 0, 0, 65536, 0, 0]) rfl rfl rfl hmp rfl ?_ | rw [h5] | refine go1_ ?_ | refine bx_ (fun _ => ?_))
        exact fin1B rfl rfl ⟨rfl, rfl⟩
      by_cases g2 : l.Q.length ≠ 0
      · obtain rfl := bf (fun q => g2 (by rw [(q.n2 k2).2]; rfl))
        repeat (first | refine hl_loadN (i := 10) (n := 6) (vs := l.mp.map intV) rfl (.there .here) rfl rfl rfl ?_ | refine hl_loadN (i := 0) (n := 6) (vs := [65536, 0, 0, 65536, 0, 0].map intV) rfl .here rfl rfl rfl ?_ | refine hl_neArrF (l := l.mp) (m := [65536, 0, 0, 65536, 0, 0]) rfl rfl rfl hmp rfl ?_ | rw [h5] | refine go1_ ?_ | refine bx_ (fun _ => ?_))
        exact fin1B rfl rfl ⟨rfl, rfl⟩
      have hQ0 : l.Q = [] := List.length_eq_zero_iff.1 (by omega)
      repeat (first | refine hl_loadN (i := 10) (n := 6) (vs := l.mp.map intV) rfl (.there .here) rfl rfl rfl ?_ | refine hl_loadN (i := 0) (n := 6) (vs := [65536, 0, 0, 65536, 0, 0].map intV) rfl .here rfl rfl rfl ?_ | refine hl_neArrF (l := l.mp) (m := [65536, 0, 0, 65536, 0, 0]) rfl rfl rfl hmp rfl ?_ | rw [h5] | refine go1_ ?_ | refine bx_ (fun _ => ?_))
      refine hl_call rfl rfl (Tb.rtable_fn l.t (hpar.imp (Imp.drop (Imp.drop (Imp.drop (Imp.refl _)))))) (fun v M o => ?_)
      rcases o with ⟨hT, g', rfl, rfl⟩ | ⟨hT, ⟨a', m', c', rfl⟩, rfl⟩
      · obtain rfl := bt ⟨fun _ => ⟨by omega, by omega, hP0, hmp, h5⟩, fun _ => ⟨by omega, hQ0⟩, fun h => absurd h k2, fun h => absurd h k0, hT⟩
        repeat (first | refine go_ ?_ | refine bx_ (fun _ => ?_))
        exact fin1B rfl rfl ⟨rfl, rfl⟩
      · obtain rfl := bf (fun q => hT q.tb)
        repeat (first | refine go_ ?_ | refine bx_ (fun _ => ?_))
        exact fin1B rfl rfl ⟨rfl, rfl⟩
    · by_cases e1 : l.e ≠ 0
      · obtain rfl := bf (fun q => e1 (q.k2 (by omega)))
        repeat (first | refine hl_loadN (i := 10) (n := 6) (vs := l.mp.map intV) rfl (.there .here) rfl rfl rfl ?_ | refine hl_loadN (i := 0) (n := 6) (vs := [65536, 0, 0, 65536, 0, 0].map intV) rfl .here rfl rfl rfl ?_ | refine hl_neArrF (l := l.mp) (m := [65536, 0, 0, 65536, 0, 0]) rfl rfl rfl hmp rfl ?_ | rw [h5] | refine go1_ ?_ | refine bx_ (fun _ => ?_))
        exact fin1B rfl rfl ⟨rfl, rfl⟩
      repeat (first | refine hl_loadN (i := 10) (n := 6) (vs := l.mp.map intV) rfl (.there .here) rfl rfl rfl ?_ | refine hl_loadN (i := 0) (n := 6) (vs := [65536, 0, 0, 65536, 0, 0].map intV) rfl .here rfl rfl rfl ?_ | refine hl_neArrF (l := l.mp) (m := [65536, 0, 0, 65536, 0, 0]) rfl rfl rfl hmp rfl ?_ | rw [h5] | refine go1_ ?_ | refine bx_ (fun _ => ?_))
      refine hl_call rfl rfl (Tb.rtable_fn l.t (hpar.imp (Imp.drop (Imp.drop (Imp.drop (Imp.refl _)))))) (fun v M o => ?_)
      rcases o with ⟨hT, g', rfl, rfl⟩ | ⟨hT, ⟨a', m', c', rfl⟩, rfl⟩
      · obtain rfl := bt ⟨fun _ => ⟨by omega, by omega, hP0, hmp, h5⟩, fun h => absurd h k2, fun _ => by omega, fun h => absurd h k0, hT⟩
        repeat (first | refine go_ ?_ | refine bx_ (fun _ => ?_))
        exact fin1B rfl rfl ⟨rfl, rfl⟩
      · obtain rfl := bf (fun q => hT q.tb)
        repeat (first | refine go_ ?_ | refine bx_ (fun _ => ?_))
        exact fin1B rfl rfl ⟨rfl, rfl⟩
  replace k0 : l.k = 0 := by omega
  have k2 : l.k ≠ 2 := by omega
  by_cases g1 : l.t ≠ 2
  · obtain rfl := bf (fun q => g1 (q.n2 k2).1)
    repeat (first | refine hl_loadN (i := 10) (n := 6) (vs := l.mp.map intV) rfl (.there .here) rfl rfl rfl ?_ | refine hl_loadN (i := 0) (n := 6) (vs := [65536, 0, 0, 65536, 0, 0].map intV) rfl .here rfl rfl rfl ?_ | refine go1_ ?_ | refine bx_ (fun _ => ?_))
    exact fin1B rfl rfl ⟨rfl, rfl⟩
  by_cases g2 : l.Q.length ≠ 0
  · obtain rfl := bf (fun q => g2 (by rw [(q.n2 k2).2]; rfl))
    repeat (first | refine hl_loadN (i := 10) (n := 6) (vs := l.mp.map intV) rfl (.there .here) rfl rfl rfl ?_ | refine hl_loadN (i := 0) (n := 6) (vs := [65536, 0, 0, 65536, 0, 0].map intV) rfl .here rfl rfl rfl ?_ | refine go1_ ?_ | refine bx_ (fun _ => ?_))
    exact fin1B rfl rfl ⟨rfl, rfl⟩
  have hQ0 : l.Q = [] := List.length_eq_zero_iff.1 (by omega)
  have hmv : Value.agg (l.mp.map intV).toArray = mapV l.mf := rfl
  have cb := fun H => rback_fn (w0 := w0) (B := B) (H := H) l.mf hsm
  rw [← hmv] at cb
  by_cases hbk : (backR l.mf).2 ≠ 0
  · obtain rfl := bf (fun q => hbk (q.k0 k0).1)
    repeat (first | refine hl_loadN (i := 10) (n := 6) (vs := l.mp.map intV) rfl (.there .here) rfl rfl rfl ?_ | refine hl_loadN (i := 0) (n := 6) (vs := [65536, 0, 0, 65536, 0, 0].map intV) rfl .here rfl rfl rfl ?_ | refine go1_ ?_ | refine bx_ (fun _ => ?_) | refine hl_callv rfl rfl (cb _) ?_)
    exact fin1B rfl rfl ⟨rfl, rfl⟩
  replace hbk : (backR l.mf).2 = 0 := Classical.not_not.1 hbk
  simp only [hbk] at cb
  by_cases hsz : ¬ SzQ l.w l.h
  · have cs := fun H => sized_fn (w0 := w0) (B := B) (H := H) l.w l.h
    rw [show decide (SzQ l.w l.h) = false from decide_eq_false hsz] at cs
    obtain rfl := bf (fun q => hsz (q.k0 k0).2.1)
    repeat (first | refine hl_loadN (i := 10) (n := 6) (vs := l.mp.map intV) rfl (.there .here) rfl rfl rfl ?_ | refine hl_loadN (i := 0) (n := 6) (vs := [65536, 0, 0, 65536, 0, 0].map intV) rfl .here rfl rfl rfl ?_ | refine go1_ ?_ | refine bx_ (fun _ => ?_) | refine hl_callv rfl rfl (cb _) ?_ | refine hl_callv rfl rfl (cs _) ?_)
    exact fin1B rfl rfl ⟨rfl, rfl⟩
  replace hsz : SzQ l.w l.h := Classical.not_not.1 hsz
  have cs := fun H => sized_fn (w0 := w0) (B := B) (H := H) l.w l.h
  rw [show decide (SzQ l.w l.h) = true from decide_eq_true hsz] at cs
  have hp := prod_bd hsz.1 hsz.2.1 hsz.2.2.1 hsz.2.2.2.1
  by_cases hpl : (l.P.length : Int) ≠ l.w * l.h
  · obtain rfl := bf (fun q => hpl (q.k0 k0).2.2.1)
    repeat (first | refine hl_loadN (i := 10) (n := 6) (vs := l.mp.map intV) rfl (.there .here) rfl rfl rfl ?_ | refine hl_loadN (i := 0) (n := 6) (vs := [65536, 0, 0, 65536, 0, 0].map intV) rfl .here rfl rfl rfl ?_ | refine go1_ ?_ | refine bx_ (fun _ => ?_) | refine hl_callv rfl rfl (cb _) ?_ | refine hl_callv rfl rfl (cs _) ?_)
    exact fin1B rfl rfl ⟨rfl, rfl⟩
  replace hpl : (l.P.length : Int) = l.w * l.h := Classical.not_not.1 hpl
  repeat (first | refine hl_loadN (i := 10) (n := 6) (vs := l.mp.map intV) rfl (.there .here) rfl rfl rfl ?_ | refine hl_loadN (i := 0) (n := 6) (vs := [65536, 0, 0, 65536, 0, 0].map intV) rfl .here rfl rfl rfl ?_ | refine go1_ ?_ | refine bx_ (fun _ => ?_) | refine hl_callv rfl rfl (cb _) ?_ | refine hl_callv rfl rfl (cs _) ?_)
  rename_i gd gl g5 g6
  obtain ⟨R1, hR1⟩ : ∃ R1, R1 = (⟨g6, 37, tab 6 (backR l.mf).1, 6⟩ :: ⟨g5, 37, [.int .i64 65536, .int .i64 0, .int .i64 0, .int .i64 65536, .int .i64 0, .int .i64 0], 6⟩ :: ⟨gl, 121, rlC t l (.slice pa l.P.length pc) (.slice ma l.M.length mc) (.slice qa l.Q.length qc), 19⟩ :: ⟨gd, 58, [.int .i64 w, .int .i64 h, .int .i64 n, .slice la ln lc], 4⟩ :: H : List Ent) := ⟨_, rfl⟩
  have tl : Take R1 ⟨gl, 121, rlC t l (.slice pa l.P.length pc) (.slice ma l.M.length mc) (.slice qa l.Q.length qc), 19⟩ (⟨g6, 37, tab 6 (backR l.mf).1, 6⟩ :: ⟨g5, 37, [.int .i64 65536, .int .i64 0, .int .i64 0, .int .i64 65536, .int .i64 0, .int .i64 0], 6⟩ :: ⟨gd, 58, [.int .i64 w, .int .i64 h, .int .i64 n, .slice la ln lc], 4⟩ :: H) := by rw [hR1]; exact .there (.there .here)
  have iR1 : Imp R1 H := by rw [hR1]; exact Imp.drop (Imp.drop (Imp.drop (Imp.drop (Imp.refl _))))
  refine HC.perm (H' := R1) ?_ (by rw [hR1]; exact List.Perm.refl _)
  refine hc_loopd (fun q fr M => ∃ j : Nat, j + q = l.P.length ∧ (∀ i, (h : i < l.P.length) → i < j → PixQ l.P[i]) ∧ Imp M R1 ∧ Agr fr [(3, .pointer (some ⟨gl, 0, none⟩)), (8, .int .i64 (j : Int))]) l.P.length ?_ ?_
  · exact ⟨0, by omega, fun i h h2 => absurd h2 (by omega), Imp.refl _, rfl, rfl, trivial⟩
  clear hmv
  rintro q fr M ⟨j, hj, hall, him, hf⟩
  obtain ⟨base, rfl⟩ := hf.out
  clear hf
  refine HC.imp ?_ him
  by_cases hlt : j < l.P.length
  · obtain ⟨pb, po, rfl⟩ := nP.pos (by omega)
    have c1 : (l.P.map iV)[j]? = some (.int .i64 l.P[j]) := by simp [hlt]
    have cp := fun H => rpixel_fn (w0 := w0) (B := B) (H := H) l.P[j]
    by_cases hpx : PixQ l.P[j]
    · rw [show decide (PixQ l.P[j]) = true from decide_eq_true hpx] at cp
      repeat (first | refine hl_load1 rfl tl rfl rfl ?_ | refine hl_loadRd rfl nP.rd iR1 c1 rfl ?_ | refine go1_ ?_ | refine bx_ (fun _ => ?_) | refine hl_callv rfl rfl (cp _) ?_)
      refine ⟨q - 1, by omega, _, Imp.refl _, j + 1, by omega, fun i h h2 => ?_, Imp.refl _, rfl, rfl, trivial⟩
      by_cases e : i = j
      · subst e; exact hpx
      · exact hall i h (by omega)
    · rw [show decide (PixQ l.P[j]) = false from decide_eq_false hpx] at cp
      obtain rfl := bf (fun q => hpx ((q.k0 k0).2.2.2 _ (List.getElem_mem _)))
      repeat (first | refine hl_load1 rfl tl rfl rfl ?_ | refine hl_loadRd rfl nP.rd iR1 c1 rfl ?_ | refine go1_ ?_ | refine bx_ (fun _ => ?_) | refine hl_callv rfl rfl (cp _) ?_)
      exact fin1B rfl rfl ⟨rfl, rfl⟩ iR1
  · obtain rfl : j = l.P.length := by omega
    have hallp : ∀ v ∈ l.P, PixQ v := fun v hv => by
      obtain ⟨i, hi, rfl⟩ := List.getElem_of_mem hv
      exact hall i hi hi
    repeat (first | refine hl_load1 rfl tl rfl rfl ?_ | refine go1_ ?_ | refine bx_ (fun _ => ?_))
    refine hl_call rfl rfl (Tb.rtable_fn l.t (hpar.imp iR1)) (fun v M o => ?_)
    rcases o with ⟨hT, g', rfl, rfl⟩ | ⟨hT, ⟨a', m', c', rfl⟩, rfl⟩
    · obtain rfl := bt ⟨fun h => absurd k0 h, fun _ => ⟨by omega, hQ0⟩, fun h => absurd h k2, fun _ => ⟨hbk, hsz, hpl, hallp⟩, hT⟩
      repeat (first | refine go_ ?_ | refine bx_ (fun _ => ?_))
      exact fin1B rfl rfl ⟨rfl, rfl⟩ (Imp.drop iR1)
    · obtain rfl := bf (fun q => hT q.tb)
      repeat (first | refine go_ ?_ | refine bx_ (fun _ => ?_))
      exact fin1B rfl rfl ⟨rfl, rfl⟩ iR1
end
end Go.Proofs.Ytoobhebbgbhahaa
namespace Go.Proofs.Ytoobhebbgbhahaa
open Go.RowKit
theorem first_of {L : List Rl} {u : Int} : ∀ {i : Nat} (hi : i < L.length), L[i].l.i = u → ∃ j, ∃ hj : j < L.length, L[j].l.i = u ∧ ∀ k, (hk : k < L.length) → k < j → L[k].l.i ≠ u := by
  intro i
  induction i using Nat.strongRecOn with
  | _ i ih =>
    intro hi hu
    by_cases h : ∀ k, (hk : k < L.length) → k < i → L[k].l.i ≠ u
    · exact ⟨i, hi, hu, h⟩
    · have ⟨k, hk, hki, e⟩ : ∃ k, ∃ hk : k < L.length, k < i ∧ L[k].l.i = u := by
        refine Classical.byContradiction fun hn => h fun k hk hki e => hn ⟨k, hk, hki, e⟩
      exact ih k hki hk e
theorem nd_get {L : List Rl} (h : (L.map fun x => x.l.i).Nodup) {i j : Nat} (hi : i < L.length) (hj : j < L.length) (e : L[i].l.i = L[j].l.i) : i = j := by
  have hp := List.pairwise_iff_getElem.1 h
  simp only [List.length_map, List.getElem_map] at hp
  rcases Nat.lt_trichotomy i j with h1 | h1 | h1
  · exact absurd e (hp i j hi hj h1)
  · exact h1
  · exact absurd e.symm (hp j i hj hi h1)
section
variable {w0 : World} {B : Nat} {H R R0 : List Ent} {g : Nat}
set_option maxHeartbeats 16000000
set_option maxRecDepth 100000
theorem rfind_fn {w h n u : Int} {lv : Value} {L : List Rl} (hL : RlR w0 B H lv L) {i : Nat} (hi : i < L.length) (hl : L.length ≤ 1000000000000) (hu : L[i].l.i = u) (hf : ∀ k, (hk : k < L.length) → k < i → L[k].l.i ≠ u) :
    Fn Try.prog w0 B 60 [.agg [.int .i64 w, .int .i64 h, .int .i64 n, lv].toArray, .int .i64 u] H (fun v H' => v = .int .i64 (i : Int) ∧ H' = H) := by
  obtain ⟨a, c, C, rfl, hC, hRl⟩ := hL
  refine fn_intro Try.func60 rfl (by kernel_rfl) rfl ?_
  repeat (first | refine go_ ?_ | refine bx_ (fun _ => ?_))
  rename_i gd
  obtain ⟨eb, heb⟩ : ∃ eb : Ent, eb = ⟨gd, 58, [.int .i64 w, .int .i64 h, .int .i64 n, .slice a L.length c], 4⟩ := ⟨_, rfl⟩
  have tx : Take (eb :: H) ⟨gd, 58, [.int .i64 w, .int .i64 h, .int .i64 n, .slice a L.length c], 4⟩ H := by rw [heb]; exact .here
  have iR : Imp (eb :: H) H := Imp.drop (Imp.refl _)
  refine HC.perm (H' := eb :: H) ?_ (by rw [heb]; exact List.Perm.refl _)
  refine hc_loop (fun q fr M => ∃ j : Nat, j + q = i ∧ M = eb :: H ∧ Agr fr [(1, .int .i64 u), (2, .pointer (some ⟨gd, 0, none⟩)), (5, .int .i64 (j : Int))]) i ?_ ?_
  · exact ⟨0, by omega, rfl, rfl, rfl, rfl, trivial⟩
  rintro q fr M ⟨j, hj, rfl, hfr⟩
  obtain ⟨base, rfl⟩ := hfr.out
  clear hfr
  obtain ⟨bb, off, rfl⟩ := hC.pos (by omega)
  have hjl : j < L.length := by omega
  obtain ⟨pv, mv, qv, hcell, _⟩ := hRl.at' hjl
  have h0 : C[j * 19 + 0]? = some (.int .i64 L[j].l.i) := cell19 hcell rfl
  by_cases he : j = i
  · subst he
    rw [hu] at h0
    repeat (first | refine hl_load1 rfl tx rfl rfl ?_ | refine hl_loadRd (j := j * 19 + 0) rfl hC.rd iR h0 rfl ?_ | refine go1_ ?_ | refine bx_ (fun _ => ?_))
    exact fin1I rfl rfl ⟨rfl, rfl⟩ iR
  · have hne := hf j hjl (by omega)
    generalize L[j].l.i = z at *
    repeat (first | refine hl_load1 rfl tx rfl rfl ?_ | refine hl_loadRd (j := j * 19 + 0) rfl hC.rd iR h0 rfl ?_ | refine go1_ ?_ | refine bx_ (fun _ => ?_))
    exact ⟨q - 1, by omega, j + 1, by omega, rfl, rfl, rfl, rfl, trivial⟩
theorem rdeep_fn {w h n : Int} {lv : Value} {L : List Rl} (hL : RlR w0 B H lv L) (hnd : (L.map fun x => x.l.i).Nodup) (hl : L.length ≤ 1000000000000) {u : Int} {m : Nat} (hU : Up L u m) (hm : m ≤ 1000000) :
    Fn Try.prog w0 B 92 [.agg [.int .i64 w, .int .i64 h, .int .i64 n, lv].toArray, .int .i64 u] H (fun v H' => v = .int .i64 (m : Int) ∧ H' = H) := by
  have hL0 := hL
  obtain ⟨a, c, C, rfl, hC, hRl⟩ := hL
  refine fn_intro Try.func92 rfl (by kernel_rfl) rfl ?_
  repeat (first | refine go_ ?_ | refine bx_ (fun _ => ?_))
  rename_i gd
  obtain ⟨eb, heb⟩ : ∃ eb : Ent, eb = ⟨gd, 58, [.int .i64 w, .int .i64 h, .int .i64 n, .slice a L.length c], 4⟩ := ⟨_, rfl⟩
  have tx : Take (eb :: H) ⟨gd, 58, [.int .i64 w, .int .i64 h, .int .i64 n, .slice a L.length c], 4⟩ H := by rw [heb]; exact .here
  have iR : Imp (eb :: H) H := Imp.drop (Imp.refl _)
  refine HC.perm (H' := eb :: H) ?_ (by rw [heb]; exact List.Perm.refl _)
  refine hc_loop (fun q fr M => ∃ (z : Int) (k : Nat), Up L z q ∧ k + q = m ∧ M = eb :: H ∧ Agr fr [(1, .int .i64 z), (2, .pointer (some ⟨gd, 0, none⟩)), (5, .int .i64 (k : Int))]) m ?_ ?_
  · exact ⟨u, 0, hU, by omega, rfl, rfl, rfl, rfl, trivial⟩
  rintro q fr M ⟨z, k, hz, hk, rfl, hfr⟩
  obtain ⟨base, rfl⟩ := hfr.out
  clear hfr
  cases hz with
  | root =>
    obtain rfl : k = m := by omega
    repeat (first | refine go_ ?_ | refine bx_ (fun _ => ?_))
    exact fin1I rfl rfl ⟨rfl, rfl⟩ iR
  | @up x q hx h0 hup =>
    obtain ⟨i, hi, rfl⟩ := List.getElem_of_mem hx
    obtain ⟨bb, off, rfl⟩ := hC.pos (by omega)
    obtain ⟨pv, mv, qv, hcell, _⟩ := hRl.at' hi
    have h2 : C[i * 19 + 2]? = some (.int .i64 L[i].t) := cell19 hcell rfl
    have cF := rfind_fn (w := w) (h := h) (n := n) (hL0.imp iR) hi hl rfl (fun j hj hji e => absurd (nd_get hnd hj hi e) (by omega))
    generalize L[i].t = y at *
    generalize L[i].l.i = z at *
    repeat (first | refine go_ ?_ | refine bx_ (fun _ => ?_))
    refine hc_meet (fun fr M => Agr fr [(1, .int .i64 y), (2, .pointer (some ⟨gd, 0, none⟩)), (5, .int .i64 ((k + 1 : Nat) : Int))] ∧ M = eb :: H) ?_ ?_
    · (refine hc_draw (by kernel_rfl) (by kernel_rfl) ?_; repeat (first | refine hl_load1 rfl tx rfl rfl ?_ | refine hl_loadN (i := 0) (n := 4) (vs := [.int .i64 w, .int .i64 h, .int .i64 n, .slice (some ⟨bb, off, none⟩) L.length c]) rfl tx rfl rfl rfl ?_ | refine hl_loadRd (j := i * 19 + 2) rfl hC.rd iR h2 rfl ?_ | refine gd1_ ?_ | refine hd_call rfl rfl (cF) ?_))
      try refine thn_norm ?_
      exact ⟨⟨rfl, rfl, rfl, trivial⟩, rfl⟩
    rintro fr M ⟨hf, rfl⟩
    obtain ⟨base, rfl⟩ := hf.out
    repeat (first | refine go_ ?_ | refine bx_ (fun _ => ?_))
    exact ⟨q, by omega, y, k + 1, hup, by omega, rfl, rfl, rfl, rfl, trivial⟩
theorem rdepth_fn {w h n : Int} {lv : Value} {L : List Rl} (hL : RlR w0 B H lv L) (hnd : (L.map fun x => x.l.i).Nodup) (hl : L.length ≤ 1000000000000) (hd : ∀ x ∈ L, ∃ m, m ≤ 64 ∧ Up L x.l.i m) :
    Fn Try.prog w0 B 80 [.agg [.int .i64 w, .int .i64 h, .int .i64 n, lv].toArray] H (fun v H' => ∃ m : Nat, v = .int .i64 (m : Int) ∧ m ≤ 64 ∧ H' = H) := by
  have hL0 := hL
  obtain ⟨a, c, C, rfl, hC, hRl⟩ := hL
  refine fn_intro Try.func80 rfl (by kernel_rfl) rfl ?_
  repeat (first | refine go_ ?_ | refine bx_ (fun _ => ?_))
  rename_i gd
  obtain ⟨eb, heb⟩ : ∃ eb : Ent, eb = ⟨gd, 58, [.int .i64 w, .int .i64 h, .int .i64 n, .slice a L.length c], 4⟩ := ⟨_, rfl⟩
  have tx : Take (eb :: H) ⟨gd, 58, [.int .i64 w, .int .i64 h, .int .i64 n, .slice a L.length c], 4⟩ H := by rw [heb]; exact .here
  have iR : Imp (eb :: H) H := Imp.drop (Imp.refl _)
  refine HC.perm (H' := eb :: H) ?_ (by rw [heb]; exact List.Perm.refl _)
  refine hc_loop (fun q fr M => ∃ j k : Nat, j + q = L.length ∧ k ≤ 64 ∧ M = eb :: H ∧ Agr fr [(1, .pointer (some ⟨gd, 0, none⟩)), (3, .int .i64 (k : Int)), (4, .int .i64 (j : Int))]) L.length ?_ ?_
  · exact ⟨0, 0, by omega, by omega, rfl, rfl, rfl, rfl, trivial⟩
  rintro q fr M ⟨j, k, hj, hk, rfl, hfr⟩
  obtain ⟨base, rfl⟩ := hfr.out
  clear hfr
  by_cases hlt : j < L.length
  rotate_left
  · obtain rfl : j = L.length := by omega
    repeat (first | refine hl_load1 rfl tx rfl rfl ?_ | refine go1_ ?_ | refine bx_ (fun _ => ?_))
    exact fin1I rfl rfl ⟨k, rfl, hk, rfl⟩ iR
  obtain ⟨bb, off, rfl⟩ := hC.pos (by omega)
  obtain ⟨pv, mv, qv, hcell, _⟩ := hRl.at' hlt
  obtain ⟨m, hm, hu⟩ := hd _ (List.getElem_mem hlt)
  have h0 : C[j * 19 + 0]? = some (.int .i64 L[j].l.i) := cell19 hcell rfl
  have cd := rdeep_fn (w := w) (h := h) (n := n) (hL0.imp iR) hnd hl hu (by omega)
  generalize L[j].l.i = z at *
  repeat (first | refine hl_load1 rfl tx rfl rfl ?_ | refine go1_ ?_ | refine bx_ (fun _ => ?_))
  refine hc_meet (fun fr M => Agr fr [(1, .pointer (some ⟨gd, 0, none⟩)), (3, .int .i64 (k : Int)), (4, .int .i64 (j : Int)), (5, .int .i64 (m : Int))] ∧ M = eb :: H) ?_ ?_
  · (refine hc_draw (by kernel_rfl) (by kernel_rfl) ?_; repeat (first | refine hl_load1 rfl tx rfl rfl ?_ | refine hl_loadN (i := 0) (n := 4) (vs := [.int .i64 w, .int .i64 h, .int .i64 n, .slice (some ⟨bb, off, none⟩) L.length c]) rfl tx rfl rfl rfl ?_ | refine hl_loadRd (j := j * 19 + 0) rfl hC.rd iR h0 rfl ?_ | refine gd1_ ?_ | refine hd_call rfl rfl (cd) ?_))
    try refine thn_norm ?_
    exact ⟨⟨rfl, rfl, rfl, rfl, trivial⟩, rfl⟩
  rintro fr M ⟨hf, rfl⟩
  obtain ⟨base, rfl⟩ := hf.out
  by_cases hmk : k < m
  · repeat (first | refine go_ ?_ | refine bx_ (fun _ => ?_))
    exact ⟨q - 1, by omega, j + 1, m, by omega, hm, rfl, rfl, rfl, rfl, trivial⟩
  · repeat (first | refine go_ ?_ | refine bx_ (fun _ => ?_))
    exact ⟨q - 1, by omega, j + 1, k, by omega, hk, rfl, rfl, rfl, rfl, trivial⟩
end
end Go.Proofs.Ytoobhebbgbhahaa
namespace Go.Proofs.Ytoobhebbgbhahaa
open Go.RowKit
structure LaQ (w h n : Int) (l : Ly) : Prop where
  i : 1 ≤ l.i ∧ l.i < n
  k : 0 ≤ l.k ∧ l.k ≤ 2
  o : 0 ≤ l.o ∧ l.o ≤ 255
  e : 0 ≤ l.e ∧ l.e ≤ 11
  p : PlQ l
  m : l.M.length = 0 ∨ (l.M.length : Int) = w * h
  c : ∀ c ∈ l.M, c.toNat = 0 ∨ c.toNat = 255
structure RiQ (w h n : Int) (L : List Rl) : Prop where
  sz : SzQ w h
  n1 : 1 ≤ n
  l1 : L.length ≤ 4096
  a : ∀ x ∈ L, LaQ w h n x.l
  g : ∀ x ∈ L, x.t ≠ 0 → ∀ y ∈ L, y.l.i = x.t → y.l.k = 1
section
variable {w0 : World} {B : Nat} {H R R0 : List Ent} {g : Nat}
set_option maxHeartbeats 32000000
set_option maxRecDepth 100000
theorem rRight_fn {w h n : Int} {lv : Value} {L : List Rl} (hL : RlR w0 B H lv L) (hnd : (L.map fun x => x.l.i).Nodup) (hd : ∀ x ∈ L, ∃ m, m ≤ 64 ∧ Up L x.l.i m) (hpar : ∀ x ∈ L, x.t = 0 ∨ ∃ y ∈ L, y.l.i = x.t) (hwf : ∀ x ∈ L, x.l.wf 1000000) (hl : L.length ≤ 1000000) (b : Bool) (hb : b = true ↔ RiQ w h n L) :
    Fn Try.prog w0 B 61 [.agg [.int .i64 w, .int .i64 h, .int .i64 n, lv].toArray] H (fun v H' => v = .bool b ∧ H' = H) := by
  have hL0 := hL
  obtain ⟨a, c, C, rfl, hC, hRl⟩ := hL
  have bf : ¬ RiQ w h n L → b = false := fun h => by cases b; rfl; exact absurd (hb.1 rfl) h
  have bt : RiQ w h n L → b = true := hb.2
  clear hb
  refine fn_intro Try.func61 rfl (by kernel_rfl) rfl ?_
  have sz0 := fun H => sized_fn (w0 := w0) (B := B) (H := H) w h
  by_cases hsz : ¬ SzQ w h
  · rw [show decide (SzQ w h) = false from decide_eq_false hsz] at sz0
    obtain rfl := bf (fun q => hsz q.sz)
    repeat (first | refine go_ ?_ | refine bx_ (fun _ => ?_) | refine hl_callv rfl rfl (sz0 _) ?_)
    exact fin1B rfl rfl ⟨rfl, rfl⟩
  replace hsz : SzQ w h := Classical.not_not.1 hsz
  rw [show decide (SzQ w h) = true from decide_eq_true hsz] at sz0
  have hp := prod_bd hsz.1 hsz.2.1 hsz.2.2.1 hsz.2.2.2.1
  by_cases hn1 : n < 1
  · obtain rfl := bf (fun q => by have := q.n1; omega)
    repeat (first | refine go_ ?_ | refine bx_ (fun _ => ?_) | refine hl_callv rfl rfl (sz0 _) ?_)
    exact fin1B rfl rfl ⟨rfl, rfl⟩
  by_cases hll : 4096 < L.length
  · obtain rfl := bf (fun q => by have := q.l1; omega)
    repeat (first | refine go_ ?_ | refine bx_ (fun _ => ?_) | refine hl_callv rfl rfl (sz0 _) ?_)
    exact fin1B rfl rfl ⟨rfl, rfl⟩
  repeat (first | refine go_ ?_ | refine bx_ (fun _ => ?_) | refine hl_callv rfl rfl (sz0 _) ?_)
  rename_i gd
  obtain ⟨eb, heb⟩ : ∃ eb : Ent, eb = ⟨gd, 58, [.int .i64 w, .int .i64 h, .int .i64 n, .slice a L.length c], 4⟩ := ⟨_, rfl⟩
  have tx : Take (eb :: H) ⟨gd, 58, [.int .i64 w, .int .i64 h, .int .i64 n, .slice a L.length c], 4⟩ H := by rw [heb]; exact .here
  have iR : Imp (eb :: H) H := Imp.drop (Imp.refl _)
  refine HC.perm (H' := eb :: H) ?_ (by rw [heb]; exact List.Perm.refl _)
  refine hc_loopd (fun q fr M => ∃ j : Nat, j + q = L.length ∧ (∀ i, (hi : i < L.length) → i < j → LaQ w h n L[i].l ∧ (L[i].t ≠ 0 → ∀ y ∈ L, y.l.i = L[i].t → y.l.k = 1)) ∧ Imp M (eb :: H) ∧ Agr fr [(1, .pointer (some ⟨gd, 0, none⟩)), (3, .int .i64 (j : Int))]) L.length ?_ ?_
  · exact ⟨0, by omega, fun i hi h => absurd h (by omega), Imp.refl _, rfl, rfl, trivial⟩
  rintro q fr M ⟨j, hj, hall, him, hfr⟩
  obtain ⟨base, rfl⟩ := hfr.out
  clear hfr
  refine HC.imp ?_ him
  clear him M
  by_cases hlt : j < L.length
  rotate_left
  · obtain rfl : j = L.length := by omega
    have hq : RiQ w h n L := ⟨hsz, by omega, by omega, fun x hx => by obtain ⟨i, hi, rfl⟩ := List.getElem_of_mem hx; exact (hall i hi hi).1, fun x hx => by obtain ⟨i, hi, rfl⟩ := List.getElem_of_mem hx; exact (hall i hi hi).2⟩
    obtain rfl := bt hq
    repeat (first | refine hl_load1 rfl tx rfl rfl ?_ | refine hl_loadN (i := 0) (n := 4) (vs := [.int .i64 w, .int .i64 h, .int .i64 n, .slice a L.length c]) rfl tx rfl rfl rfl ?_ | refine go1_ ?_ | refine bx_ (fun _ => ?_))
    refine hl_call rfl rfl (rdepth_fn (hL0.imp iR) hnd (by omega) hd) (fun v M o => ?_)
    obtain ⟨m, rfl, hm, rfl⟩ := o
    repeat (first | refine go_ ?_ | refine bx_ (fun _ => ?_))
    exact fin1B rfl rfl ⟨rfl, rfl⟩ iR
  obtain ⟨bb, off, rfl⟩ := hC.pos (by omega)
  obtain ⟨pv, mv, qv, hcell, hly⟩ := hRl.at' hlt
  have hnx : ∀ i, (hi : i < L.length) → i < j + 1 → (LaQ w h n L[j].l ∧ (L[j].t ≠ 0 → ∀ y ∈ L, y.l.i = L[j].t → y.l.k = 1)) → LaQ w h n L[i].l ∧ (L[i].t ≠ 0 → ∀ y ∈ L, y.l.i = L[i].t → y.l.k = 1) := fun i hi h2 h3 => by
    by_cases e : i = j
    · subst e; exact h3
    · exact hall i hi (by omega)
  have cF := fun e : Ent => rfind_fn (w := w) (h := h) (n := n) (hL0.imp (Imp.drop iR : Imp (e :: eb :: H) H)) hlt (by omega) rfl (fun k hk hkj e => absurd (nd_get hnd hk hlt e) (by omega))
  have hx := List.getElem_mem hlt
  generalize L[j] = x at *
  have hwx := hwf x hx
  have hpx := hpar x hx
  have hly0 := hly
  obtain ⟨⟨pa, pc, rfl, nP⟩, ⟨ma, mc, rfl, nM⟩, ⟨qa, qc, rfl, nQ⟩⟩ := hly
  have sz := sz0
  have lM := hwx.Ml
  by_cases q1 : x.l.i < 1
  · obtain rfl := bf (fun q => by have := (q.a x hx).i; omega)
    repeat (first | refine hl_load1 rfl (.there tx) rfl rfl ?_ | refine hl_load1 rfl tx rfl rfl ?_ | refine hl_loadN (i := 0) (n := 4) (vs := [.int .i64 w, .int .i64 h, .int .i64 n, .slice (some ⟨bb, off, none⟩) L.length c]) rfl (.there tx) rfl rfl rfl ?_ | refine hl_loadN (i := 0) (n := 19) (vs := rlC x.t x.l (.slice pa x.l.P.length pc) (.slice ma x.l.M.length mc) (.slice qa x.l.Q.length qc)) rfl .here rfl rfl rfl ?_ | refine hl_loadRN (l := C) rfl hC.rd iR hcell rfl rfl ?_ | refine go1_ ?_ | refine bx_ (fun _ => ?_) | refine hl_callv rfl rfl (cF _) ?_ | refine hl_callv rfl rfl (sz _) ?_)
    exact fin1B rfl rfl ⟨rfl, rfl⟩ (Imp.drop iR)
  by_cases q2 : n ≤ x.l.i
  · obtain rfl := bf (fun q => by have := (q.a x hx).i; omega)
    repeat (first | refine hl_load1 rfl (.there tx) rfl rfl ?_ | refine hl_load1 rfl tx rfl rfl ?_ | refine hl_loadN (i := 0) (n := 4) (vs := [.int .i64 w, .int .i64 h, .int .i64 n, .slice (some ⟨bb, off, none⟩) L.length c]) rfl (.there tx) rfl rfl rfl ?_ | refine hl_loadN (i := 0) (n := 19) (vs := rlC x.t x.l (.slice pa x.l.P.length pc) (.slice ma x.l.M.length mc) (.slice qa x.l.Q.length qc)) rfl .here rfl rfl rfl ?_ | refine hl_loadRN (l := C) rfl hC.rd iR hcell rfl rfl ?_ | refine go1_ ?_ | refine bx_ (fun _ => ?_) | refine hl_callv rfl rfl (cF _) ?_ | refine hl_callv rfl rfl (sz _) ?_)
    exact fin1B rfl rfl ⟨rfl, rfl⟩ (Imp.drop iR)
  by_cases q3 : x.l.k < 0
  · obtain rfl := bf (fun q => by have := (q.a x hx).k; omega)
    repeat (first | refine hl_load1 rfl (.there tx) rfl rfl ?_ | refine hl_load1 rfl tx rfl rfl ?_ | refine hl_loadN (i := 0) (n := 4) (vs := [.int .i64 w, .int .i64 h, .int .i64 n, .slice (some ⟨bb, off, none⟩) L.length c]) rfl (.there tx) rfl rfl rfl ?_ | refine hl_loadN (i := 0) (n := 19) (vs := rlC x.t x.l (.slice pa x.l.P.length pc) (.slice ma x.l.M.length mc) (.slice qa x.l.Q.length qc)) rfl .here rfl rfl rfl ?_ | refine hl_loadRN (l := C) rfl hC.rd iR hcell rfl rfl ?_ | refine go1_ ?_ | refine bx_ (fun _ => ?_) | refine hl_callv rfl rfl (cF _) ?_ | refine hl_callv rfl rfl (sz _) ?_)
    exact fin1B rfl rfl ⟨rfl, rfl⟩ (Imp.drop iR)
  by_cases q4 : 2 < x.l.k
  · obtain rfl := bf (fun q => by have := (q.a x hx).k; omega)
    repeat (first | refine hl_load1 rfl (.there tx) rfl rfl ?_ | refine hl_load1 rfl tx rfl rfl ?_ | refine hl_loadN (i := 0) (n := 4) (vs := [.int .i64 w, .int .i64 h, .int .i64 n, .slice (some ⟨bb, off, none⟩) L.length c]) rfl (.there tx) rfl rfl rfl ?_ | refine hl_loadN (i := 0) (n := 19) (vs := rlC x.t x.l (.slice pa x.l.P.length pc) (.slice ma x.l.M.length mc) (.slice qa x.l.Q.length qc)) rfl .here rfl rfl rfl ?_ | refine hl_loadRN (l := C) rfl hC.rd iR hcell rfl rfl ?_ | refine go1_ ?_ | refine bx_ (fun _ => ?_) | refine hl_callv rfl rfl (cF _) ?_ | refine hl_callv rfl rfl (sz _) ?_)
    exact fin1B rfl rfl ⟨rfl, rfl⟩ (Imp.drop iR)
  by_cases q5 : x.l.o < 0
  · obtain rfl := bf (fun q => by have := (q.a x hx).o; omega)
    repeat (first | refine hl_load1 rfl (.there tx) rfl rfl ?_ | refine hl_load1 rfl tx rfl rfl ?_ | refine hl_loadN (i := 0) (n := 4) (vs := [.int .i64 w, .int .i64 h, .int .i64 n, .slice (some ⟨bb, off, none⟩) L.length c]) rfl (.there tx) rfl rfl rfl ?_ | refine hl_loadN (i := 0) (n := 19) (vs := rlC x.t x.l (.slice pa x.l.P.length pc) (.slice ma x.l.M.length mc) (.slice qa x.l.Q.length qc)) rfl .here rfl rfl rfl ?_ | refine hl_loadRN (l := C) rfl hC.rd iR hcell rfl rfl ?_ | refine go1_ ?_ | refine bx_ (fun _ => ?_) | refine hl_callv rfl rfl (cF _) ?_ | refine hl_callv rfl rfl (sz _) ?_)
    exact fin1B rfl rfl ⟨rfl, rfl⟩ (Imp.drop iR)
  by_cases q6 : 255 < x.l.o
  · obtain rfl := bf (fun q => by have := (q.a x hx).o; omega)
    repeat (first | refine hl_load1 rfl (.there tx) rfl rfl ?_ | refine hl_load1 rfl tx rfl rfl ?_ | refine hl_loadN (i := 0) (n := 4) (vs := [.int .i64 w, .int .i64 h, .int .i64 n, .slice (some ⟨bb, off, none⟩) L.length c]) rfl (.there tx) rfl rfl rfl ?_ | refine hl_loadN (i := 0) (n := 19) (vs := rlC x.t x.l (.slice pa x.l.P.length pc) (.slice ma x.l.M.length mc) (.slice qa x.l.Q.length qc)) rfl .here rfl rfl rfl ?_ | refine hl_loadRN (l := C) rfl hC.rd iR hcell rfl rfl ?_ | refine go1_ ?_ | refine bx_ (fun _ => ?_) | refine hl_callv rfl rfl (cF _) ?_ | refine hl_callv rfl rfl (sz _) ?_)
    exact fin1B rfl rfl ⟨rfl, rfl⟩ (Imp.drop iR)
  by_cases q7 : x.l.e < 0
  · obtain rfl := bf (fun q => by have := (q.a x hx).e; omega)
    repeat (first | refine hl_load1 rfl (.there tx) rfl rfl ?_ | refine hl_load1 rfl tx rfl rfl ?_ | refine hl_loadN (i := 0) (n := 4) (vs := [.int .i64 w, .int .i64 h, .int .i64 n, .slice (some ⟨bb, off, none⟩) L.length c]) rfl (.there tx) rfl rfl rfl ?_ | refine hl_loadN (i := 0) (n := 19) (vs := rlC x.t x.l (.slice pa x.l.P.length pc) (.slice ma x.l.M.length mc) (.slice qa x.l.Q.length qc)) rfl .here rfl rfl rfl ?_ | refine hl_loadRN (l := C) rfl hC.rd iR hcell rfl rfl ?_ | refine go1_ ?_ | refine bx_ (fun _ => ?_) | refine hl_callv rfl rfl (cF _) ?_ | refine hl_callv rfl rfl (sz _) ?_)
    exact fin1B rfl rfl ⟨rfl, rfl⟩ (Imp.drop iR)
  by_cases q8 : 11 < x.l.e
  · obtain rfl := bf (fun q => by have := (q.a x hx).e; omega)
    repeat (first | refine hl_load1 rfl (.there tx) rfl rfl ?_ | refine hl_load1 rfl tx rfl rfl ?_ | refine hl_loadN (i := 0) (n := 4) (vs := [.int .i64 w, .int .i64 h, .int .i64 n, .slice (some ⟨bb, off, none⟩) L.length c]) rfl (.there tx) rfl rfl rfl ?_ | refine hl_loadN (i := 0) (n := 19) (vs := rlC x.t x.l (.slice pa x.l.P.length pc) (.slice ma x.l.M.length mc) (.slice qa x.l.Q.length qc)) rfl .here rfl rfl rfl ?_ | refine hl_loadRN (l := C) rfl hC.rd iR hcell rfl rfl ?_ | refine go1_ ?_ | refine bx_ (fun _ => ?_) | refine hl_callv rfl rfl (cF _) ?_ | refine hl_callv rfl rfl (sz _) ?_)
    exact fin1B rfl rfl ⟨rfl, rfl⟩ (Imp.drop iR)
  by_cases q9 : ¬ PlQ x.l
  · have cP := fun e : Ent => rplain_fn (w := w) (h := h) (n := n) (t := x.t) (la := some ⟨bb, off, none⟩) (ln := L.length) (lc := c) rfl (hly0.imp (Imp.drop iR : Imp (e :: eb :: H) H)) hwx false ⟨fun h => (by cases h), fun h => absurd h q9⟩
    obtain rfl := bf (fun q => q9 (q.a x hx).p)
    repeat (first | refine hl_load1 rfl (.there tx) rfl rfl ?_ | refine hl_load1 rfl tx rfl rfl ?_ | refine hl_loadN (i := 0) (n := 4) (vs := [.int .i64 w, .int .i64 h, .int .i64 n, .slice (some ⟨bb, off, none⟩) L.length c]) rfl (.there tx) rfl rfl rfl ?_ | refine hl_loadN (i := 0) (n := 19) (vs := rlC x.t x.l (.slice pa x.l.P.length pc) (.slice ma x.l.M.length mc) (.slice qa x.l.Q.length qc)) rfl .here rfl rfl rfl ?_ | refine hl_loadRN (l := C) rfl hC.rd iR hcell rfl rfl ?_ | refine go1_ ?_ | refine bx_ (fun _ => ?_) | refine hl_callv rfl rfl (cF _) ?_ | refine hl_callv rfl rfl (sz _) ?_ | refine hl_callv rfl rfl (cP _) ?_)
    exact fin1B rfl rfl ⟨rfl, rfl⟩ (Imp.drop iR)
  replace q9 : PlQ x.l := Classical.not_not.1 q9
  have cP := fun e : Ent => rplain_fn (w := w) (h := h) (n := n) (t := x.t) (la := some ⟨bb, off, none⟩) (ln := L.length) (lc := c) rfl (hly0.imp (Imp.drop iR : Imp (e :: eb :: H) H)) hwx true ⟨fun _ => q9, fun _ => rfl⟩
  by_cases qa1 : x.l.M.length ≠ 0 ∧ (x.l.M.length : Int) ≠ w * h
  · obtain ⟨qa2, qa3⟩ := qa1
    obtain rfl := bf (fun q => by have := (q.a x hx).m; omega)
    repeat (first | refine hl_load1 rfl (.there tx) rfl rfl ?_ | refine hl_load1 rfl tx rfl rfl ?_ | refine hl_loadN (i := 0) (n := 4) (vs := [.int .i64 w, .int .i64 h, .int .i64 n, .slice (some ⟨bb, off, none⟩) L.length c]) rfl (.there tx) rfl rfl rfl ?_ | refine hl_loadN (i := 0) (n := 19) (vs := rlC x.t x.l (.slice pa x.l.P.length pc) (.slice ma x.l.M.length mc) (.slice qa x.l.Q.length qc)) rfl .here rfl rfl rfl ?_ | refine hl_loadRN (l := C) rfl hC.rd iR hcell rfl rfl ?_ | refine go1_ ?_ | refine bx_ (fun _ => ?_) | refine hl_callv rfl rfl (cF _) ?_ | refine hl_callv rfl rfl (sz _) ?_ | refine hl_callv rfl rfl (cP _) ?_)
    exact fin1B rfl rfl ⟨rfl, rfl⟩ (Imp.drop iR)
  by_cases qm : x.l.M.length = 0
  · have := 0
    repeat (first | refine hl_load1 rfl (.there tx) rfl rfl ?_ | refine hl_load1 rfl tx rfl rfl ?_ | refine hl_loadN (i := 0) (n := 4) (vs := [.int .i64 w, .int .i64 h, .int .i64 n, .slice (some ⟨bb, off, none⟩) L.length c]) rfl (.there tx) rfl rfl rfl ?_ | refine hl_loadN (i := 0) (n := 19) (vs := rlC x.t x.l (.slice pa x.l.P.length pc) (.slice ma x.l.M.length mc) (.slice qa x.l.Q.length qc)) rfl .here rfl rfl rfl ?_ | refine hl_loadRN (l := C) rfl hC.rd iR hcell rfl rfl ?_ | refine go1_ ?_ | refine bx_ (fun _ => ?_) | refine hl_callv rfl rfl (cF _) ?_ | refine hl_callv rfl rfl (sz _) ?_ | refine hl_callv rfl rfl (cP _) ?_)
    rename_i g4
    obtain ⟨R2, hR2⟩ : ∃ R2, R2 = (⟨g4, 121, rlC x.t x.l (.slice pa x.l.P.length pc) (.slice ma x.l.M.length mc) (.slice qa x.l.Q.length qc), 19⟩ :: eb :: H : List Ent) := ⟨_, rfl⟩
    have t4 : Take R2 ⟨g4, 121, rlC x.t x.l (.slice pa x.l.P.length pc) (.slice ma x.l.M.length mc) (.slice qa x.l.Q.length qc), 19⟩ (eb :: H) := by rw [hR2]; exact .here
    have tD : Take R2 ⟨gd, 58, [.int .i64 w, .int .i64 h, .int .i64 n, .slice (some ⟨bb, off, none⟩) L.length c], 4⟩ (⟨g4, 121, rlC x.t x.l (.slice pa x.l.P.length pc) (.slice ma x.l.M.length mc) (.slice qa x.l.Q.length qc), 19⟩ :: H) := by rw [hR2]; exact .there tx
    have iR2 : Imp R2 H := by rw [hR2]; exact Imp.drop iR
    have iRe : Imp R2 (eb :: H) := by rw [hR2]; exact Imp.drop (Imp.refl _)
    refine HC.perm (H' := R2) ?_ (by rw [hR2]; exact List.Perm.refl _)
    refine hc_loopd (fun q fr M => ∃ i2 : Nat, i2 + q = x.l.M.length ∧ (∀ i, (h : i < x.l.M.length) → i < i2 → x.l.M[i].toNat = 0 ∨ x.l.M[i].toNat = 255) ∧ Imp M R2 ∧ Agr fr [(1, .pointer (some ⟨gd, 0, none⟩)), (3, .int .i64 (j : Int)), (4, .pointer (some ⟨g4, 0, none⟩)), (5, .int .i64 (i2 : Int))]) x.l.M.length ?_ ?_
    · exact ⟨0, by omega, fun i h h2 => absurd h2 (by omega), Imp.refl _, rfl, rfl, rfl, rfl, trivial⟩
    clear base
    rintro q2 fr M ⟨i2, hi2, hm, him, hf⟩
    obtain ⟨base, rfl⟩ := hf.out
    clear hf
    refine HC.imp ?_ him
    clear him M
    by_cases hlm : i2 < x.l.M.length
    · exact absurd hlm (by omega)
    obtain rfl : i2 = x.l.M.length := by omega
    have hMall : ∀ c ∈ x.l.M, c.toNat = 0 ∨ c.toNat = 255 := fun c hc => by
      obtain ⟨i, hi, rfl⟩ := List.getElem_of_mem hc
      exact hm i hi hi
    have hla : LaQ w h n x.l := ⟨by omega, by omega, by omega, by omega, q9, by omega, hMall⟩
    by_cases t0 : x.t = 0
    · repeat (first | refine hl_load1 rfl t4 rfl rfl ?_ | refine go1_ ?_ | refine bx_ (fun _ => ?_))
      refine hc_meet (fun fr M => Agr fr [(1, .pointer (some ⟨gd, 0, none⟩)), (3, .int .i64 (j : Int)), (139, .bool false)] ∧ M = R2) ?_ ?_
      · (refine hc_draw (by kernel_rfl) (by kernel_rfl) ?_; repeat (first | refine hl_load1 rfl t4 rfl rfl ?_ | refine gd1_ ?_))
        try refine thn_norm ?_
        exact ⟨⟨rfl, rfl, rfl, trivial⟩, rfl⟩
      rintro fr M ⟨hf, rfl⟩
      obtain ⟨base, rfl⟩ := hf.out
      repeat (first | refine go_ ?_ | refine bx_ (fun _ => ?_))
      exact ⟨q - 1, by omega, _, iRe, j + 1, by omega, fun i hi h2 => hnx i hi h2 ⟨hla, fun h => absurd t0 h⟩, Imp.refl _, rfl, rfl, trivial⟩
    obtain ⟨y, hy, hyx⟩ : ∃ y ∈ L, y.l.i = x.t := by rcases hpx with h | h; exact absurd h t0; exact h
    obtain ⟨p0, hp0, rfl⟩ := List.getElem_of_mem hy
    obtain ⟨p, hp1, hp2, hp3⟩ := first_of hp0 hyx
    obtain ⟨pv2, mv2, qv2, hcell2, _⟩ := hRl.at' hp1
    have k1 : C[p * 19 + 1]? = some (.int .i64 L[p].l.k) := cell19 hcell2 rfl
    have cF2 := rfind_fn (w := w) (h := h) (n := n) (hL0.imp iR2) hp1 (by omega) hp2 hp3
    have hgp : L[p].l.k = 1 → ∀ y ∈ L, y.l.i = x.t → y.l.k = 1 := fun hk y hy e => by
      obtain ⟨i, hi, rfl⟩ := List.getElem_of_mem hy
      obtain rfl := nd_get hnd hi hp1 (by rw [e, hp2])
      exact hk
    have hgq : RiQ w h n L → L[p].l.k = 1 := fun q => q.g x hx t0 _ (List.getElem_mem hp1) hp2
    generalize L[p].l.k = kk at *
    repeat (first | refine hl_load1 rfl t4 rfl rfl ?_ | refine go1_ ?_ | refine bx_ (fun _ => ?_))
    refine hc_meet (fun fr M => Agr fr [(1, .pointer (some ⟨gd, 0, none⟩)), (3, .int .i64 (j : Int)), (139, .bool (decide (kk ≠ 1)))] ∧ M = R2) ?_ ?_
    · by_cases hk : kk = 1
      · rw [decide_eq_false (not_not_intro hk)]
        (refine hc_draw (by kernel_rfl) (by kernel_rfl) ?_; repeat (first | refine hl_load1 rfl t4 rfl rfl ?_ | refine hl_load1 rfl tD rfl rfl ?_ | refine hl_loadN (i := 0) (n := 4) (vs := [.int .i64 w, .int .i64 h, .int .i64 n, .slice (some ⟨bb, off, none⟩) L.length c]) rfl tD rfl rfl rfl ?_ | refine hl_loadRd (j := p * 19 + 1) rfl hC.rd iR2 k1 rfl ?_ | refine gd1_ ?_ | refine hd_call rfl rfl (cF2) ?_))
        try refine thn_norm ?_
        exact ⟨⟨rfl, rfl, rfl, trivial⟩, rfl⟩
      · rw [decide_eq_true hk]
        (refine hc_draw (by kernel_rfl) (by kernel_rfl) ?_; repeat (first | refine hl_load1 rfl t4 rfl rfl ?_ | refine hl_load1 rfl tD rfl rfl ?_ | refine hl_loadN (i := 0) (n := 4) (vs := [.int .i64 w, .int .i64 h, .int .i64 n, .slice (some ⟨bb, off, none⟩) L.length c]) rfl tD rfl rfl rfl ?_ | refine hl_loadRd (j := p * 19 + 1) rfl hC.rd iR2 k1 rfl ?_ | refine gd1_ ?_ | refine hd_call rfl rfl (cF2) ?_))
        try refine thn_norm ?_
        exact ⟨⟨rfl, rfl, rfl, trivial⟩, rfl⟩
    rintro fr M ⟨hf, rfl⟩
    obtain ⟨base, rfl⟩ := hf.out
    by_cases hk : kk = 1
    · rw [decide_eq_false (not_not_intro hk)]
      repeat (first | refine go_ ?_ | refine bx_ (fun _ => ?_))
      exact ⟨q - 1, by omega, _, iRe, j + 1, by omega, fun i hi h2 => hnx i hi h2 ⟨hla, fun _ => hgp hk⟩, Imp.refl _, rfl, rfl, trivial⟩
    · rw [decide_eq_true hk]
      obtain rfl := bf (fun q => hk (hgq q))
      repeat (first | refine go_ ?_ | refine bx_ (fun _ => ?_))
      exact fin1B rfl rfl ⟨rfl, rfl⟩ iR2
  have qm2 : (x.l.M.length : Int) = w * h := by omega
  repeat (first | refine hl_load1 rfl (.there tx) rfl rfl ?_ | refine hl_load1 rfl tx rfl rfl ?_ | refine hl_loadN (i := 0) (n := 4) (vs := [.int .i64 w, .int .i64 h, .int .i64 n, .slice (some ⟨bb, off, none⟩) L.length c]) rfl (.there tx) rfl rfl rfl ?_ | refine hl_loadN (i := 0) (n := 19) (vs := rlC x.t x.l (.slice pa x.l.P.length pc) (.slice ma x.l.M.length mc) (.slice qa x.l.Q.length qc)) rfl .here rfl rfl rfl ?_ | refine hl_loadRN (l := C) rfl hC.rd iR hcell rfl rfl ?_ | refine go1_ ?_ | refine bx_ (fun _ => ?_) | refine hl_callv rfl rfl (cF _) ?_ | refine hl_callv rfl rfl (sz _) ?_ | refine hl_callv rfl rfl (cP _) ?_)
  rename_i g4
  obtain ⟨R2, hR2⟩ : ∃ R2, R2 = (⟨g4, 121, rlC x.t x.l (.slice pa x.l.P.length pc) (.slice ma x.l.M.length mc) (.slice qa x.l.Q.length qc), 19⟩ :: eb :: H : List Ent) := ⟨_, rfl⟩
  have t4 : Take R2 ⟨g4, 121, rlC x.t x.l (.slice pa x.l.P.length pc) (.slice ma x.l.M.length mc) (.slice qa x.l.Q.length qc), 19⟩ (eb :: H) := by rw [hR2]; exact .here
  have tD : Take R2 ⟨gd, 58, [.int .i64 w, .int .i64 h, .int .i64 n, .slice (some ⟨bb, off, none⟩) L.length c], 4⟩ (⟨g4, 121, rlC x.t x.l (.slice pa x.l.P.length pc) (.slice ma x.l.M.length mc) (.slice qa x.l.Q.length qc), 19⟩ :: H) := by rw [hR2]; exact .there tx
  have iR2 : Imp R2 H := by rw [hR2]; exact Imp.drop iR
  have iRe : Imp R2 (eb :: H) := by rw [hR2]; exact Imp.drop (Imp.refl _)
  refine HC.perm (H' := R2) ?_ (by rw [hR2]; exact List.Perm.refl _)
  refine hc_loopd (fun q fr M => ∃ i2 : Nat, i2 + q = x.l.M.length ∧ (∀ i, (h : i < x.l.M.length) → i < i2 → x.l.M[i].toNat = 0 ∨ x.l.M[i].toNat = 255) ∧ Imp M R2 ∧ Agr fr [(1, .pointer (some ⟨gd, 0, none⟩)), (3, .int .i64 (j : Int)), (4, .pointer (some ⟨g4, 0, none⟩)), (5, .int .i64 (i2 : Int))]) x.l.M.length ?_ ?_
  · exact ⟨0, by omega, fun i h h2 => absurd h2 (by omega), Imp.refl _, rfl, rfl, rfl, rfl, trivial⟩
  clear base
  rintro q2 fr M ⟨i2, hi2, hm, him, hf⟩
  obtain ⟨base, rfl⟩ := hf.out
  clear hf
  refine HC.imp ?_ him
  clear him M
  by_cases hlm : i2 < x.l.M.length
  · obtain ⟨mb, mo, rfl⟩ := nM.pos (by omega)
    have c1 := nM.cell hlm
    have h256 := x.l.M[i2].toNat_lt
    have hmn : ∀ i, (h : i < x.l.M.length) → i < i2 + 1 → (x.l.M[i2].toNat = 0 ∨ x.l.M[i2].toNat = 255) → x.l.M[i].toNat = 0 ∨ x.l.M[i].toNat = 255 := fun i h h2 h3 => by
      by_cases e : i = i2
      · subst e; exact h3
      · exact hm i h (by omega)
    have hbad : ¬ (x.l.M[i2].toNat = 0 ∨ x.l.M[i2].toNat = 255) → ¬ RiQ w h n L := fun hh q => hh ((q.a x hx).c _ (List.getElem_mem hlm))
    generalize x.l.M[i2].toNat = z at *
    by_cases z0 : z = 0
    · repeat (first | refine hl_load1 rfl t4 rfl rfl ?_ | refine hl_loadRd (j := i2) rfl nM.rd iR2 c1 rfl ?_ | refine go1_ ?_ | refine bx_ (fun _ => ?_))
      exact ⟨q2 - 1, by omega, _, Imp.refl _, i2 + 1, by omega, fun i h h2 => hmn i h h2 (.inl z0), Imp.refl _, rfl, rfl, rfl, rfl, trivial⟩
    by_cases z1 : z = 255
    · repeat (first | refine hl_load1 rfl t4 rfl rfl ?_ | refine hl_loadRd (j := i2) rfl nM.rd iR2 c1 rfl ?_ | refine go1_ ?_ | refine bx_ (fun _ => ?_))
      exact ⟨q2 - 1, by omega, _, Imp.refl _, i2 + 1, by omega, fun i h h2 => hmn i h h2 (.inr z1), Imp.refl _, rfl, rfl, rfl, rfl, trivial⟩
    obtain rfl := bf (hbad (by omega))
    repeat (first | refine hl_load1 rfl t4 rfl rfl ?_ | refine hl_loadRd (j := i2) rfl nM.rd iR2 c1 rfl ?_ | refine go1_ ?_ | refine bx_ (fun _ => ?_))
    exact fin1B rfl rfl ⟨rfl, rfl⟩ iR2
  obtain rfl : i2 = x.l.M.length := by omega
  have hMall : ∀ c ∈ x.l.M, c.toNat = 0 ∨ c.toNat = 255 := fun c hc => by
    obtain ⟨i, hi, rfl⟩ := List.getElem_of_mem hc
    exact hm i hi hi
  have hla : LaQ w h n x.l := ⟨by omega, by omega, by omega, by omega, q9, by omega, hMall⟩
  by_cases t0 : x.t = 0
  · repeat (first | refine hl_load1 rfl t4 rfl rfl ?_ | refine go1_ ?_ | refine bx_ (fun _ => ?_))
    refine hc_meet (fun fr M => Agr fr [(1, .pointer (some ⟨gd, 0, none⟩)), (3, .int .i64 (j : Int)), (139, .bool false)] ∧ M = R2) ?_ ?_
    · (refine hc_draw (by kernel_rfl) (by kernel_rfl) ?_; repeat (first | refine hl_load1 rfl t4 rfl rfl ?_ | refine gd1_ ?_))
      try refine thn_norm ?_
      exact ⟨⟨rfl, rfl, rfl, trivial⟩, rfl⟩
    rintro fr M ⟨hf, rfl⟩
    obtain ⟨base, rfl⟩ := hf.out
    repeat (first | refine go_ ?_ | refine bx_ (fun _ => ?_))
    exact ⟨q - 1, by omega, _, iRe, j + 1, by omega, fun i hi h2 => hnx i hi h2 ⟨hla, fun h => absurd t0 h⟩, Imp.refl _, rfl, rfl, trivial⟩
  obtain ⟨y, hy, hyx⟩ : ∃ y ∈ L, y.l.i = x.t := by rcases hpx with h | h; exact absurd h t0; exact h
  obtain ⟨p0, hp0, rfl⟩ := List.getElem_of_mem hy
  obtain ⟨p, hp1, hp2, hp3⟩ := first_of hp0 hyx
  obtain ⟨pv2, mv2, qv2, hcell2, _⟩ := hRl.at' hp1
  have k1 : C[p * 19 + 1]? = some (.int .i64 L[p].l.k) := cell19 hcell2 rfl
  have cF2 := rfind_fn (w := w) (h := h) (n := n) (hL0.imp iR2) hp1 (by omega) hp2 hp3
  have hgp : L[p].l.k = 1 → ∀ y ∈ L, y.l.i = x.t → y.l.k = 1 := fun hk y hy e => by
    obtain ⟨i, hi, rfl⟩ := List.getElem_of_mem hy
    obtain rfl := nd_get hnd hi hp1 (by rw [e, hp2])
    exact hk
  have hgq : RiQ w h n L → L[p].l.k = 1 := fun q => q.g x hx t0 _ (List.getElem_mem hp1) hp2
  generalize L[p].l.k = kk at *
  repeat (first | refine hl_load1 rfl t4 rfl rfl ?_ | refine go1_ ?_ | refine bx_ (fun _ => ?_))
  refine hc_meet (fun fr M => Agr fr [(1, .pointer (some ⟨gd, 0, none⟩)), (3, .int .i64 (j : Int)), (139, .bool (decide (kk ≠ 1)))] ∧ M = R2) ?_ ?_
  · by_cases hk : kk = 1
    · rw [decide_eq_false (not_not_intro hk)]
      (refine hc_draw (by kernel_rfl) (by kernel_rfl) ?_; repeat (first | refine hl_load1 rfl t4 rfl rfl ?_ | refine hl_load1 rfl tD rfl rfl ?_ | refine hl_loadN (i := 0) (n := 4) (vs := [.int .i64 w, .int .i64 h, .int .i64 n, .slice (some ⟨bb, off, none⟩) L.length c]) rfl tD rfl rfl rfl ?_ | refine hl_loadRd (j := p * 19 + 1) rfl hC.rd iR2 k1 rfl ?_ | refine gd1_ ?_ | refine hd_call rfl rfl (cF2) ?_))
      try refine thn_norm ?_
      exact ⟨⟨rfl, rfl, rfl, trivial⟩, rfl⟩
    · rw [decide_eq_true hk]
      (refine hc_draw (by kernel_rfl) (by kernel_rfl) ?_; repeat (first | refine hl_load1 rfl t4 rfl rfl ?_ | refine hl_load1 rfl tD rfl rfl ?_ | refine hl_loadN (i := 0) (n := 4) (vs := [.int .i64 w, .int .i64 h, .int .i64 n, .slice (some ⟨bb, off, none⟩) L.length c]) rfl tD rfl rfl rfl ?_ | refine hl_loadRd (j := p * 19 + 1) rfl hC.rd iR2 k1 rfl ?_ | refine gd1_ ?_ | refine hd_call rfl rfl (cF2) ?_))
      try refine thn_norm ?_
      exact ⟨⟨rfl, rfl, rfl, trivial⟩, rfl⟩
  rintro fr M ⟨hf, rfl⟩
  obtain ⟨base, rfl⟩ := hf.out
  by_cases hk : kk = 1
  · rw [decide_eq_false (not_not_intro hk)]
    repeat (first | refine go_ ?_ | refine bx_ (fun _ => ?_))
    exact ⟨q - 1, by omega, _, iRe, j + 1, by omega, fun i hi h2 => hnx i hi h2 ⟨hla, fun _ => hgp hk⟩, Imp.refl _, rfl, rfl, trivial⟩
  · rw [decide_eq_true hk]
    obtain rfl := bf (fun q => hk (hgq q))
    repeat (first | refine go_ ?_ | refine bx_ (fun _ => ?_))
    exact fin1B rfl rfl ⟨rfl, rfl⟩ iR2
end
end Go.Proofs.Ytoobhebbgbhahaa
namespace Go.Proofs.Ytoobhebbgbhahaa
open Go.RowKit
/-- A right document. -/
structure RtQ (D : Dc) : Prop where
  nd : D.F.ids.Nodup
  z : (0 : Int) ∉ D.F.ids
  r : RiQ D.w D.h D.n (D.F.flat 0)
theorem Fo.par_flat {F : Fo} : ∀ x ∈ F.flat 0, x.t = 0 ∨ ∃ y ∈ F.flat 0, y.l.i = x.t := fun x hx => by
  rcases F.flat_t 0 x hx with h | h
  · exact .inl h
  · rw [← F.flat_ids 0] at h
    obtain ⟨y, hy, e⟩ := List.mem_map.1 h
    exact .inr ⟨y, hy, e⟩
theorem Fo.wf_flat {N : Nat} : ∀ (F : Fo) (t : Int), F.wf N → ∀ x ∈ F.flat t, x.l.wf N
  | .nil, _, _, x, h => by cases h
  | .cons l k r, t, ⟨h1, _, h3, h4⟩, x, h => by
    rw [Fo.flat] at h
    simp only [List.mem_cons, List.mem_append] at h
    rcases h with rfl | h | h
    · exact h1
    · exact Fo.wf_flat k _ h3 x h
    · exact Fo.wf_flat r _ h4 x h
section
variable {w0 : World} {B : Nat} {H R R0 : List Ent} {g : Nat}
set_option maxHeartbeats 16000000
set_option maxRecDepth 100000
theorem rright_fn15 {D : Dc} {lv : Value} (hL : RlR w0 B H lv (D.F.flat 0)) (hdep : D.F.dep ≤ 64) (hw : D.F.wf 1000000) (hc : D.F.cnt ≤ 1000000) (b : Bool) (hb : b = true ↔ RtQ D) :
    Fn Try.prog w0 B 46 [.agg (dcC D lv).toArray] H (fun v H' => v = .bool b ∧ H' = H) := by
  have hL0 := hL
  have hwf := Fo.wf_flat D.F 0 hw
  have hlen := D.F.flat_len 0
  have hids := D.F.flat_ids 0
  have hpar := Fo.par_flat (F := D.F)
  have bf : ¬ RtQ D → b = false := fun h => by cases b; rfl; exact absurd (hb.1 rfl) h
  obtain ⟨L, hLe⟩ : ∃ L, L = D.F.flat 0 := ⟨_, rfl⟩
  rw [← hLe] at hL hL0 hwf hlen hids hpar
  have hup : (0 : Int) ∉ D.F.ids → ∀ x ∈ L, ∃ m, m ≤ 64 ∧ Up L x.l.i m := fun h0 x hx => by
    obtain ⟨m, h1, h2⟩ := up_flat L D.F 0 0 (fun y hy => by rw [hLe]; exact hy) h0 Up.root x (by rw [← hLe]; exact hx)
    exact ⟨m, by omega, h2⟩
  obtain ⟨a, c, C, rfl, hC, hRl⟩ := hL
  refine fn_intro Try.func46 rfl (by kernel_rfl) rfl ?_
  repeat (first | refine go_ ?_ | refine bx_ (fun _ => ?_))
  rename_i gd
  obtain ⟨eb, heb⟩ : ∃ eb : Ent, eb = ⟨gd, 58, dcC D (.slice a L.length c), 4⟩ := ⟨_, rfl⟩
  have tx : Take (eb :: H) ⟨gd, 58, dcC D (.slice a L.length c), 4⟩ H := by rw [heb]; exact .here
  have iR : Imp (eb :: H) H := Imp.drop (Imp.refl _)
  refine HC.perm (H' := eb :: H) ?_ (by rw [heb]; exact List.Perm.refl _)
  refine hc_loop (fun q fr M => ∃ j : Nat, j + q = L.length ∧ (∀ i, (hi : i < L.length) → i < j → L[i].l.i ≠ 0 ∧ ∀ k, (hk : k < L.length) → k < i → L[k].l.i ≠ L[i].l.i) ∧ M = eb :: H ∧ Agr fr [(1, .pointer (some ⟨gd, 0, none⟩)), (3, .int .i64 (j : Int))]) L.length ?_ ?_
  · exact ⟨0, by omega, fun i hi h => absurd h (by omega), rfl, rfl, rfl, trivial⟩
  rintro q fr M ⟨j, hj, hall, rfl, hfr⟩
  obtain ⟨base, rfl⟩ := hfr.out
  clear hfr
  by_cases hlt : j < L.length
  rotate_left
  · obtain rfl : j = L.length := by omega
    have hnd : (L.map fun x => x.l.i).Nodup := by
      refine List.pairwise_iff_getElem.2 fun i k hi hk hik => ?_
      simp only [List.length_map] at hi hk
      simp only [List.getElem_map]
      exact (hall k hk hk).2 i hi hik
    have h0 : (0 : Int) ∉ D.F.ids := by
      rw [← hids]
      intro h
      obtain ⟨x, hx, e⟩ := List.mem_map.1 h
      obtain ⟨i, hi, rfl⟩ := List.getElem_of_mem hx
      exact (hall i hi hi).1 e
    repeat (first | refine hl_load1 rfl tx rfl rfl ?_ | refine hl_loadN (i := 0) (n := 4) (vs := dcC D (.slice a L.length c)) rfl tx rfl rfl rfl ?_ | refine go1_ ?_ | refine bx_ (fun _ => ?_))
    refine hl_callv rfl rfl (rRight_fn (w := D.w) (h := D.h) (n := D.n) (hL0.imp iR) hnd (hup h0) hpar hwf (by omega) b ⟨fun h => by rw [hLe]; exact (hb.1 h).r, fun h => hb.2 ⟨by rw [← hids]; exact hnd, h0, by rw [← hLe]; exact h⟩⟩) ?_
    repeat (first | refine go_ ?_ | refine bx_ (fun _ => ?_))
    exact fin1B rfl rfl ⟨rfl, rfl⟩ iR
  obtain ⟨bb, off, rfl⟩ := hC.pos (by omega)
  obtain ⟨pv, mv, qv, hcell, _⟩ := hRl.at' hlt
  have k0 : C[j * 19 + 0]? = some (.int .i64 L[j].l.i) := cell19 hcell rfl
  obtain ⟨p, hp1, hp2, hp3⟩ := first_of hlt rfl
  have cF := rfind_fn (w := D.w) (h := D.h) (n := D.n) (hL0.imp iR) hp1 (by omega) hp2 hp3
  have hbad0 : L[j].l.i = 0 → ¬ RtQ D := fun e q => q.z (by rw [← hids, ← e]; exact List.mem_map.2 ⟨_, List.getElem_mem hlt, rfl⟩)
  have hbad1 : p ≠ j → ¬ RtQ D := fun e q => e (nd_get (by rw [hids]; exact q.nd) hp1 hlt hp2)
  have hpj : p ≤ j := by
    rcases Nat.lt_or_ge j p with h | h
    · exact absurd rfl (hp3 j hlt h)
    · exact h
  have hgood : L[j].l.i ≠ 0 → p = j → ∀ i, (hi : i < L.length) → i < j + 1 → L[i].l.i ≠ 0 ∧ ∀ k, (hk : k < L.length) → k < i → L[k].l.i ≠ L[i].l.i := fun h1 h2 i hi h3 => by
    subst h2
    by_cases e : i = p
    · subst e; exact ⟨h1, hp3⟩
    · exact hall i hi (by omega)
  generalize L[j].l.i = z at *
  repeat (first | refine hl_load1 rfl tx rfl rfl ?_ | refine go1_ ?_ | refine bx_ (fun _ => ?_))
  refine hc_meet (fun fr M => Agr fr [(1, .pointer (some ⟨gd, 0, none⟩)), (3, .int .i64 (j : Int)), (29, .bool (decide (z = 0 ∨ p ≠ j)))] ∧ M = eb :: H) ?_ ?_
  · by_cases hz : z = 0
    · rw [show decide (z = 0 ∨ p ≠ j) = true from decide_eq_true (.inl hz)]
      (refine hc_draw (by kernel_rfl) (by kernel_rfl) ?_; repeat (first | refine hl_load1 rfl tx rfl rfl ?_ | refine hl_loadN (i := 0) (n := 4) (vs := dcC D (.slice (some ⟨bb, off, none⟩) L.length c)) rfl tx rfl rfl rfl ?_ | refine hl_loadRd (j := j * 19 + 0) rfl hC.rd iR k0 rfl ?_ | refine gd1_ ?_ | refine hd_call rfl rfl (cF) ?_))
      try refine thn_norm ?_
      exact ⟨⟨rfl, rfl, rfl, trivial⟩, rfl⟩
    · by_cases hpj2 : p = j
      · rw [show decide (z = 0 ∨ p ≠ j) = false from decide_eq_false (by omega)]
        (refine hc_draw (by kernel_rfl) (by kernel_rfl) ?_; repeat (first | refine hl_load1 rfl tx rfl rfl ?_ | refine hl_loadN (i := 0) (n := 4) (vs := dcC D (.slice (some ⟨bb, off, none⟩) L.length c)) rfl tx rfl rfl rfl ?_ | refine hl_loadRd (j := j * 19 + 0) rfl hC.rd iR k0 rfl ?_ | refine gd1_ ?_ | refine hd_call rfl rfl (cF) ?_))
        try refine thn_norm ?_
        exact ⟨⟨rfl, rfl, rfl, trivial⟩, rfl⟩
      · rw [show decide (z = 0 ∨ p ≠ j) = true from decide_eq_true (.inr hpj2)]
        (refine hc_draw (by kernel_rfl) (by kernel_rfl) ?_; repeat (first | refine hl_load1 rfl tx rfl rfl ?_ | refine hl_loadN (i := 0) (n := 4) (vs := dcC D (.slice (some ⟨bb, off, none⟩) L.length c)) rfl tx rfl rfl rfl ?_ | refine hl_loadRd (j := j * 19 + 0) rfl hC.rd iR k0 rfl ?_ | refine gd1_ ?_ | refine hd_call rfl rfl (cF) ?_))
        try refine thn_norm ?_
        exact ⟨⟨rfl, rfl, rfl, trivial⟩, rfl⟩
  rintro fr M ⟨hf, rfl⟩
  obtain ⟨base, rfl⟩ := hf.out
  by_cases hbad : z = 0 ∨ p ≠ j
  · rw [decide_eq_true hbad]
    obtain rfl := bf (by rcases hbad with h | h; exact hbad0 h; exact hbad1 h)
    repeat (first | refine go_ ?_ | refine bx_ (fun _ => ?_))
    exact fin1B rfl rfl ⟨rfl, rfl⟩ iR
  · rw [decide_eq_false hbad]
    repeat (first | refine go_ ?_ | refine bx_ (fun _ => ?_))
    exact ⟨q - 1, by omega, j + 1, by omega, hgood (fun h => hbad (.inl h)) (by omega), rfl, rfl, rfl, trivial⟩
end
end Go.Proofs.Ytoobhebbgbhahaa
namespace Go.Proofs.Ytoobhebbgbhahaa
open Go.RowKit
theorem mapIs_nil : mapIs #[] 0 := ⟨fun en h => by simp at h, fun a => by simp⟩
theorem mapIs.keys {es : Array MapEntry} {k : Nat} (h : mapIs es k) : ∀ x ∈ es.toList, Go.MapKept.IsKey (.int .i64) x.key := fun x hx => by
  obtain ⟨a, h1, _⟩ := h.1 x hx
  rw [h1]
  exact rfl
theorem mem_at (A : Array MapEntry) (en : MapEntry) : en ∈ A.toList ↔ ∃ i : Nat, A[i]? = some en := by
  rw [List.mem_iff_getElem?]
  exact ⟨fun ⟨i, h⟩ => ⟨i, by rw [← h, Array.getElem?_toList]⟩, fun ⟨i, h⟩ => ⟨i, by rw [← h, Array.getElem?_toList]⟩⟩
theorem bit_put (k n a : Nat) : (k ||| 1 <<< n).testBit a = true ↔ k.testBit a = true ∨ a = n := by
  rw [Nat.testBit_or, Nat.one_shiftLeft, Nat.testBit_two_pow, Bool.or_eq_true, decide_eq_true_eq]
  exact ⟨fun h => h.imp id Eq.symm, fun h => h.imp id Eq.symm⟩
theorem mapIs.push {es : Array MapEntry} {k n clock : Nat} (h : mapIs es k) : mapIs (es.push { key := .int .i64 (n : Int), val := .bool true, born := clock }) (k ||| 1 <<< n) := by
  refine ⟨fun en he => ?_, fun a => ?_⟩
  · simp only [Array.toList_push, List.mem_append, List.mem_singleton] at he
    rcases he with he | rfl
    · exact h.1 en he
    · exact ⟨n, rfl, rfl⟩
  · rw [bit_put, h.2 a]
    simp only [Array.toList_push, List.mem_append, List.mem_singleton]
    constructor
    · rintro (⟨en, h1, h2⟩ | rfl)
      · exact ⟨en, .inl h1, h2⟩
      · exact ⟨_, .inr rfl, rfl⟩
    · rintro ⟨en, h1 | rfl, h2⟩
      · exact .inl ⟨en, h1, h2⟩
      · injection h2 with _ h2
        exact .inr (by omega)
theorem mapIs.again {es : Array MapEntry} {k n j : Nat} {e : MapEntry} (h : mapIs es k) (hj : es[j]? = some e) (hk : e.key = .int .i64 (n : Int)) :
    mapIs (es.modify j fun e => { e with key := .int .i64 (n : Int), val := .bool true }) (k ||| 1 <<< n) := by
  have hlt : j < es.size := (Array.getElem?_eq_some_iff.1 hj).1
  have hm := mem_at (es.modify j fun e => { e with key := .int .i64 (n : Int), val := .bool true })
  have hm0 := mem_at es
  have hg : ∀ i, (es.modify j fun e => { e with key := .int .i64 (n : Int), val := .bool true })[i]? = if j = i then some { e with key := .int .i64 (n : Int), val := .bool true } else es[i]? := fun i => by
    by_cases hi : j = i
    · subst hi
      rw [if_pos rfl, Array.getElem?_modify]
      simp [hj]
    · rw [if_neg hi, Array.getElem?_modify, if_neg hi]
  refine ⟨fun en he => ?_, fun a => ?_⟩
  · obtain ⟨i, hi⟩ := (hm en).1 he
    rw [hg] at hi
    by_cases e' : j = i
    · rw [if_pos e'] at hi
      obtain rfl := Option.some.inj hi
      exact ⟨n, rfl, rfl⟩
    · rw [if_neg e'] at hi
      exact h.1 en ((hm0 en).2 ⟨i, hi⟩)
  · rw [bit_put, h.2 a]
    constructor
    · rintro (⟨en, h1, h2⟩ | rfl)
      · obtain ⟨i, hi⟩ := (hm0 en).1 h1
        by_cases e' : j = i
        · subst e'
          rw [hj] at hi
          obtain rfl := Option.some.inj hi
          exact ⟨_, (hm _).2 ⟨j, by rw [hg, if_pos rfl]⟩, by rw [← h2, hk]⟩
        · exact ⟨en, (hm _).2 ⟨i, by rw [hg, if_neg e', hi]⟩, h2⟩
      · exact ⟨_, (hm _).2 ⟨j, by rw [hg, if_pos rfl]⟩, rfl⟩
    · rintro ⟨en, h1, h2⟩
      obtain ⟨i, hi⟩ := (hm en).1 h1
      rw [hg] at hi
      by_cases e' : j = i
      · rw [if_pos e'] at hi
        obtain rfl := Option.some.inj hi
        dsimp only at h2
        injection h2 with _ h2
        exact .inr (by omega)
      · rw [if_neg e'] at hi
        exact .inl ⟨en, (hm0 en).2 ⟨i, hi⟩, h2⟩
section
variable {c : Cx} {Q : Pst} {fr : Fr} {H F : List Ent} {ops : Array Oper} {rest : List Oper} {dst : Option Nat} {ty : TypeId} {pos : String} {after : Array Edge}
variable {x y z : Operand} {T e : TypeId} {g k : Nat} {S : List Oper → Fr → List Ent → Prop}
/-- A set of numbers. -/
abbrev mb (g S : Nat) : Ent := ⟨g, mapTag, [], (Oc.bits S).enc⟩
/-- A block without cells, told exactly. -/
abbrev oE (g : Nat) (o : Oc) : Ent := ⟨g, mapTag, [], o.enc⟩
theorem oc_of {w : World} {g : Nat} {o : Oc} (h : Ent.holds w (oE g o)) : ∃ b, w.heap[g]? = some b ∧ o.is b := by
  obtain ⟨h1, _⟩ | ⟨_, _, oc, b, h2, h3, h4⟩ := h
  · exact absurd rfl h1
  · obtain rfl := Oc.enc_inj h2
    exact ⟨b, h3, h4⟩
theorem Hp.newO {w0 w : World} {B : Nat} {H : List Ent} (h : Hp w0 B H w) (o : Oc) (b : Obj) (hb : o.is b) : Hp w0 B (oE w.heap.size o :: H) (w.alloc b) :=
  h.cons (oE w.heap.size o) h.lt (fun hm => by obtain ⟨x, hx, e⟩ := List.mem_map.1 hm; have := (h.own x hx).2.lt; rw [e] at this; exact absurd this (Nat.lt_irrefl _))
    (.inr ⟨rfl, rfl, o, b, rfl, heap_alloc_new w _, hb⟩) ((Below.refl _ _).alloc h.lt _) (fun j hj _ => Below.heap_alloc w _ j hj)
theorem Hp.setO {w0 w : World} {B : Nat} {H : List Ent} {o o' : Oc} {b b' : Obj} (h : Hp w0 B (oE g o :: H) w) (hes : w.heap[g]? = some b) (hm : o'.is b') :
    Hp w0 B (oE g o' :: H) { w with heap := w.heap.setIfInBounds g b' } := by
  obtain ⟨hB, hh⟩ := h.own _ (List.mem_cons_self ..)
  have hs := Go.MapKept.heap_set (o' := b') hes
  exact h.drop.cons (oE g o') hB h.notin (.inr ⟨rfl, rfl, o', b', rfl, hs.1, hm⟩) ((Below.refl _ _).trans ⟨rfl, rfl, rfl, by simp, fun j hj => hs.2 j (by dsimp only at hB; omega)⟩) (fun j _ hj => hs.2 j hj)
theorem hl_makeMap (hd : dOk c.n dst = true) (h : ∀ g, HL c ops Q rest (updO fr dst (.map (some g))) (mb g 0 :: H)) :
    HL c ops Q (⟨dst, .makeMap T none, ty, pos, after, none⟩ :: rest) fr H :=
  hl_some hd (fun w hw => by
    refine ⟨_, _, _, ?_, hw.newO (.bits 0) (.map #[] 0) ⟨_, _, rfl, mapIs_nil⟩, h _⟩
    simp [execOp, Instr.makeMap, newObj, Sem.run])
theorem hl_lookupB [Stp c ops S] {kt et : TypeId} {n : Nat} (hT : c.P.underlying T = some (.map kt et)) (hkt : c.P.underlying kt = some (.int .i64)) [hz : TZero c.P et (.bool false)] (hx : ev fr x = .map (some g)) (hy : ev fr y = .int .i64 (n : Int)) (ht : Take H (mb g k) F) (hd : dOk c.n dst = true)
    (h : S rest (updO fr dst (.bool (k.testBit n))) H) : S (⟨dst, .lookup T x y false, ty, pos, after, none⟩ :: rest) fr H :=
  hl_pure hd _ (fun w hw => by
    obtain ⟨_, hes, es, cl, rfl, hm⟩ := oc_of ((hw.take ht).own _ (List.mem_cons_self ..)).2
    obtain ⟨inf, hi, h0⟩ := Option.bind_eq_some_iff.1 hz.h
    have hck := Go.MapKept.run_checkKey (w := w) (k := .int .i64 (n : Int)) hkt rfl es.isEmpty 9999
    have hb : k.testBit n = true ↔ ∃ en ∈ es.toList, en.key = .int .i64 (n : Int) := hm.2 n
    rcases Go.MapKept.findNow_spec (d := .int .i64) (k := .int .i64 (n : Int)) rfl es.toList 0 hm.keys with ⟨h2, h3⟩ | ⟨j, en, h2, h3, h4⟩
    · rw [show k.testBit n = false by cases e : k.testBit n; rfl; obtain ⟨en, h5, h6⟩ := hb.1 e; exact absurd h6 (h3 en h5)]
      simp [execOp, hx, hy, Instr.lookup, run_underlying hT, Go.MapKept.run_getObj_map hes, Go.MapKept.run_findKey hkt h2, hck, zeroValue, typeInfo, hi, h0]
    · have hme := List.mem_of_getElem? h3
      obtain ⟨a, _, hv⟩ := hm.1 en hme
      rw [hb.2 ⟨en, hme, h4⟩]
      simp [execOp, hx, hy, Instr.lookup, run_underlying hT, Go.MapKept.run_getObj_map hes, Go.MapKept.run_findKey hkt h2, hck, hv]) h
theorem hl_mapPut {kt et : TypeId} {n : Nat} (hT : c.P.underlying T = some (.map kt et)) (hkt : c.P.underlying kt = some (.int .i64)) (hx : ev fr x = .map (some g)) (hy : ev fr y = .int .i64 (n : Int)) (hz : ev fr z = .bool true) (ht : Take H (mb g k) F) (hd : dOk c.n dst = true)
    (h : HL c ops Q rest (updO fr dst undef) (mb g (k ||| 1 <<< n) :: F)) : HL c ops Q (⟨dst, .mapUpdate T x y z, ty, pos, after, none⟩ :: rest) fr H :=
  hl_skipv hd (fun w hw => by
    have hw' := hw.take ht
    obtain ⟨_, hes, es, cl, rfl, hm⟩ := oc_of (hw'.own _ (List.mem_cons_self ..)).2
    have hck := Go.MapKept.run_checkKey (w := w) (k := .int .i64 (n : Int)) hkt rfl false 9999
    rcases Go.MapKept.findNow_spec (d := .int .i64) (k := .int .i64 (n : Int)) rfl es.toList 0 hm.keys with ⟨h2, h3⟩ | ⟨j, en, h2, h3, h4⟩
    · refine ⟨_, _, ?_, hw'.setO (o' := .bits (k ||| 1 <<< n)) (b' := .map _ (cl + 1)) hes ⟨_, _, rfl, hm.push (n := n) (clock := cl)⟩, h⟩
      simp [execOp, hx, hy, hz, Instr.mapUpdate, run_underlying hT, Go.MapKept.run_getObj_map hes, Go.MapKept.run_findKey hkt h2, hck, Go.MapKept.run_setObj_map _ hes, Result.andThen]
    · have hj : es[j]? = some en := by simpa using h3
      refine ⟨_, _, ?_, hw'.setO (o' := .bits (k ||| 1 <<< n)) (b' := .map _ cl) hes ⟨_, _, rfl, hm.again (n := n) hj h4⟩, h⟩
      simp [execOp, hx, hy, hz, Instr.mapUpdate, run_underlying hT, Go.MapKept.run_getObj_map hes, Go.MapKept.run_findKey hkt h2, hck, hj, h4, Go.MapKept.run_keyThatStays (d := .int .i64) (k := .int .i64 (n : Int)) rfl, Go.MapKept.run_setObj_map _ hes, Result.andThen])
theorem hl_lookupI [Stp c ops S] {kt et : TypeId} {a : Int} (hT : c.P.underlying T = some (.map kt et)) (hkt : c.P.underlying kt = some (.int .i64)) [TZero c.P et (.bool false)] (hx : ev fr x = .map (some g)) (hy : ev fr y = .int .i64 a) (ha : 0 ≤ a) (ht : Take H (mb g k) F) (hd : dOk c.n dst = true)
    (h : S rest (updO fr dst (.bool (k.testBit a.toNat))) H) : S (⟨dst, .lookup T x y false, ty, pos, after, none⟩ :: rest) fr H :=
  hl_lookupB (n := a.toNat) hT hkt hx (by rw [hy, Int.toNat_of_nonneg ha]) ht hd h
theorem hl_mapPutI {kt et : TypeId} {a : Int} (hT : c.P.underlying T = some (.map kt et)) (hkt : c.P.underlying kt = some (.int .i64)) (hx : ev fr x = .map (some g)) (hy : ev fr y = .int .i64 a) (ha : 0 ≤ a) (hz : ev fr z = .bool true) (ht : Take H (mb g k) F) (hd : dOk c.n dst = true)
    (h : HL c ops Q rest (updO fr dst undef) (mb g (k ||| 1 <<< a.toNat) :: F)) : HL c ops Q (⟨dst, .mapUpdate T x y z, ty, pos, after, none⟩ :: rest) fr H :=
  hl_mapPut (n := a.toNat) hT hkt hx (by rw [hy, Int.toNat_of_nonneg ha]) hz ht hd h
/-- A block ahead is kept. -/
theorem Imp.swap1 {e x : Ent} {H : List Ent} : Imp (e :: x :: H) (e :: H) := Imp.drop2 (Imp.refl _)
end
end Go.Proofs.Ytoobhebbgbhahaa
