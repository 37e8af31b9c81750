/-
  ReelPlays. No condition.
-/
import Derived.Test.YtonnfhjlojmieaaR4
import Derived.Test.YtonnfhjlojmieaaOpenS
import Derived.ChangeArms
namespace Go.Proofs.Ytonnfhjlojmieaa
open Go.RowKit Go.ChangeShapes Go.WideShapes Go.ChangeAt Go.Deep
structure OpE where
  K : Int
  N : Int
  M : Int
  pa : Option Addr
  plen : Nat
  pcap : Nat
  d : List UInt8
abbrev opV (x : OpE) : List Value := [.int .i64 x.K, .int .i64 x.N, .int .i64 x.M, .slice x.pa x.plen x.pcap]
def I64 (n : Int) : Prop := -9223372036854775808 ≤ n ∧ n ≤ 9223372036854775807
def OpE.wf (w : World) (x : OpE) : Prop := I64 x.K ∧ I64 x.N ∧ I64 x.M ∧ Sl byteV w x.pa x.plen x.pcap x.d
theorem open_ops {H : Type} {enc : TypeId × Value → H} {w : World} {base : Nat} {held : Bool} {v : Value} {d : DataW H} {ps : List MemPlace} {a : Option Addr} {len cap : Nat} (hv : v = .slice a len cap)
    (h : DataW.Trod enc Try.prog w base (fun _ => true) held 42 v d ps) : ∃ l : List OpE, SlS 4 opV w a len cap l ∧ ∀ x ∈ l, x.wf w := by
  refine open_structs opV (OpE.wf w) Try.underlying42 Try.underlying47 (by kernel_rfl) (by kernel_rfl) (by decide) ?_ hv h
  intro vs hl hf
  obtain ⟨x, hx, n0, y0, h0⟩ := hf 0 _ rfl
  obtain ⟨y, hy, n1, y1, h1⟩ := hf 1 _ rfl
  obtain ⟨z, hz, n2, y2, h2⟩ := hf 2 _ rfl
  obtain ⟨u, hu, n3, y3, h3⟩ := hf 3 _ rfl
  obtain ⟨i, hi, _, wi⟩ := DataW.trod_int Try.underlying3 h0
  obtain ⟨j, hj, _, wj⟩ := DataW.trod_int Try.underlying3 h1
  obtain ⟨k, hk, _, wk⟩ := DataW.trod_int Try.underlying3 h2
  cases hi; cases hj; cases hk
  obtain ⟨pa, pl, pc, rfl⟩ : ∃ pa pl pc, u = .slice pa pl pc := by
    rcases open_ints Try.underlying22 Try.underlying5 (by kernel_rfl) h3 with ⟨hcs, _⟩ | ⟨x, l, c, zs, hcs, _⟩
    · exact ⟨_, _, _, by simpa using hcs⟩
    · exact ⟨_, _, _, by simpa using hcs⟩
  obtain ⟨d, hd⟩ := open_bytes (enc := enc) (w := w) (base := base) (held := held) Try.underlying22 Try.underlying5 (by kernel_rfl) (rfl : Value.slice pa pl pc = .slice pa pl pc) ⟨n3, h3⟩
  match vs, hl with
  | [p, q, r, s], _ =>
    cases hx; cases hy; cases hz; cases hu
    exact ⟨⟨i, j, k, pa, pl, pc, d⟩, rfl, wf_i64 wi, wf_i64 wj, wf_i64 wk, hd⟩
/-- What a step makes of a reel. -/
def opS (s : RS) (K N : Int) (d : List UInt8) : RS := if K = 1 then s.append d else if K = 2 then s.sync else if K = 3 then s.cut N else if K = 4 then s else if K = 5 then s.arm N else if K = 6 then s.crash N d else s
theorem step_any {w0 : World} {B : Nat} {R : List Ent} {g gt : Nat} {s : RS} {X Y : List Ent} (hx : Rl g s X) (hy : Tw gt s Y) (K N M : Int) (hN : I64 N) (hM : I64 M) {a : Option Addr} {len cp : Nat} {d : List UInt8} (hd : DArg w0 B a len d) :
    Fn Try.prog w0 B 21 [.pointer (some ⟨g, 0, none⟩), .pointer (some ⟨gt, 0, none⟩), .agg #[.int .i64 K, .int .i64 N, .int .i64 M, .slice a len cp]] (X ++ (Y ++ R)) (StepR g gt (opS s K N d) R) := by
  unfold opS
  by_cases h1 : K = 1
  · subst h1; exact step1_fn hx hy N M hN hM hd
  rw [if_neg h1]
  by_cases h2 : K = 2
  · subst h2; exact step2_fn hx hy N M hN hM hd
  rw [if_neg h2]
  by_cases h3 : K = 3
  · subst h3; exact step3_fn hx hy N M hN hM hd
  rw [if_neg h3]
  by_cases h4 : K = 4
  · subst h4; exact step4_fn hx hy N M hN hM hd
  rw [if_neg h4]
  by_cases h5 : K = 5
  · subst h5; exact step5_fn hx hy N M hN hM hd
  rw [if_neg h5]
  by_cases h6 : K = 6
  · subst h6; exact step6_fn hx hy N M hN hM hd
  rw [if_neg h6]
  exact step0_fn hx hy K ⟨h1, h2, h3, h4, h5, h6⟩ N M hN hM hd
end Go.Proofs.Ytonnfhjlojmieaa
namespace Go.Proofs.Ytonnfhjlojmieaa.reelPlays
open Go.RowKit
theorem permQ {P : Program} {w0 : World} {B : Nat} {f : FuncId} {args : List Value} {v : Value} {H H2 : List Ent} (h : Fn P w0 B f args H2 (fun u H' => u = v ∧ H' = H2)) (hp : H.Perm H2) : Fn P w0 B f args H (fun u H' => u = v ∧ H' = H) :=
  ⟨h.fn, fun w hw => (h.run w (hw.perm hp)).mono fun _ _ ⟨u, _, a, b, c, d⟩ => ⟨u, H, a, (d ▸ b).perm hp.symm, c, rfl⟩⟩
theorem impQ {P : Program} {w0 : World} {B : Nat} {f : FuncId} {args : List Value} {v : Value} {H2 : List Ent} (h : Fn P w0 B f args H2 (fun u H' => u = v ∧ H' = H2)) {v2 : Value} (e : v = v2) : Fn P w0 B f args H2 (fun u H' => u = v2 ∧ H' = H2) := e ▸ h
set_option maxHeartbeats 16000000 in
set_option maxRecDepth 100000 in
theorem law {w0 : World} {B : Nat} {H : List Ent} (hB : w0.heap.size ≤ B) (cap : Int) (hc : I64 cap) {a : Option Addr} {len pc : Nat} {l : List OpE} (hl : SlS 4 opV w0 a len pc l) (hx : ∀ x ∈ l, x.wf w0) :
    Fn Try.prog w0 B 7 [.int .i64 cap, .slice a len pc] H (fun u _ => u = .bool true) := by
  have hle := hl.size_eq
  have hlc := hl.le
  unfold I64 at hc
  refine fn_intro Try.func7 rfl (by kernel_rfl) rfl ?_
  by_cases hcap : 0 ≤ cap ∧ cap ≤ 16777216
  · obtain ⟨cap, rfl⟩ := Int.eq_ofNat_of_zero_le hcap.1
    repeat (first | refine go_ ?_ | refine bx_ (fun _ => ?_) | refine hl_callv rfl rfl (anchor_fn) ?_)
    refine hl_call rfl rfl (new_r cap (by omega)) (fun v H' hv => ?_)
    obtain ⟨g, X, rfl, rfl, h⟩ := hv
    by_cases h200 : 200 < len
    · repeat (first | refine go_ ?_ | refine bx_ (fun _ => ?_))
      exact fin1B rfl rfl rfl
    repeat (first | refine go_ ?_ | refine bx_ (fun _ => ?_))
    rename_i gt
    have hy : Tw gt ⟨[], cap, 0, -1, false⟩ [TwB gt (.slice none 0 0) cap 0 0 false false] := ⟨.slice none 0 0, 0, [], rfl, fun h => by dsimp only at h; omega, by decide, BV.nil⟩
    refine HC.perm (H' := X ++ ([TwB gt (.slice none 0 0) cap 0 0 false false] ++ H)) ?_ List.perm_middle.symm
    refine hc_loopd (fun m fr M => ∃ k s X Y, k + m = len ∧ Agr fr [(0, .int .i64 (cap : Int)), (1, .slice a len pc), (5, .pointer (some ⟨g, 0, none⟩)), (6, .pointer (some ⟨gt, 0, none⟩)), (37, .slice a len pc), (38, .int .i64 (len : Int)), (39, .int .i64 (k : Int))] ∧ M = X ++ (Y ++ H) ∧ Rl g s X ∧ Tw gt s Y) len ?_ ?_
    · exact ⟨0, _, X, _, by omega, ⟨rfl, rfl, rfl, rfl, rfl, rfl, rfl, trivial⟩, rfl, h, hy⟩
    clear h hy X
    rintro m fr M ⟨k, s, X, Y, hk, hf, rfl, h, hy⟩
    obtain ⟨base, rfl⟩ := hf.out
    by_cases hkl : k < len
    · have hkl2 : k < l.length := by omega
      obtain ⟨b, off, rfl, hrow⟩ := hl.row k hkl2
      obtain ⟨wK, wN, wM, wd⟩ := hx _ (List.getElem_mem hkl2)
      obtain ⟨K, N, M0, pa, pl, pcp, d, hxe⟩ : ∃ K N M0 pa pl pcp d, l[k] = ⟨K, N, M0, pa, pl, pcp, d⟩ := ⟨_, _, _, _, _, _, _, rfl⟩
      rw [hxe] at wK wN wM wd
      dsimp only at wK wN wM wd
      have wl := wd.size_eq
      repeat (first | refine go_ ?_ | refine bx_ (fun _ => ?_))
      refine hl_loadE (k := 4) (f := opV) hl hkl2 hB rfl (by decide) rfl rfl ?_
      rw [hxe]
      change HL _ _ _ _ (updO _ _ (.agg #[.int .i64 K, .int .i64 N, .int .i64 M0, .slice pa pl pcp])) _
      by_cases hbig : 1000 < pl
      · repeat (first | refine go_ ?_ | refine bx_ (fun _ => ?_))
        exact fin1B rfl rfl rfl
      have hd : DArg w0 B pa pl d := by
        have rd : ∀ E, Rds w0 B E pa (d.map byteV) := fun E => Rds.sl (c := ⟨Try.prog, 0, w0, B⟩) wd hB (by simp [Value.oneCell', byteV])
        refine ⟨wl, by omega, rd, fun E => ?_⟩
        rcases Nat.eq_zero_or_pos d.length with h0 | h0
        · exact .inl (List.eq_nil_of_length_eq_zero h0)
        · obtain ⟨bb, off, rfl, _⟩ := wd.row 0 h0
          exact .inr ⟨bb, off, rfl, Rds.rowB (rd E)⟩
      repeat (first | refine go_ ?_ | refine bx_ (fun _ => ?_))
      rename_i x
      refine HC.perm (H' := X ++ (Y ++ (⟨x, 47, [.int .i64 K, .int .i64 N, .int .i64 M0, .slice pa pl pcp], 4⟩ :: H))) ?_ (List.perm_middle.symm.trans (List.perm_middle.symm.append_left X))
      refine hc_meet (fun fr M => Agr fr [(0, .int .i64 (cap : Int)), (1, .slice (some ⟨b, off, none⟩) len pc), (5, .pointer (some ⟨g, 0, none⟩)), (6, .pointer (some ⟨gt, 0, none⟩)), (37, .slice (some ⟨b, off, none⟩) len pc), (38, .int .i64 (len : Int)), (39, .int .i64 (k : Int)), (79, .bool false)] ∧ ∃ X' Y' S', Imp M (X' ++ (Y' ++ (⟨x, 47, [.int .i64 K, .int .i64 N, .int .i64 M0, .slice pa pl pcp], 4⟩ :: H))) ∧ Rl g S' X' ∧ Tw gt S' Y') ?_ ?_
      · refine hc_drawA (⟨x, 47, [.int .i64 K, .int .i64 N, .int .i64 M0, .slice pa pl pcp], 4⟩ :: H) (by kernel_rfl) ?_
        have hi0 : Imp (X ++ (Y ++ (⟨x, 47, [.int .i64 K, .int .i64 N, .int .i64 M0, .slice pa pl pcp], 4⟩ :: H))) (⟨x, 47, [.int .i64 K, .int .i64 N, .int .i64 M0, .slice pa pl pcp], 4⟩ :: H) := (Imp.tail X _).trans (Imp.tail Y _)
        obtain ⟨S, hS⟩ : ∃ S, S = opS s K N d := ⟨_, rfl⟩
        have hstep := step_any (w0 := w0) (B := B) (R := ⟨x, 47, [.int .i64 K, .int .i64 N, .int .i64 M0, .slice pa pl pcp], 4⟩ :: H) (cp := pcp) h hy K N M0 wN wM hd
        rw [← hS] at hstep
        clear hS
        refine ha_quiet [0, 1, 2] (by rfl) (by kernel_rfl) ?_
        repeat (first | rw [hdq] | refine gd1_ ?_)
        refine ha_fork1 3 (by rfl) (by kernel_rfl) (by rfl) (by first | exact Imp.refl _ | exact Imp.drop (Imp.refl _) | exact Imp.drop (Imp.drop (Imp.refl _)) | exact Imp.drop (Imp.drop (Imp.drop (Imp.refl _))) | exact Imp.drop (Imp.drop (Imp.drop (Imp.drop (Imp.refl _)))) | exact Imp.drop (Imp.drop (Imp.drop (Imp.drop (Imp.drop (Imp.refl _))))) | exact Imp.drop (Imp.drop (Imp.drop (Imp.drop (Imp.drop (Imp.drop (Imp.refl _)))))) | exact Imp.drop (Imp.drop (Imp.drop (Imp.drop (Imp.drop (Imp.drop (Imp.drop (Imp.refl _))))))) | exact Imp.drop (Imp.drop (Imp.drop (Imp.drop (Imp.drop (Imp.drop (Imp.drop (Imp.drop (Imp.refl _)))))))) | assumption | exact Imp.drop2 (Imp.refl _) | exact Imp.drop2 (Imp.drop2 (Imp.refl _)) | exact Imp.drop (Imp.drop2 (Imp.refl _))) ?_
        · skip
          refine hl_call rfl rfl hstep (fun v H' hv => ?_)
          obtain ⟨rfl, X', Y', hi, hx', bv, tl, Yb, rfl, ht1, ht2, hbv⟩ := hv
          obtain ⟨ab, cb, rfl, _, _, _, _⟩ := id hbv
          refine HL.imp ?_ hi
          refine HL.perm ?_ List.perm_middle
          have hi1 : Imp (TwB gt (.slice ab S.l.length cb) S.cap S.safe tl (decide (0 ≤ S.left)) S.down :: (X' ++ (Yb ++ (⟨x, 47, [.int .i64 K, .int .i64 N, .int .i64 M0, .slice pa pl pcp], 4⟩ :: H)))) (⟨x, 47, [.int .i64 K, .int .i64 N, .int .i64 M0, .slice pa pl pcp], 4⟩ :: H) := Imp.drop ((Imp.tail X' _).trans (Imp.tail Yb _))
          have hp1 : (TwB gt (.slice ab S.l.length cb) S.cap S.safe tl (decide (0 ≤ S.left)) S.down :: (X' ++ (Yb ++ (⟨x, 47, [.int .i64 K, .int .i64 N, .int .i64 M0, .slice pa pl pcp], 4⟩ :: H)))).Perm (X' ++ (TwB gt (.slice ab S.l.length cb) S.cap S.safe tl (decide (0 ≤ S.left)) S.down :: (Yb ++ (⟨x, 47, [.int .i64 K, .int .i64 N, .int .i64 M0, .slice pa pl pcp], 4⟩ :: H)))) := List.perm_middle.symm
          have hdq : (!(S.down == S.down)) = false := by simp
          repeat (first | refine op_ ?_ | refine bx_ (fun _ => ?_))
          refine ha_quiet [4, 5, 6, 8, 9, 10] (by rfl) (by kernel_rfl) ?_
          repeat (first | rw [hdq] | refine gd1_ ?_)
          refine ha_fork2 7 11 (by rfl) (by kernel_rfl) (by rfl) (by rfl) (by first | exact Imp.refl _ | exact Imp.drop (Imp.refl _) | exact Imp.drop (Imp.drop (Imp.refl _)) | exact Imp.drop (Imp.drop (Imp.drop (Imp.refl _))) | exact Imp.drop (Imp.drop (Imp.drop (Imp.drop (Imp.refl _)))) | exact Imp.drop (Imp.drop (Imp.drop (Imp.drop (Imp.drop (Imp.refl _))))) | exact Imp.drop (Imp.drop (Imp.drop (Imp.drop (Imp.drop (Imp.drop (Imp.refl _)))))) | exact Imp.drop (Imp.drop (Imp.drop (Imp.drop (Imp.drop (Imp.drop (Imp.drop (Imp.refl _))))))) | exact Imp.drop (Imp.drop (Imp.drop (Imp.drop (Imp.drop (Imp.drop (Imp.drop (Imp.drop (Imp.refl _)))))))) | assumption | exact Imp.drop2 (Imp.refl _) | exact Imp.drop2 (Imp.drop2 (Imp.refl _)) | exact Imp.drop (Imp.drop2 (Imp.refl _))) ?_ ?_
          · skip
            refine hl_run (by rfl) (by rfl) rfl ?_
            refine hl_callv rfl rfl (permQ (size_r hx') hp1) ?_
            repeat (first | refine op_ ?_ | refine bx_ (fun _ => ?_))
            refine ha_fork1 11 (by rfl) (by kernel_rfl) (by rfl) (by first | exact Imp.refl _ | exact Imp.drop (Imp.refl _) | exact Imp.drop (Imp.drop (Imp.refl _)) | exact Imp.drop (Imp.drop (Imp.drop (Imp.refl _))) | exact Imp.drop (Imp.drop (Imp.drop (Imp.drop (Imp.refl _)))) | exact Imp.drop (Imp.drop (Imp.drop (Imp.drop (Imp.drop (Imp.refl _))))) | exact Imp.drop (Imp.drop (Imp.drop (Imp.drop (Imp.drop (Imp.drop (Imp.refl _)))))) | exact Imp.drop (Imp.drop (Imp.drop (Imp.drop (Imp.drop (Imp.drop (Imp.drop (Imp.refl _))))))) | exact Imp.drop (Imp.drop (Imp.drop (Imp.drop (Imp.drop (Imp.drop (Imp.drop (Imp.drop (Imp.refl _)))))))) | assumption | exact Imp.drop2 (Imp.refl _) | exact Imp.drop2 (Imp.drop2 (Imp.refl _)) | exact Imp.drop (Imp.drop2 (Imp.refl _))) ?_
            · skip
              repeat (first | refine op_ ?_ | refine bx_ (fun _ => ?_))
              refine ha_quiet [12, 13, 14, 15, 16, 18, 19, 20] (by rfl) (by kernel_rfl) ?_
              repeat (first | rw [hdq] | refine gd1_ ?_)
              refine ha_fork2 17 21 (by rfl) (by kernel_rfl) (by rfl) (by rfl) (by first | exact Imp.refl _ | exact Imp.drop (Imp.refl _) | exact Imp.drop (Imp.drop (Imp.refl _)) | exact Imp.drop (Imp.drop (Imp.drop (Imp.refl _))) | exact Imp.drop (Imp.drop (Imp.drop (Imp.drop (Imp.refl _)))) | exact Imp.drop (Imp.drop (Imp.drop (Imp.drop (Imp.drop (Imp.refl _))))) | exact Imp.drop (Imp.drop (Imp.drop (Imp.drop (Imp.drop (Imp.drop (Imp.refl _)))))) | exact Imp.drop (Imp.drop (Imp.drop (Imp.drop (Imp.drop (Imp.drop (Imp.drop (Imp.refl _))))))) | exact Imp.drop (Imp.drop (Imp.drop (Imp.drop (Imp.drop (Imp.drop (Imp.drop (Imp.drop (Imp.refl _)))))))) | assumption | exact Imp.drop2 (Imp.refl _) | exact Imp.drop2 (Imp.drop2 (Imp.refl _)) | exact Imp.drop (Imp.drop2 (Imp.refl _))) ?_ ?_
              · skip
                refine hl_run (by rfl) (by rfl) rfl ?_
                refine hl_callv rfl rfl (permQ (safe_r hx') hp1) ?_
                repeat (first | refine op_ ?_ | refine bx_ (fun _ => ?_))
                refine ha_fork1 21 (by rfl) (by kernel_rfl) (by rfl) (by first | exact Imp.refl _ | exact Imp.drop (Imp.refl _) | exact Imp.drop (Imp.drop (Imp.refl _)) | exact Imp.drop (Imp.drop (Imp.drop (Imp.refl _))) | exact Imp.drop (Imp.drop (Imp.drop (Imp.drop (Imp.refl _)))) | exact Imp.drop (Imp.drop (Imp.drop (Imp.drop (Imp.drop (Imp.refl _))))) | exact Imp.drop (Imp.drop (Imp.drop (Imp.drop (Imp.drop (Imp.drop (Imp.refl _)))))) | exact Imp.drop (Imp.drop (Imp.drop (Imp.drop (Imp.drop (Imp.drop (Imp.drop (Imp.refl _))))))) | exact Imp.drop (Imp.drop (Imp.drop (Imp.drop (Imp.drop (Imp.drop (Imp.drop (Imp.drop (Imp.refl _)))))))) | assumption | exact Imp.drop2 (Imp.refl _) | exact Imp.drop2 (Imp.drop2 (Imp.refl _)) | exact Imp.drop (Imp.drop2 (Imp.refl _))) ?_
                · skip
                  repeat (first | refine op_ ?_ | refine bx_ (fun _ => ?_))
                  refine ha_quiet [22, 23, 24, 25, 27, 28, 29] (by rfl) (by kernel_rfl) ?_
                  repeat (first | rw [hdq] | refine gd1_ ?_)
                  refine ha_fork2 26 30 (by rfl) (by kernel_rfl) (by rfl) (by rfl) (by first | exact Imp.refl _ | exact Imp.drop (Imp.refl _) | exact Imp.drop (Imp.drop (Imp.refl _)) | exact Imp.drop (Imp.drop (Imp.drop (Imp.refl _))) | exact Imp.drop (Imp.drop (Imp.drop (Imp.drop (Imp.refl _)))) | exact Imp.drop (Imp.drop (Imp.drop (Imp.drop (Imp.drop (Imp.refl _))))) | exact Imp.drop (Imp.drop (Imp.drop (Imp.drop (Imp.drop (Imp.drop (Imp.refl _)))))) | exact Imp.drop (Imp.drop (Imp.drop (Imp.drop (Imp.drop (Imp.drop (Imp.drop (Imp.refl _))))))) | exact Imp.drop (Imp.drop (Imp.drop (Imp.drop (Imp.drop (Imp.drop (Imp.drop (Imp.drop (Imp.refl _)))))))) | assumption | exact Imp.drop2 (Imp.refl _) | exact Imp.drop2 (Imp.drop2 (Imp.refl _)) | exact Imp.drop (Imp.drop2 (Imp.refl _))) ?_ ?_
                  · skip
                    refine hl_run (by rfl) (by rfl) rfl ?_
                    refine hl_callv rfl rfl (permQ (down_r hx') hp1) ?_
                    repeat (first | refine op_ ?_ | refine bx_ (fun _ => ?_))
                    refine ha_fork1 30 (by rfl) (by kernel_rfl) (by rfl) (by first | exact Imp.refl _ | exact Imp.drop (Imp.refl _) | exact Imp.drop (Imp.drop (Imp.refl _)) | exact Imp.drop (Imp.drop (Imp.drop (Imp.refl _))) | exact Imp.drop (Imp.drop (Imp.drop (Imp.drop (Imp.refl _)))) | exact Imp.drop (Imp.drop (Imp.drop (Imp.drop (Imp.drop (Imp.refl _))))) | exact Imp.drop (Imp.drop (Imp.drop (Imp.drop (Imp.drop (Imp.drop (Imp.refl _)))))) | exact Imp.drop (Imp.drop (Imp.drop (Imp.drop (Imp.drop (Imp.drop (Imp.drop (Imp.refl _))))))) | exact Imp.drop (Imp.drop (Imp.drop (Imp.drop (Imp.drop (Imp.drop (Imp.drop (Imp.drop (Imp.refl _)))))))) | assumption | exact Imp.drop2 (Imp.refl _) | exact Imp.drop2 (Imp.drop2 (Imp.refl _)) | exact Imp.drop (Imp.drop2 (Imp.refl _))) ?_
                    · skip
                      repeat (first | refine op_ ?_ | refine bx_ (fun _ => ?_))
                      refine ha_quiet [31, 32] (by rfl) (by kernel_rfl) ?_
                      repeat (first | rw [hdq] | refine gd1_ ?_)
                      refine ha_end (by rfl) (by kernel_rfl) (by first | exact Imp.refl _ | exact Imp.drop (Imp.refl _) | exact Imp.drop (Imp.drop (Imp.refl _)) | exact Imp.drop (Imp.drop (Imp.drop (Imp.refl _))) | exact Imp.drop (Imp.drop (Imp.drop (Imp.drop (Imp.refl _)))) | exact Imp.drop (Imp.drop (Imp.drop (Imp.drop (Imp.drop (Imp.refl _))))) | exact Imp.drop (Imp.drop (Imp.drop (Imp.drop (Imp.drop (Imp.drop (Imp.refl _)))))) | exact Imp.drop (Imp.drop (Imp.drop (Imp.drop (Imp.drop (Imp.drop (Imp.drop (Imp.refl _))))))) | exact Imp.drop (Imp.drop (Imp.drop (Imp.drop (Imp.drop (Imp.drop (Imp.drop (Imp.drop (Imp.refl _)))))))) | assumption | exact Imp.drop2 (Imp.refl _) | exact Imp.drop2 (Imp.drop2 (Imp.refl _)) | exact Imp.drop (Imp.drop2 (Imp.refl _))) ?_
                      exact ⟨⟨rfl, rfl, rfl, rfl, rfl, rfl, rfl, rfl, trivial⟩, X', _, S, Imp.perm List.perm_middle.symm (Imp.refl _), hx', .slice ab S.l.length cb, tl, Yb, rfl, ht1, ht2, hbv⟩
                  · skip
                    repeat (first | refine op_ ?_ | refine bx_ (fun _ => ?_))
                    refine ha_fork1 26 (by rfl) (by kernel_rfl) (by rfl) (by first | exact Imp.refl _ | exact Imp.drop (Imp.refl _) | exact Imp.drop (Imp.drop (Imp.refl _)) | exact Imp.drop (Imp.drop (Imp.drop (Imp.refl _))) | exact Imp.drop (Imp.drop (Imp.drop (Imp.drop (Imp.refl _)))) | exact Imp.drop (Imp.drop (Imp.drop (Imp.drop (Imp.drop (Imp.refl _))))) | exact Imp.drop (Imp.drop (Imp.drop (Imp.drop (Imp.drop (Imp.drop (Imp.refl _)))))) | exact Imp.drop (Imp.drop (Imp.drop (Imp.drop (Imp.drop (Imp.drop (Imp.drop (Imp.refl _))))))) | exact Imp.drop (Imp.drop (Imp.drop (Imp.drop (Imp.drop (Imp.drop (Imp.drop (Imp.drop (Imp.refl _)))))))) | assumption | exact Imp.drop2 (Imp.refl _) | exact Imp.drop2 (Imp.drop2 (Imp.refl _)) | exact Imp.drop (Imp.drop2 (Imp.refl _))) ?_
                    · skip
                      refine hl_run (by rfl) (by rfl) rfl ?_
                      refine hl_callv rfl rfl (permQ (down_r hx') hp1) ?_
                      repeat (first | refine op_ ?_ | refine bx_ (fun _ => ?_))
                      refine ha_quiet [31, 32] (by rfl) (by kernel_rfl) ?_
                      repeat (first | rw [hdq] | refine gd1_ ?_)
                      refine ha_end (by rfl) (by kernel_rfl) (by first | exact Imp.refl _ | exact Imp.drop (Imp.refl _) | exact Imp.drop (Imp.drop (Imp.refl _)) | exact Imp.drop (Imp.drop (Imp.drop (Imp.refl _))) | exact Imp.drop (Imp.drop (Imp.drop (Imp.drop (Imp.refl _)))) | exact Imp.drop (Imp.drop (Imp.drop (Imp.drop (Imp.drop (Imp.refl _))))) | exact Imp.drop (Imp.drop (Imp.drop (Imp.drop (Imp.drop (Imp.drop (Imp.refl _)))))) | exact Imp.drop (Imp.drop (Imp.drop (Imp.drop (Imp.drop (Imp.drop (Imp.drop (Imp.refl _))))))) | exact Imp.drop (Imp.drop (Imp.drop (Imp.drop (Imp.drop (Imp.drop (Imp.drop (Imp.drop (Imp.refl _)))))))) | assumption | exact Imp.drop2 (Imp.refl _) | exact Imp.drop2 (Imp.drop2 (Imp.refl _)) | exact Imp.drop (Imp.drop2 (Imp.refl _))) ?_
                      exact ⟨⟨rfl, rfl, rfl, rfl, rfl, rfl, rfl, rfl, trivial⟩, X', _, S, Imp.perm List.perm_middle.symm (Imp.refl _), hx', .slice ab S.l.length cb, tl, Yb, rfl, ht1, ht2, hbv⟩
              · skip
                repeat (first | refine op_ ?_ | refine bx_ (fun _ => ?_))
                refine ha_fork1 17 (by rfl) (by kernel_rfl) (by rfl) (by first | exact Imp.refl _ | exact Imp.drop (Imp.refl _) | exact Imp.drop (Imp.drop (Imp.refl _)) | exact Imp.drop (Imp.drop (Imp.drop (Imp.refl _))) | exact Imp.drop (Imp.drop (Imp.drop (Imp.drop (Imp.refl _)))) | exact Imp.drop (Imp.drop (Imp.drop (Imp.drop (Imp.drop (Imp.refl _))))) | exact Imp.drop (Imp.drop (Imp.drop (Imp.drop (Imp.drop (Imp.drop (Imp.refl _)))))) | exact Imp.drop (Imp.drop (Imp.drop (Imp.drop (Imp.drop (Imp.drop (Imp.drop (Imp.refl _))))))) | exact Imp.drop (Imp.drop (Imp.drop (Imp.drop (Imp.drop (Imp.drop (Imp.drop (Imp.drop (Imp.refl _)))))))) | assumption | exact Imp.drop2 (Imp.refl _) | exact Imp.drop2 (Imp.drop2 (Imp.refl _)) | exact Imp.drop (Imp.drop2 (Imp.refl _))) ?_
                · skip
                  refine hl_run (by rfl) (by rfl) rfl ?_
                  refine hl_callv rfl rfl (permQ (safe_r hx') hp1) ?_
                  repeat (first | refine op_ ?_ | refine bx_ (fun _ => ?_))
                  refine ha_quiet [22, 23, 24, 25, 27, 28, 29] (by rfl) (by kernel_rfl) ?_
                  repeat (first | rw [hdq] | refine gd1_ ?_)
                  refine ha_fork2 26 30 (by rfl) (by kernel_rfl) (by rfl) (by rfl) (by first | exact Imp.refl _ | exact Imp.drop (Imp.refl _) | exact Imp.drop (Imp.drop (Imp.refl _)) | exact Imp.drop (Imp.drop (Imp.drop (Imp.refl _))) | exact Imp.drop (Imp.drop (Imp.drop (Imp.drop (Imp.refl _)))) | exact Imp.drop (Imp.drop (Imp.drop (Imp.drop (Imp.drop (Imp.refl _))))) | exact Imp.drop (Imp.drop (Imp.drop (Imp.drop (Imp.drop (Imp.drop (Imp.refl _)))))) | exact Imp.drop (Imp.drop (Imp.drop (Imp.drop (Imp.drop (Imp.drop (Imp.drop (Imp.refl _))))))) | exact Imp.drop (Imp.drop (Imp.drop (Imp.drop (Imp.drop (Imp.drop (Imp.drop (Imp.drop (Imp.refl _)))))))) | assumption | exact Imp.drop2 (Imp.refl _) | exact Imp.drop2 (Imp.drop2 (Imp.refl _)) | exact Imp.drop (Imp.drop2 (Imp.refl _))) ?_ ?_
                  · skip
                    refine hl_run (by rfl) (by rfl) rfl ?_
                    refine hl_callv rfl rfl (permQ (down_r hx') hp1) ?_
                    repeat (first | refine op_ ?_ | refine bx_ (fun _ => ?_))
                    refine ha_fork1 30 (by rfl) (by kernel_rfl) (by rfl) (by first | exact Imp.refl _ | exact Imp.drop (Imp.refl _) | exact Imp.drop (Imp.drop (Imp.refl _)) | exact Imp.drop (Imp.drop (Imp.drop (Imp.refl _))) | exact Imp.drop (Imp.drop (Imp.drop (Imp.drop (Imp.refl _)))) | exact Imp.drop (Imp.drop (Imp.drop (Imp.drop (Imp.drop (Imp.refl _))))) | exact Imp.drop (Imp.drop (Imp.drop (Imp.drop (Imp.drop (Imp.drop (Imp.refl _)))))) | exact Imp.drop (Imp.drop (Imp.drop (Imp.drop (Imp.drop (Imp.drop (Imp.drop (Imp.refl _))))))) | exact Imp.drop (Imp.drop (Imp.drop (Imp.drop (Imp.drop (Imp.drop (Imp.drop (Imp.drop (Imp.refl _)))))))) | assumption | exact Imp.drop2 (Imp.refl _) | exact Imp.drop2 (Imp.drop2 (Imp.refl _)) | exact Imp.drop (Imp.drop2 (Imp.refl _))) ?_
                    · skip
                      repeat (first | refine op_ ?_ | refine bx_ (fun _ => ?_))
                      refine ha_quiet [31, 32] (by rfl) (by kernel_rfl) ?_
                      repeat (first | rw [hdq] | refine gd1_ ?_)
                      refine ha_end (by rfl) (by kernel_rfl) (by first | exact Imp.refl _ | exact Imp.drop (Imp.refl _) | exact Imp.drop (Imp.drop (Imp.refl _)) | exact Imp.drop (Imp.drop (Imp.drop (Imp.refl _))) | exact Imp.drop (Imp.drop (Imp.drop (Imp.drop (Imp.refl _)))) | exact Imp.drop (Imp.drop (Imp.drop (Imp.drop (Imp.drop (Imp.refl _))))) | exact Imp.drop (Imp.drop (Imp.drop (Imp.drop (Imp.drop (Imp.drop (Imp.refl _)))))) | exact Imp.drop (Imp.drop (Imp.drop (Imp.drop (Imp.drop (Imp.drop (Imp.drop (Imp.refl _))))))) | exact Imp.drop (Imp.drop (Imp.drop (Imp.drop (Imp.drop (Imp.drop (Imp.drop (Imp.drop (Imp.refl _)))))))) | assumption | exact Imp.drop2 (Imp.refl _) | exact Imp.drop2 (Imp.drop2 (Imp.refl _)) | exact Imp.drop (Imp.drop2 (Imp.refl _))) ?_
                      exact ⟨⟨rfl, rfl, rfl, rfl, rfl, rfl, rfl, rfl, trivial⟩, X', _, S, Imp.perm List.perm_middle.symm (Imp.refl _), hx', .slice ab S.l.length cb, tl, Yb, rfl, ht1, ht2, hbv⟩
                  · skip
                    repeat (first | refine op_ ?_ | refine bx_ (fun _ => ?_))
                    refine ha_fork1 26 (by rfl) (by kernel_rfl) (by rfl) (by first | exact Imp.refl _ | exact Imp.drop (Imp.refl _) | exact Imp.drop (Imp.drop (Imp.refl _)) | exact Imp.drop (Imp.drop (Imp.drop (Imp.refl _))) | exact Imp.drop (Imp.drop (Imp.drop (Imp.drop (Imp.refl _)))) | exact Imp.drop (Imp.drop (Imp.drop (Imp.drop (Imp.drop (Imp.refl _))))) | exact Imp.drop (Imp.drop (Imp.drop (Imp.drop (Imp.drop (Imp.drop (Imp.refl _)))))) | exact Imp.drop (Imp.drop (Imp.drop (Imp.drop (Imp.drop (Imp.drop (Imp.drop (Imp.refl _))))))) | exact Imp.drop (Imp.drop (Imp.drop (Imp.drop (Imp.drop (Imp.drop (Imp.drop (Imp.drop (Imp.refl _)))))))) | assumption | exact Imp.drop2 (Imp.refl _) | exact Imp.drop2 (Imp.drop2 (Imp.refl _)) | exact Imp.drop (Imp.drop2 (Imp.refl _))) ?_
                    · skip
                      refine hl_run (by rfl) (by rfl) rfl ?_
                      refine hl_callv rfl rfl (permQ (down_r hx') hp1) ?_
                      repeat (first | refine op_ ?_ | refine bx_ (fun _ => ?_))
                      refine ha_quiet [31, 32] (by rfl) (by kernel_rfl) ?_
                      repeat (first | rw [hdq] | refine gd1_ ?_)
                      refine ha_end (by rfl) (by kernel_rfl) (by first | exact Imp.refl _ | exact Imp.drop (Imp.refl _) | exact Imp.drop (Imp.drop (Imp.refl _)) | exact Imp.drop (Imp.drop (Imp.drop (Imp.refl _))) | exact Imp.drop (Imp.drop (Imp.drop (Imp.drop (Imp.refl _)))) | exact Imp.drop (Imp.drop (Imp.drop (Imp.drop (Imp.drop (Imp.refl _))))) | exact Imp.drop (Imp.drop (Imp.drop (Imp.drop (Imp.drop (Imp.drop (Imp.refl _)))))) | exact Imp.drop (Imp.drop (Imp.drop (Imp.drop (Imp.drop (Imp.drop (Imp.drop (Imp.refl _))))))) | exact Imp.drop (Imp.drop (Imp.drop (Imp.drop (Imp.drop (Imp.drop (Imp.drop (Imp.drop (Imp.refl _)))))))) | assumption | exact Imp.drop2 (Imp.refl _) | exact Imp.drop2 (Imp.drop2 (Imp.refl _)) | exact Imp.drop (Imp.drop2 (Imp.refl _))) ?_
                      exact ⟨⟨rfl, rfl, rfl, rfl, rfl, rfl, rfl, rfl, trivial⟩, X', _, S, Imp.perm List.perm_middle.symm (Imp.refl _), hx', .slice ab S.l.length cb, tl, Yb, rfl, ht1, ht2, hbv⟩
          · skip
            repeat (first | refine op_ ?_ | refine bx_ (fun _ => ?_))
            refine ha_quiet [12] (by rfl) (by kernel_rfl) ?_
            repeat (first | rw [hdq] | refine gd1_ ?_)
            refine ha_fork1 7 (by rfl) (by kernel_rfl) (by rfl) (by first | exact Imp.refl _ | exact Imp.drop (Imp.refl _) | exact Imp.drop (Imp.drop (Imp.refl _)) | exact Imp.drop (Imp.drop (Imp.drop (Imp.refl _))) | exact Imp.drop (Imp.drop (Imp.drop (Imp.drop (Imp.refl _)))) | exact Imp.drop (Imp.drop (Imp.drop (Imp.drop (Imp.drop (Imp.refl _))))) | exact Imp.drop (Imp.drop (Imp.drop (Imp.drop (Imp.drop (Imp.drop (Imp.refl _)))))) | exact Imp.drop (Imp.drop (Imp.drop (Imp.drop (Imp.drop (Imp.drop (Imp.drop (Imp.refl _))))))) | exact Imp.drop (Imp.drop (Imp.drop (Imp.drop (Imp.drop (Imp.drop (Imp.drop (Imp.drop (Imp.refl _)))))))) | assumption | exact Imp.drop2 (Imp.refl _) | exact Imp.drop2 (Imp.drop2 (Imp.refl _)) | exact Imp.drop (Imp.drop2 (Imp.refl _))) ?_
            · skip
              refine hl_run (by rfl) (by rfl) rfl ?_
              refine hl_callv rfl rfl (permQ (size_r hx') hp1) ?_
              repeat (first | refine op_ ?_ | refine bx_ (fun _ => ?_))
              refine ha_quiet [13, 14, 15, 16, 18, 19, 20] (by rfl) (by kernel_rfl) ?_
              repeat (first | rw [hdq] | refine gd1_ ?_)
              refine ha_fork2 17 21 (by rfl) (by kernel_rfl) (by rfl) (by rfl) (by first | exact Imp.refl _ | exact Imp.drop (Imp.refl _) | exact Imp.drop (Imp.drop (Imp.refl _)) | exact Imp.drop (Imp.drop (Imp.drop (Imp.refl _))) | exact Imp.drop (Imp.drop (Imp.drop (Imp.drop (Imp.refl _)))) | exact Imp.drop (Imp.drop (Imp.drop (Imp.drop (Imp.drop (Imp.refl _))))) | exact Imp.drop (Imp.drop (Imp.drop (Imp.drop (Imp.drop (Imp.drop (Imp.refl _)))))) | exact Imp.drop (Imp.drop (Imp.drop (Imp.drop (Imp.drop (Imp.drop (Imp.drop (Imp.refl _))))))) | exact Imp.drop (Imp.drop (Imp.drop (Imp.drop (Imp.drop (Imp.drop (Imp.drop (Imp.drop (Imp.refl _)))))))) | assumption | exact Imp.drop2 (Imp.refl _) | exact Imp.drop2 (Imp.drop2 (Imp.refl _)) | exact Imp.drop (Imp.drop2 (Imp.refl _))) ?_ ?_
              · skip
                refine hl_run (by rfl) (by rfl) rfl ?_
                refine hl_callv rfl rfl (permQ (safe_r hx') hp1) ?_
                repeat (first | refine op_ ?_ | refine bx_ (fun _ => ?_))
                refine ha_fork1 21 (by rfl) (by kernel_rfl) (by rfl) (by first | exact Imp.refl _ | exact Imp.drop (Imp.refl _) | exact Imp.drop (Imp.drop (Imp.refl _)) | exact Imp.drop (Imp.drop (Imp.drop (Imp.refl _))) | exact Imp.drop (Imp.drop (Imp.drop (Imp.drop (Imp.refl _)))) | exact Imp.drop (Imp.drop (Imp.drop (Imp.drop (Imp.drop (Imp.refl _))))) | exact Imp.drop (Imp.drop (Imp.drop (Imp.drop (Imp.drop (Imp.drop (Imp.refl _)))))) | exact Imp.drop (Imp.drop (Imp.drop (Imp.drop (Imp.drop (Imp.drop (Imp.drop (Imp.refl _))))))) | exact Imp.drop (Imp.drop (Imp.drop (Imp.drop (Imp.drop (Imp.drop (Imp.drop (Imp.drop (Imp.refl _)))))))) | assumption | exact Imp.drop2 (Imp.refl _) | exact Imp.drop2 (Imp.drop2 (Imp.refl _)) | exact Imp.drop (Imp.drop2 (Imp.refl _))) ?_
                · skip
                  repeat (first | refine op_ ?_ | refine bx_ (fun _ => ?_))
                  refine ha_quiet [22, 23, 24, 25, 27, 28, 29] (by rfl) (by kernel_rfl) ?_
                  repeat (first | rw [hdq] | refine gd1_ ?_)
                  refine ha_fork2 26 30 (by rfl) (by kernel_rfl) (by rfl) (by rfl) (by first | exact Imp.refl _ | exact Imp.drop (Imp.refl _) | exact Imp.drop (Imp.drop (Imp.refl _)) | exact Imp.drop (Imp.drop (Imp.drop (Imp.refl _))) | exact Imp.drop (Imp.drop (Imp.drop (Imp.drop (Imp.refl _)))) | exact Imp.drop (Imp.drop (Imp.drop (Imp.drop (Imp.drop (Imp.refl _))))) | exact Imp.drop (Imp.drop (Imp.drop (Imp.drop (Imp.drop (Imp.drop (Imp.refl _)))))) | exact Imp.drop (Imp.drop (Imp.drop (Imp.drop (Imp.drop (Imp.drop (Imp.drop (Imp.refl _))))))) | exact Imp.drop (Imp.drop (Imp.drop (Imp.drop (Imp.drop (Imp.drop (Imp.drop (Imp.drop (Imp.refl _)))))))) | assumption | exact Imp.drop2 (Imp.refl _) | exact Imp.drop2 (Imp.drop2 (Imp.refl _)) | exact Imp.drop (Imp.drop2 (Imp.refl _))) ?_ ?_
                  · skip
                    refine hl_run (by rfl) (by rfl) rfl ?_
                    refine hl_callv rfl rfl (permQ (down_r hx') hp1) ?_
                    repeat (first | refine op_ ?_ | refine bx_ (fun _ => ?_))
                    refine ha_fork1 30 (by rfl) (by kernel_rfl) (by rfl) (by first | exact Imp.refl _ | exact Imp.drop (Imp.refl _) | exact Imp.drop (Imp.drop (Imp.refl _)) | exact Imp.drop (Imp.drop (Imp.drop (Imp.refl _))) | exact Imp.drop (Imp.drop (Imp.drop (Imp.drop (Imp.refl _)))) | exact Imp.drop (Imp.drop (Imp.drop (Imp.drop (Imp.drop (Imp.refl _))))) | exact Imp.drop (Imp.drop (Imp.drop (Imp.drop (Imp.drop (Imp.drop (Imp.refl _)))))) | exact Imp.drop (Imp.drop (Imp.drop (Imp.drop (Imp.drop (Imp.drop (Imp.drop (Imp.refl _))))))) | exact Imp.drop (Imp.drop (Imp.drop (Imp.drop (Imp.drop (Imp.drop (Imp.drop (Imp.drop (Imp.refl _)))))))) | assumption | exact Imp.drop2 (Imp.refl _) | exact Imp.drop2 (Imp.drop2 (Imp.refl _)) | exact Imp.drop (Imp.drop2 (Imp.refl _))) ?_
                    · skip
                      repeat (first | refine op_ ?_ | refine bx_ (fun _ => ?_))
                      refine ha_quiet [31, 32] (by rfl) (by kernel_rfl) ?_
                      repeat (first | rw [hdq] | refine gd1_ ?_)
                      refine ha_end (by rfl) (by kernel_rfl) (by first | exact Imp.refl _ | exact Imp.drop (Imp.refl _) | exact Imp.drop (Imp.drop (Imp.refl _)) | exact Imp.drop (Imp.drop (Imp.drop (Imp.refl _))) | exact Imp.drop (Imp.drop (Imp.drop (Imp.drop (Imp.refl _)))) | exact Imp.drop (Imp.drop (Imp.drop (Imp.drop (Imp.drop (Imp.refl _))))) | exact Imp.drop (Imp.drop (Imp.drop (Imp.drop (Imp.drop (Imp.drop (Imp.refl _)))))) | exact Imp.drop (Imp.drop (Imp.drop (Imp.drop (Imp.drop (Imp.drop (Imp.drop (Imp.refl _))))))) | exact Imp.drop (Imp.drop (Imp.drop (Imp.drop (Imp.drop (Imp.drop (Imp.drop (Imp.drop (Imp.refl _)))))))) | assumption | exact Imp.drop2 (Imp.refl _) | exact Imp.drop2 (Imp.drop2 (Imp.refl _)) | exact Imp.drop (Imp.drop2 (Imp.refl _))) ?_
                      exact ⟨⟨rfl, rfl, rfl, rfl, rfl, rfl, rfl, rfl, trivial⟩, X', _, S, Imp.perm List.perm_middle.symm (Imp.refl _), hx', .slice ab S.l.length cb, tl, Yb, rfl, ht1, ht2, hbv⟩
                  · skip
                    repeat (first | refine op_ ?_ | refine bx_ (fun _ => ?_))
                    refine ha_fork1 26 (by rfl) (by kernel_rfl) (by rfl) (by first | exact Imp.refl _ | exact Imp.drop (Imp.refl _) | exact Imp.drop (Imp.drop (Imp.refl _)) | exact Imp.drop (Imp.drop (Imp.drop (Imp.refl _))) | exact Imp.drop (Imp.drop (Imp.drop (Imp.drop (Imp.refl _)))) | exact Imp.drop (Imp.drop (Imp.drop (Imp.drop (Imp.drop (Imp.refl _))))) | exact Imp.drop (Imp.drop (Imp.drop (Imp.drop (Imp.drop (Imp.drop (Imp.refl _)))))) | exact Imp.drop (Imp.drop (Imp.drop (Imp.drop (Imp.drop (Imp.drop (Imp.drop (Imp.refl _))))))) | exact Imp.drop (Imp.drop (Imp.drop (Imp.drop (Imp.drop (Imp.drop (Imp.drop (Imp.drop (Imp.refl _)))))))) | assumption | exact Imp.drop2 (Imp.refl _) | exact Imp.drop2 (Imp.drop2 (Imp.refl _)) | exact Imp.drop (Imp.drop2 (Imp.refl _))) ?_
                    · skip
                      refine hl_run (by rfl) (by rfl) rfl ?_
                      refine hl_callv rfl rfl (permQ (down_r hx') hp1) ?_
                      repeat (first | refine op_ ?_ | refine bx_ (fun _ => ?_))
                      refine ha_quiet [31, 32] (by rfl) (by kernel_rfl) ?_
                      repeat (first | rw [hdq] | refine gd1_ ?_)
                      refine ha_end (by rfl) (by kernel_rfl) (by first | exact Imp.refl _ | exact Imp.drop (Imp.refl _) | exact Imp.drop (Imp.drop (Imp.refl _)) | exact Imp.drop (Imp.drop (Imp.drop (Imp.refl _))) | exact Imp.drop (Imp.drop (Imp.drop (Imp.drop (Imp.refl _)))) | exact Imp.drop (Imp.drop (Imp.drop (Imp.drop (Imp.drop (Imp.refl _))))) | exact Imp.drop (Imp.drop (Imp.drop (Imp.drop (Imp.drop (Imp.drop (Imp.refl _)))))) | exact Imp.drop (Imp.drop (Imp.drop (Imp.drop (Imp.drop (Imp.drop (Imp.drop (Imp.refl _))))))) | exact Imp.drop (Imp.drop (Imp.drop (Imp.drop (Imp.drop (Imp.drop (Imp.drop (Imp.drop (Imp.refl _)))))))) | assumption | exact Imp.drop2 (Imp.refl _) | exact Imp.drop2 (Imp.drop2 (Imp.refl _)) | exact Imp.drop (Imp.drop2 (Imp.refl _))) ?_
                      exact ⟨⟨rfl, rfl, rfl, rfl, rfl, rfl, rfl, rfl, trivial⟩, X', _, S, Imp.perm List.perm_middle.symm (Imp.refl _), hx', .slice ab S.l.length cb, tl, Yb, rfl, ht1, ht2, hbv⟩
              · skip
                repeat (first | refine op_ ?_ | refine bx_ (fun _ => ?_))
                refine ha_fork1 17 (by rfl) (by kernel_rfl) (by rfl) (by first | exact Imp.refl _ | exact Imp.drop (Imp.refl _) | exact Imp.drop (Imp.drop (Imp.refl _)) | exact Imp.drop (Imp.drop (Imp.drop (Imp.refl _))) | exact Imp.drop (Imp.drop (Imp.drop (Imp.drop (Imp.refl _)))) | exact Imp.drop (Imp.drop (Imp.drop (Imp.drop (Imp.drop (Imp.refl _))))) | exact Imp.drop (Imp.drop (Imp.drop (Imp.drop (Imp.drop (Imp.drop (Imp.refl _)))))) | exact Imp.drop (Imp.drop (Imp.drop (Imp.drop (Imp.drop (Imp.drop (Imp.drop (Imp.refl _))))))) | exact Imp.drop (Imp.drop (Imp.drop (Imp.drop (Imp.drop (Imp.drop (Imp.drop (Imp.drop (Imp.refl _)))))))) | assumption | exact Imp.drop2 (Imp.refl _) | exact Imp.drop2 (Imp.drop2 (Imp.refl _)) | exact Imp.drop (Imp.drop2 (Imp.refl _))) ?_
                · skip
                  refine hl_run (by rfl) (by rfl) rfl ?_
                  refine hl_callv rfl rfl (permQ (safe_r hx') hp1) ?_
                  repeat (first | refine op_ ?_ | refine bx_ (fun _ => ?_))
                  refine ha_quiet [22, 23, 24, 25, 27, 28, 29] (by rfl) (by kernel_rfl) ?_
                  repeat (first | rw [hdq] | refine gd1_ ?_)
                  refine ha_fork2 26 30 (by rfl) (by kernel_rfl) (by rfl) (by rfl) (by first | exact Imp.refl _ | exact Imp.drop (Imp.refl _) | exact Imp.drop (Imp.drop (Imp.refl _)) | exact Imp.drop (Imp.drop (Imp.drop (Imp.refl _))) | exact Imp.drop (Imp.drop (Imp.drop (Imp.drop (Imp.refl _)))) | exact Imp.drop (Imp.drop (Imp.drop (Imp.drop (Imp.drop (Imp.refl _))))) | exact Imp.drop (Imp.drop (Imp.drop (Imp.drop (Imp.drop (Imp.drop (Imp.refl _)))))) | exact Imp.drop (Imp.drop (Imp.drop (Imp.drop (Imp.drop (Imp.drop (Imp.drop (Imp.refl _))))))) | exact Imp.drop (Imp.drop (Imp.drop (Imp.drop (Imp.drop (Imp.drop (Imp.drop (Imp.drop (Imp.refl _)))))))) | assumption | exact Imp.drop2 (Imp.refl _) | exact Imp.drop2 (Imp.drop2 (Imp.refl _)) | exact Imp.drop (Imp.drop2 (Imp.refl _))) ?_ ?_
                  · skip
                    refine hl_run (by rfl) (by rfl) rfl ?_
                    refine hl_callv rfl rfl (permQ (down_r hx') hp1) ?_
                    repeat (first | refine op_ ?_ | refine bx_ (fun _ => ?_))
                    refine ha_fork1 30 (by rfl) (by kernel_rfl) (by rfl) (by first | exact Imp.refl _ | exact Imp.drop (Imp.refl _) | exact Imp.drop (Imp.drop (Imp.refl _)) | exact Imp.drop (Imp.drop (Imp.drop (Imp.refl _))) | exact Imp.drop (Imp.drop (Imp.drop (Imp.drop (Imp.refl _)))) | exact Imp.drop (Imp.drop (Imp.drop (Imp.drop (Imp.drop (Imp.refl _))))) | exact Imp.drop (Imp.drop (Imp.drop (Imp.drop (Imp.drop (Imp.drop (Imp.refl _)))))) | exact Imp.drop (Imp.drop (Imp.drop (Imp.drop (Imp.drop (Imp.drop (Imp.drop (Imp.refl _))))))) | exact Imp.drop (Imp.drop (Imp.drop (Imp.drop (Imp.drop (Imp.drop (Imp.drop (Imp.drop (Imp.refl _)))))))) | assumption | exact Imp.drop2 (Imp.refl _) | exact Imp.drop2 (Imp.drop2 (Imp.refl _)) | exact Imp.drop (Imp.drop2 (Imp.refl _))) ?_
                    · skip
                      repeat (first | refine op_ ?_ | refine bx_ (fun _ => ?_))
                      refine ha_quiet [31, 32] (by rfl) (by kernel_rfl) ?_
                      repeat (first | rw [hdq] | refine gd1_ ?_)
                      refine ha_end (by rfl) (by kernel_rfl) (by first | exact Imp.refl _ | exact Imp.drop (Imp.refl _) | exact Imp.drop (Imp.drop (Imp.refl _)) | exact Imp.drop (Imp.drop (Imp.drop (Imp.refl _))) | exact Imp.drop (Imp.drop (Imp.drop (Imp.drop (Imp.refl _)))) | exact Imp.drop (Imp.drop (Imp.drop (Imp.drop (Imp.drop (Imp.refl _))))) | exact Imp.drop (Imp.drop (Imp.drop (Imp.drop (Imp.drop (Imp.drop (Imp.refl _)))))) | exact Imp.drop (Imp.drop (Imp.drop (Imp.drop (Imp.drop (Imp.drop (Imp.drop (Imp.refl _))))))) | exact Imp.drop (Imp.drop (Imp.drop (Imp.drop (Imp.drop (Imp.drop (Imp.drop (Imp.drop (Imp.refl _)))))))) | assumption | exact Imp.drop2 (Imp.refl _) | exact Imp.drop2 (Imp.drop2 (Imp.refl _)) | exact Imp.drop (Imp.drop2 (Imp.refl _))) ?_
                      exact ⟨⟨rfl, rfl, rfl, rfl, rfl, rfl, rfl, rfl, trivial⟩, X', _, S, Imp.perm List.perm_middle.symm (Imp.refl _), hx', .slice ab S.l.length cb, tl, Yb, rfl, ht1, ht2, hbv⟩
                  · skip
                    repeat (first | refine op_ ?_ | refine bx_ (fun _ => ?_))
                    refine ha_fork1 26 (by rfl) (by kernel_rfl) (by rfl) (by first | exact Imp.refl _ | exact Imp.drop (Imp.refl _) | exact Imp.drop (Imp.drop (Imp.refl _)) | exact Imp.drop (Imp.drop (Imp.drop (Imp.refl _))) | exact Imp.drop (Imp.drop (Imp.drop (Imp.drop (Imp.refl _)))) | exact Imp.drop (Imp.drop (Imp.drop (Imp.drop (Imp.drop (Imp.refl _))))) | exact Imp.drop (Imp.drop (Imp.drop (Imp.drop (Imp.drop (Imp.drop (Imp.refl _)))))) | exact Imp.drop (Imp.drop (Imp.drop (Imp.drop (Imp.drop (Imp.drop (Imp.drop (Imp.refl _))))))) | exact Imp.drop (Imp.drop (Imp.drop (Imp.drop (Imp.drop (Imp.drop (Imp.drop (Imp.drop (Imp.refl _)))))))) | assumption | exact Imp.drop2 (Imp.refl _) | exact Imp.drop2 (Imp.drop2 (Imp.refl _)) | exact Imp.drop (Imp.drop2 (Imp.refl _))) ?_
                    · skip
                      refine hl_run (by rfl) (by rfl) rfl ?_
                      refine hl_callv rfl rfl (permQ (down_r hx') hp1) ?_
                      repeat (first | refine op_ ?_ | refine bx_ (fun _ => ?_))
                      refine ha_quiet [31, 32] (by rfl) (by kernel_rfl) ?_
                      repeat (first | rw [hdq] | refine gd1_ ?_)
                      refine ha_end (by rfl) (by kernel_rfl) (by first | exact Imp.refl _ | exact Imp.drop (Imp.refl _) | exact Imp.drop (Imp.drop (Imp.refl _)) | exact Imp.drop (Imp.drop (Imp.drop (Imp.refl _))) | exact Imp.drop (Imp.drop (Imp.drop (Imp.drop (Imp.refl _)))) | exact Imp.drop (Imp.drop (Imp.drop (Imp.drop (Imp.drop (Imp.refl _))))) | exact Imp.drop (Imp.drop (Imp.drop (Imp.drop (Imp.drop (Imp.drop (Imp.refl _)))))) | exact Imp.drop (Imp.drop (Imp.drop (Imp.drop (Imp.drop (Imp.drop (Imp.drop (Imp.refl _))))))) | exact Imp.drop (Imp.drop (Imp.drop (Imp.drop (Imp.drop (Imp.drop (Imp.drop (Imp.drop (Imp.refl _)))))))) | assumption | exact Imp.drop2 (Imp.refl _) | exact Imp.drop2 (Imp.drop2 (Imp.refl _)) | exact Imp.drop (Imp.drop2 (Imp.refl _))) ?_
                      exact ⟨⟨rfl, rfl, rfl, rfl, rfl, rfl, rfl, rfl, trivial⟩, X', _, S, Imp.perm List.perm_middle.symm (Imp.refl _), hx', .slice ab S.l.length cb, tl, Yb, rfl, ht1, ht2, hbv⟩
      rintro fr M ⟨hf, X', Y', S', hi, hx', hy'⟩
      obtain ⟨base, rfl⟩ := hf.out
      refine HC.imp ?_ hi
      repeat (first | refine go_ ?_ | refine bx_ (fun _ => ?_))
      exact ⟨m - 1, by omega, X' ++ (Y' ++ H), Imp.perm ((List.perm_middle.append_left X').trans List.perm_middle) (Imp.drop (Imp.refl _)), k + 1, S', X', Y', by omega, ⟨rfl, rfl, rfl, rfl, rfl, rfl, rfl, trivial⟩, rfl, hx', hy'⟩
    · obtain rfl : k = len := by omega
      have hws := h.1
      obtain ⟨w1, w2, w3, w4, w5⟩ := hws
      have hq0 : ∀ E, ([] : List UInt8) = [] ∨ ∃ bb off, (none : Option Addr) = some ⟨bb, off, none⟩ ∧ Row w0 B E bb off ([] : List UInt8).length .u8 (byteF []) := fun _ => .inl rfl
      repeat (first | refine go_ ?_ | refine bx_ (fun _ => ?_))
      refine hl_call rfl rfl (clone_r h) (fun v H' hv => ?_)
      obtain ⟨g2, C, rfl, rfl, hcl⟩ := hv
      repeat (first | refine go_ ?_ | refine bx_ (fun _ => ?_))
      refine HL.perm ?_ (app_swap C X (Y ++ H))
      refine hl_call rfl rfl (crash_r h 0 (by decide) (b := []) rfl (by decide) (hq0 _)) (fun v H' hv => ?_)
      obtain ⟨X', hi, hx'⟩ := hv
      refine HL.imp ?_ hi
      have e1 : s.crash 0 [] = ⟨s.l.take s.safe, s.cap, s.safe, -1, false⟩ := by
        unfold RS.crash
        have : s.kept 0 = 0 := by unfold RS.kept; omega
        rw [this]; rfl
      rw [e1] at hx'
      repeat (first | refine go_ ?_ | refine bx_ (fun _ => ?_))
      refine HL.perm ?_ (app_swap X' C (Y ++ H))
      refine hl_call rfl rfl (crash_r hcl 1073741824 (by decide) (b := []) rfl (by decide) (hq0 _)) (fun v H' hv => ?_)
      obtain ⟨C', hi2, hc'⟩ := hv
      refine HL.imp ?_ hi2
      have e2 : s.crash 1073741824 [] = ⟨s.l, s.cap, s.l.length, -1, false⟩ := by
        unfold RS.crash
        have : s.safe + s.kept 1073741824 = s.l.length := by unfold RS.kept; omega
        rw [this, List.take_length, List.length_nil, Nat.min_zero]; rfl
      rw [e2] at hc'
      have hlt : (s.l.take s.safe).length = s.safe := by rw [List.length_take]; omega
      obtain ⟨bv, tl, Yb, rfl, ht1, ht2, ab, cb, rfl, hb1, hb2, hb3, hbr⟩ := hy
      -- the memory: C' ++ (X' ++ (Y ++ H))
      repeat (first | refine go_ ?_ | refine bx_ (fun _ => ?_))
      refine HL.perm ?_ (app_swap C' X' _)
      refine hl_callv rfl rfl (size_q hx' (n := s.safe) hlt) ?_
      repeat (first | refine go_ ?_ | refine bx_ (fun _ => ?_))
      refine hl_call rfl rfl (read_q hx' rfl hlt) (fun v H' hv => ?_)
      obtain ⟨ra, ca, Za, rfl, c1, c2, rfl, oa⟩ := hv
      dsimp only at oa
      repeat (first | refine go_ ?_ | refine bx_ (fun _ => ?_))
      refine HL.perm ?_ (((app_swap X' C' _).append_left Za).trans (app_swap Za C' _))
      refine hl_callv rfl rfl (size_q hc' (n := s.l.length) rfl) ?_
      repeat (first | refine go_ ?_ | refine bx_ (fun _ => ?_))
      refine hl_call rfl rfl (read_q hc' rfl (n := s.l.length) rfl) (fun v H' hv => ?_)
      obtain ⟨rb, cb2, Zb, rfl, c3, c4, rfl, ob⟩ := hv
      dsimp only at ob
      repeat (first | refine go_ ?_ | refine bx_ (fun _ => ?_))
      refine HC.perm (H' := TwB gt (.slice ab s.l.length cb) s.cap s.safe tl (decide (0 ≤ s.left)) s.down :: (Zb ++ (C' ++ (Za ++ (X' ++ (Yb ++ H)))))) ?_ ((((((List.perm_middle.append_left Za).trans List.perm_middle).append_left C').trans List.perm_middle).append_left Zb).trans List.perm_middle)
      have rB : Rds w0 B (Zb ++ (C' ++ (Za ++ (X' ++ (Yb ++ H))))) rb (s.l.map byteV) := OwnX.rds ob _
      have rA : Rds w0 B (Zb ++ (C' ++ (Za ++ (X' ++ (Yb ++ H))))) ra ((s.l.take s.safe).map byteV) := (OwnX.rds oa (X' ++ (Yb ++ H))).weak fun w hw => ((Imp.tail Zb _).trans (Imp.tail C' _)) _ _ _ hw
      have rT : Rds w0 B (Zb ++ (C' ++ (Za ++ (X' ++ (Yb ++ H))))) ab (s.l.map byteV) := (hbr w0 B H).weak fun w hw => ((Imp.tail Zb _).trans ((Imp.tail C' _).trans ((Imp.tail Za _).trans (Imp.tail X' _)))) _ _ _ hw
      have rT2 : Rds w0 B (Zb ++ (C' ++ (Za ++ (X' ++ (Yb ++ H))))) ab ((s.l.take s.safe).map byteV) := by
        have := rT.take s.safe
        rwa [← List.map_take] at this
      obtain ⟨F, hF⟩ : ∃ F, F = Zb ++ (C' ++ (Za ++ (X' ++ (Yb ++ H)))) := ⟨_, rfl⟩
      rw [← hF] at rB rA rT rT2 ⊢
      have hs1 := same_fn (w0 := w0) (B := B) (c := ca) (c2 := cb) hlt hlt (rA.under (x := TwB gt (.slice ab s.l.length cb) s.cap s.safe tl (decide (0 ≤ s.left)) s.down)) rT2.under
      have hs2 := same_fn (w0 := w0) (B := B) (c := cb2) (c2 := cb) rfl rfl (rB.under (x := TwB gt (.slice ab s.l.length cb) s.cap s.safe tl (decide (0 ≤ s.left)) s.down)) rT.under
      rw [beq_self_eq_true] at hs1 hs2
      refine hc_meet (fun fr M => Agr fr [(4, .bool true)]) ?_ ?_
      · (refine hc_draw (by kernel_rfl) (by kernel_rfl) ?_; repeat (first | refine gd_ ?_ | refine hl_sliceTo rfl rfl rfl (by omega) rfl ?_ | refine hd_call rfl rfl (hs1) ?_ | refine hd_call rfl rfl (hs2) ?_))
        exact ⟨rfl, trivial⟩
      rintro fr M hf
      obtain ⟨base, rfl⟩ := hf.out
      repeat (first | refine go_ ?_ | refine bx_ (fun _ => ?_))
      exact fin1B rfl rfl rfl
  · by_cases h0 : cap < 0
    all_goals
      repeat (first | refine go_ ?_ | refine bx_ (fun _ => ?_) | refine hl_callv rfl rfl (anchor_fn) ?_ | refine hl_callv rfl rfl (new_n cap hcap) ?_)
      exact fin1B rfl rfl rfl
theorem walk (cap : Int) (a : Option Addr) (len pc : Nat) (l : List OpE) (w : World) (hc : -9223372036854775808 ≤ cap ∧ cap ≤ 9223372036854775807) (hl : SlS 4 opV w a len pc l) (hx : ∀ x ∈ l, x.wf w) :
    Calls Try.prog 7 #[.int .i64 cap, .slice a len pc] w fun e w' => e = .returned (.bool true) ∧ Below w.heap.size w w' :=
  calls_of_fn (law (Nat.le_refl _) cap hc hl hx) fun _ _ h => h

/-! The step to the statement (written by program). -/
open Go.ChangeShapes Go.WideShapes Go.ChangeAt
set_option maxRecDepth 100000 in
theorem lifted (os : Os) (started : os.Started) (H : Type) (enc : TypeId × Value → H) :
    ReturnsInHanded {} Try.checked os 7 .any (Rows.reelPlaysSpec.pre6 enc Try.prog Try.f7 Rows.reelPlaysRow.domain false) (Rows.reelPlaysSpec.post enc Try.prog Try.f7 false true false false) := by
  refine returnsInHanded_of_change (C := Try.checked) own started (by kernel_rfl) Try.func7
    (ChangeSpec.witness6 (enc := enc) (C := Try.checked) false ⟨#[], #[.int .i64 0, .slice none 0 0], []⟩ 8 (by kernel_rfl) (by kernel_rfl) (by kernel_rfl) (by kernel_rfl)) ?_
  intro W base args ds gs before hval0 hW hcnd _
  have hval : ∀ (j : Nat) t v, Try.f7.params[j]? = some t → args[j]? = some v → Value.okWide Try.prog W .any base t v := hval0
  have hW' := hW
  obtain ⟨p, q, hA0, hV, rfl, hfz, hnd⟩ := hW
  have hA : DataW.TrodAll enc Try.prog W 0 (fun _ => true) true Try.f7.params.toList args.toList ds p := hA0
  rw [Try.params7] at hA hval
  obtain ⟨v0, vs0, d0, ds0, p0, q0, hargs, rfl, rfl, h0, r0⟩ := trodAll_cons hA
  obtain ⟨v1, vs1, d1, ds1, p1, q1, rfl, rfl, rfl, h1, r1⟩ := trodAll_cons r0
  obtain ⟨rfl, rfl, rfl⟩ := trodAll_nil r1
  obtain rfl : args = #[v0, v1] := by cases args; simp_all
  obtain ⟨rfl, rfl⟩ := trodVars_none hV
  have k0 := h0
  have lt0 : ∀ x ∈ p0, x.block < W.heap.size := by obtain ⟨m, hm⟩ := k0; exact DataW.trod_lt m _ _ _ hm
  obtain ⟨a0, rfl, _, _, w0⟩ := open_int Try.underlying3 (hval 0 3 v0 rfl rfl) h0
  have w0 := wf_i64 w0
  have k1 := h1
  have lt1 : ∀ x ∈ p1, x.block < W.heap.size := by obtain ⟨m, hm⟩ := k1; exact DataW.trod_lt m _ _ _ hm
  obtain ⟨a1, len1, cap1, e1⟩ := okWide_slice Try.underlying42 (hval 1 42 v1 rfl rfl)
  obtain ⟨l1, w1, b1⟩ := open_ops e1 k1
  subst e1
  clear hA0 hval0
  refine (walk a0 a1 len1 cap1 l1 W w0 w1 b1).mono fun e W' ⟨he, bel⟩ => ?_
  subst he
  exact ⟨_, rfl, _, _, _, [], _, [], hW', trodAll_mk1 (shut_bool Try.underlying4 _), (trodAll_cons_mk (Below.trod laidOut (by kernel_rfl) (of_decide_eq_true (by kernel_rfl)) k0 bel lt0) (trodAll_cons_mk (Below.trod laidOut (by kernel_rfl) (of_decide_eq_true (by kernel_rfl)) k1 bel lt1) trodAll_mk0)), rfl, bel.frame _, fun h => by cases h⟩

theorem over : Rows.reelPlaysRow.holds Try.pinned (OpenSpec.ofChange Rows.reelPlaysSpec) :=
  OpenClaim.holds_of_wide 7 Try.f7 rfl rfl rfl rfl rfl rfl rfl ⟨rfl, rfl, rfl, rfl, rfl⟩ rfl rfl rfl rfl rfl (by kernel_rfl) Try.func7 (by kernel_rfl)
    (of_decide_eq_true (by kernel_rfl)) (by unfold Func.isWrapper; first | (rw [if_pos (by decide +kernel)]; kernel_rfl) | (rw [if_neg (by decide +kernel)]; exact ⟨rfl, rfl⟩))
    (fun os started H enc _ => lifted os started H enc)

/-- The statement. -/
theorem proved : Rows.ReelPlaysSaid := over
#print axioms proved
end Go.Proofs.Ytonnfhjlojmieaa.reelPlays
