/-
  JournalKeeps. No condition.
-/
import Derived.Test.YtpeegklnkecajaaCC
import Derived.Test.YtpeegklnkecajaaCD
import Derived.Test.YtpeegklnkecajaaOpenS
import Derived.ChangeArms
namespace Go.Proofs.Ytpeegklnkecajaa
open Go.RowKit Go.ChangeShapes Go.WideShapes Go.ChangeAt Go.Deep
structure OpE where
  K : Int
  N : Int
  pa : Option Addr
  plen : Nat
  pcap : Nat
  d : List UInt8
abbrev opV (x : OpE) : List Value := [.int .i64 x.K, .int .i64 x.N, .slice x.pa x.plen x.pcap]
def I64 (n : Int) : Prop := -9223372036854775808 ≤ n ∧ n ≤ 9223372036854775807
def OpE.wf (w : World) (x : OpE) : Prop := I64 x.K ∧ I64 x.N ∧ Sl byteV w x.pa x.plen x.pcap x.d
theorem open_ops {H : Type} {enc : TypeId × Value → H} {w : World} {base : Nat} {held : Bool} {v : Value} {d : DataW H} {ps : List MemPlace} {a : Option Addr} {len cap : Nat} (hv : v = .slice a len cap)
    (h : DataW.Trod enc Try.prog w base (fun _ => true) held 46 v d ps) : ∃ l : List OpE, SlS 3 opV w a len cap l ∧ ∀ x ∈ l, x.wf w := by
  refine open_structs opV (OpE.wf w) Try.underlying46 Try.underlying48 (by kernel_rfl) (by kernel_rfl) (by decide) ?_ hv h
  intro vs hl hf
  obtain ⟨x, hx, n0, y0, h0⟩ := hf 0 _ rfl
  obtain ⟨y, hy, n1, y1, h1⟩ := hf 1 _ rfl
  obtain ⟨u, hu, n3, y3, h3⟩ := hf 2 _ rfl
  obtain ⟨i, hi, _, wi⟩ := DataW.trod_int Try.underlying3 h0
  obtain ⟨j, hj, _, wj⟩ := DataW.trod_int Try.underlying3 h1
  cases hi; cases hj
  obtain ⟨pa, pl, pc, rfl⟩ : ∃ pa pl pc, u = .slice pa pl pc := by
    rcases open_ints Try.underlying22 Try.underlying5 (by kernel_rfl) h3 with ⟨hcs, _⟩ | ⟨x, l, c, zs, hcs, _⟩
    · exact ⟨_, _, _, by simpa using hcs⟩
    · exact ⟨_, _, _, by simpa using hcs⟩
  obtain ⟨d, hd⟩ := open_bytes (enc := enc) (w := w) (base := base) (held := held) Try.underlying22 Try.underlying5 (by kernel_rfl) (rfl : Value.slice pa pl pc = .slice pa pl pc) ⟨n3, h3⟩
  match vs, hl with
  | [p, q, s], _ =>
    cases hx; cases hy; cases hu
    exact ⟨⟨i, j, pa, pl, pc, d⟩, rfl, wf_i64 wi, wf_i64 wj, hd⟩
end Go.Proofs.Ytpeegklnkecajaa
namespace Go.Proofs.Ytpeegklnkecajaa.journalKeeps
open Go.RowKit
section
variable {w0 : World} {B : Nat} {H R : List Ent} {gj gr : Nat} {s : RS} {X : List Ent}
theorem open_ok (h : Rl gr s X) (he : s.openE = 0) : Fn Try.prog w0 B 17 [.pointer (some ⟨gr, 0, none⟩)] (X ++ R) (fun v H' => ∃ gj sv ps Xo Zc X', v = .tuple #[.pointer (some ⟨gj, 0, none⟩), sv, .int .i64 0] ∧ H' = X' ++ (Jn gj gr false :: (Xo ++ (Zc ++ R))) ∧ ps.map Part.bs = (scan s.l).1 ∧ PMade w0 B sv ps Xo Zc ∧ Rl gr s.openS X') :=
  Fn.mono (open_fn h) fun v H' hv => by
    rcases hv with ⟨h0, _⟩ | ⟨_, h⟩
    · exact absurd he h0
    · exact h
end
theorem scan_nil : scan [] = ([], 0) := scan_whole (L := []) (by simp)
abbrev OpB (x : Nat) (K N : Int) (pa : Option Addr) (pl pc : Nat) : Ent := ⟨x, 48, [.int .i64 K, .int .i64 N, .slice pa pl pc], 3⟩
theorem PMade.one {w0 : World} {B : Nat} {v v2 : Value} {ps : List Part} {Xo Xo2 Zc : List Ent} {p : Part} (h : PMade w0 B v ps Xo Zc) (hc : ∀ E, BytR w0 B E p.a p.len p.cap p.bs) (h2 : ∀ F, Own 22 1 v2 (ps.length + 1) (ps.map partV ++ [.slice p.a p.len p.cap]) F (Xo2 ++ F)) : PMade w0 B v2 (ps ++ [p]) Xo2 Zc :=
  ⟨fun F => by
    have := h2 F
    rw [List.map_append, List.length_append]
    exact this, fun q hq R => by
    rcases List.mem_append.1 hq with hq | hq
    · exact h.each q hq R
    · simp only [List.mem_singleton] at hq
      subst hq
      exact hc _⟩
set_option maxHeartbeats 16000000 in
set_option maxRecDepth 100000 in
theorem law {w0 : World} {B : Nat} {H : List Ent} (hB : w0.heap.size ≤ B) (cap : Int) (hc : I64 cap) {a : Option Addr} {len pc : Nat} {l : List OpE} (hl : SlS 3 opV w0 a len pc l) (hx : ∀ x ∈ l, x.wf w0) :
    Fn Try.prog w0 B 7 [.int .i64 cap, .slice a len pc] H (fun u _ => u = .bool true) := by
  have hle := hl.size_eq
  have hlc := hl.le
  unfold I64 at hc
  refine fn_intro Try.func7 rfl (by kernel_rfl) rfl ?_
  by_cases hc0 : cap < 0
  · repeat (first | refine go_ ?_ | refine bx_ (fun _ => ?_) | refine hl_callv rfl rfl (anchor_fn) ?_)
    exact fin1B rfl rfl rfl
  obtain ⟨cap, rfl⟩ := Int.eq_ofNat_of_zero_le (show 0 ≤ cap by omega)
  by_cases hc5 : 5000 < cap
  · repeat (first | refine go_ ?_ | refine bx_ (fun _ => ?_) | refine hl_callv rfl rfl (anchor_fn) ?_)
    exact fin1B rfl rfl rfl
  by_cases h40 : 40 < len
  · repeat (first | refine go_ ?_ | refine bx_ (fun _ => ?_) | refine hl_callv rfl rfl (anchor_fn) ?_)
    exact fin1B rfl rfl rfl
  repeat (first | refine go_ ?_ | refine bx_ (fun _ => ?_) | refine hl_callv rfl rfl (anchor_fn) ?_)
  refine hl_call rfl rfl (new_r cap (by omega)) (fun v M o => ?_)
  obtain ⟨gr, X0, rfl, rfl, hr0⟩ := o
  repeat (first | refine go_ ?_ | refine bx_ (fun _ => ?_))
  obtain ⟨g1, g2⟩ := RS.open_fine (s := ⟨[], cap, 0, -1, false⟩) rfl rfl
  refine hl_call rfl rfl (open_ok hr0 g1) (fun v M o => ?_)
  obtain ⟨gj, sv0, ps0, Xo0, Zc0, X1, rfl, rfl, hm0, hpm0, hr1⟩ := o
  rw [g2, scan_nil] at hr1
  rw [scan_nil] at hm0
  obtain rfl : ps0 = [] := by simpa using hm0
  obtain ⟨a0, c0, rfl, _, _⟩ := hpm0.read
  refine HL.imp ?_ (show Imp _ (X1 ++ (Jn gj gr false :: H)) from Imp.sub (List.Sublist.append (List.Sublist.refl _) (((List.sublist_append_right _ _).trans (List.sublist_append_right _ _)).cons_cons _)))
  rw [List.length_nil]
  repeat (first | refine go_ ?_ | refine bx_ (fun _ => ?_))
  refine hc_loopd (fun q fr M => ∃ k n s v ps Xa Za X gj, k + q = len ∧ Kp cap s (ps.map Part.bs) n ∧ PMade w0 B v ps Xa Za ∧ Rl gr s X ∧ Imp M (X ++ (Jn gj gr false :: (Xa ++ (Za ++ H)))) ∧
    Agr fr [(0, .int .i64 (cap : Int)), (1, .slice a len pc), (5, .pointer (some ⟨gr, 0, none⟩)), (6, .pointer (some ⟨gj, 0, none⟩)), (9, v), (10, .int .i64 (n : Int)), (53, .slice a len pc), (54, .int .i64 (len : Int)), (55, .int .i64 (k : Int))]) len ?_ ?_
  · exact ⟨0, 0, _, _, [], [], [], X1, gj, by omega, ⟨rfl, rfl, rfl, rfl, Nat.le_refl _, rfl, by simp⟩, PMade.nil, hr1, Imp.refl _, rfl, rfl, rfl, rfl, rfl, rfl, rfl, rfl, rfl, trivial⟩
  clear hr1 hr0 g1 g2
  rintro q fr M ⟨k, n, s, v, ps, Xa, Za, X, gj, hk, hK, hpm, hX, hi, hf⟩
  obtain ⟨base, rfl⟩ := hf.out
  clear hf
  refine HC.imp ?_ hi
  clear hi
  obtain ⟨av, cv, rfl, ⟨hv1, hv2, _⟩, hrd⟩ := hpm.read
  have hnl : n ≤ ps.length := by have := hK.le; rwa [List.length_map] at this
  by_cases hkl : k < len
  rotate_left
  · repeat (first | refine go_ ?_ | refine bx_ (fun _ => ?_))
    exact fin1B rfl rfl rfl
  have hkl2 : k < l.length := by omega
  obtain ⟨b, off, rfl, hrow⟩ := hl.row k hkl2
  obtain ⟨wK, wN, wd⟩ := hx _ (List.getElem_mem hkl2)
  obtain ⟨K, N, pa, pl, pcp, d, hxe⟩ : ∃ K N pa pl pcp d, l[k] = ⟨K, N, pa, pl, pcp, d⟩ := ⟨_, _, _, _, _, _, rfl⟩
  rw [hxe] at wK wN wd
  dsimp only at wK wN wd
  unfold I64 at wK wN
  have bd : ∀ E, BytR w0 B E pa pl pcp d := fun E => BytR.of hB wd
  have wl := (bd H).eq
  have wle := (bd H).le
  have wsm := (bd H).small
  repeat (first | refine go_ ?_ | refine bx_ (fun _ => ?_))
  refine hl_loadE (k := 3) (f := opV) hl hkl2 hB rfl (by decide) rfl rfl ?_
  rw [hxe]
  by_cases hbig : 300 < pl
  · refine HL.imp (H' := X ++ (Jn gj gr false :: (Xa ++ (Za ++ H)))) ?_ (Imp.refl _)
    dsimp only [opV]
    repeat (first | refine go_ ?_ | refine bx_ (fun _ => ?_))
    exact fin1B rfl rfl rfl
  dsimp only [opV]
  repeat (first | refine go_ ?_ | refine bx_ (fun _ => ?_))
  rename_i x
  obtain ⟨xb, hxb⟩ : ∃ xb, xb = OpB x K N pa pl pcp := ⟨_, rfl⟩
  refine HC.perm (H' := X ++ (Jn gj gr false :: (xb :: (Xa ++ (Za ++ H))))) ?_ (by rw [hxb]; exact (Take.app X (.there .here)).perm.symm)
  have txg : ∀ (Y : List Ent) (j : Ent) (T : List Ent), Take (Y ++ (j :: (xb :: T))) (OpB x K N pa pl pcp) (Y ++ (j :: T)) := fun Y j T => by rw [hxb]; exact Take.app Y (.there .here)
  refine hc_meet (fun fr M => ∃ n s v ps Xa Za X gj, Kp cap s (ps.map Part.bs) n ∧ PMade w0 B v ps Xa Za ∧ Rl gr s X ∧ Imp M (X ++ (Jn gj gr false :: (xb :: (Xa ++ (Za ++ H))))) ∧
    Agr fr [(0, .int .i64 (cap : Int)), (1, .slice (some ⟨b, off, none⟩) len pc), (5, .pointer (some ⟨gr, 0, none⟩)), (6, .pointer (some ⟨gj, 0, none⟩)), (9, v), (10, .int .i64 (n : Int)), (12, .pointer (some ⟨x, 0, none⟩)), (53, .slice (some ⟨b, off, none⟩) len pc), (54, .int .i64 (len : Int)), (55, .int .i64 (k : Int))]) ?_ ?_
  rotate_left
  · clear hK hpm hX hrd hnl txg
    rintro fr M ⟨n, s, v, ps, Xa, Za, X, gj, hK, hpm, hX, hi, hf⟩
    obtain ⟨base, rfl⟩ := hf.out
    clear hf
    refine HC.imp ?_ hi
    obtain ⟨av, cv, rfl, _, _⟩ := hpm.read
    have SZ := size_r (w0 := w0) (B := B) (R := Jn gj gr false :: (xb :: (Xa ++ (Za ++ H)))) hX
    have SF := safe_r (w0 := w0) (B := B) (R := Jn gj gr false :: (xb :: (Xa ++ (Za ++ H)))) hX
    have tx : Take (X ++ (Jn gj gr false :: (xb :: (Xa ++ (Za ++ H))))) (OpB x K N pa pl pcp) (X ++ (Jn gj gr false :: (Xa ++ (Za ++ H)))) := by rw [hxb]; exact Take.app X (.there .here)
    obtain ⟨w1, w2, w3, _⟩ := hX.1
    by_cases h2 : K ≤ 2
    all_goals
      repeat (first | refine hl_load1 rfl tx rfl rfl ?_ | refine go1_ ?_ | refine bx_ (fun _ => ?_) | refine hl_callv rfl rfl (SF) ?_ | refine hl_callv rfl rfl (SZ) ?_)
      exact ⟨q - 1, by omega, _, Imp.refl _, k + 1, n, s, _, ps, Xa, Za, X, gj, by omega, hK, hpm, hX, Imp.sub (List.Sublist.append (List.Sublist.refl _) ((List.sublist_cons_self _ _).cons_cons _)), rfl, rfl, rfl, rfl, rfl, rfl, rfl, rfl, rfl, trivial⟩
  have tx := txg X (Jn gj gr false) (Xa ++ (Za ++ H))
  by_cases hK1 : K = 1
  · subst hK1
    have SZ := jsize_fn (w0 := w0) (B := B) (gj := gj) (br := false) (R := xb :: (Xa ++ (Za ++ H))) hX
    obtain ⟨w1, w2, w3, _⟩ := hX.1
    have A : Fn Try.prog w0 B 19 [.pointer (some ⟨gj, 0, none⟩), .slice pa pl pcp] (X ++ (Jn gj gr false :: (xb :: (Xa ++ (Za ++ H))))) (fun v H' => v = .int .i64 (s.appendE (recB d)) ∧ ∃ X', H' = X' ++ (Jn gj gr (decide (s.appendE (recB d) = 11)) :: (xb :: (Xa ++ (Za ++ H)))) ∧ Rl gr (s.append (recB d)) X') := jappend_fn hX (bd _) (by omega)
    have hcp := hK.cap
    by_cases hfit : s.l.length + (d.length + 8) ≤ cap
    · obtain ⟨e1, hK2⟩ := hK.append (by omega) hfit
      rw [e1] at A
      repeat (first | refine hl_load1 rfl tx rfl rfl ?_ | refine go1_ ?_ | refine bx_ (fun _ => ?_) | refine hl_callv rfl rfl (SZ) ?_)
      refine hl_call rfl rfl A (fun v M1 o => ?_)
      obtain ⟨rfl, X1, rfl, hX1⟩ := o
      refine HL.perm (H' := X1 ++ (Jn gj gr false :: (xb :: (Xa ++ (Za ++ H))))) ?_ (List.Perm.refl _)
      have tx1 := txg X1 (Jn gj gr false) (Xa ++ (Za ++ H))
      repeat (first | refine hl_load1 rfl tx1 rfl rfl ?_ | refine go1_ ?_ | refine bx_ (fun _ => ?_))
      have htE : ∃ F, Take (X1 ++ (Jn gj gr false :: (xb :: (Xa ++ (Za ++ H))))) (OpB x 1 N pa pl pcp) F := ⟨_, tx1⟩
      have iE : Imp (X1 ++ (Jn gj gr false :: (xb :: (Xa ++ (Za ++ H))))) (Xa ++ (Za ++ H)) := Imp.sub (((List.sublist_cons_self _ _).trans (List.sublist_cons_self _ _)).trans (List.sublist_append_right _ _))
      have p3 : PartsR w0 B (X1 ++ (Jn gj gr false :: (xb :: (Xa ++ (Za ++ H))))) av ps.length ps := by
        have := hrd H
        rw [List.append_assoc] at this
        exact this.imp iE
      have iF : ∀ e : Ent, Imp (e :: (X1 ++ (Jn gj gr false :: (xb :: (Xa ++ (Za ++ H)))))) (X1 ++ (Jn gj gr false :: (xb :: ([e] ++ (Za ++ H))))) := fun e => by
        refine Imp.perm (H1 := X1 ++ (Jn gj gr false :: (xb :: (e :: (Xa ++ (Za ++ H)))))) ?_ (Imp.sub ?_)
        · exact ((Take.app X1 (.there (.there .here))).perm.symm : (e :: (X1 ++ (Jn gj gr false :: (xb :: (Xa ++ (Za ++ H)))))).Perm (X1 ++ (Jn gj gr false :: (xb :: (e :: (Xa ++ (Za ++ H)))))))
        · exact List.Sublist.append (List.Sublist.refl _) ((((List.sublist_append_right _ _).cons_cons _).cons_cons _).cons_cons _)
      clear iE
      obtain ⟨E, hE⟩ : ∃ E, E = X1 ++ (Jn gj gr false :: (xb :: (Xa ++ (Za ++ H)))) := ⟨_, rfl⟩
      rw [← hE] at htE p3 iF ⊢
      obtain ⟨F, htE⟩ := htE
      have hpl := p3.eq
      refine hc_meet (fun fr M => ∃ g c, ps.length + 1 ≤ c ∧ c ≤ 9223372036854775807 ∧ Agr fr [(0, .int .i64 (cap : Int)), (1, .slice (some ⟨b, off, none⟩) len pc), (5, .pointer (some ⟨gr, 0, none⟩)), (6, .pointer (some ⟨gj, 0, none⟩)), (9, .slice (some ⟨g, 0, none⟩) (ps.length + 1) c), (10, .int .i64 (n : Int)), (12, .pointer (some ⟨x, 0, none⟩)), (53, .slice (some ⟨b, off, none⟩) len pc), (54, .int .i64 (len : Int)), (55, .int .i64 (k : Int))] ∧
        Imp M (⟨g, 22, ps.map partV ++ [.slice pa pl pcp], c * 1⟩ :: E)) ?_ ?_
      · refine hc_drawA E (by kernel_rfl) ?_
        have hsz : ps.length ≤ 1000000 := by have := len_recs (ps.map Part.bs); rw [← hK.l, List.length_map] at this; omega
        refine ha_quiet [1, 3, 4] (by rfl) (by kernel_rfl) ?_
        repeat (first | refine hl_load1 rfl htE rfl rfl ?_ | refine gd1_ ?_)
        refine ha_fork2 0 5 (by rfl) (by kernel_rfl) (by rfl) (by rfl) (by first | exact Imp.refl _ | exact Imp.drop (Imp.refl _) | exact Imp.drop (Imp.drop (Imp.refl _)) | exact Imp.drop (Imp.drop (Imp.drop (Imp.refl _))) | exact Imp.drop (Imp.drop (Imp.drop (Imp.drop (Imp.refl _)))) | exact Imp.drop (Imp.drop (Imp.drop (Imp.drop (Imp.drop (Imp.refl _))))) | exact Imp.drop (Imp.drop (Imp.drop (Imp.drop (Imp.drop (Imp.drop (Imp.refl _)))))) | exact Imp.drop (Imp.drop (Imp.drop (Imp.drop (Imp.drop (Imp.drop (Imp.drop (Imp.refl _))))))) | exact Imp.drop (Imp.drop (Imp.drop (Imp.drop (Imp.drop (Imp.drop (Imp.drop (Imp.drop (Imp.refl _)))))))) | assumption | exact Imp.drop2 (Imp.refl _) | exact Imp.drop2 (Imp.drop2 (Imp.refl _)) | exact Imp.drop (Imp.drop2 (Imp.refl _))) ?_ ?_
        · skip
          repeat (first | refine op_ ?_ | refine bx_ (fun _ => ?_))
          rename_i g0
          refine ha_fork2 2 5 (by rfl) (by kernel_rfl) (by rfl) (by rfl) (by first | exact Imp.refl _ | exact Imp.drop (Imp.refl _) | exact Imp.drop (Imp.drop (Imp.refl _)) | exact Imp.drop (Imp.drop (Imp.drop (Imp.refl _))) | exact Imp.drop (Imp.drop (Imp.drop (Imp.drop (Imp.refl _)))) | exact Imp.drop (Imp.drop (Imp.drop (Imp.drop (Imp.drop (Imp.refl _))))) | exact Imp.drop (Imp.drop (Imp.drop (Imp.drop (Imp.drop (Imp.drop (Imp.refl _)))))) | exact Imp.drop (Imp.drop (Imp.drop (Imp.drop (Imp.drop (Imp.drop (Imp.drop (Imp.refl _))))))) | exact Imp.drop (Imp.drop (Imp.drop (Imp.drop (Imp.drop (Imp.drop (Imp.drop (Imp.drop (Imp.refl _)))))))) | assumption | exact Imp.drop2 (Imp.refl _) | exact Imp.drop2 (Imp.drop2 (Imp.refl _)) | exact Imp.drop (Imp.drop2 (Imp.refl _))) ?_ ?_
          · skip
            refine hl_append rfl rfl (by first | exact .here | exact (.there .here) | exact (.there (.there .here)) | exact (.there (.there (.there .here))) | exact (.there (.there (.there (.there .here)))) | exact (.there (.there (.there (.there (.there .here))))) | exact (.there (.there (.there (.there (.there (.there .here)))))) | exact (.there (.there (.there (.there (.there (.there (.there .here))))))) | exact (.there (.there (.there (.there (.there (.there (.there (.there .here))))))))) rfl (p3.rd.weak fun w hw => (show Imp _ E from (by first | exact Imp.refl _ | exact Imp.drop (Imp.refl _) | exact Imp.drop (Imp.drop (Imp.refl _)) | exact Imp.drop2 (Imp.refl _))) _ _ _ hw) (by rw [List.length_map]; exact (Nat.mul_one _).symm) rfl (by decide) (by decide) (by omega) (by omega) rfl (fun g2 c2 h21 h22 => ?_)
            rw [List.nil_append, Nat.zero_add] at *
            repeat (first | refine op_ ?_ | refine bx_ (fun _ => ?_))
            refine ha_fork1 5 (by rfl) (by kernel_rfl) (by rfl) (by first | exact Imp.refl _ | exact Imp.drop (Imp.refl _) | exact Imp.drop (Imp.drop (Imp.refl _)) | exact Imp.drop (Imp.drop (Imp.drop (Imp.refl _))) | exact Imp.drop (Imp.drop (Imp.drop (Imp.drop (Imp.refl _)))) | exact Imp.drop (Imp.drop (Imp.drop (Imp.drop (Imp.drop (Imp.refl _))))) | exact Imp.drop (Imp.drop (Imp.drop (Imp.drop (Imp.drop (Imp.drop (Imp.refl _)))))) | exact Imp.drop (Imp.drop (Imp.drop (Imp.drop (Imp.drop (Imp.drop (Imp.drop (Imp.refl _))))))) | exact Imp.drop (Imp.drop (Imp.drop (Imp.drop (Imp.drop (Imp.drop (Imp.drop (Imp.drop (Imp.refl _)))))))) | assumption | exact Imp.drop2 (Imp.refl _) | exact Imp.drop2 (Imp.drop2 (Imp.refl _)) | exact Imp.drop (Imp.drop2 (Imp.refl _))) ?_
            · skip
              repeat (first | refine op_ ?_ | refine bx_ (fun _ => ?_))
              rename_i g5
              refine ha_fork1 6 (by rfl) (by kernel_rfl) (by rfl) (by first | exact Imp.refl _ | exact Imp.drop (Imp.refl _) | exact Imp.drop (Imp.drop (Imp.refl _)) | exact Imp.drop (Imp.drop (Imp.drop (Imp.refl _))) | exact Imp.drop (Imp.drop (Imp.drop (Imp.drop (Imp.refl _)))) | exact Imp.drop (Imp.drop (Imp.drop (Imp.drop (Imp.drop (Imp.refl _))))) | exact Imp.drop (Imp.drop (Imp.drop (Imp.drop (Imp.drop (Imp.drop (Imp.refl _)))))) | exact Imp.drop (Imp.drop (Imp.drop (Imp.drop (Imp.drop (Imp.drop (Imp.drop (Imp.refl _))))))) | exact Imp.drop (Imp.drop (Imp.drop (Imp.drop (Imp.drop (Imp.drop (Imp.drop (Imp.drop (Imp.refl _)))))))) | assumption | exact Imp.drop2 (Imp.refl _) | exact Imp.drop2 (Imp.drop2 (Imp.refl _)) | exact Imp.drop (Imp.drop2 (Imp.refl _))) ?_
              · skip
                refine hl_append (n := ps.length) rfl rfl (by first | exact .here | exact (.there .here) | exact (.there (.there .here)) | exact (.there (.there (.there .here))) | exact (.there (.there (.there (.there .here)))) | exact (.there (.there (.there (.there (.there .here))))) | exact (.there (.there (.there (.there (.there (.there .here)))))) | exact (.there (.there (.there (.there (.there (.there (.there .here))))))) | exact (.there (.there (.there (.there (.there (.there (.there (.there .here))))))))) (by rw [List.length_map]; exact (Nat.mul_one _).symm) (Rds.ent (n := 1) (l := [.slice pa pl pcp]) (by first | exact .here | exact (.there .here) | exact (.there (.there .here)) | exact (.there (.there (.there .here))) | exact (.there (.there (.there (.there .here)))) | exact (.there (.there (.there (.there (.there .here))))) | exact (.there (.there (.there (.there (.there (.there .here)))))) | exact (.there (.there (.there (.there (.there (.there (.there .here))))))) | exact (.there (.there (.there (.there (.there (.there (.there (.there .here))))))))) rfl (by simp [Value.oneCell'])) rfl rfl (by decide) (by omega) (by omega) (by omega) rfl (fun g6 c6 h61 h62 => ?_)
                repeat (first | refine op_ ?_ | refine bx_ (fun _ => ?_))
                refine ha_quiet [7] (by rfl) (by kernel_rfl) ?_
                repeat (first | refine hl_load1 rfl htE rfl rfl ?_ | refine gd1_ ?_)
                refine ha_end (by rfl) (by kernel_rfl) (by first | exact Imp.refl _ | exact Imp.drop (Imp.refl _) | exact Imp.drop (Imp.drop (Imp.refl _)) | exact Imp.drop (Imp.drop (Imp.drop (Imp.refl _))) | exact Imp.drop (Imp.drop (Imp.drop (Imp.drop (Imp.refl _)))) | exact Imp.drop (Imp.drop (Imp.drop (Imp.drop (Imp.drop (Imp.refl _))))) | exact Imp.drop (Imp.drop (Imp.drop (Imp.drop (Imp.drop (Imp.drop (Imp.refl _)))))) | exact Imp.drop (Imp.drop (Imp.drop (Imp.drop (Imp.drop (Imp.drop (Imp.drop (Imp.refl _))))))) | exact Imp.drop (Imp.drop (Imp.drop (Imp.drop (Imp.drop (Imp.drop (Imp.drop (Imp.drop (Imp.refl _)))))))) | assumption | exact Imp.drop2 (Imp.refl _) | exact Imp.drop2 (Imp.drop2 (Imp.refl _)) | exact Imp.drop (Imp.drop2 (Imp.refl _))) ?_
                exact ⟨g6, c6, by omega, by omega, ⟨rfl, rfl, rfl, rfl, rfl, rfl, rfl, rfl, rfl, rfl, trivial⟩, (by first | exact Imp.refl _ | exact Imp.drop (Imp.refl _) | exact Imp.drop (Imp.drop (Imp.refl _)) | exact Imp.drop2 (Imp.refl _))⟩
          · skip
            repeat (first | refine op_ ?_ | refine bx_ (fun _ => ?_))
            rename_i g5
            refine ha_fork1 2 (by rfl) (by kernel_rfl) (by rfl) (by first | exact Imp.refl _ | exact Imp.drop (Imp.refl _) | exact Imp.drop (Imp.drop (Imp.refl _)) | exact Imp.drop (Imp.drop (Imp.drop (Imp.refl _))) | exact Imp.drop (Imp.drop (Imp.drop (Imp.drop (Imp.refl _)))) | exact Imp.drop (Imp.drop (Imp.drop (Imp.drop (Imp.drop (Imp.refl _))))) | exact Imp.drop (Imp.drop (Imp.drop (Imp.drop (Imp.drop (Imp.drop (Imp.refl _)))))) | exact Imp.drop (Imp.drop (Imp.drop (Imp.drop (Imp.drop (Imp.drop (Imp.drop (Imp.refl _))))))) | exact Imp.drop (Imp.drop (Imp.drop (Imp.drop (Imp.drop (Imp.drop (Imp.drop (Imp.drop (Imp.refl _)))))))) | assumption | exact Imp.drop2 (Imp.refl _) | exact Imp.drop2 (Imp.drop2 (Imp.refl _)) | exact Imp.drop (Imp.drop2 (Imp.refl _))) ?_
            · skip
              refine hl_append rfl rfl (by first | exact .here | exact (.there .here) | exact (.there (.there .here)) | exact (.there (.there (.there .here))) | exact (.there (.there (.there (.there .here)))) | exact (.there (.there (.there (.there (.there .here))))) | exact (.there (.there (.there (.there (.there (.there .here)))))) | exact (.there (.there (.there (.there (.there (.there (.there .here))))))) | exact (.there (.there (.there (.there (.there (.there (.there (.there .here))))))))) rfl (p3.rd.weak fun w hw => (show Imp _ E from (by first | exact Imp.refl _ | exact Imp.drop (Imp.refl _) | exact Imp.drop (Imp.drop (Imp.refl _)) | exact Imp.drop2 (Imp.refl _))) _ _ _ hw) (by rw [List.length_map]; exact (Nat.mul_one _).symm) rfl (by decide) (by decide) (by omega) (by omega) rfl (fun g2 c2 h21 h22 => ?_)
              rw [List.nil_append, Nat.zero_add] at *
              repeat (first | refine op_ ?_ | refine bx_ (fun _ => ?_))
              refine ha_fork1 6 (by rfl) (by kernel_rfl) (by rfl) (by first | exact Imp.refl _ | exact Imp.drop (Imp.refl _) | exact Imp.drop (Imp.drop (Imp.refl _)) | exact Imp.drop (Imp.drop (Imp.drop (Imp.refl _))) | exact Imp.drop (Imp.drop (Imp.drop (Imp.drop (Imp.refl _)))) | exact Imp.drop (Imp.drop (Imp.drop (Imp.drop (Imp.drop (Imp.refl _))))) | exact Imp.drop (Imp.drop (Imp.drop (Imp.drop (Imp.drop (Imp.drop (Imp.refl _)))))) | exact Imp.drop (Imp.drop (Imp.drop (Imp.drop (Imp.drop (Imp.drop (Imp.drop (Imp.refl _))))))) | exact Imp.drop (Imp.drop (Imp.drop (Imp.drop (Imp.drop (Imp.drop (Imp.drop (Imp.drop (Imp.refl _)))))))) | assumption | exact Imp.drop2 (Imp.refl _) | exact Imp.drop2 (Imp.drop2 (Imp.refl _)) | exact Imp.drop (Imp.drop2 (Imp.refl _))) ?_
              · skip
                refine hl_append (n := ps.length) rfl rfl (by first | exact .here | exact (.there .here) | exact (.there (.there .here)) | exact (.there (.there (.there .here))) | exact (.there (.there (.there (.there .here)))) | exact (.there (.there (.there (.there (.there .here))))) | exact (.there (.there (.there (.there (.there (.there .here)))))) | exact (.there (.there (.there (.there (.there (.there (.there .here))))))) | exact (.there (.there (.there (.there (.there (.there (.there (.there .here))))))))) (by rw [List.length_map]; exact (Nat.mul_one _).symm) (Rds.ent (n := 1) (l := [.slice pa pl pcp]) (by first | exact .here | exact (.there .here) | exact (.there (.there .here)) | exact (.there (.there (.there .here))) | exact (.there (.there (.there (.there .here)))) | exact (.there (.there (.there (.there (.there .here))))) | exact (.there (.there (.there (.there (.there (.there .here)))))) | exact (.there (.there (.there (.there (.there (.there (.there .here))))))) | exact (.there (.there (.there (.there (.there (.there (.there (.there .here))))))))) rfl (by simp [Value.oneCell'])) rfl rfl (by decide) (by omega) (by omega) (by omega) rfl (fun g6 c6 h61 h62 => ?_)
                repeat (first | refine op_ ?_ | refine bx_ (fun _ => ?_))
                refine ha_quiet [7] (by rfl) (by kernel_rfl) ?_
                repeat (first | refine hl_load1 rfl htE rfl rfl ?_ | refine gd1_ ?_)
                refine ha_end (by rfl) (by kernel_rfl) (by first | exact Imp.refl _ | exact Imp.drop (Imp.refl _) | exact Imp.drop (Imp.drop (Imp.refl _)) | exact Imp.drop (Imp.drop (Imp.drop (Imp.refl _))) | exact Imp.drop (Imp.drop (Imp.drop (Imp.drop (Imp.refl _)))) | exact Imp.drop (Imp.drop (Imp.drop (Imp.drop (Imp.drop (Imp.refl _))))) | exact Imp.drop (Imp.drop (Imp.drop (Imp.drop (Imp.drop (Imp.drop (Imp.refl _)))))) | exact Imp.drop (Imp.drop (Imp.drop (Imp.drop (Imp.drop (Imp.drop (Imp.drop (Imp.refl _))))))) | exact Imp.drop (Imp.drop (Imp.drop (Imp.drop (Imp.drop (Imp.drop (Imp.drop (Imp.drop (Imp.refl _)))))))) | assumption | exact Imp.drop2 (Imp.refl _) | exact Imp.drop2 (Imp.drop2 (Imp.refl _)) | exact Imp.drop (Imp.drop2 (Imp.refl _))) ?_
                exact ⟨g6, c6, by omega, by omega, ⟨rfl, rfl, rfl, rfl, rfl, rfl, rfl, rfl, rfl, rfl, trivial⟩, (by first | exact Imp.refl _ | exact Imp.drop (Imp.refl _) | exact Imp.drop (Imp.drop (Imp.refl _)) | exact Imp.drop2 (Imp.refl _))⟩
        · skip
          repeat (first | refine op_ ?_ | refine bx_ (fun _ => ?_))
          rename_i g5
          refine ha_fork1 0 (by rfl) (by kernel_rfl) (by rfl) (by first | exact Imp.refl _ | exact Imp.drop (Imp.refl _) | exact Imp.drop (Imp.drop (Imp.refl _)) | exact Imp.drop (Imp.drop (Imp.drop (Imp.refl _))) | exact Imp.drop (Imp.drop (Imp.drop (Imp.drop (Imp.refl _)))) | exact Imp.drop (Imp.drop (Imp.drop (Imp.drop (Imp.drop (Imp.refl _))))) | exact Imp.drop (Imp.drop (Imp.drop (Imp.drop (Imp.drop (Imp.drop (Imp.refl _)))))) | exact Imp.drop (Imp.drop (Imp.drop (Imp.drop (Imp.drop (Imp.drop (Imp.drop (Imp.refl _))))))) | exact Imp.drop (Imp.drop (Imp.drop (Imp.drop (Imp.drop (Imp.drop (Imp.drop (Imp.drop (Imp.refl _)))))))) | assumption | exact Imp.drop2 (Imp.refl _) | exact Imp.drop2 (Imp.drop2 (Imp.refl _)) | exact Imp.drop (Imp.drop2 (Imp.refl _))) ?_
          · skip
            repeat (first | refine op_ ?_ | refine bx_ (fun _ => ?_))
            rename_i g0
            refine ha_fork1 2 (by rfl) (by kernel_rfl) (by rfl) (by first | exact Imp.refl _ | exact Imp.drop (Imp.refl _) | exact Imp.drop (Imp.drop (Imp.refl _)) | exact Imp.drop (Imp.drop (Imp.drop (Imp.refl _))) | exact Imp.drop (Imp.drop (Imp.drop (Imp.drop (Imp.refl _)))) | exact Imp.drop (Imp.drop (Imp.drop (Imp.drop (Imp.drop (Imp.refl _))))) | exact Imp.drop (Imp.drop (Imp.drop (Imp.drop (Imp.drop (Imp.drop (Imp.refl _)))))) | exact Imp.drop (Imp.drop (Imp.drop (Imp.drop (Imp.drop (Imp.drop (Imp.drop (Imp.refl _))))))) | exact Imp.drop (Imp.drop (Imp.drop (Imp.drop (Imp.drop (Imp.drop (Imp.drop (Imp.drop (Imp.refl _)))))))) | assumption | exact Imp.drop2 (Imp.refl _) | exact Imp.drop2 (Imp.drop2 (Imp.refl _)) | exact Imp.drop (Imp.drop2 (Imp.refl _))) ?_
            · skip
              refine hl_append rfl rfl (by first | exact .here | exact (.there .here) | exact (.there (.there .here)) | exact (.there (.there (.there .here))) | exact (.there (.there (.there (.there .here)))) | exact (.there (.there (.there (.there (.there .here))))) | exact (.there (.there (.there (.there (.there (.there .here)))))) | exact (.there (.there (.there (.there (.there (.there (.there .here))))))) | exact (.there (.there (.there (.there (.there (.there (.there (.there .here))))))))) rfl (p3.rd.weak fun w hw => (show Imp _ E from (by first | exact Imp.refl _ | exact Imp.drop (Imp.refl _) | exact Imp.drop (Imp.drop (Imp.refl _)) | exact Imp.drop2 (Imp.refl _))) _ _ _ hw) (by rw [List.length_map]; exact (Nat.mul_one _).symm) rfl (by decide) (by decide) (by omega) (by omega) rfl (fun g2 c2 h21 h22 => ?_)
              rw [List.nil_append, Nat.zero_add] at *
              repeat (first | refine op_ ?_ | refine bx_ (fun _ => ?_))
              refine ha_fork1 6 (by rfl) (by kernel_rfl) (by rfl) (by first | exact Imp.refl _ | exact Imp.drop (Imp.refl _) | exact Imp.drop (Imp.drop (Imp.refl _)) | exact Imp.drop (Imp.drop (Imp.drop (Imp.refl _))) | exact Imp.drop (Imp.drop (Imp.drop (Imp.drop (Imp.refl _)))) | exact Imp.drop (Imp.drop (Imp.drop (Imp.drop (Imp.drop (Imp.refl _))))) | exact Imp.drop (Imp.drop (Imp.drop (Imp.drop (Imp.drop (Imp.drop (Imp.refl _)))))) | exact Imp.drop (Imp.drop (Imp.drop (Imp.drop (Imp.drop (Imp.drop (Imp.drop (Imp.refl _))))))) | exact Imp.drop (Imp.drop (Imp.drop (Imp.drop (Imp.drop (Imp.drop (Imp.drop (Imp.drop (Imp.refl _)))))))) | assumption | exact Imp.drop2 (Imp.refl _) | exact Imp.drop2 (Imp.drop2 (Imp.refl _)) | exact Imp.drop (Imp.drop2 (Imp.refl _))) ?_
              · skip
                refine hl_append (n := ps.length) rfl rfl (by first | exact .here | exact (.there .here) | exact (.there (.there .here)) | exact (.there (.there (.there .here))) | exact (.there (.there (.there (.there .here)))) | exact (.there (.there (.there (.there (.there .here))))) | exact (.there (.there (.there (.there (.there (.there .here)))))) | exact (.there (.there (.there (.there (.there (.there (.there .here))))))) | exact (.there (.there (.there (.there (.there (.there (.there (.there .here))))))))) (by rw [List.length_map]; exact (Nat.mul_one _).symm) (Rds.ent (n := 1) (l := [.slice pa pl pcp]) (by first | exact .here | exact (.there .here) | exact (.there (.there .here)) | exact (.there (.there (.there .here))) | exact (.there (.there (.there (.there .here)))) | exact (.there (.there (.there (.there (.there .here))))) | exact (.there (.there (.there (.there (.there (.there .here)))))) | exact (.there (.there (.there (.there (.there (.there (.there .here))))))) | exact (.there (.there (.there (.there (.there (.there (.there (.there .here))))))))) rfl (by simp [Value.oneCell'])) rfl rfl (by decide) (by omega) (by omega) (by omega) rfl (fun g6 c6 h61 h62 => ?_)
                repeat (first | refine op_ ?_ | refine bx_ (fun _ => ?_))
                refine ha_quiet [7] (by rfl) (by kernel_rfl) ?_
                repeat (first | refine hl_load1 rfl htE rfl rfl ?_ | refine gd1_ ?_)
                refine ha_end (by rfl) (by kernel_rfl) (by first | exact Imp.refl _ | exact Imp.drop (Imp.refl _) | exact Imp.drop (Imp.drop (Imp.refl _)) | exact Imp.drop (Imp.drop (Imp.drop (Imp.refl _))) | exact Imp.drop (Imp.drop (Imp.drop (Imp.drop (Imp.refl _)))) | exact Imp.drop (Imp.drop (Imp.drop (Imp.drop (Imp.drop (Imp.refl _))))) | exact Imp.drop (Imp.drop (Imp.drop (Imp.drop (Imp.drop (Imp.drop (Imp.refl _)))))) | exact Imp.drop (Imp.drop (Imp.drop (Imp.drop (Imp.drop (Imp.drop (Imp.drop (Imp.refl _))))))) | exact Imp.drop (Imp.drop (Imp.drop (Imp.drop (Imp.drop (Imp.drop (Imp.drop (Imp.drop (Imp.refl _)))))))) | assumption | exact Imp.drop2 (Imp.refl _) | exact Imp.drop2 (Imp.drop2 (Imp.refl _)) | exact Imp.drop (Imp.drop2 (Imp.refl _))) ?_
                exact ⟨g6, c6, by omega, by omega, ⟨rfl, rfl, rfl, rfl, rfl, rfl, rfl, rfl, rfl, rfl, trivial⟩, (by first | exact Imp.refl _ | exact Imp.drop (Imp.refl _) | exact Imp.drop (Imp.drop (Imp.refl _)) | exact Imp.drop2 (Imp.refl _))⟩
      rintro fr M ⟨g, c, hc1, hc2, hf, hi⟩
      obtain ⟨base, rfl⟩ := hf.out
      clear hf
      repeat (first | refine go_ ?_ | refine bx_ (fun _ => ?_))
      exact ⟨n, _, _, ps ++ [⟨pa, pl, pcp, d⟩], _, Za, X1, gj, by rw [List.map_append]; exact hK2, PMade.one hpm (p := ⟨pa, pl, pcp, d⟩) bd (fun F => Own.mk hc1 hc2 (by simp) (List.Perm.refl _)), hX1, hi.trans (iF _), rfl, rfl, rfl, rfl, rfl, rfl, rfl, rfl, rfl, rfl, trivial⟩
    · obtain ⟨e1, e2⟩ := hK.appendN hfit
      rw [e1, e2] at A
      repeat (first | refine hl_load1 rfl tx rfl rfl ?_ | refine go1_ ?_ | refine bx_ (fun _ => ?_) | refine hl_callv rfl rfl (SZ) ?_)
      refine hl_call rfl rfl A (fun v M1 o => ?_)
      obtain ⟨rfl, X1, rfl, hX1⟩ := o
      refine HL.perm (H' := X1 ++ (Jn gj gr false :: (xb :: (Xa ++ (Za ++ H))))) ?_ (List.Perm.refl _)
      have tx1 := txg X1 (Jn gj gr false) (Xa ++ (Za ++ H))
      repeat (first | refine hl_load1 rfl tx1 rfl rfl ?_ | refine go1_ ?_ | refine bx_ (fun _ => ?_))
      exact ⟨n, s, _, ps, Xa, Za, X1, gj, hK, hpm, hX1, Imp.refl _, rfl, rfl, rfl, rfl, rfl, rfl, rfl, rfl, rfl, rfl, trivial⟩
  by_cases hK2 : K = 2
  · subst hK2
    obtain ⟨e1, hK3⟩ := hK.sync
    have S : Fn Try.prog w0 B 20 [.pointer (some ⟨gj, 0, none⟩)] (X ++ (Jn gj gr false :: (xb :: (Xa ++ (Za ++ H))))) (fun v H' => v = .int .i64 (s.syncE) ∧ ∃ X', H' = X' ++ (Jn gj gr (decide (s.syncE = 11)) :: (xb :: (Xa ++ (Za ++ H)))) ∧ Rl gr s.sync X') := jsync_fn hX
    rw [e1] at S
    repeat (first | refine go_ ?_ | refine bx_ (fun _ => ?_))
    refine hl_call rfl rfl S (fun v M1 o => ?_)
    obtain ⟨rfl, X1, rfl, hX1⟩ := o
    refine HL.perm (H' := X1 ++ (Jn gj gr false :: (xb :: (Xa ++ (Za ++ H))))) ?_ (List.Perm.refl _)
    repeat (first | refine go_ ?_ | refine bx_ (fun _ => ?_))
    rw [List.length_map] at hK3
    exact ⟨_, s.sync, _, ps, Xa, Za, X1, gj, hK3, hpm, hX1, Imp.refl _, rfl, rfl, rfl, rfl, rfl, rfl, rfl, rfl, rfl, rfl, trivial⟩
  by_cases hK3 : K = 3
  · subst hK3
    obtain ⟨R, hR⟩ : ∃ R, R = Jn gj gr false :: (xb :: (Xa ++ (Za ++ H))) := ⟨_, rfl⟩
    obtain ⟨f1, f2, f3, f4, f5, f6, f7⟩ := hK.crash hX.1 N d
    have hgl : d = [] ∨ ∃ bb off, pa = some ⟨bb, off, none⟩ ∧ Row w0 B R bb off d.length .u8 (byteF d) := by
      rcases Nat.eq_zero_or_pos d.length with h0 | h0
      · exact .inl (List.eq_nil_of_length_eq_zero h0)
      · obtain ⟨bb, off, rfl⟩ := (bd R).pos (by omega)
        exact .inr ⟨bb, off, rfl, Rds.rowB (bd R).rd⟩
    rw [← hR] at tx ⊢
    repeat (first | refine hl_load1 rfl tx rfl rfl ?_ | refine go1_ ?_ | refine bx_ (fun _ => ?_))
    refine hl_call rfl rfl (crash_r hX N wN (b := d) wl (by omega) hgl) (fun v M1 o => ?_)
    obtain ⟨X1, hi1, hX1⟩ := o
    refine HL.imp ?_ hi1
    obtain ⟨t, ht⟩ : ∃ t, t = s.crash N d := ⟨_, rfl⟩
    have hsl : t.l.length ≤ 5000 := by
      have := hX1.1.2.1
      have h2 : (s.crash N d).cap = cap := hK.cap
      rw [h2] at this
      rw [ht]; omega
    have htd : t.down = false := by rw [ht]; rfl
    rw [← ht] at hX1 f1 f2 f3 f4 f5 f6 f7
    have SZ := size_r (w0 := w0) (B := B) (R := R) hX1
    repeat (first | refine go_ ?_ | refine bx_ (fun _ => ?_) | refine hl_callv rfl rfl (SZ) ?_)
    refine hl_call rfl rfl (read_r hX1 0 t.l.length htd (by omega)) (fun v M2 o => ?_)
    obtain ⟨sv, rfl, o⟩ := o
    rw [List.drop_zero, List.take_length] at o
    obtain ⟨a1, c1, rfl, _, _⟩ := o.form
    obtain ⟨Xb, hpb, hob⟩ := o.permE
    refine HL.perm ?_ (hpb.trans (app_swap Xb X1 R))
    have bb1 : ∀ F, BytR w0 B (Xb ++ F) a1 t.l.length c1 t.l := fun F => BytR.own (hob F)
    repeat (first | refine go_ ?_ | refine bx_ (fun _ => ?_))
    refine hl_call rfl rfl (rscanE_fn ((bb1 R).imp (Imp.tail X1 _)) (by omega)) (fun v M2 o => ?_)
    obtain ⟨svq, qs, Xq, rfl, rfl, hmq, hoq, hqs⟩ := o
    obtain ⟨aq, cq, rfl, hcq, _⟩ := (hoq []).form
    refine HL.perm ?_ (app_swap Xq X1 _)
    repeat (first | refine go_ ?_ | refine bx_ (fun _ => ?_))
    refine hl_call rfl rfl (open_ok hX1 f1) (fun v M2 o => ?_)
    obtain ⟨gj2, sv7, qs7, Xo7, Zc7, X7, rfl, rfl, hm7, hpm7, hX7⟩ := o
    obtain ⟨a7, c7, rfl, ⟨hc7, hc7', _⟩, hr7⟩ := hpm7.read
    rw [← hm7] at f4 f5 f6 f7
    rw [List.length_map] at f4 f5 f7
    have txR : Take R (OpB x 3 N pa pl pcp) (Jn gj gr false :: (Xa ++ (Za ++ H))) := by rw [hR, hxb]; exact .there .here
    have i1 : Imp (X7 ++ (Jn gj2 gr false :: (Xo7 ++ (Zc7 ++ (Xq ++ (Xb ++ R)))))) (Xo7 ++ (Zc7 ++ (Xq ++ (Xb ++ R)))) := Imp.sub ((List.sublist_cons_self _ _).trans (List.sublist_append_right _ _))
    have i2 : Imp (X7 ++ (Jn gj2 gr false :: (Xo7 ++ (Zc7 ++ (Xq ++ (Xb ++ R)))))) (Xq ++ (Xb ++ R)) := i1.trans ((Imp.tail Xo7 _).trans (Imp.tail Zc7 _))
    have i3 : Imp (X7 ++ (Jn gj2 gr false :: (Xo7 ++ (Zc7 ++ (Xq ++ (Xb ++ R)))))) (Xa ++ (Za ++ H)) := i2.trans ((Imp.tail Xq _).trans ((Imp.tail Xb _).trans (by rw [hR]; exact Imp.drop (Imp.drop (Imp.refl _)))))
    have p7 : PartsR w0 B (X7 ++ (Jn gj2 gr false :: (Xo7 ++ (Zc7 ++ (Xq ++ (Xb ++ R)))))) a7 qs7.length qs7 := by
      have := hr7 (Xq ++ (Xb ++ R))
      rw [List.append_assoc] at this
      exact this.imp i1
    have pq : PartsR w0 B (X7 ++ (Jn gj2 gr false :: (Xo7 ++ (Zc7 ++ (Xq ++ (Xb ++ R)))))) aq qs.length qs := (PartsR.ofOwn (hoq (Xb ++ R)) (fun p hp => hqs p hp _ (bb1 R))).imp i2
    have pall : PartsR w0 B (X7 ++ (Jn gj2 gr false :: (Xo7 ++ (Zc7 ++ (Xq ++ (Xb ++ R)))))) av ps.length ps := by
      have := hrd H
      rw [List.append_assoc] at this
      exact this.imp i3
    obtain ⟨z1, z2, z3⟩ := scan_bd t.l
    have hz7 : ∀ p ∈ qs7, p.len ≤ 9223372036854775806 := fun p hp => by
      rw [← (p7.each p hp).eq]
      have := (z2 p.bs (by rw [← hm7]; exact List.mem_map_of_mem hp)).1
      omega
    have hq7 : qs7.length ≤ 5000 := by rw [← hm7, List.length_map] at z1; omega
    have S1 := psame_fn (c := c7) (c2 := cq) p7 pq (by omega) hz7
    rw [decide_eq_true (by rw [hm7, hmq])] at S1
    have S2 := psame_fn (c := c7) (c2 := cv) (p7.take f5) (pall.take hnl) (by omega) (fun p hp => hz7 p (List.mem_of_mem_take hp))
    rw [decide_eq_true (by rw [List.map_take, List.map_take, f6])] at S2
    have SZ2 := size_r (w0 := w0) (B := B) (R := Jn gj2 gr false :: (Xo7 ++ (Zc7 ++ (Xq ++ (Xb ++ R))))) hX7
    have SF2 := safe_r (w0 := w0) (B := B) (R := Jn gj2 gr false :: (Xo7 ++ (Zc7 ++ (Xq ++ (Xb ++ R))))) hX7
    rw [f2] at SZ2
    rw [f3] at SF2
    have iZ : Imp (X7 ++ (Jn gj2 gr false :: (Xo7 ++ (Zc7 ++ (Xq ++ (Xb ++ R)))))) (X7 ++ (Jn gj2 gr false :: (xb :: (Xo7 ++ (Zc7 ++ H))))) := by
      refine Imp.trans (Imp.sub (H2 := X7 ++ (Jn gj2 gr false :: (Xo7 ++ (Zc7 ++ (xb :: H))))) ?_) (Imp.perm ?_ (Imp.refl _))
      · refine List.Sublist.append (List.Sublist.refl _) (List.Sublist.cons_cons _ (List.Sublist.append (List.Sublist.refl _) (List.Sublist.append (List.Sublist.refl _) ?_)))
        rw [hR]
        refine (((List.Sublist.cons_cons _ ?_).trans (List.sublist_cons_self _ _)).trans (List.sublist_append_right _ _)).trans (List.sublist_append_right _ _)
        exact (List.sublist_append_right _ _).trans (List.sublist_append_right _ _)
      · exact List.Perm.append (List.Perm.refl _) (List.Perm.cons _ (Take.app Xo7 (Take.app Zc7 .here)).perm)
    have txM : Take (X7 ++ (Jn gj2 gr false :: (Xo7 ++ (Zc7 ++ (Xq ++ (Xb ++ R)))))) (OpB x 3 N pa pl pcp) _ := Take.app X7 (.there (Take.app Xo7 (Take.app Zc7 (Take.app Xq (Take.app Xb txR)))))
    obtain ⟨M5, hM5⟩ : ∃ M5, M5 = X7 ++ (Jn gj2 gr false :: (Xo7 ++ (Zc7 ++ (Xq ++ (Xb ++ R))))) := ⟨_, rfl⟩
    rw [← hM5] at p7 pq pall S1 S2 SZ2 SF2 iZ txM ⊢
    obtain ⟨en, hen⟩ : ∃ en, en = (scan t.l).2 := ⟨_, rfl⟩
    rw [← hen] at SZ2 SF2 ⊢
    repeat (first | refine go_ ?_ | refine bx_ (fun _ => ?_))
    (refine hc_draw (by kernel_rfl) (by kernel_rfl) ?_; repeat (first | refine gd_ ?_ | refine hl_sliceTo (j := n) rfl rfl rfl (by omega) rfl ?_ | refine hd_call rfl rfl (S1) ?_ | refine hd_call rfl rfl (SZ2) ?_ | refine hd_call rfl rfl (SF2) ?_ | refine hd_call rfl rfl (S2) ?_))
    by_cases h0 : pl = 0
    · have hd0 : d = [] := List.eq_nil_of_length_eq_zero (by omega)
      obtain ⟨l1, l2⟩ := f7 hd0
      rw [List.length_map] at l1
      have S3 := psame_fn (c := c7) (c2 := cv) p7 (pall.take l1) (by omega) hz7
      rw [decide_eq_true (by rw [List.map_take, ← l2])] at S3
      repeat (first | refine hl_load1 rfl txM rfl rfl ?_ | refine go1_ ?_ | refine bx_ (fun _ => ?_) | refine hl_sliceTo (j := qs7.length) rfl rfl rfl (by omega) rfl ?_ | refine hl_callv rfl rfl (S3) ?_)
      exact ⟨_, t.openS, _, qs7, Xo7, Zc7, X7, gj2, f4, hpm7, hX7, iZ, rfl, rfl, rfl, rfl, rfl, rfl, rfl, rfl, rfl, rfl, trivial⟩
    · repeat (first | refine hl_load1 rfl txM rfl rfl ?_ | refine go1_ ?_ | refine bx_ (fun _ => ?_))
      exact ⟨_, t.openS, _, qs7, Xo7, Zc7, X7, gj2, f4, hpm7, hX7, iZ, rfl, rfl, rfl, rfl, rfl, rfl, rfl, rfl, rfl, rfl, trivial⟩
  · rw [decide_eq_false hK1]
    repeat (first | refine hl_load1 rfl tx rfl rfl ?_ | refine go1_ ?_ | refine bx_ (fun _ => ?_))
    exact ⟨n, s, _, ps, Xa, Za, X, gj, hK, hpm, hX, Imp.refl _, rfl, rfl, rfl, rfl, rfl, rfl, rfl, rfl, rfl, rfl, trivial⟩
theorem walk (cap : Int) (a : Option Addr) (len pc : Nat) (l : List OpE) (w : World) (hc : -9223372036854775808 ≤ cap ∧ cap ≤ 9223372036854775807) (hl : SlS 3 opV w a len pc l) (hx : ∀ x ∈ l, x.wf w) :
    Calls Try.prog 7 #[.int .i64 cap, .slice a len pc] w fun e w' => e = .returned (.bool true) ∧ Below w.heap.size w w' :=
  calls_of_fn (law (Nat.le_refl _) cap hc hl hx) fun _ _ h => h

/-! The step to the statement (written by program). -/
open Go.ChangeShapes Go.WideShapes Go.ChangeAt
set_option maxRecDepth 100000 in
theorem lifted (os : Os) (started : os.Started) (H : Type) (enc : TypeId × Value → H) :
    ReturnsInHanded {} Try.checked os 7 .any (Rows.journalKeepsSpec.pre6 enc Try.prog Try.f7 Rows.journalKeepsRow.domain false) (Rows.journalKeepsSpec.post enc Try.prog Try.f7 false true false false) := by
  refine returnsInHanded_of_change (C := Try.checked) own started (by kernel_rfl) Try.func7
    (ChangeSpec.witness6 (enc := enc) (C := Try.checked) false ⟨#[], #[.int .i64 0, .slice none 0 0], []⟩ 8 (by kernel_rfl) (by kernel_rfl) (by kernel_rfl) (by kernel_rfl)) ?_
  intro W base args ds gs before hval0 hW hcnd _
  have hval : ∀ (j : Nat) t v, Try.f7.params[j]? = some t → args[j]? = some v → Value.okWide Try.prog W .any base t v := hval0
  have hW' := hW
  obtain ⟨p, q, hA0, hV, rfl, hfz, hnd⟩ := hW
  have hA : DataW.TrodAll enc Try.prog W 0 (fun _ => true) true Try.f7.params.toList args.toList ds p := hA0
  rw [Try.params7] at hA hval
  obtain ⟨v0, vs0, d0, ds0, p0, q0, hargs, rfl, rfl, h0, r0⟩ := trodAll_cons hA
  obtain ⟨v1, vs1, d1, ds1, p1, q1, rfl, rfl, rfl, h1, r1⟩ := trodAll_cons r0
  obtain ⟨rfl, rfl, rfl⟩ := trodAll_nil r1
  obtain rfl : args = #[v0, v1] := by cases args; simp_all
  obtain ⟨rfl, rfl⟩ := trodVars_none hV
  have k0 := h0
  have lt0 : ∀ x ∈ p0, x.block < W.heap.size := by obtain ⟨m, hm⟩ := k0; exact DataW.trod_lt m _ _ _ hm
  obtain ⟨a0, rfl, _, _, w0⟩ := open_int Try.underlying3 (hval 0 3 v0 rfl rfl) h0
  have w0 := wf_i64 w0
  have k1 := h1
  have lt1 : ∀ x ∈ p1, x.block < W.heap.size := by obtain ⟨m, hm⟩ := k1; exact DataW.trod_lt m _ _ _ hm
  obtain ⟨a1, len1, cap1, e1⟩ := okWide_slice Try.underlying46 (hval 1 46 v1 rfl rfl)
  obtain ⟨l1, w1, b1⟩ := open_ops e1 k1
  subst e1
  clear hA0 hval0
  refine (walk a0 a1 len1 cap1 l1 W w0 w1 b1).mono fun e W' ⟨he, bel⟩ => ?_
  subst he
  exact ⟨_, rfl, _, _, _, [], _, [], hW', trodAll_mk1 (shut_bool Try.underlying4 _), (trodAll_cons_mk (Below.trod laidOut (by kernel_rfl) (of_decide_eq_true (by kernel_rfl)) k0 bel lt0) (trodAll_cons_mk (Below.trod laidOut (by kernel_rfl) (of_decide_eq_true (by kernel_rfl)) k1 bel lt1) trodAll_mk0)), rfl, bel.frame _, fun h => by cases h⟩

theorem over : Rows.journalKeepsRow.holds Try.pinned (OpenSpec.ofChange Rows.journalKeepsSpec) :=
  OpenClaim.holds_of_wide 7 Try.f7 rfl rfl rfl rfl rfl rfl rfl ⟨rfl, rfl, rfl, rfl, rfl⟩ rfl rfl rfl rfl rfl (by kernel_rfl) Try.func7 (by kernel_rfl)
    (of_decide_eq_true (by kernel_rfl)) (by unfold Func.isWrapper; first | (rw [if_pos (by decide +kernel)]; kernel_rfl) | (rw [if_neg (by decide +kernel)]; exact ⟨rfl, rfl⟩))
    (fun os started H enc _ => lifted os started H enc)

/-- The statement. -/
theorem proved : Rows.JournalKeepsSaid := over
#print axioms proved
end Go.Proofs.Ytpeegklnkecajaa.journalKeeps
