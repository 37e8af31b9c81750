/-
  LassoTurns. No condition.
-/
import Derived.Test.YtdofcjmnnmmecaaKC
import Derived.Test.YtdofcjmnnmmecaaOpen
namespace Go.Proofs.Ytdofcjmnnmmecaa.lassoTurns
open Go.RowKit
theorem rightT {w0 : World} {B : Nat} {H : List Ent} {p : Pt} (h : p.right) : Fn Try.prog w0 B 15 [.agg #[.int .i64 p.x, .int .i64 p.y]] H (fun v H' => v = .bool true ∧ H' = H) := by
  have := rright_fn (w0 := w0) (B := B) (H := H) p
  rwa [decide_eq_true h] at this
theorem rightF {w0 : World} {B : Nat} {H : List Ent} {p : Pt} (h : ¬ p.right) : Fn Try.prog w0 B 15 [.agg #[.int .i64 p.x, .int .i64 p.y]] H (fun v H' => v = .bool false ∧ H' = H) := by
  have := rright_fn (w0 := w0) (B := B) (H := H) p
  rwa [decide_eq_false h] at this
set_option maxHeartbeats 8000000 in
set_option maxRecDepth 100000 in
theorem law {w0 : World} {B : Nat} {H : List Ent} (hB : w0.heap.size ≤ B) {a : Option Addr} {len cap : Nat} {l : List Pt} (hl : SlS 2 ptV w0 a len cap l) (q r : Pt) :
    Fn Try.prog w0 B 4 [.slice a len cap, .agg #[.int .i64 q.x, .int .i64 q.y], .agg #[.int .i64 r.x, .int .i64 r.y]] H (fun u _ => u = .bool true) := by
  have e1 := hl.size_eq
  have e3 := hl.le
  have e4 := hl.small
  have R : ∀ E, PtR w0 B E a len l := fun E => ptR_of hB hl
  refine fn_intro Try.func4 rfl (by kernel_rfl) rfl ?_
  by_cases h1 : 1000 < len
  · repeat (first | refine go_ ?_ | refine bx_ (fun _ => ?_) | refine hl_callv rfl rfl (anchor_fn) ?_)
    exact fin1B rfl rfl rfl
  repeat (first | refine go_ ?_ | refine bx_ (fun _ => ?_) | refine hl_callv rfl rfl (anchor_fn) ?_)
  rename_i g4 g5
  refine hl_call rfl rfl (plain_fn (R _) (by omega)) (fun v M o => ?_)
  obtain ⟨sa, sc, rfl, _, _⟩ := o.form
  obtain ⟨X, hX, o'⟩ := o.permE
  refine HL.perm ?_ ((hX.trans List.perm_middle).trans (List.Perm.cons _ List.perm_middle))
  have rP : PtR w0 B (X ++ H) sa len l := ptR_own (o' H) e1
  clear o hX o'
  repeat (first | refine go_ ?_ | refine bx_ (fun _ => ?_))
  refine hc_meet (fun fr M => ∃ g8 g9, Agr fr [(0, .slice a len cap), (4, .pointer (some ⟨g4, 0, none⟩)), (5, .pointer (some ⟨g5, 0, none⟩)), (6, .bool false), (7, .slice sa len sc), (8, .pointer (some ⟨g8, 0, none⟩)), (9, .pointer (some ⟨g9, 0, none⟩))]
    ∧ M = ⟨g9, 31, [.int .i64 r.x, .int .i64 r.y], 2⟩ :: ⟨g8, 31, [.int .i64 q.x, .int .i64 q.y], 2⟩ :: ⟨g5, 34, [.int .i64 r.x, .int .i64 r.y], 2⟩ :: ⟨g4, 34, [.int .i64 q.x, .int .i64 q.y], 2⟩ :: (X ++ H)) ?_ ?_
  · refine hc_drawA (⟨g5, 34, [.int .i64 r.x, .int .i64 r.y], 2⟩ :: ⟨g4, 34, [.int .i64 q.x, .int .i64 q.y], 2⟩ :: (X ++ H)) (by kernel_rfl) ?_
    refine ha_quiet [0, 1, 2, 3, 4, 5, 6, 7, 8, 9] (by rfl) (by kernel_rfl) ?_
    repeat (first | refine gd_ ?_)
    refine ha_fork2 10 11 (by rfl) (by kernel_rfl) (by rfl) (by rfl) (by first | exact Imp.refl _ | exact Imp.drop (Imp.refl _) | exact Imp.drop (Imp.drop (Imp.refl _)) | exact Imp.drop (Imp.drop (Imp.drop (Imp.refl _))) | exact Imp.drop (Imp.drop (Imp.drop (Imp.drop (Imp.refl _)))) | exact Imp.drop (Imp.drop (Imp.drop (Imp.drop (Imp.drop (Imp.refl _))))) | exact Imp.drop (Imp.drop (Imp.drop (Imp.drop (Imp.drop (Imp.drop (Imp.refl _)))))) | exact Imp.drop (Imp.drop (Imp.drop (Imp.drop (Imp.drop (Imp.drop (Imp.drop (Imp.refl _))))))) | exact Imp.drop (Imp.drop (Imp.drop (Imp.drop (Imp.drop (Imp.drop (Imp.drop (Imp.drop (Imp.refl _)))))))) | assumption | exact Imp.drop2 (Imp.refl _) | exact Imp.drop2 (Imp.drop2 (Imp.refl _)) | exact Imp.drop (Imp.drop2 (Imp.refl _))) ?_ ?_
    · skip
      repeat (first | refine op_ ?_ | refine bx_ (fun _ => ?_))
      refine ha_fork1 11 (by rfl) (by kernel_rfl) (by rfl) (by first | exact Imp.refl _ | exact Imp.drop (Imp.refl _) | exact Imp.drop (Imp.drop (Imp.refl _)) | exact Imp.drop (Imp.drop (Imp.drop (Imp.refl _))) | exact Imp.drop (Imp.drop (Imp.drop (Imp.drop (Imp.refl _)))) | exact Imp.drop (Imp.drop (Imp.drop (Imp.drop (Imp.drop (Imp.refl _))))) | exact Imp.drop (Imp.drop (Imp.drop (Imp.drop (Imp.drop (Imp.drop (Imp.refl _)))))) | exact Imp.drop (Imp.drop (Imp.drop (Imp.drop (Imp.drop (Imp.drop (Imp.drop (Imp.refl _))))))) | exact Imp.drop (Imp.drop (Imp.drop (Imp.drop (Imp.drop (Imp.drop (Imp.drop (Imp.drop (Imp.refl _)))))))) | assumption | exact Imp.drop2 (Imp.refl _) | exact Imp.drop2 (Imp.drop2 (Imp.refl _)) | exact Imp.drop (Imp.drop2 (Imp.refl _))) ?_
      · skip
        repeat (first | refine op_ ?_ | refine bx_ (fun _ => ?_))
        refine ha_fork1 12 (by rfl) (by kernel_rfl) (by rfl) (by first | exact Imp.refl _ | exact Imp.drop (Imp.refl _) | exact Imp.drop (Imp.drop (Imp.refl _)) | exact Imp.drop (Imp.drop (Imp.drop (Imp.refl _))) | exact Imp.drop (Imp.drop (Imp.drop (Imp.drop (Imp.refl _)))) | exact Imp.drop (Imp.drop (Imp.drop (Imp.drop (Imp.drop (Imp.refl _))))) | exact Imp.drop (Imp.drop (Imp.drop (Imp.drop (Imp.drop (Imp.drop (Imp.refl _)))))) | exact Imp.drop (Imp.drop (Imp.drop (Imp.drop (Imp.drop (Imp.drop (Imp.drop (Imp.refl _))))))) | exact Imp.drop (Imp.drop (Imp.drop (Imp.drop (Imp.drop (Imp.drop (Imp.drop (Imp.drop (Imp.refl _)))))))) | assumption | exact Imp.drop2 (Imp.refl _) | exact Imp.drop2 (Imp.drop2 (Imp.refl _)) | exact Imp.drop (Imp.drop2 (Imp.refl _))) ?_
        · skip
          repeat (first | refine op_ ?_ | refine bx_ (fun _ => ?_))
          refine ha_fork1 13 (by rfl) (by kernel_rfl) (by rfl) (by first | exact Imp.refl _ | exact Imp.drop (Imp.refl _) | exact Imp.drop (Imp.drop (Imp.refl _)) | exact Imp.drop (Imp.drop (Imp.drop (Imp.refl _))) | exact Imp.drop (Imp.drop (Imp.drop (Imp.drop (Imp.refl _)))) | exact Imp.drop (Imp.drop (Imp.drop (Imp.drop (Imp.drop (Imp.refl _))))) | exact Imp.drop (Imp.drop (Imp.drop (Imp.drop (Imp.drop (Imp.drop (Imp.refl _)))))) | exact Imp.drop (Imp.drop (Imp.drop (Imp.drop (Imp.drop (Imp.drop (Imp.drop (Imp.refl _))))))) | exact Imp.drop (Imp.drop (Imp.drop (Imp.drop (Imp.drop (Imp.drop (Imp.drop (Imp.drop (Imp.refl _)))))))) | assumption | exact Imp.drop2 (Imp.refl _) | exact Imp.drop2 (Imp.drop2 (Imp.refl _)) | exact Imp.drop (Imp.drop2 (Imp.refl _))) ?_
          · skip
            repeat (first | refine op_ ?_ | refine bx_ (fun _ => ?_))
            refine ha_end (by rfl) (by kernel_rfl) (by first | exact Imp.refl _ | exact Imp.drop (Imp.refl _) | exact Imp.drop (Imp.drop (Imp.refl _)) | exact Imp.drop (Imp.drop (Imp.drop (Imp.refl _))) | exact Imp.drop (Imp.drop (Imp.drop (Imp.drop (Imp.refl _)))) | exact Imp.drop (Imp.drop (Imp.drop (Imp.drop (Imp.drop (Imp.refl _))))) | exact Imp.drop (Imp.drop (Imp.drop (Imp.drop (Imp.drop (Imp.drop (Imp.refl _)))))) | exact Imp.drop (Imp.drop (Imp.drop (Imp.drop (Imp.drop (Imp.drop (Imp.drop (Imp.refl _))))))) | exact Imp.drop (Imp.drop (Imp.drop (Imp.drop (Imp.drop (Imp.drop (Imp.drop (Imp.drop (Imp.refl _)))))))) | assumption | exact Imp.drop2 (Imp.refl _) | exact Imp.drop2 (Imp.drop2 (Imp.refl _)) | exact Imp.drop (Imp.drop2 (Imp.refl _))) ?_
            exact ⟨_, _, ⟨rfl, rfl, rfl, rfl, rfl, rfl, rfl, trivial⟩, rfl⟩
    · skip
      repeat (first | refine op_ ?_ | refine bx_ (fun _ => ?_))
      refine ha_fork1 10 (by rfl) (by kernel_rfl) (by rfl) (by first | exact Imp.refl _ | exact Imp.drop (Imp.refl _) | exact Imp.drop (Imp.drop (Imp.refl _)) | exact Imp.drop (Imp.drop (Imp.drop (Imp.refl _))) | exact Imp.drop (Imp.drop (Imp.drop (Imp.drop (Imp.refl _)))) | exact Imp.drop (Imp.drop (Imp.drop (Imp.drop (Imp.drop (Imp.refl _))))) | exact Imp.drop (Imp.drop (Imp.drop (Imp.drop (Imp.drop (Imp.drop (Imp.refl _)))))) | exact Imp.drop (Imp.drop (Imp.drop (Imp.drop (Imp.drop (Imp.drop (Imp.drop (Imp.refl _))))))) | exact Imp.drop (Imp.drop (Imp.drop (Imp.drop (Imp.drop (Imp.drop (Imp.drop (Imp.drop (Imp.refl _)))))))) | assumption | exact Imp.drop2 (Imp.refl _) | exact Imp.drop2 (Imp.drop2 (Imp.refl _)) | exact Imp.drop (Imp.drop2 (Imp.refl _))) ?_
      · skip
        repeat (first | refine op_ ?_ | refine bx_ (fun _ => ?_))
        refine ha_fork1 12 (by rfl) (by kernel_rfl) (by rfl) (by first | exact Imp.refl _ | exact Imp.drop (Imp.refl _) | exact Imp.drop (Imp.drop (Imp.refl _)) | exact Imp.drop (Imp.drop (Imp.drop (Imp.refl _))) | exact Imp.drop (Imp.drop (Imp.drop (Imp.drop (Imp.refl _)))) | exact Imp.drop (Imp.drop (Imp.drop (Imp.drop (Imp.drop (Imp.refl _))))) | exact Imp.drop (Imp.drop (Imp.drop (Imp.drop (Imp.drop (Imp.drop (Imp.refl _)))))) | exact Imp.drop (Imp.drop (Imp.drop (Imp.drop (Imp.drop (Imp.drop (Imp.drop (Imp.refl _))))))) | exact Imp.drop (Imp.drop (Imp.drop (Imp.drop (Imp.drop (Imp.drop (Imp.drop (Imp.drop (Imp.refl _)))))))) | assumption | exact Imp.drop2 (Imp.refl _) | exact Imp.drop2 (Imp.drop2 (Imp.refl _)) | exact Imp.drop (Imp.drop2 (Imp.refl _))) ?_
        · skip
          repeat (first | refine op_ ?_ | refine bx_ (fun _ => ?_))
          refine ha_fork1 13 (by rfl) (by kernel_rfl) (by rfl) (by first | exact Imp.refl _ | exact Imp.drop (Imp.refl _) | exact Imp.drop (Imp.drop (Imp.refl _)) | exact Imp.drop (Imp.drop (Imp.drop (Imp.refl _))) | exact Imp.drop (Imp.drop (Imp.drop (Imp.drop (Imp.refl _)))) | exact Imp.drop (Imp.drop (Imp.drop (Imp.drop (Imp.drop (Imp.refl _))))) | exact Imp.drop (Imp.drop (Imp.drop (Imp.drop (Imp.drop (Imp.drop (Imp.refl _)))))) | exact Imp.drop (Imp.drop (Imp.drop (Imp.drop (Imp.drop (Imp.drop (Imp.drop (Imp.refl _))))))) | exact Imp.drop (Imp.drop (Imp.drop (Imp.drop (Imp.drop (Imp.drop (Imp.drop (Imp.drop (Imp.refl _)))))))) | assumption | exact Imp.drop2 (Imp.refl _) | exact Imp.drop2 (Imp.drop2 (Imp.refl _)) | exact Imp.drop (Imp.drop2 (Imp.refl _))) ?_
          · skip
            repeat (first | refine op_ ?_ | refine bx_ (fun _ => ?_))
            refine ha_end (by rfl) (by kernel_rfl) (by first | exact Imp.refl _ | exact Imp.drop (Imp.refl _) | exact Imp.drop (Imp.drop (Imp.refl _)) | exact Imp.drop (Imp.drop (Imp.drop (Imp.refl _))) | exact Imp.drop (Imp.drop (Imp.drop (Imp.drop (Imp.refl _)))) | exact Imp.drop (Imp.drop (Imp.drop (Imp.drop (Imp.drop (Imp.refl _))))) | exact Imp.drop (Imp.drop (Imp.drop (Imp.drop (Imp.drop (Imp.drop (Imp.refl _)))))) | exact Imp.drop (Imp.drop (Imp.drop (Imp.drop (Imp.drop (Imp.drop (Imp.drop (Imp.refl _))))))) | exact Imp.drop (Imp.drop (Imp.drop (Imp.drop (Imp.drop (Imp.drop (Imp.drop (Imp.drop (Imp.refl _)))))))) | assumption | exact Imp.drop2 (Imp.refl _) | exact Imp.drop2 (Imp.drop2 (Imp.refl _)) | exact Imp.drop (Imp.drop2 (Imp.refl _))) ?_
            exact ⟨_, _, ⟨rfl, rfl, rfl, rfl, rfl, rfl, rfl, trivial⟩, rfl⟩
  rintro fr M ⟨g8, g9, hf, rfl⟩
  obtain ⟨base, rfl⟩ := hf.out
  clear hf
  repeat (first | refine go_ ?_ | refine bx_ (fun _ => ?_))
  refine hl_call rfl rfl (turn_fn q r (R _) (by omega)) (fun v M h => ?_)
  obtain ⟨sv, rfl, o⟩ := h
  obtain ⟨s3, c3, rfl, _, _⟩ := o.form
  obtain ⟨Y, hY, o'⟩ := o.permE
  have hYP := (((hY.trans List.perm_middle).trans (List.Perm.cons _ List.perm_middle)).trans (List.Perm.cons _ (List.Perm.cons _ List.perm_middle))).trans (List.Perm.cons _ (List.Perm.cons _ (List.Perm.cons _ List.perm_middle)))
  refine HL.perm ?_ hYP
  have rT : PtR w0 B (Y ++ (X ++ H)) s3 (resT l q r).length (resT l q r) := ptR_own (o' (X ++ H)) rfl
  have hTl := resT_len l q r
  clear o hY hYP
  have S : ∀ E, Imp E (X ++ H) → Fn Try.prog w0 B 14 [.slice sa len sc] E (fun v H' => v = .bool (okS l []) ∧ H' = E) := fun E hE => shape_fn (rP.imp hE) (by omega)
  have i4 : Imp (⟨g9, 31, [.int .i64 r.x, .int .i64 r.y], 2⟩ :: ⟨g8, 31, [.int .i64 q.x, .int .i64 q.y], 2⟩ :: ⟨g5, 34, [.int .i64 r.x, .int .i64 r.y], 2⟩ :: ⟨g4, 34, [.int .i64 q.x, .int .i64 q.y], 2⟩ :: (Y ++ (X ++ H))) (X ++ H) := Imp.drop (Imp.drop (Imp.drop (Imp.drop (Imp.tail Y _))))
  have bad : okS l [q, r] = false → errV (okT l q r) = 31 ∧ resT l q r = [] := fun h => by
    have hT : okT l q r = false := by rw [okT, h]; rfl
    exact ⟨by rw [hT]; rfl, by rw [resT, hT]; rfl⟩
  have hsp : okS l [q, r] = (okS l [] && (decide q.right && decide r.right)) := by rw [okS_split]; simp
  cases hs : okS l [] with
  | false =>
    obtain ⟨b1, b2⟩ := bad (by rw [hsp, hs]; rfl)
    rw [b1, b2]
    rw [hs] at S
    repeat (first | refine go_ ?_ | refine bx_ (fun _ => ?_) | refine hl_callv rfl rfl (S _ i4) ?_)
    exact fin1B rfl rfl rfl
  | true =>
  obtain ⟨hr, _, h3, h256⟩ := okS_right hs
  by_cases hq : q.right
  case neg =>
    obtain ⟨b1, b2⟩ := bad (by rw [hsp, decide_eq_false hq]; simp)
    rw [b1, b2]
    rw [hs] at S
    repeat (first | refine go_ ?_ | refine bx_ (fun _ => ?_) | refine hl_callv rfl rfl (S _ i4) ?_ | refine hl_callv rfl rfl (rightF hq) ?_)
    exact fin1B rfl rfl rfl
  by_cases hrr : r.right
  case neg =>
    obtain ⟨b1, b2⟩ := bad (by rw [hsp, decide_eq_false hrr]; simp)
    rw [b1, b2]
    rw [hs] at S
    repeat (first | refine go_ ?_ | refine bx_ (fun _ => ?_) | refine hl_callv rfl rfl (S _ i4) ?_ | refine hl_callv rfl rfl (rightT hq) ?_ | refine hl_callv rfl rfl (rightF hrr) ?_)
    exact fin1B rfl rfl rfl
  have hok : okS l [q, r] = true := by rw [hsp, hs, decide_eq_true hq, decide_eq_true hrr]; rfl
  rw [hs] at S
  repeat (first | refine go_ ?_ | refine bx_ (fun _ => ?_) | refine hl_callv rfl rfl (S _ i4) ?_ | refine hl_callv rfl rfl (rightT hq) ?_ | refine hl_callv rfl rfl (rightT hrr) ?_)
  obtain ⟨bb, off, rfl⟩ := rP.pos (by omega)
  clear S i4 bad
  obtain ⟨K, hK⟩ : ∃ K, K = Y ++ (X ++ H) := ⟨_, rfl⟩
  have iK : Imp K (X ++ H) := by rw [hK]; exact Imp.tail Y _
  rw [← hK] at rT ⊢
  have iZ : ∀ Z, Imp (Z ++ K) (X ++ H) := fun Z w0 B w hw => iK _ _ _ (Imp.tail Z _ _ _ _ hw)
  obtain ⟨al, hal⟩ : ∃ al : Nat → Bool, al = fun k => ((l.take k).map (turnP q r)).all (fun p => decide p.right) := ⟨_, rfl⟩
  refine hc_loopd (fun z fr M => ∃ k v Z, k + z = len ∧ Agr fr [(0, .slice a len cap), (4, .pointer (some ⟨g4, 0, none⟩)), (5, .pointer (some ⟨g5, 0, none⟩)), (7, .slice (some ⟨bb, off, none⟩) len sc), (8, .pointer (some ⟨g8, 0, none⟩)), (9, .pointer (some ⟨g9, 0, none⟩)), (10, .slice s3 (resT l q r).length c3), (11, .int .i64 (errV (okT l q r))), (12, .bool (al k)), (13, v), (58, .slice (some ⟨bb, off, none⟩) len sc), (59, .int .i64 (len : Int)), (60, .int .i64 (k : Int))]
    ∧ M = ⟨g9, 31, [.int .i64 r.x, .int .i64 r.y], 2⟩ :: ⟨g8, 31, [.int .i64 q.x, .int .i64 q.y], 2⟩ :: ⟨g5, 34, [.int .i64 r.x, .int .i64 r.y], 2⟩ :: ⟨g4, 34, [.int .i64 q.x, .int .i64 q.y], 2⟩ :: (Z ++ K) ∧ ∀ F, Own 31 2 v k (((l.take k).map (turnP q r)).flatMap ptV) F (Z ++ F)) len ?_ ?_
  · exact ⟨0, .slice none 0 0, [], by omega, ⟨rfl, rfl, rfl, rfl, rfl, rfl, rfl, rfl, Eq.trans (b := .bool true) rfl (by rw [hal]; simp), rfl, rfl, rfl, rfl, trivial⟩, rfl, fun F => by simpa using Own.nil⟩
  rintro z fr M ⟨k, v, Z, hk, hf, rfl, oZ⟩
  obtain ⟨base, rfl⟩ := hf.out
  obtain ⟨va, vc, rfl, _, _⟩ := (oZ []).form
  by_cases hlt : k < len
  · have hpart := rP.at' hlt
    have hkl : k < l.length := by omega
    have rp := hr _ (nth_mem hkl)
    have htk := take_pts hkl (turnP q r)
    have hal1 : al (k + 1) = (al k && decide (turnP q r (nth l k)).right) := by
      have : l.take (k + 1) = l.take k ++ [l[k]] := by rw [List.take_add_one, List.getElem?_eq_getElem hkl]; rfl
      rw [hal]
      simp only [this, List.map_append, List.all_append]
      rw [nth_eq hkl]; simp
    obtain ⟨p, hp⟩ : ∃ p, p = nth l k := ⟨_, rfl⟩
    rw [← hp] at hpart htk rp hal1
    have T := fun E => times_fn (w0 := w0) (B := B) (H := E) rp hq hrr
    obtain ⟨t, ht⟩ : ∃ t, t = turnP q r p := ⟨_, rfl⟩
    rw [← ht] at htk hal1
    simp only [← ht] at T
    obtain ⟨b, hb⟩ : ∃ b, b = al k := ⟨_, rfl⟩
    rw [← hb] at hal1 hf ⊢
    by_cases htr : t.right <;> cases b
    all_goals
      first | rw [decide_eq_true htr] at hal1 | rw [decide_eq_false htr] at hal1
      repeat (first | refine go_ ?_ | refine bx_ (fun _ => ?_))
      refine hl_loadRN (E := X ++ H) rfl rP.rd (Imp.drop (Imp.drop (Imp.drop (Imp.drop (iZ Z))))) hpart rfl rfl ?_
      first | repeat (first | refine go_ ?_ | refine bx_ (fun _ => ?_) | refine hl_callv rfl rfl (T _) ?_ | refine hl_callv rfl rfl (rightT htr) ?_) | skip
      first | repeat (first | refine go_ ?_ | refine bx_ (fun _ => ?_) | refine hl_callv rfl rfl (T _) ?_ | refine hl_callv rfl rfl (rightF htr) ?_) | skip
      refine hl_append_own rfl rfl ((((((((oZ K).under _).under _).under _).under _).under _).under _).under _) (Rds.ent (n := 2) .here rfl (by simp [Value.oneCell'])) rfl rfl (by decide) (by omega) (by omega) rfl (fun v' M1 o1 => ?_)
      obtain ⟨Z1, hZ1, oZ1⟩ := o1.permE
      obtain ⟨b1, d1, rfl, _, _⟩ := o1.form
      refine HL.perm ?_ (hZ1.trans (app_swap Z1 [_, _, _, _, _, _, _] K))
      refine HL.drop (HL.drop (HL.drop ?_))
      repeat (first | refine go_ ?_ | refine bx_ (fun _ => ?_))
      refine ⟨z - 1, by omega, _, Imp.refl _, k + 1, _, Z1, by omega, ⟨rfl, rfl, rfl, rfl, rfl, rfl, rfl, rfl, ?_, rfl, rfl, rfl, rfl, trivial⟩, rfl, fun F => by rw [htk]; exact oZ1 F⟩
      rw [hal1]; rfl
  · obtain rfl : k = len := by omega
    have htk : l.take k = l := List.take_of_length_le (by omega)
    have hA : al k = okT l q r := by rw [hal, okT, hok, Bool.true_and, turnL]; simp only [htk]
    rw [htk] at oZ
    rw [hA]
    cases hT : okT l q r with
    | false =>
      rw [show resT l q r = [] by rw [resT, hT]; rfl, show errV false = 31 from rfl]
      repeat (first | refine go_ ?_ | refine bx_ (fun _ => ?_))
      exact fin1B rfl rfl rfl
    | true =>
    have hR : resT l q r = turnL l q r := by rw [resT, hT]; rfl
    have hlen : (turnL l q r).length = k := by rw [turnL, List.length_map, e1]
    rw [hR, hlen] at rT
    rw [hR, hlen, show errV true = 0 from rfl]
    have rZ : PtR w0 B (Z ++ K) va k (turnL l q r) := ptR_own (oZ K) hlen
    obtain ⟨_, okt, _, _⟩ := okT_iff hT
    have hbd := areaI_bd okt
    have hbd0 := areaI_bd hs
    have hmul : areaI l * (q.x * q.x + q.y * q.y) = areaI (turnL l q r) := by rw [area_turn, Int.mul_comm]
    obtain ⟨⟨⟨y1, y2⟩, y3⟩, y4⟩ := hq
    have m1 := mul_bd2 (a := q.x) (b := q.x) (M := 1048576) (N := 1048576) (by omega) (by omega)
    have m2 := mul_bd2 (a := q.y) (b := q.y) (M := 1048576) (N := 1048576) (by omega) (by omega)
    repeat (first | refine go_ ?_ | refine bx_ (fun _ => ?_))
    refine hc_loopd (fun z fr M => ∃ i, i + z = k ∧ Agr fr [(0, .slice a k cap), (4, .pointer (some ⟨g4, 0, none⟩)), (5, .pointer (some ⟨g5, 0, none⟩)), (10, .slice s3 k c3), (13, .slice va k vc), (96, .slice s3 k c3), (97, .int .i64 (k : Int)), (98, .int .i64 (i : Int))] ∧ M = ⟨g9, 31, [.int .i64 r.x, .int .i64 r.y], 2⟩ :: ⟨g8, 31, [.int .i64 q.x, .int .i64 q.y], 2⟩ :: ⟨g5, 34, [.int .i64 r.x, .int .i64 r.y], 2⟩ :: ⟨g4, 34, [.int .i64 q.x, .int .i64 q.y], 2⟩ :: (Z ++ K)) k ?_ ?_
    · exact ⟨0, by omega, ⟨rfl, rfl, rfl, rfl, rfl, rfl, rfl, rfl, trivial⟩, rfl⟩
    rintro z fr M ⟨i, hi, hf, rfl⟩
    obtain ⟨base, rfl⟩ := hf.out
    by_cases hlt : i < k
    · obtain ⟨c1, c2, rfl⟩ := rT.pos (by omega)
      obtain ⟨c4, c5, rfl⟩ := rZ.pos (by omega)
      have hpart := rT.at' hlt
      obtain ⟨X1, Y1⟩ := cell_pt (l := turnL l q r) (i := i) (by omega)
      obtain ⟨t, ht⟩ : ∃ t, t = nth (turnL l q r) i := ⟨_, rfl⟩
      rw [← ht] at hpart X1 Y1
      repeat (first | refine go_ ?_ | refine bx_ (fun _ => ?_))
      refine hl_loadRN (E := K) rfl rT.rd (Imp.drop (Imp.drop (Imp.drop (Imp.drop (Imp.tail Z K))))) hpart rfl rfl ?_
      repeat (first | refine go_ ?_ | refine bx_ (fun _ => ?_))
      (refine hc_draw (by kernel_rfl) (by kernel_rfl) ?_; repeat (first | refine gd_ ?_ | refine hl_loadF (off := c5) (j := i * 2) rfl rZ.rd (Imp.drop (Imp.drop (Imp.drop (Imp.drop (Imp.drop (Imp.refl _)))))) X1 rfl ?_ | refine hl_loadF1 (off := c5) (j := i * 2) rfl rZ.rd (Imp.drop (Imp.drop (Imp.drop (Imp.drop (Imp.drop (Imp.refl _)))))) Y1 rfl ?_))
      repeat (first | refine go_ ?_ | refine bx_ (fun _ => ?_))
      exact ⟨z - 1, by omega, _, Imp.drop (Imp.refl _), i + 1, by omega, ⟨rfl, rfl, rfl, rfl, rfl, rfl, rfl, rfl, trivial⟩, rfl⟩
    · obtain rfl : i = k := by omega
      have A1 := fun E => area_fn (w0 := w0) (B := B) (H := E) (cap := cap) (R E) (by omega)
      have A2 := fun E (hE : Imp E K) => area_fn (H := E) (cap := c3) (rT.imp hE) (by omega)
      simp only [hs, if_pos, show errV true = 0 from rfl] at A1
      simp only [okt, if_pos, show errV true = 0 from rfl] at A2
      repeat (first | rw [hmul] | refine go1_ ?_ | refine bx_ (fun _ => ?_) | refine hl_callv rfl rfl (A1 _) ?_ | refine hl_callv rfl rfl (A2 _ (Imp.drop (Imp.drop (Imp.drop (Imp.drop (Imp.tail Z K)))))) ?_)
      exact fin1B rfl rfl (by simp)
theorem walk (a : Option Addr) (len cap : Nat) (l : List Pt) (q r : Pt) (w : World) (hl : SlS 2 ptV w a len cap l) (_ : ∀ x ∈ l, x.wf) (_ : q.wf) (_ : r.wf) :
    Calls Try.prog 4 #[.slice a len cap, .agg #[.int .i64 q.x, .int .i64 q.y], .agg #[.int .i64 r.x, .int .i64 r.y]] w fun e w' => e = .returned (.bool true) ∧ Below w.heap.size w w' :=
  calls_of_fn (law (Nat.le_refl _) hl q r) fun _ _ h => h

/-! The step to the statement (written by program). -/
open Go.ChangeShapes Go.WideShapes Go.ChangeAt
set_option maxRecDepth 100000 in
theorem lifted (os : Os) (started : os.Started) (H : Type) (enc : TypeId × Value → H) :
    ReturnsInHanded {} Try.checked os 4 .any (Rows.lassoTurnsSpec.pre6 enc Try.prog Try.f4 Rows.lassoTurnsRow.domain false) (Rows.lassoTurnsSpec.post enc Try.prog Try.f4 false true false false) := by
  refine returnsInHanded_of_change (C := Try.checked) own started (by kernel_rfl) Try.func4
    (ChangeSpec.witness6 (enc := enc) (C := Try.checked) false ⟨#[], #[.slice none 0 0, .agg #[.int .i64 0, .int .i64 0], .agg #[.int .i64 0, .int .i64 0]], []⟩ 8 (by kernel_rfl) (by kernel_rfl) (by kernel_rfl) (by kernel_rfl)) ?_
  intro W base args ds gs before hval0 hW hcnd _
  have hval : ∀ (j : Nat) t v, Try.f4.params[j]? = some t → args[j]? = some v → Value.okWide Try.prog W .any base t v := hval0
  have hW' := hW
  obtain ⟨p, q, hA0, hV, rfl, hfz, hnd⟩ := hW
  have hA : DataW.TrodAll enc Try.prog W 0 (fun _ => true) true Try.f4.params.toList args.toList ds p := hA0
  rw [Try.params4] at hA hval
  obtain ⟨v0, vs0, d0, ds0, p0, q0, hargs, rfl, rfl, h0, r0⟩ := trodAll_cons hA
  obtain ⟨v1, vs1, d1, ds1, p1, q1, rfl, rfl, rfl, h1, r1⟩ := trodAll_cons r0
  obtain ⟨v2, vs2, d2, ds2, p2, q2, rfl, rfl, rfl, h2, r2⟩ := trodAll_cons r1
  obtain ⟨rfl, rfl, rfl⟩ := trodAll_nil r2
  obtain rfl : args = #[v0, v1, v2] := by cases args; simp_all
  obtain ⟨rfl, rfl⟩ := trodVars_none hV
  have k0 := h0
  have lt0 : ∀ x ∈ p0, x.block < W.heap.size := by obtain ⟨m, hm⟩ := k0; exact DataW.trod_lt m _ _ _ hm
  obtain ⟨a0, len0, cap0, e0⟩ := okWide_slice Try.underlying22 (hval 0 22 v0 rfl rfl)
  obtain ⟨l0, w0, b0⟩ := open_pts e0 k0
  subst e0
  have k1 := h1
  have lt1 : ∀ x ∈ p1, x.block < W.heap.size := by obtain ⟨m, hm⟩ := k1; exact DataW.trod_lt m _ _ _ hm
  obtain ⟨a1, rfl, w1⟩ := open_pt (hval 1 34 v1 rfl rfl) k1
  have k2 := h2
  have lt2 : ∀ x ∈ p2, x.block < W.heap.size := by obtain ⟨m, hm⟩ := k2; exact DataW.trod_lt m _ _ _ hm
  obtain ⟨a2, rfl, w2⟩ := open_pt (hval 2 34 v2 rfl rfl) k2
  clear hA0 hval0
  refine (walk a0 len0 cap0 l0 a1 a2 W w0 b0 w1 w2).mono fun e W' ⟨he, bel⟩ => ?_
  subst he
  exact ⟨_, rfl, _, _, _, [], _, [], hW', trodAll_mk1 (shut_bool Try.underlying4 _), (trodAll_cons_mk (Below.trod laidOut (by kernel_rfl) (of_decide_eq_true (by kernel_rfl)) k0 bel lt0) (trodAll_cons_mk (Below.trod laidOut (by kernel_rfl) (of_decide_eq_true (by kernel_rfl)) k1 bel lt1) (trodAll_cons_mk (Below.trod laidOut (by kernel_rfl) (of_decide_eq_true (by kernel_rfl)) k2 bel lt2) trodAll_mk0))), rfl, bel.frame _, fun h => by cases h⟩

theorem over : Rows.lassoTurnsRow.holds Try.pinned (OpenSpec.ofChange Rows.lassoTurnsSpec) :=
  OpenClaim.holds_of_wide 4 Try.f4 rfl rfl rfl rfl rfl rfl rfl ⟨rfl, rfl, rfl, rfl, rfl⟩ rfl rfl rfl rfl rfl (by kernel_rfl) Try.func4 (by kernel_rfl)
    (of_decide_eq_true (by kernel_rfl)) (by unfold Func.isWrapper; first | (rw [if_pos (by decide +kernel)]; kernel_rfl) | (rw [if_neg (by decide +kernel)]; exact ⟨rfl, rfl⟩))
    (fun os started H enc _ => lifted os started H enc)

/-- The statement. -/
theorem proved : Rows.LassoTurnsSaid := over
#print axioms proved
end Go.Proofs.Ytdofcjmnnmmecaa.lassoTurns
