/-
  Lasso: the reference's list and product, the turn. No condition.
-/
import Derived.Test.YtdofcjmnnmmecaaK6
namespace Go.Proofs.Ytdofcjmnnmmecaa
open Go.RowKit
def turnP (q r p : Pt) : Pt := ⟨p.x * q.x - p.y * q.y + r.x, p.x * q.y + p.y * q.x + r.y⟩
theorem take_pts {l : List Pt} {k : Nat} (h : k < l.length) (f : Pt → Pt) : ((l.take (k + 1)).map f).flatMap ptV = ((l.take k).map f).flatMap ptV ++ ptV (f (nth l k)) := by
  have : l.take (k + 1) = l.take k ++ [l[k]] := by rw [List.take_add_one, List.getElem?_eq_getElem h]; rfl
  rw [this, nth_eq h, List.map_append, List.flatMap_append]
  simp
theorem turn_rp {p q r : Pt} (hp : p.right) (hq : q.right) (hr : r.right) : CMul (fi p.x) (fi p.y) (fi q.x) (fi q.y) ∧ FAdd (cmr (fi p.x) (fi p.y) (fi q.x) (fi q.y)) (fi r.x) ∧ FAdd (cmi (fi p.x) (fi p.y) (fi q.x) (fi q.y)) (fi r.y) ∧
    Rp (fadd (cmr (fi p.x) (fi p.y) (fi q.x) (fi q.y)) (fi r.x)) (turnP q r p).x ∧ Rp (fadd (cmi (fi p.x) (fi p.y) (fi q.x) (fi q.y)) (fi r.y)) (turnP q r p).y ∧ (turnP q r p).wf := by
  obtain ⟨a1, a2⟩ := rp_pt hp
  obtain ⟨b1, b2⟩ := rp_pt hq
  obtain ⟨c1, c2⟩ := rp_pt hr
  obtain ⟨⟨⟨h1, h2⟩, h3⟩, h4⟩ := hp
  obtain ⟨⟨⟨h5, h6⟩, h7⟩, h8⟩ := hq
  obtain ⟨⟨⟨h9, h10⟩, h11⟩, h12⟩ := hr
  have m1 := mul_bd2 (a := p.x) (b := q.x) (M := 1048576) (N := 1048576) (by omega) (by omega)
  have m2 := mul_bd2 (a := p.y) (b := q.y) (M := 1048576) (N := 1048576) (by omega) (by omega)
  have m3 := mul_bd2 (a := p.x) (b := q.y) (M := 1048576) (N := 1048576) (by omega) (by omega)
  have m4 := mul_bd2 (a := p.y) (b := q.x) (M := 1048576) (N := 1048576) (by omega) (by omega)
  obtain ⟨d1, d2, d3⟩ := rp_cmul a1 a2 b1 b2 (sm_of (by omega) (by omega)) (sm_of (by omega) (by omega)) (sm_of (by omega) (by omega)) (sm_of (by omega) (by omega)) (sm_of (by omega) (by omega)) (sm_of (by omega) (by omega))
  obtain ⟨e1, e2⟩ := rp_add d2 c1 (sm_of (by omega) (by omega))
  obtain ⟨f1, f2⟩ := rp_add d3 c2 (sm_of (by omega) (by omega))
  refine ⟨d1, e1, f1, e2, f2, ?_⟩
  simp only [turnP, Pt.wf]
  omega

set_option maxHeartbeats 8000000
set_option maxRecDepth 100000
theorem plain_fn {w0 : World} {B : Nat} {H : List Ent} {a : Option Addr} {len cap : Nat} {l : List Pt} (hl : PtR w0 B H a len l) (h5 : len ≤ 100000) :
    Fn Try.prog w0 B 13 [.slice a len cap] H (fun v H' => Own 31 2 v len (l.flatMap ptV) H H') := by
  refine fn_intro Try.func13 rfl (by kernel_rfl) rfl ?_
  have e1 := hl.eq
  repeat (first | refine go_ ?_ | refine bx_ (fun _ => ?_))
  refine hc_loopd (fun q fr M => ∃ k sv, k + q = len ∧ Agr fr [(0, .slice a len cap), (3, sv), (6, .slice a len cap), (7, .int .i64 (len : Int)), (8, .int .i64 (k : Int))] ∧ Own 31 2 sv k (((l.take k).map id).flatMap ptV) H M) len ?_ ?_
  · exact ⟨0, .slice none 0 0, by omega, ⟨rfl, rfl, rfl, rfl, rfl, trivial⟩, by simpa using Own.nil⟩
  rintro q fr M ⟨k, sv, hk, hf, o⟩
  obtain ⟨base, rfl⟩ := hf.out
  obtain ⟨sa, sc, rfl, _, _⟩ := o.form
  by_cases hlt : k < len
  · obtain ⟨bb, off, rfl⟩ := hl.pos (by omega)
    have hpart := hl.at' hlt
    obtain ⟨p, hp⟩ : ∃ p, p = nth l k := ⟨_, rfl⟩
    have htk := take_pts (l := l) (k := k) (by omega) id
    rw [← hp] at hpart htk
    repeat (first | refine go_ ?_ | refine bx_ (fun _ => ?_))
    refine hl_loadRN (E := H) rfl hl.rd o.imp hpart rfl rfl ?_
    repeat (first | refine go_ ?_ | refine bx_ (fun _ => ?_))
    refine hl_append_own1 rfl rfl ((o.under _).under _) (Rds.ent (n := 2) .here rfl (by simp [Value.oneCell'])) rfl rfl (by decide) (by decide) (by omega) (by omega) rfl (fun gb cap' h1 h2 => ?_)
    repeat (first | refine go_ ?_ | refine bx_ (fun _ => ?_))
    refine ⟨q - 1, by omega, (⟨gb, 31, _, cap' * 2⟩ :: H), Imp.drop2 (Imp.drop2 (Imp.refl _)), k + 1, .slice (some ⟨gb, 0, none⟩) (k + 1) cap', by omega, ⟨rfl, rfl, rfl, rfl, rfl, trivial⟩, ?_⟩
    rw [htk]
    exact Own.mk h1 h2 (by rw [List.length_append, length_pts, List.length_map, List.length_take]; simp; omega) (List.Perm.refl _)
  · obtain rfl : k = len := by omega
    repeat (first | refine go_ ?_ | refine bx_ (fun _ => ?_))
    exact fin1S rfl rfl (by rw [List.take_of_length_le (by omega), List.map_id] at o; exact o)
theorem times_fn {w0 : World} {B : Nat} {H : List Ent} {p q r : Pt} (hp : p.right) (hq : q.right) (hr : r.right) :
    Fn Try.prog w0 B 18 [.agg #[.int .i64 p.x, .int .i64 p.y], .agg #[.int .i64 q.x, .int .i64 q.y], .agg #[.int .i64 r.x, .int .i64 r.y]] H (fun v H' => v = .agg (ptV (turnP q r p)).toArray ∧ H' = H) := by
  refine fn_intro Try.func18 rfl (by kernel_rfl) rfl ?_
  obtain ⟨⟨⟨h1, h2⟩, h3⟩, h4⟩ := hp
  obtain ⟨⟨⟨h5, h6⟩, h7⟩, h8⟩ := hq
  obtain ⟨⟨⟨h9, h10⟩, h11⟩, h12⟩ := hr
  have m1 := mul_bd2 (a := p.x) (b := q.x) (M := 1048576) (N := 1048576) (by omega) (by omega)
  have m2 := mul_bd2 (a := p.y) (b := q.y) (M := 1048576) (N := 1048576) (by omega) (by omega)
  have m3 := mul_bd2 (a := p.x) (b := q.y) (M := 1048576) (N := 1048576) (by omega) (by omega)
  have m4 := mul_bd2 (a := p.y) (b := q.x) (M := 1048576) (N := 1048576) (by omega) (by omega)
  repeat (first | refine go_ ?_ | refine bx_ (fun _ => ?_))
  exact finC rfl rfl .here rfl ⟨rfl, rfl⟩
theorem lrightT {w0 : World} {B : Nat} {H : List Ent} {p : Pt} (h : p.right) : Fn Try.prog w0 B 28 [.agg #[.int .i64 p.x, .int .i64 p.y]] H (fun v H' => v = .bool true ∧ H' = H) := by
  have := lright_fn (w0 := w0) (B := B) (H := H) p
  rwa [decide_eq_true h] at this
theorem lrightF {w0 : World} {B : Nat} {H : List Ent} {p : Pt} (h : ¬ p.right) : Fn Try.prog w0 B 28 [.agg #[.int .i64 p.x, .int .i64 p.y]] H (fun v H' => v = .bool false ∧ H' = H) := by
  have := lright_fn (w0 := w0) (B := B) (H := H) p
  rwa [decide_eq_false h] at this
/-- What the turn hands back. -/
def turnL (l : List Pt) (q r : Pt) : List Pt := l.map (turnP q r)
def okT (l : List Pt) (q r : Pt) : Bool := okS l [q, r] && (turnL l q r).all (fun p => decide p.right)
def resT (l : List Pt) (q r : Pt) : List Pt := if okT l q r then turnL l q r else []
theorem turn_fn {w0 : World} {B : Nat} {H : List Ent} {a : Option Addr} {len cap : Nat} {l : List Pt} (q r : Pt) (hl : PtR w0 B H a len l) (h5 : len ≤ 9223372036854775806) :
    Fn Try.prog w0 B 17 [.slice a len cap, .agg #[.int .i64 q.x, .int .i64 q.y], .agg #[.int .i64 r.x, .int .i64 r.y]] H
      (fun v H' => ∃ sv, v = .tuple #[sv, .int .i64 (errV (okT l q r))] ∧ Own 34 2 sv (resT l q r).length ((resT l q r).flatMap ptV) H H') := by
  refine fn_intro Try.func17 rfl (by kernel_rfl) rfl ?_
  have e1 := hl.eq
  repeat (first | refine go_ ?_ | refine bx_ (fun _ => ?_))
  rename_i g4 g5 g
  refine hl_callv rfl rfl (check_fn (hl.imp (Imp.drop (Imp.drop (Imp.drop (Imp.refl _))))) (m := [q, r]) ⟨rfl, fun _ => ⟨_, _, rfl⟩, Rds.ent (n := 4) .here rfl (by simp [Value.oneCell'])⟩ h5 (by decide)) ?_
  cases hok : okS l [q, r] with
  | false =>
    rw [show errV false = 31 from rfl]
    have hT : okT l q r = false := by rw [okT, hok]; rfl
    have hR : resT l q r = [] := by rw [resT, hT]; rfl
    rw [hT, hR]
    repeat (first | refine go_ ?_ | refine bx_ (fun _ => ?_))
    exact fin2SI rfl rfl rfl ⟨_, rfl, Own.nil⟩
  | true =>
  obtain ⟨hr, hr2, h3, h256⟩ := okS_right hok
  have rq := hr2 q (by simp)
  have rr := hr2 r (by simp)
  rw [show errV true = 0 from rfl]
  obtain ⟨bb, off, rfl⟩ := hl.pos (by omega)
  repeat (first | refine go_ ?_ | refine bx_ (fun _ => ?_))
  refine HC.drop ?_
  refine hc_loopd (fun z fr M => ∃ k sv, k + z = len ∧ (∀ i (hi : i < l.length), i < k → (turnP q r l[i]).right) ∧ Agr fr [(0, .slice (some ⟨bb, off, none⟩) len cap), (4, .pointer (some ⟨g4, 0, none⟩)), (5, .pointer (some ⟨g5, 0, none⟩)), (9, sv), (21, .slice (some ⟨bb, off, none⟩) len cap), (22, .int .i64 (len : Int)), (23, .int .i64 (k : Int))]
    ∧ Own 34 2 sv k (((l.take k).map (turnP q r)).flatMap ptV) (⟨g5, 34, [.int .i64 r.x, .int .i64 r.y], 2⟩ :: ⟨g4, 34, [.int .i64 q.x, .int .i64 q.y], 2⟩ :: H) M) len ?_ ?_
  · exact ⟨0, .slice none 0 0, by omega, fun i _ h => absurd h (by omega), ⟨rfl, rfl, rfl, rfl, rfl, rfl, rfl, trivial⟩, by simpa using Own.nil⟩
  rintro z fr M ⟨k, sv, hk, hall, hf, o⟩
  obtain ⟨base, rfl⟩ := hf.out
  obtain ⟨sa, sc, rfl, _, _⟩ := o.form
  by_cases hlt : k < len
  · have hpart := hl.at' hlt
    have rp := hr _ (nth_mem (l := l) (i := k) (by omega))
    have htk := take_pts (l := l) (k := k) (by omega) (turnP q r)
    have hkl : k < l.length := by omega
    have hnk : l[k] = nth l k := (nth_eq hkl).symm
    obtain ⟨p, hp⟩ : ∃ p, p = nth l k := ⟨_, rfl⟩
    rw [← hp] at hpart htk rp hnk
    obtain ⟨c1, c2, c3, c4, c5, c6⟩ := turn_rp rp rq rr
    obtain ⟨X, hX, o'⟩ := o.permE
    refine HC.perm ?_ ((hX.trans List.perm_middle).trans (List.Perm.cons _ List.perm_middle))
    repeat (first | refine go_ ?_ | refine bx_ (fun _ => ?_))
    refine hl_loadRN (E := H) rfl hl.rd (Imp.drop (Imp.drop (Imp.tail X H))) hpart rfl rfl ?_
    repeat (first | refine go_ ?_ | refine bx_ (fun _ => ?_))
    rename_i g11
    refine hc_meet (fun fr M => ∃ g12, Agr fr [(0, .slice (some ⟨bb, off, none⟩) len cap), (4, .pointer (some ⟨g4, 0, none⟩)), (5, .pointer (some ⟨g5, 0, none⟩)), (9, .slice sa k sc), (12, .pointer (some ⟨g12, 0, none⟩)), (21, .slice (some ⟨bb, off, none⟩) len cap), (22, .int .i64 (len : Int)), (23, .int .i64 (k : Int))]
      ∧ M = ⟨g12, 34, [.int .i64 (turnP q r p).x, .int .i64 (turnP q r p).y], 2⟩ :: ⟨g11, 34, [.int .i64 p.x, .int .i64 p.y], 2⟩ :: ⟨g5, 34, [.int .i64 r.x, .int .i64 r.y], 2⟩ :: ⟨g4, 34, [.int .i64 q.x, .int .i64 q.y], 2⟩ :: (X ++ H)) ?_ ?_
    · refine hc_drawA (⟨g11, 34, [.int .i64 p.x, .int .i64 p.y], 2⟩ :: ⟨g5, 34, [.int .i64 r.x, .int .i64 r.y], 2⟩ :: ⟨g4, 34, [.int .i64 q.x, .int .i64 q.y], 2⟩ :: (X ++ H)) (by kernel_rfl) ?_
      refine ha_quiet [0, 1, 2, 3, 4, 5, 6, 7, 8] (by rfl) (by kernel_rfl) ?_
      repeat (first | refine gd_ ?_ | refine hq_call rfl rfl (fun H _ => number_fn p) ?_ | refine hq_call rfl rfl (fun H _ => number_fn q) ?_ | refine hq_call rfl rfl (fun H _ => number_fn r) ?_ | refine hq_call rfl rfl (fun H _ => point_fn (p := turnP q r p) c4 c5 c6) ?_ | refine hl_moveX rfl rfl ?_ | refine hl_moveZ rfl rfl ?_ | refine hl_assignX rfl rfl ?_ | refine hl_assignZ rfl rfl ?_ | refine hl_toFlt rfl rfl ?_ | refine hl_complex rfl rfl rfl ?_ | refine hl_real rfl rfl ?_ | refine hl_imag rfl rfl ?_ | refine hl_fneg rfl rfl ?_ | refine hl_ofFlt rfl (by assumption) (by omega) (by omega) rfl ?_ | refine hl_fadd rfl rfl (by assumption) rfl ?_ | refine hl_cadd rfl rfl (by assumption) (by assumption) rfl ?_ | refine hl_csub rfl rfl (by assumption) (by assumption) rfl ?_ | refine hl_cmul rfl rfl (by assumption) rfl ?_ | refine hl_fgtrT rfl rfl (by assumption) (by assumption) (by omega) rfl ?_ | refine hl_fgtrF rfl rfl (by assumption) (by assumption) (by omega) rfl ?_)
      refine ha_fork1 9 (by rfl) (by kernel_rfl) (by rfl) (by first | exact Imp.refl _ | exact Imp.drop (Imp.refl _) | exact Imp.drop (Imp.drop (Imp.refl _)) | exact Imp.drop (Imp.drop (Imp.drop (Imp.refl _))) | exact Imp.drop (Imp.drop (Imp.drop (Imp.drop (Imp.refl _)))) | exact Imp.drop (Imp.drop (Imp.drop (Imp.drop (Imp.drop (Imp.refl _))))) | exact Imp.drop (Imp.drop (Imp.drop (Imp.drop (Imp.drop (Imp.drop (Imp.refl _)))))) | exact Imp.drop (Imp.drop (Imp.drop (Imp.drop (Imp.drop (Imp.drop (Imp.drop (Imp.refl _))))))) | exact Imp.drop (Imp.drop (Imp.drop (Imp.drop (Imp.drop (Imp.drop (Imp.drop (Imp.drop (Imp.refl _)))))))) | assumption | exact Imp.drop2 (Imp.refl _) | exact Imp.drop2 (Imp.drop2 (Imp.refl _)) | exact Imp.drop (Imp.drop2 (Imp.refl _))) ?_
      · skip
        repeat (first | refine op_ ?_ | refine bx_ (fun _ => ?_))
        refine ha_fork1 10 (by rfl) (by kernel_rfl) (by rfl) (by first | exact Imp.refl _ | exact Imp.drop (Imp.refl _) | exact Imp.drop (Imp.drop (Imp.refl _)) | exact Imp.drop (Imp.drop (Imp.drop (Imp.refl _))) | exact Imp.drop (Imp.drop (Imp.drop (Imp.drop (Imp.refl _)))) | exact Imp.drop (Imp.drop (Imp.drop (Imp.drop (Imp.drop (Imp.refl _))))) | exact Imp.drop (Imp.drop (Imp.drop (Imp.drop (Imp.drop (Imp.drop (Imp.refl _)))))) | exact Imp.drop (Imp.drop (Imp.drop (Imp.drop (Imp.drop (Imp.drop (Imp.drop (Imp.refl _))))))) | exact Imp.drop (Imp.drop (Imp.drop (Imp.drop (Imp.drop (Imp.drop (Imp.drop (Imp.drop (Imp.refl _)))))))) | assumption | exact Imp.drop2 (Imp.refl _) | exact Imp.drop2 (Imp.drop2 (Imp.refl _)) | exact Imp.drop (Imp.drop2 (Imp.refl _))) ?_
        · skip
          repeat (first | refine op_ ?_ | refine bx_ (fun _ => ?_))
          refine ha_end (by rfl) (by kernel_rfl) (by first | exact Imp.refl _ | exact Imp.drop (Imp.refl _) | exact Imp.drop (Imp.drop (Imp.refl _)) | exact Imp.drop (Imp.drop (Imp.drop (Imp.refl _))) | exact Imp.drop (Imp.drop (Imp.drop (Imp.drop (Imp.refl _)))) | exact Imp.drop (Imp.drop (Imp.drop (Imp.drop (Imp.drop (Imp.refl _))))) | exact Imp.drop (Imp.drop (Imp.drop (Imp.drop (Imp.drop (Imp.drop (Imp.refl _)))))) | exact Imp.drop (Imp.drop (Imp.drop (Imp.drop (Imp.drop (Imp.drop (Imp.drop (Imp.refl _))))))) | exact Imp.drop (Imp.drop (Imp.drop (Imp.drop (Imp.drop (Imp.drop (Imp.drop (Imp.drop (Imp.refl _)))))))) | assumption | exact Imp.drop2 (Imp.refl _) | exact Imp.drop2 (Imp.drop2 (Imp.refl _)) | exact Imp.drop (Imp.drop2 (Imp.refl _))) ?_
          exact ⟨_, ⟨rfl, rfl, rfl, rfl, rfl, rfl, rfl, rfl, trivial⟩, rfl⟩
    rintro fr M ⟨g12, hf, rfl⟩
    obtain ⟨base, rfl⟩ := hf.out
    clear hf
    obtain ⟨t, ht⟩ : ∃ t, t = turnP q r p := ⟨_, rfl⟩
    rw [← ht] at htk ⊢
    by_cases hrt : t.right
    · repeat (first | refine go_ ?_ | refine bx_ (fun _ => ?_) | refine hl_callv rfl rfl (lrightT hrt) ?_)
      refine hl_append_own1 rfl rfl ((((((o' H).under _).under _).under _).under _).under _) (Rds.ent (n := 2) .here rfl (by simp [Value.oneCell'])) rfl rfl (by decide) (by decide) (by omega) (by omega) rfl (fun gb cap' h1 h2 => ?_)
      repeat (first | refine go_ ?_ | refine bx_ (fun _ => ?_))
      refine ⟨z - 1, by omega, (⟨gb, 34, _, cap' * 2⟩ :: ⟨g5, 34, [.int .i64 r.x, .int .i64 r.y], 2⟩ :: ⟨g4, 34, [.int .i64 q.x, .int .i64 q.y], 2⟩ :: H), Imp.drop2 (Imp.drop2 (Imp.drop2 (Imp.refl _))), k + 1, .slice (some ⟨gb, 0, none⟩) (k + 1) cap', by omega, ?_, ⟨rfl, rfl, rfl, rfl, rfl, rfl, rfl, trivial⟩, ?_⟩
      · intro i hi2 h9
        by_cases h8 : i < k
        · exact hall i hi2 h8
        · obtain rfl : i = k := by omega
          rw [hnk, ← ht]; exact hrt
      rw [htk]
      exact Own.mk h1 h2 (by rw [List.length_append, length_pts, List.length_map, List.length_take]; simp; omega) (List.Perm.refl _)
    · have hT : okT l q r = false := by
        have : (turnL l q r).all (fun p => decide p.right) = false := by
          rw [List.all_eq_false]
          exact ⟨t, List.mem_map.2 ⟨p, by rw [hp]; exact nth_mem hkl, ht.symm⟩, by simpa using hrt⟩
        rw [okT, this]; simp
      have hR : resT l q r = [] := by rw [resT, hT]; rfl
      rw [hT, hR]
      repeat (first | refine go_ ?_ | refine bx_ (fun _ => ?_) | refine hl_callv rfl rfl (lrightF hrt) ?_)
      exact fin2SI rfl rfl rfl ⟨_, rfl, Own.nil⟩ (Imp.drop (Imp.drop (Imp.drop (Imp.drop (Imp.tail X H)))))
  · obtain rfl : k = len := by omega
    have hT : okT l q r = true := by
      rw [okT, hok, Bool.true_and, List.all_eq_true]
      intro p hp
      obtain ⟨p', hp', rfl⟩ := List.mem_map.1 hp
      obtain ⟨i, hi, rfl⟩ := List.getElem_of_mem hp'
      exact decide_eq_true (hall i hi (by omega))
    have hR : resT l q r = turnL l q r := by rw [resT, hT]; rfl
    have hlen : (turnL l q r).length = k := by rw [turnL, List.length_map, e1]
    rw [List.take_of_length_le (by omega)] at o
    obtain ⟨X, hX, o'⟩ := o.permE
    refine HC.perm ?_ ((hX.trans List.perm_middle).trans (List.Perm.cons _ List.perm_middle))
    rw [hT, hR, hlen]
    repeat (first | refine go_ ?_ | refine bx_ (fun _ => ?_))
    exact fin2SI rfl rfl rfl ⟨_, rfl, o' H⟩
end Go.Proofs.Ytdofcjmnnmmecaa
