/-
  Lists of bytes compared; the anchor; what is scanned of records. No condition.
-/
import Derived.Test.YtpeegklnkecajaaC6
namespace Go.Proofs.Ytpeegklnkecajaa
open Go.RowKit
section
variable {w0 : World} {B : Nat} {H : List Ent}
set_option maxHeartbeats 8000000
set_option maxRecDepth 100000
theorem psame_fn {a a2 : Option Addr} {n n2 c c2 : Nat} {ps qs : List Part} (hl : PartsR w0 B H a n ps) (hm : PartsR w0 B H a2 n2 qs) (hs : n ≤ 9223372036854775806) (hz : ∀ p ∈ ps, p.len ≤ 9223372036854775806) :
    Fn Try.prog w0 B 12 [.slice a n c, .slice a2 n2 c2] H (fun v H' => v = .bool (decide (ps.map Part.bs = qs.map Part.bs)) ∧ H' = H) := by
  have e1 := hl.eq
  have e2 := hm.eq
  refine fn_intro Try.func12 rfl (by kernel_rfl) rfl ?_
  by_cases hne : n = n2
  rotate_left
  · repeat (first | refine go_ ?_ | refine bx_ (fun _ => ?_))
    refine fin1B rfl rfl ⟨?_, rfl⟩
    rw [decide_eq_false]
    intro h
    have := congrArg List.length h
    rw [List.length_map, List.length_map] at this
    omega
  subst hne
  repeat (first | refine go_ ?_ | refine bx_ (fun _ => ?_))
  refine hc_loopd (fun q fr M => ∃ k, k + q = n ∧ (∀ i (h1 : i < ps.length) (h2 : i < qs.length), i < k → ps[i].bs = qs[i].bs) ∧ Agr fr [(1, .slice a2 n c2), (12, .slice a n c), (13, .int .i64 (n : Int)), (14, .int .i64 (k : Int))] ∧ M = H) n ?_ ?_
  · exact ⟨0, by omega, fun i _ _ h => absurd h (by omega), ⟨rfl, rfl, rfl, rfl, trivial⟩, rfl⟩
  rintro q fr M ⟨k, hk, hall, hf, rfl⟩
  obtain ⟨base, rfl⟩ := hf.out
  clear hf
  by_cases hlt : k < n
  · obtain ⟨b1, o1, rfl⟩ := hl.pos (by omega)
    obtain ⟨b2, o2, rfl⟩ := hm.pos (by omega)
    obtain ⟨p, hkp, hpe, cp, hp⟩ := hl.at hlt
    obtain ⟨p2, hkp2, hpe2, cp2, hp2⟩ := hm.at hlt
    have S := same_fn hp hp2 (hz p (by rw [hpe]; exact List.getElem_mem hkp))
    by_cases he : p.bs = p2.bs
    · rw [decide_eq_true he] at S
      repeat (first | refine hl_loadRd rfl hl.rd (Imp.refl _) cp rfl ?_ | refine hl_loadRd rfl hm.rd (Imp.refl _) cp2 rfl ?_ | refine go1_ ?_ | refine bx_ (fun _ => ?_) | refine hl_callv rfl rfl (S) ?_)
      refine ⟨q - 1, by omega, _, Imp.refl _, k + 1, by omega, fun i h1 h2 h3 => ?_, ⟨rfl, rfl, rfl, rfl, trivial⟩, rfl⟩
      by_cases h : i < k
      · exact hall i h1 h2 h
      · obtain rfl : i = k := by omega
        rw [← hpe, ← hpe2]; exact he
    · rw [decide_eq_false he] at S
      repeat (first | refine hl_loadRd rfl hl.rd (Imp.refl _) cp rfl ?_ | refine hl_loadRd rfl hm.rd (Imp.refl _) cp2 rfl ?_ | refine go1_ ?_ | refine bx_ (fun _ => ?_) | refine hl_callv rfl rfl (S) ?_)
      refine fin1B rfl rfl ⟨?_, rfl⟩
      rw [decide_eq_false]
      intro h
      have := congrArg (fun l => l[k]?) h
      simp only [List.getElem?_map, List.getElem?_eq_getElem hkp, List.getElem?_eq_getElem hkp2, Option.map_some, Option.some.injEq, ← hpe, ← hpe2] at this
      exact he this
  · obtain rfl : n = k := by omega
    have : ps.map Part.bs = qs.map Part.bs := List.ext_getElem (by simp; omega) fun i h1 h2 => by
      simp only [List.length_map] at h1 h2
      simp only [List.getElem_map]
      exact hall i h1 h2 (by omega)
    repeat (first | refine go_ ?_ | refine bx_ (fun _ => ?_))
    exact fin1B rfl rfl ⟨by rw [decide_eq_true this], rfl⟩
theorem rec_nil : recB [] = [0, 0, 0, 0, 33, 68, 223, 28] := by decide +kernel
theorem scan_ex : scan [0, 0, 0, 0, 33, 68, 223, 28, 9] = ([[]], 8) := by decide +kernel
theorem anchor_fn : Fn Try.prog w0 B 8 [] H (fun v H' => v = .bool true ∧ H' = H) := by
  refine fn_intro Try.func8 rfl (by kernel_rfl) rfl ?_
  repeat (first | refine go_ ?_ | refine bx_ (fun _ => ?_))
  refine hl_call rfl rfl (record_fn BytR.zero (by decide)) (fun v M o => ?_)
  obtain ⟨sv, rfl, o⟩ := o
  rw [rec_nil, Nat.zero_add] at o
  obtain ⟨g, c, rfl, hc1, hc2, _, hp⟩ := o.posn (by decide)
  refine HL.perm ?_ hp
  repeat (first | refine go_ ?_ | refine bx_ (fun _ => ?_))
  have r1 := fun (M : List Ent) (F : List Ent) (ht : Take M ⟨g, 5, List.map byteV [0, 0, 0, 0, 33, 68, 223, 28], c * 1⟩ F) => BytR.ent (w0 := w0) (B := B) (l := [0, 0, 0, 0, 33, 68, 223, 28]) (n := 8) (c := c) ht rfl rfl hc1 hc2
  refine hl_append rfl rfl .here rfl (r1 _ _ (.there .here)).rd rfl rfl (by decide) (by decide) (by decide) (by decide) rfl (fun g2 c2 h1 h2 => ?_)
  rw [List.nil_append, Nat.zero_add] at *
  repeat (first | refine go_ ?_ | refine bx_ (fun _ => ?_))
  rename_i gb
  refine hl_append rfl rfl (.there .here) rfl (Rds.ent (n := 1) (l := [.int .u8 9]) .here rfl (by simp [Value.oneCell'])) rfl rfl (by decide) (by omega) (by decide) (by decide) rfl (fun g3 c3 h3 h4 => ?_)
  rw [show List.map byteV [0, 0, 0, 0, 33, 68, 223, 28] ++ [Value.int .u8 9] = List.map byteV [0, 0, 0, 0, 33, 68, 223, 28, 9] from rfl, show 8 + 1 = 9 from rfl] at *
  refine hl_call rfl rfl (scan_fn (BytR.ent (l := [0, 0, 0, 0, 33, 68, 223, 28, 9]) (n := 9) (c := c3) .here rfl rfl h3 h4) (by decide)) (fun v M4 o4 => ?_)
  obtain ⟨sv, ps, Xo, Zc, rfl, rfl, hm, hpm⟩ := o4
  rw [scan_ex] at hm
  rw [scan_ex]
  obtain ⟨a5, c5, rfl, _, hr⟩ := hpm.read
  have hl1 : ps.length = 1 := by have := congrArg List.length hm; simpa using this
  rw [hl1]
  repeat (first | refine go_ ?_ | refine bx_ (fun _ => ?_))
  rename_i g8
  have R1 := (r1 _ H .here).imp (show Imp (⟨g8, 5, [.int .u8 0, .int .u8 0, .int .u8 0, .int .u8 0, .int .u8 33, .int .u8 68, .int .u8 223, .int .u8 28], 8 * 1⟩ :: (Xo ++ (Zc ++ ⟨g3, 5, List.map byteV [0, 0, 0, 0, 33, 68, 223, 28, 9], c3 * 1⟩ :: ⟨gb, 5, [.int .u8 9], 1 * 1⟩ :: ⟨g, 5, List.map byteV [0, 0, 0, 0, 33, 68, 223, 28], c * 1⟩ :: H))) _ from
    fun _ _ _ hw => (Imp.tail Zc _ _ _ _ (Imp.tail Xo _ _ _ _ hw.drop)).drop.drop)
  refine hl_callv rfl rfl (same_fn R1 (BytR.ent (l := [0, 0, 0, 0, 33, 68, 223, 28]) (n := 8) (c := 8) .here rfl rfl (by decide) (by decide)) (by decide)) ?_
  rw [decide_eq_true rfl]
  repeat (first | refine go_ ?_ | refine bx_ (fun _ => ?_))
  exact fin1B rfl rfl ⟨rfl, rfl⟩ (fun _ _ _ hw => (Imp.tail Zc _ _ _ _ (Imp.tail Xo _ _ _ _ hw.drop)).drop.drop.drop)
end
/-! What is scanned of records -/
theorem num4_app {l r : List UInt8} (h : 4 ≤ l.length) : num4 (l ++ r) = num4 l := by
  rw [← num4_take (l ++ r), List.take_append_of_le_length h, num4_take]
theorem be4_head {l r : List UInt8} {n : Nat} (hn : n < 4294967296) (h : l = be4 n ++ r) : num4 l = n := by
  rw [h, num4_be4 hn]
theorem step_rec {b pre p post : List UInt8} (hb : b = pre ++ (recB p ++ post)) (hp : p.length ≤ 8388608) : stepN b pre.length = some p.length ∧ payl b pre.length p.length = p := by
  have hd : b.drop pre.length = recB p ++ post := by rw [hb, List.drop_left]
  have hl : b.length = pre.length + (p.length + 8 + post.length) := by rw [hb, List.length_append, List.length_append, length_recB]
  have hn : num4 (b.drop pre.length) = p.length := by
    rw [hd]
    exact be4_head (by omega) (show recB p ++ post = be4 p.length ++ (p ++ be4 (crc (be4 p.length ++ p)).toNat ++ post) by unfold recB; simp)
  have hpl : payl b pre.length p.length = p := by
    unfold payl
    rw [← List.drop_drop, hd]
    have : (recB p ++ post).drop 4 = p ++ (be4 (crc (be4 p.length ++ p)).toNat ++ post) := by
      unfold recB
      rw [List.append_assoc, List.append_assoc, List.drop_append, length_be4, Nat.sub_self, List.drop_zero, List.drop_of_length_le (by rw [length_be4]; omega), List.nil_append]
    rw [this, List.take_left]
  refine ⟨?_, hpl⟩
  have hiff := rec_iff (b := b) (e := pre.length) hn.symm (by omega)
  rw [hpl] at hiff
  have : recB p = (b.drop pre.length).take (8 + p.length) := by
    rw [hd, List.take_append_of_le_length (by rw [length_recB]; omega), List.take_of_length_le (by rw [length_recB]; omega)]
  unfold stepN
  rw [if_neg (by omega), hn, if_neg (by omega), if_pos (hiff.1 this)]
def recs (ls : List (List UInt8)) : List UInt8 := ls.flatMap recB
theorem recs_cons (p : List UInt8) (ls : List (List UInt8)) : recs (p :: ls) = recB p ++ recs ls := by simp [recs]
theorem recs_append (a b : List (List UInt8)) : recs (a ++ b) = recs a ++ recs b := by simp [recs]
theorem scanP_recs : ∀ (ls : List (List UInt8)) (b pre post : List UInt8) (f : Nat), b = pre ++ (recs ls ++ post) → (∀ p ∈ ls, p.length ≤ 8388608) → stepN b (pre.length + (recs ls).length) = none → b.length + 1 ≤ f + pre.length →
    scanP b f pre.length = (ls, pre.length + (recs ls).length)
  | [], b, pre, post, f, hb, _, hno, _ => by
    rw [show recs [] = [] from rfl, List.length_nil, Nat.add_zero] at hno ⊢
    exact scanP_none hno
  | p :: ls, b, pre, post, f, hb, hp, hno, hf => by
    have hlen : b.length = pre.length + ((recs (p :: ls)).length + post.length) := by rw [hb, List.length_append, List.length_append]
    rw [recs_cons, List.length_append, length_recB] at hlen
    obtain ⟨f', rfl⟩ : ∃ f', f = f' + 1 := ⟨f - 1, by omega⟩
    obtain ⟨h1, h2⟩ := step_rec (b := b) (pre := pre) (p := p) (post := recs ls ++ post) (by rw [hb, recs_cons, List.append_assoc]) (hp p (by simp))
    rw [recs_cons, List.length_append, length_recB] at hno
    have ih := scanP_recs ls b (pre ++ recB p) post f' (by rw [hb, recs_cons]; simp) (fun q hq => hp q (by simp [hq])) (by
      rw [List.length_append, length_recB, ← hno]; congr 1; omega) (by rw [List.length_append, length_recB]; omega)
    rw [List.length_append, length_recB] at ih
    rw [scanP, h1]
    dsimp only
    rw [h2, show pre.length + 8 + p.length = pre.length + (p.length + 8) by omega, ih, recs_cons, List.length_append, length_recB]
    simp only [Prod.mk.injEq, true_and]
    omega
theorem scan_recs {ls : List (List UInt8)} {post : List UInt8} (hp : ∀ p ∈ ls, p.length ≤ 8388608) (hno : stepN (recs ls ++ post) (recs ls).length = none) : scan (recs ls ++ post) = (ls, (recs ls).length) := by
  have := scanP_recs ls (recs ls ++ post) [] post ((recs ls ++ post).length + 1) rfl hp (by rw [List.length_nil, Nat.zero_add]; exact hno) (Nat.le_refl _)
  rw [List.length_nil, Nat.zero_add] at this
  exact this
theorem stepN_end (b : List UInt8) : stepN b b.length = none := by unfold stepN; rw [if_pos (by omega)]
theorem stepN_cut {b pre p : List UInt8} {m : Nat} (hb : b = pre ++ (recB p).take m) (hp : p.length ≤ 8388608) (hm : m < p.length + 8) : stepN b pre.length = none := by
  have hl : b.length = pre.length + m := by rw [hb, List.length_append, List.length_take, length_recB]; omega
  unfold stepN
  by_cases h8 : b.length < pre.length + 8
  · rw [if_pos h8]
  · have hn : num4 (b.drop pre.length) = p.length := by
      rw [hb, List.drop_left, ← num4_take, List.take_take, show min 4 m = 4 by omega, num4_take]
      have := num4_be4 (n := p.length) (by omega) (p ++ be4 (crc (be4 p.length ++ p)).toNat)
      unfold recB
      rw [List.append_assoc]; exact this
    rw [if_neg h8, hn, if_pos (by omega)]
theorem scanP_bd (b : List UInt8) : ∀ f e, e ≤ b.length → (scanP b f e).1.length + e ≤ b.length ∧ (∀ p ∈ (scanP b f e).1, p.length ≤ b.length ∧ p.length ≤ 8388608) ∧ e ≤ (scanP b f e).2 ∧ (scanP b f e).2 ≤ b.length
  | 0, e, h => by simp [scanP]; omega
  | f + 1, e, h => by
    rw [scanP]
    cases hs : stepN b e with
    | none => simp; omega
    | some n =>
      obtain ⟨h1, h2, h3, _⟩ := stepN_some hs
      obtain ⟨i1, i2, i3, i4⟩ := scanP_bd b f (e + 8 + n) (by omega)
      have hpl : (payl b e n).length = n := by unfold payl; rw [List.length_take, List.length_drop]; omega
      refine ⟨by simp; omega, fun p hp => ?_, by simp; omega, i4⟩
      rcases List.mem_cons.1 hp with rfl | hp
      · omega
      · exact i2 p hp
theorem scan_bd (b : List UInt8) : (scan b).1.length ≤ b.length ∧ (∀ p ∈ (scan b).1, p.length ≤ b.length ∧ p.length ≤ 8388608) ∧ (scan b).2 ≤ b.length := by
  obtain ⟨h1, h2, _, h4⟩ := scanP_bd b (b.length + 1) 0 (by omega)
  exact ⟨h1, h2, h4⟩
/-- Bounds of what was scanned. -/
theorem scan_ps {w0 : World} {B : Nat} {H : List Ent} {b : List UInt8} {ps : List Part} (h : ps.map Part.bs = (scan b).1) (hr : ∀ p ∈ ps, BytR w0 B H p.a p.len p.cap p.bs) : ps.length ≤ b.length ∧ ∀ p ∈ ps, p.len ≤ b.length := by
  obtain ⟨h1, h2, _⟩ := scan_bd b
  rw [← h] at h1 h2
  rw [List.length_map] at h1
  exact ⟨h1, fun p hp => by rw [← (hr p hp).eq]; exact (h2 _ (List.mem_map_of_mem hp)).1⟩
theorem PartsR.ofOwn {w0 : World} {B : Nat} {F M : List Ent} {a : Option Addr} {n c : Nat} {ps : List Part} (o : Own 22 1 (.slice a n c) n (ps.map partV) F M) (h : ∀ p ∈ ps, BytR w0 B F p.a p.len p.cap p.bs) : PartsR w0 B M a n ps :=
  ⟨by have := o.len; simpa using this, fun h => by obtain ⟨g, c, e, _⟩ := o.posn h; cases e; exact ⟨_, _, rfl⟩, o.rds (c := ⟨Try.prog, 0, w0, B⟩) (one_part ps), fun p hp => (h p hp).imp o.imp⟩
end Go.Proofs.Ytpeegklnkecajaa
