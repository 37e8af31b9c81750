/-
  The document's reader: numbers. No condition.
-/
import Derived.Test.YtoobhebbgbhahaaPB
namespace Go.Proofs.Ytoobhebbgbhahaa
open Go.RowKit
abbrev RfB (g : Nat) (a : Option Addr) (n c p e : Nat) : Ent := ⟨g, 90, [.slice a n c, .int .i64 (p : Int), .int .i64 (e : Int)], 3⟩
section
variable {w0 : World} {B : Nat} {H R R0 : List Ent} {g : Nat}
set_option maxHeartbeats 8000000
set_option maxRecDepth 100000
theorem rfail_fn {a : Option Addr} {n c p e k : Nat} : Fn Try.prog w0 B 38 [.pointer (some ⟨g, 0, none⟩), .int .i64 (k : Int)] (RfB g a n c p e :: R) (fun v H' => v = .tuple #[] ∧ H' = RfB g a n c p (if e = 0 then k else e) :: R) := by
  refine fn_intro Try.func38 rfl (by kernel_rfl) rfl ?_
  by_cases h : e = 0
  · subst h
    repeat (first | refine go_ ?_ | refine bx_ (fun _ => ?_))
    exact fin0 rfl ⟨rfl, rfl⟩
  · rw [if_neg h]
    repeat (first | refine go_ ?_ | refine bx_ (fun _ => ?_))
    exact fin0 rfl ⟨rfl, rfl⟩
theorem rrnum_fn {s : Rd} {a : Option Addr} {n c p : Nat} {b : List UInt8} (hb : BytR w0 B R0 a n c b) (hi : Imp R R0) (hs : s.l = b.drop p) (hp : p ≤ n) :
    Fn Try.prog w0 B 35 [.pointer (some ⟨g, 0, none⟩)] (RfB g a n c p s.e :: R) (fun v H' => ∃ p', v = .int .i64 s.num.1 ∧ H' = RfB g a n c p' s.num.2.e :: R ∧ s.num.2.l = b.drop p' ∧ p' ≤ n) := by
  obtain ⟨l, e⟩ := s
  dsimp only at hs ⊢
  have hn := hb.eq
  have hle := hb.le
  have hsm := hb.small
  refine fn_intro Try.func35 rfl (by kernel_rfl) rfl ?_
  by_cases h : e = 0
  rotate_left
  · rw [show Rd.num ⟨l, e⟩ = (0, ⟨l, e⟩) by rw [Rd.num, if_pos h]]
    repeat (first | refine go_ ?_ | refine bx_ (fun _ => ?_))
    exact fin1I rfl rfl ⟨p, rfl, rfl, hs, hp⟩
  subst h
  obtain ⟨G, hG⟩ : ∃ G, G = getU 0 0 l := ⟨_, rfl⟩
  have hnum : Rd.num ⟨l, 0⟩ = (if G.2.2 = 0 then unzz G.1 else 0, ⟨G.2.1, G.2.2⟩) := by rw [Rd.num, if_neg (by simp), hG]
  rw [hnum]
  repeat (first | refine go_ ?_ | refine bx_ (fun _ => ?_))
  refine hc_loopd (fun q fr M => ∃ k u p, k + q = 10 ∧ k ≤ 9 ∧ getU k u (b.drop p) = G ∧ u < 2 ^ (7 * k) ∧ p ≤ n ∧ M = RfB g a n c p 0 :: R ∧ Agr fr [(0, .pointer (some ⟨g, 0, none⟩)), (3, .int .i64 ((u / 2 : Nat) : Int)), (4, .bool (decide (u % 2 = 1))), (5, .int .i64 (k : Int))]) 10 ?_ ?_
  · exact ⟨0, 0, p, by omega, by omega, by rw [hG, hs], by simp, hp, rfl, rfl, rfl, rfl, rfl, trivial⟩
  clear hs hnum hG hp p l
  rintro q fr M ⟨k, u, p, hk, hk9, hG, hu, hp, rfl, hf⟩
  obtain ⟨base, rfl⟩ := hf.out
  clear hf
  by_cases hend : p < n
  rotate_left
  · obtain rfl : p = n := by omega
    rw [List.drop_of_length_le (by omega), getU] at hG
    subst hG
    repeat (first | refine go_ ?_ | refine bx_ (fun _ => ?_))
    (refine hc_draw (by kernel_rfl) (by kernel_rfl) ?_; repeat (first | refine gd_ ?_))
    repeat (first | refine go_ ?_ | refine bx_ (fun _ => ?_))
    refine hl_call rfl rfl (rfail_fn (k := 20)) (fun v M hv => ?_)
    obtain ⟨rfl, rfl⟩ := hv
    rw [if_pos rfl]
    repeat (first | refine go_ ?_ | refine bx_ (fun _ => ?_))
    exact fin1I rfl rfl ⟨p, rfl, rfl, by rw [List.drop_of_length_le (by omega)], by omega⟩
  obtain ⟨bb, off, rfl⟩ := hb.pos (by omega)
  have hpl : p < b.length := by omega
  have hcell := hb.cell hpl
  have hdr : b.drop p = b[p] :: b.drop (p + 1) := List.drop_eq_getElem_cons hpl
  rw [hdr, getU] at hG
  generalize b[p] = x at *
  have hx := x.toNat_lt
  have hop := or_part (c := x.toNat % 128) hu (by omega) hk9
  repeat (first | refine go_ ?_ | refine bx_ (fun _ => ?_))
  (refine hc_draw (by kernel_rfl) (by kernel_rfl) ?_; repeat (first | refine gd_ ?_))
  repeat (first | refine go_ ?_ | refine bx_ (fun _ => ?_))
  (refine hc_draw (by kernel_rfl) (by kernel_rfl) ?_; repeat (first | refine hl_loadRd (E := R0) rfl hb.rd ((Imp.drop (Imp.refl _)).trans hi) hcell rfl ?_ | refine gd1_ ?_))
  refine thn_norm ?_
  refine hc_seq ?_
  refine hc_region ?_
  repeat (first | refine op_ ?_ | refine bx_ (fun _ => ?_))
  refine hc_seq ?_
  refine hc_seq ?_
  obtain ⟨M1, hM1⟩ : ∃ M1, M1 = RfB g (some ⟨bb, off, none⟩) n c (p + 1) 0 :: R := ⟨_, rfl⟩
  refine HC.perm (H' := M1) ?_ (by rw [hM1]; exact List.Perm.refl _)
  refine hc_meet (fun fr M => Agr fr [(0, .pointer (some ⟨g, 0, none⟩)), (3, .int .i64 ((u / 2 : Nat) : Int)), (4, .bool (decide (u % 2 = 1))), (5, .int .i64 (k : Int)), (6, .int .i64 (x.toNat : Int)), (60, .bool (decide ((k = 9 ∧ 1 < x.toNat) ∨ (0 < k ∧ x.toNat = 0))))] ∧ M = M1) ?_ ?_
  · by_cases h9 : k = 9
    · by_cases h1 : 1 < x.toNat
      · rw [show decide ((k = 9 ∧ 1 < x.toNat) ∨ (0 < k ∧ x.toNat = 0)) = true from decide_eq_true (.inl ⟨h9, h1⟩)]
        repeat (first | refine go_ ?_ | refine bx_ (fun _ => ?_))
        exact ⟨⟨rfl, rfl, rfl, rfl, rfl, rfl, trivial⟩, rfl⟩
      · by_cases h0 : x.toNat = 0
        · rw [show decide ((k = 9 ∧ 1 < x.toNat) ∨ (0 < k ∧ x.toNat = 0)) = true from decide_eq_true (.inr ⟨by omega, h0⟩)]
          repeat (first | refine go_ ?_ | refine bx_ (fun _ => ?_))
          exact ⟨⟨rfl, rfl, rfl, rfl, rfl, rfl, trivial⟩, rfl⟩
        · rw [show decide ((k = 9 ∧ 1 < x.toNat) ∨ (0 < k ∧ x.toNat = 0)) = false from decide_eq_false (by omega)]
          repeat (first | refine go_ ?_ | refine bx_ (fun _ => ?_))
          exact ⟨⟨rfl, rfl, rfl, rfl, rfl, rfl, trivial⟩, rfl⟩
    · by_cases hk0 : 0 < k
      · by_cases h0 : x.toNat = 0
        · rw [show decide ((k = 9 ∧ 1 < x.toNat) ∨ (0 < k ∧ x.toNat = 0)) = true from decide_eq_true (.inr ⟨by omega, h0⟩)]
          repeat (first | refine go_ ?_ | refine bx_ (fun _ => ?_))
          exact ⟨⟨rfl, rfl, rfl, rfl, rfl, rfl, trivial⟩, rfl⟩
        · rw [show decide ((k = 9 ∧ 1 < x.toNat) ∨ (0 < k ∧ x.toNat = 0)) = false from decide_eq_false (by omega)]
          repeat (first | refine go_ ?_ | refine bx_ (fun _ => ?_))
          exact ⟨⟨rfl, rfl, rfl, rfl, rfl, rfl, trivial⟩, rfl⟩
      · rw [show decide ((k = 9 ∧ 1 < x.toNat) ∨ (0 < k ∧ x.toNat = 0)) = false from decide_eq_false (by omega)]
        repeat (first | refine go_ ?_ | refine bx_ (fun _ => ?_))
        exact ⟨⟨rfl, rfl, rfl, rfl, rfl, rfl, trivial⟩, rfl⟩
  clear base
  rintro fr M ⟨hf, rfl⟩
  obtain ⟨base, rfl⟩ := hf.out
  clear hf
  rw [hM1]
  by_cases hbad : (k = 9 ∧ 1 < x.toNat) ∨ (0 < k ∧ x.toNat = 0)
  · rw [decide_eq_true hbad]
    rw [if_pos hbad] at hG
    subst hG
    repeat (first | refine go_ ?_ | refine bx_ (fun _ => ?_))
    refine hl_call rfl rfl (rfail_fn (k := 25)) (fun v M hv => ?_)
    obtain ⟨rfl, rfl⟩ := hv
    rw [if_pos rfl]
    repeat (first | refine go_ ?_ | refine bx_ (fun _ => ?_))
    exact fin1I rfl rfl ⟨p + 1, rfl, rfl, rfl, by omega⟩
  rw [decide_eq_false hbad]
  rw [if_neg hbad] at hG
  have hun : u + x.toNat % 128 * 2 ^ (7 * k) < 2 ^ (7 * (k + 1)) := by
    have e : 2 ^ (7 * (k + 1)) = 128 * 2 ^ (7 * k) := by rw [show 7 * (k + 1) = 7 + 7 * k by omega, Nat.pow_add]
    have h2 := Nat.mul_le_mul_right (2 ^ (7 * k)) (show x.toNat % 128 ≤ 127 by omega)
    rw [e]; omega
  have hu64 : u + x.toNat % 128 * 2 ^ (7 * k) < 18446744073709551616 := by
    rcases Nat.lt_or_ge k 9 with h | h
    · have : 2 ^ (7 * (k + 1)) ≤ 2 ^ 63 := Nat.pow_le_pow_right (by decide) (by omega)
      simp only [Nat.reducePow] at this
      omega
    · obtain rfl : k = 9 := by omega
      simp only [Nat.reduceMul, Nat.reducePow] at hu ⊢
      omega
  obtain ⟨U, hU⟩ : ∃ U, U = u + x.toNat % 128 * 2 ^ (7 * k) := ⟨_, rfl⟩
  rw [← hU] at hun hu64 hG
  have hpart : (0 < k → u % 2 = U % 2 ∧ ∃ W, W = x.toNat % 128 * 2 ^ (7 * k - 1) ∧ U / 2 = u / 2 + W) ∧ (k = 0 → U = x.toNat % 128) := by
    refine ⟨fun h0 => ?_, fun h0 => ?_⟩
    · have e : 2 ^ (7 * k) = 2 * 2 ^ (7 * k - 1) := by rw [show 7 * k = (7 * k - 1) + 1 by omega, Nat.pow_succ]; simp only [Nat.add_sub_cancel]; omega
      have e2 : x.toNat % 128 * 2 ^ (7 * k) = 2 * (x.toNat % 128 * 2 ^ (7 * k - 1)) := by rw [e, Nat.mul_left_comm]
      rw [e2] at hU
      refine ⟨by omega, _, rfl, by omega⟩
    · subst h0
      simp only [Nat.mul_zero, Nat.pow_zero, Nat.lt_one_iff, Nat.mul_one] at hu hU
      omega
  clear hU
  by_cases hod : U % 2 = 1
  · have huz : unzz U = -1 - ((U / 2 : Nat) : Int) := by unfold unzz; rw [if_neg (by omega)]
    by_cases hk0 : k = 0
    · have hU := hpart.2 hk0
      subst hk0
      by_cases hlt : x.toNat < 128
      · rw [if_pos hlt] at hG
        subst hG
        rw [if_pos rfl]
        repeat (first | refine go_ ?_ | refine bx_ (fun _ => ?_))
        exact fin1I rfl rfl ⟨p + 1, congrArg (Value.int .i64) (by rw [huz]; omega), rfl, rfl, by omega⟩
      · rw [if_neg hlt] at hG
        repeat (first | refine go_ ?_ | refine bx_ (fun _ => ?_))
        exact ⟨q - 1, by omega, _, Imp.refl _, 1, U, p + 1, by omega, by omega, hG, hun, by omega, rfl, rfl, congrArg (Value.int .i64) (by omega), congrArg Value.bool (decide_eq_true hod).symm, rfl, trivial⟩
    · obtain ⟨hpar, W, hW, hUW⟩ := hpart.1 (by omega)
      clear hpart
      have hsh : IntKind.i64.wrap ((x.toNat : Int) % 128 * 2 ^ (7 * k - 1)) = (W : Int) := by
        have e : (x.toNat : Int) % 128 * 2 ^ (7 * k - 1) = (W : Int) := by rw [hW]; simp
        rw [e, IntWalk.i64_in _ (by omega)]
      rw [decide_eq_true (show u % 2 = 1 by omega)]
      by_cases hlt : x.toNat < 128
      · rw [if_pos hlt] at hG
        subst hG
        rw [if_pos rfl]
        repeat (first | rw [show (7 : Int) * (k : Int) - 1 = ((7 * k - 1 : Nat) : Int) by omega] | rw [hsh] | refine go1_ ?_ | refine bx_ (fun _ => ?_))
        exact fin1I rfl rfl ⟨p + 1, congrArg (Value.int .i64) (by rw [huz]; omega), rfl, rfl, by omega⟩
      · rw [if_neg hlt] at hG
        repeat (first | rw [show (7 : Int) * (k : Int) - 1 = ((7 * k - 1 : Nat) : Int) by omega] | rw [hsh] | refine go1_ ?_ | refine bx_ (fun _ => ?_))
        exact ⟨q - 1, by omega, _, Imp.refl _, k + 1, U, p + 1, by omega, by omega, hG, hun, by omega, rfl, rfl, congrArg (Value.int .i64) (by omega), congrArg Value.bool (decide_eq_true hod).symm, rfl, trivial⟩
  · have huz : unzz U = ((U / 2 : Nat) : Int) := by unfold unzz; rw [if_pos (by omega)]
    by_cases hk0 : k = 0
    · have hU := hpart.2 hk0
      subst hk0
      by_cases hlt : x.toNat < 128
      · rw [if_pos hlt] at hG
        subst hG
        rw [if_pos rfl]
        repeat (first | refine go_ ?_ | refine bx_ (fun _ => ?_))
        exact fin1I rfl rfl ⟨p + 1, congrArg (Value.int .i64) (by rw [huz]; omega), rfl, rfl, by omega⟩
      · rw [if_neg hlt] at hG
        repeat (first | refine go_ ?_ | refine bx_ (fun _ => ?_))
        exact ⟨q - 1, by omega, _, Imp.refl _, 1, U, p + 1, by omega, by omega, hG, hun, by omega, rfl, rfl, congrArg (Value.int .i64) (by omega), congrArg Value.bool (decide_eq_false hod).symm, rfl, trivial⟩
    · obtain ⟨hpar, W, hW, hUW⟩ := hpart.1 (by omega)
      clear hpart
      have hsh : IntKind.i64.wrap ((x.toNat : Int) % 128 * 2 ^ (7 * k - 1)) = (W : Int) := by
        have e : (x.toNat : Int) % 128 * 2 ^ (7 * k - 1) = (W : Int) := by rw [hW]; simp
        rw [e, IntWalk.i64_in _ (by omega)]
      rw [decide_eq_false (show ¬ u % 2 = 1 by omega)]
      by_cases hlt : x.toNat < 128
      · rw [if_pos hlt] at hG
        subst hG
        rw [if_pos rfl]
        repeat (first | rw [show (7 : Int) * (k : Int) - 1 = ((7 * k - 1 : Nat) : Int) by omega] | rw [hsh] | refine go1_ ?_ | refine bx_ (fun _ => ?_))
        exact fin1I rfl rfl ⟨p + 1, congrArg (Value.int .i64) (by rw [huz]; omega), rfl, rfl, by omega⟩
      · rw [if_neg hlt] at hG
        repeat (first | rw [show (7 : Int) * (k : Int) - 1 = ((7 * k - 1 : Nat) : Int) by omega] | rw [hsh] | refine go1_ ?_ | refine bx_ (fun _ => ?_))
        exact ⟨q - 1, by omega, _, Imp.refl _, k + 1, U, p + 1, by omega, by omega, hG, hun, by omega, rfl, rfl, congrArg (Value.int .i64) (by omega), congrArg Value.bool (decide_eq_false hod).symm, rfl, trivial⟩
end
end Go.Proofs.Ytoobhebbgbhahaa
