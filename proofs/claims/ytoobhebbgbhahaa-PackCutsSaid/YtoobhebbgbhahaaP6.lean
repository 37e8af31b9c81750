/-
  Numbers that are read. No condition.
-/
import Derived.Test.YtoobhebbgbhahaaP5
namespace Go.Proofs.Ytoobhebbgbhahaa
open Go.RowKit
/-- Bytes that are read, wherever they lie. -/
structure BytR (w0 : World) (B : Nat) (H : List Ent) (a : Option Addr) (len cap : Nat) (l : List UInt8) : Prop where
  eq : l.length = len
  le : len ≤ cap
  small : cap ≤ 9223372036854775807
  nil : a = none → cap = 0
  pos : 0 < len → ∃ bb off, a = some ⟨bb, off, none⟩
  rd : Rds w0 B H a (l.map byteV)
section
variable {w0 : World} {B : Nat} {H H' : List Ent} {a : Option Addr} {len cap : Nat} {l : List UInt8}
theorem BytR.imp (h : BytR w0 B H a len cap l) (hi : Imp H' H) : BytR w0 B H' a len cap l := ⟨h.eq, h.le, h.small, h.nil, h.pos, h.rd.weak fun w hw => hi _ _ _ hw⟩
theorem BytR.zero : BytR w0 B H none 0 0 [] := ⟨rfl, Nat.le_refl _, by decide, fun _ => rfl, fun h => absurd h (by omega), by simp, fun _ => rfl, by simp⟩
theorem BytR.of (hB : w0.heap.size ≤ B) (h : Sl byteV w0 a len cap l) : BytR w0 B H a len cap l :=
  ⟨h.size_eq, h.le, h.small, h.nil, fun h0 => by obtain ⟨b, off, hb, _⟩ := h.row 0 (by rw [h.size_eq]; exact h0); exact ⟨b, off, hb⟩, Rds.sl (c := ⟨Try.prog, 0, w0, B⟩) h hB (fun y => rfl)⟩
theorem BytR.own {e n : Nat} {F : List Ent} (o : Own e 1 (.slice a n cap) n (l.map byteV) F H) : BytR w0 B H a n cap l := by
  have h1 := o.len
  rw [List.length_map, Nat.mul_one] at h1
  obtain ⟨_, _, e1, h2, h3⟩ := o.form
  cases e1
  refine ⟨h1, h2, h3, ?_, fun h => by obtain ⟨g, c, e, _⟩ := o.posn h; cases e; exact ⟨_, _, rfl⟩, o.rds (c := ⟨Try.prog, 0, w0, B⟩) (fun u hu => by obtain ⟨x, _, rfl⟩ := List.mem_map.1 hu; rfl)⟩
  intro hn
  rcases o with ⟨h1, _⟩ | ⟨g, cap, h1, _⟩
  · cases h1; rfl
  · cases h1; cases hn
theorem BytR.cell (h : BytR w0 B H a len cap l) {k : Nat} (hk : k < l.length) : (l.map byteV)[k]? = some (.int .u8 ((l[k].toNat : Nat) : Int)) := by simp [hk, byteV]
end
section
variable {c : Cx} {Q : Pst} {fr : Fr} {H F : List Ent} {ops : Array Oper} {S : List Oper → Fr → List Ent → Prop} {rest : List Oper} {dst : Option Nat} {ty : TypeId} {pos : String} {after : Array Edge} {x y : Operand} {t u T U e : TypeId}
/-- 's[i:j]' of bytes that are read. -/
theorem hl_sliceBy [hS : Stp c ops S] {E : List Ent} {a : Option Addr} {len cap i j : Nat} {l : List UInt8} {lo hi : Option Operand} {ki kj : IntKind} [hT : TSlc c.P T e] [TSz c.P e 1] (hx : ev fr x = .slice a len cap) (hb : BytR c.w0 c.B E a len cap l) (hE : Imp H E)
    (hlo : match lo with | some o => ev fr o = .int ki (i : Int) | none => i = 0) (hhi : match hi with | some o => ev fr o = .int kj (j : Int) | none => j = len) (hij : i ≤ j) (hj : j ≤ len) (hd : dOk c.n dst = true)
    (h : ∀ a', BytR c.w0 c.B E a' (j - i) (cap - i) ((l.drop i).take (j - i)) → S rest (updO fr dst (.slice a' (j - i) (cap - i))) H) :
    S (⟨dst, .slice T x lo hi none, ty, pos, after, none⟩ :: rest) fr H := by
  have heq := hb.eq
  have hle := hb.le
  have hsm := hb.small
  have hlen : ((l.drop i).take (j - i)).length = j - i := by rw [List.length_take, List.length_drop]; omega
  by_cases h0 : 0 < len
  · obtain ⟨bb, off, rfl⟩ := hb.pos h0
    refine hl_slice hx hlo hhi hij (by omega) hd fun off' ho => h _ ⟨hlen, by omega, by omega, fun h => (by cases h), fun _ => ⟨_, _, rfl⟩, ?_⟩
    rw [List.map_take, List.map_drop]
    by_cases hic : i < cap
    · rw [ho hic, Nat.mul_one]
      refine ⟨fun w hw ad ha k v hv => ?_, fun h => (by cases h), fun v hv => hb.rd.one v (List.mem_of_mem_drop (List.mem_of_mem_take hv))⟩
      cases ha
      rw [List.getElem?_take] at hv
      split at hv
      · rw [List.getElem?_drop] at hv
        have := hb.rd.cell w hw _ rfl (i + k) v hv
        rw [Addr.add_lit] at this ⊢
        rw [← this, Nat.add_assoc]
      · cases hv
    · rw [show j - i = 0 by omega, List.take_zero]
      exact ⟨fun _ _ _ _ j u hu => by simp at hu, fun h => (by cases h), fun _ h => by cases h⟩
  · have hr : Rds c.w0 c.B H a (l.map byteV) := hb.rd.weak fun w hw => hE _ _ _ hw
    refine hl_sliceR hx hr (by simpa using heq) hle hb.nil hlo hhi hij hj hd fun a' h1 h2 => h a' ⟨hlen, by omega, by omega, h2, fun h => absurd h (by omega), ?_⟩
    rw [List.map_take, List.map_drop, show j - i = 0 by omega, List.take_zero]
    exact ⟨fun _ _ _ _ j u hu => by simp at hu, fun _ => rfl, fun _ h => by cases h⟩
end
theorem BytR.drop {w0 : World} {B : Nat} {H : List Ent} {bb off len cap : Nat} {l : List UInt8} (h : BytR w0 B H (some ⟨bb, off, none⟩) len cap l) (i n : Nat) (hi : i + n ≤ len) : BytR w0 B H (some ⟨bb, off + i, none⟩) n (cap - i) ((l.drop i).take n) := by
  have he := h.eq
  have hle := h.le
  have hs := h.small
  refine ⟨by rw [List.length_take, List.length_drop]; omega, by omega, by omega, fun h => (by cases h), fun _ => ⟨_, _, rfl⟩, ?_⟩
  rw [List.map_take, List.map_drop]
  refine ⟨fun w hw ad ha k v hv => ?_, fun h => (by cases h), fun v hv => h.rd.one v (List.mem_of_mem_drop (List.mem_of_mem_take hv))⟩
  cases ha
  rw [List.getElem?_take] at hv
  split at hv
  · rw [List.getElem?_drop] at hv
    have := h.rd.cell w hw _ rfl (i + k) v hv
    rw [Addr.add_lit] at this ⊢
    rw [← this, Nat.add_assoc]
  · cases hv
/-! Numbers in bytes -/
def be4 (n : Nat) : List UInt8 := [UInt8.ofNat (n / 2 ^ 24), UInt8.ofNat (n / 2 ^ 16), UInt8.ofNat (n / 2 ^ 8), UInt8.ofNat n]
def num4 (l : List UInt8) : Nat := (((l.getD 0 0).toNat * 256 + (l.getD 1 0).toNat) * 256 + (l.getD 2 0).toNat) * 256 + (l.getD 3 0).toNat

abbrev InB (g : Nat) (a : Option Addr) (n c e : Nat) : Ent := ⟨g, 81, [.slice a n c, .int .i64 (e : Int)], 2⟩
theorem and1u {u : Nat} (h : u < 18446744073709551616) : bits .and .u64 (u : Int) 1 = ((u % 2 : Nat) : Int) := by
  rw [show (1 : Int) = ((1 : Nat) : Int) from rfl, and64u u 1 h (by decide), Nat.and_one_is_mod]
theorem unzz_x {u : Nat} (h : u < 18446744073709551616) : bits .xor .i64 ((u : Int) / 2 ^ 1) (-((u % 2 : Nat) : Int)) = unzz u := by
  rw [← and1u h]; exact unzz_i64 h
section
variable {w0 : World} {B : Nat} {H R R0 : List Ent} {g : Nat}
set_option maxHeartbeats 8000000
set_option maxRecDepth 100000
theorem ifail_fn {a : Option Addr} {n c e k : Nat} : Fn Try.prog w0 B 48 [.pointer (some ⟨g, 0, none⟩), .int .i64 (k : Int)] (InB g a n c e :: R) (fun v H' => v = .tuple #[] ∧ H' = InB g a n c (if e = 0 then k else e) :: R) := by
  refine fn_intro Try.func48 rfl (by kernel_rfl) rfl ?_
  by_cases h : e = 0
  · subst h
    repeat (first | refine go_ ?_ | refine bx_ (fun _ => ?_))
    exact fin0 rfl ⟨rfl, rfl⟩
  · rw [if_neg h]
    repeat (first | refine go_ ?_ | refine bx_ (fun _ => ?_))
    exact fin0 rfl ⟨rfl, rfl⟩
theorem inum_fn {a : Option Addr} {n c e : Nat} {l : List UInt8} (hb : BytR w0 B R0 a n c l) (hi : Imp R R0) :
    Fn Try.prog w0 B 27 [.pointer (some ⟨g, 0, none⟩)] (InB g a n c e :: R) (fun v H' => ∃ a' n' c', v = .int .i64 (Rd.num ⟨l, e⟩).1 ∧ H' = InB g a' n' c' (Rd.num ⟨l, e⟩).2.e :: R ∧ BytR w0 B R0 a' n' c' (Rd.num ⟨l, e⟩).2.l) := by
  refine fn_intro Try.func27 rfl (by kernel_rfl) rfl ?_
  by_cases h : e = 0
  rotate_left
  · rw [show Rd.num ⟨l, e⟩ = (0, ⟨l, e⟩) by rw [Rd.num, if_pos h]]
    repeat (first | refine go_ ?_ | refine bx_ (fun _ => ?_))
    refine hc_loopd (fun q fr M => Agr fr [(0, .pointer (some ⟨g, 0, none⟩))] ∧ M = InB g a n c e :: R) 0 ?_ ?_
    · exact ⟨⟨rfl, trivial⟩, rfl⟩
    rintro q fr M ⟨hf, rfl⟩
    obtain ⟨base, rfl⟩ := hf.out
    repeat (first | refine go_ ?_ | refine bx_ (fun _ => ?_))
    exact fin1I rfl rfl ⟨a, n, c, rfl, rfl, hb⟩
  subst h
  obtain ⟨G, hG⟩ : ∃ G, G = getU 0 0 l := ⟨_, rfl⟩
  have hnum : Rd.num ⟨l, 0⟩ = (if G.2.2 = 0 then unzz G.1 else 0, ⟨G.2.1, G.2.2⟩) := by rw [Rd.num, if_neg (by simp), hG]
  rw [hnum]
  repeat (first | refine go_ ?_ | refine bx_ (fun _ => ?_))
  refine hc_loopd (fun q fr M => ∃ k u a n c l, k + q = 10 ∧ k ≤ 9 ∧ getU k u l = G ∧ u < 2 ^ (7 * k) ∧ BytR w0 B R0 a n c l ∧ M = InB g a n c 0 :: R ∧ Agr fr [(0, .pointer (some ⟨g, 0, none⟩)), (3, .int .u64 (u : Int)), (4, .int .i64 (k : Int))]) 10 ?_ ?_
  · exact ⟨0, 0, a, n, c, l, by omega, by omega, hG.symm, by simp, hb, rfl, rfl, rfl, rfl, trivial⟩
  clear hb hnum hG l a n c
  rintro q fr M ⟨k, u, a, n, c, l, hk, hk9, hG, hu, hb, rfl, hf⟩
  obtain ⟨base, rfl⟩ := hf.out
  clear hf
  have hn := hb.eq
  have hle := hb.le
  have hsm := hb.small
  cases l with
  | nil =>
    simp only [List.length_nil] at hn
    rw [getU] at hG
    subst hG
    repeat (first | refine go_ ?_ | refine bx_ (fun _ => ?_))
    refine hl_call rfl rfl (ifail_fn (k := 20)) (fun v M hv => ?_)
    obtain ⟨rfl, rfl⟩ := hv
    rw [if_pos rfl]
    repeat (first | refine go_ ?_ | refine bx_ (fun _ => ?_))
    exact fin1I rfl rfl ⟨a, n, c, rfl, rfl, hb⟩
  | cons x l =>
    simp only [List.length_cons] at hn
    obtain ⟨bb, off, rfl⟩ := hb.pos (by omega)
    have hcell : ((x :: l).map byteV)[0]? = some (.int .u8 (x.toNat : Int)) := rfl
    repeat (first | refine hl_loadRd (j := 0) rfl hb.rd ((Imp.drop (Imp.refl _)).trans hi) hcell rfl ?_ | refine go1_ ?_ | refine bx_ (fun _ => ?_))
    refine hl_sliceBy (i := 1) (j := n) (ki := .i64) (kj := .i64) rfl hb ((Imp.drop (Imp.refl _)).trans hi) rfl rfl (by omega) (by omega) rfl (fun a' hb' => ?_)
    rw [show ((x :: l).drop 1).take (n - 1) = l by rw [List.drop_succ_cons, List.drop_zero]; exact List.take_of_length_le (by omega)] at hb'
    repeat (first | refine op_ ?_ | refine bx_ (fun _ => ?_))
    refine hc_seq ?_
    refine hc_seq ?_
    have hx := x.toNat_lt
    obtain ⟨M1, hM1⟩ : ∃ M1, M1 = InB g a' (n - 1) (c - 1) 0 :: R := ⟨_, rfl⟩
    refine HC.perm (H' := M1) ?_ (by rw [hM1]; exact List.Perm.refl _)
    refine hc_meet (fun fr M => Agr fr [(0, .pointer (some ⟨g, 0, none⟩)), (3, .int .u64 (u : Int)), (4, .int .i64 (k : Int)), (5, .int .u8 (x.toNat : Int)), (48, .bool (decide ((k = 9 ∧ 1 < x.toNat) ∨ (0 < k ∧ x.toNat = 0))))] ∧ M = M1) ?_ ?_
    · by_cases h9 : k = 9
      · by_cases h1 : 1 < x.toNat
        · rw [decide_eq_true (.inl ⟨h9, h1⟩)]
          repeat (first | refine go_ ?_ | refine bx_ (fun _ => ?_))
          exact ⟨⟨rfl, rfl, rfl, rfl, rfl, trivial⟩, rfl⟩
        · by_cases h0 : x.toNat = 0
          · rw [decide_eq_true (.inr ⟨by omega, h0⟩)]
            repeat (first | refine go_ ?_ | refine bx_ (fun _ => ?_))
            exact ⟨⟨rfl, rfl, rfl, rfl, rfl, trivial⟩, rfl⟩
          · rw [decide_eq_false (by omega)]
            repeat (first | refine go_ ?_ | refine bx_ (fun _ => ?_))
            exact ⟨⟨rfl, rfl, rfl, rfl, rfl, trivial⟩, rfl⟩
      · by_cases hk0 : 0 < k
        · by_cases h0 : x.toNat = 0
          · rw [decide_eq_true (.inr ⟨by omega, h0⟩)]
            repeat (first | refine go_ ?_ | refine bx_ (fun _ => ?_))
            exact ⟨⟨rfl, rfl, rfl, rfl, rfl, trivial⟩, rfl⟩
          · rw [decide_eq_false (by omega)]
            repeat (first | refine go_ ?_ | refine bx_ (fun _ => ?_))
            exact ⟨⟨rfl, rfl, rfl, rfl, rfl, trivial⟩, rfl⟩
        · rw [decide_eq_false (by omega)]
          repeat (first | refine go_ ?_ | refine bx_ (fun _ => ?_))
          exact ⟨⟨rfl, rfl, rfl, rfl, rfl, trivial⟩, rfl⟩
    clear base
    rintro fr M ⟨hf, rfl⟩
    obtain ⟨base, rfl⟩ := hf.out
    clear hf
    rw [hM1]
    by_cases hbad : (k = 9 ∧ 1 < x.toNat) ∨ (0 < k ∧ x.toNat = 0)
    · rw [decide_eq_true hbad]
      rw [getU, if_pos hbad] at hG
      subst hG
      repeat (first | refine go_ ?_ | refine bx_ (fun _ => ?_))
      refine hl_call rfl rfl (ifail_fn (k := 25)) (fun v M hv => ?_)
      obtain ⟨rfl, rfl⟩ := hv
      rw [if_pos rfl]
      repeat (first | refine go_ ?_ | refine bx_ (fun _ => ?_))
      exact fin1I rfl rfl ⟨a', n - 1, c - 1, rfl, rfl, hb'⟩
    rw [decide_eq_false hbad]
    rw [getU, if_neg hbad] at hG
    have hop := or_part (c := x.toNat % 128) hu (by omega) hk9 (by omega)
    have hun : u + x.toNat % 128 * 2 ^ (7 * k) < 2 ^ (7 * (k + 1)) := by
      have e : 2 ^ (7 * (k + 1)) = 128 * 2 ^ (7 * k) := by rw [show 7 * (k + 1) = 7 + 7 * k by omega, Nat.pow_add]
      have h2 := Nat.mul_le_mul_right (2 ^ (7 * k)) (show x.toNat % 128 ≤ 127 by omega)
      rw [e]; omega
    have hu64 : u + x.toNat % 128 * 2 ^ (7 * k) < 18446744073709551616 := by
      rcases Nat.lt_or_ge k 9 with h | h
      · have : 2 ^ (7 * (k + 1)) ≤ 2 ^ 63 := Nat.pow_le_pow_right (by decide) (by omega)
        simp only [Nat.reducePow] at this
        omega
      · obtain rfl : k = 9 := by omega
        simp only [Nat.reduceMul, Nat.reducePow] at hu ⊢
        omega
    have hop' : bits .or .u64 (u : Int) (IntKind.u64.wrap (IntKind.u64.wrap ((x.toNat % 128 : Nat) : Int) * 2 ^ (7 * k))) = ((u + x.toNat % 128 * 2 ^ (7 * k) : Nat) : Int) := by
      rw [IntWalk.u64_in ((x.toNat % 128 : Nat) : Int) (by omega)]; exact hop
    obtain ⟨U, hU⟩ : ∃ U, U = u + x.toNat % 128 * 2 ^ (7 * k) := ⟨_, rfl⟩
    rw [← hU] at hop' hun hu64 hG
    by_cases hlt : x.toNat < 128
    · rw [if_pos hlt] at hG
      subst hG
      repeat (first | rw [and127] | rw [show (7 : Int) * (k : Int) = ((7 * k : Nat) : Int) by simp] | rw [hop'] | rw [and1u hu64] | refine go1_ ?_ | refine bx_ (fun _ => ?_))
      rw [unzz_x hu64]
      exact fin1I rfl rfl ⟨a', n - 1, c - 1, rfl, rfl, hb'⟩
    · rw [if_neg hlt] at hG
      repeat (first | rw [and127] | rw [show (7 : Int) * (k : Int) = ((7 * k : Nat) : Int) by simp] | rw [hop'] | refine go1_ ?_ | refine bx_ (fun _ => ?_))
      exact ⟨q - 1, by omega, _, Imp.refl _, k + 1, U, a', n - 1, c - 1, l, by omega, by omega, hG, hun, hb', rfl, rfl, rfl, rfl, trivial⟩
end
end Go.Proofs.Ytoobhebbgbhahaa
