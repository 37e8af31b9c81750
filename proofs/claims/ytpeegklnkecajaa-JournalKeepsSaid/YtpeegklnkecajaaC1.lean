/-
  The sums, walked over bytes that are read wherever they lie; lists of bytes that are read. No condition.
-/
import Derived.Test.YtpeegklnkecajaaCrcPlain
import Derived.Test.YtpeegklnkecajaaR1
namespace Go.Proofs.Ytpeegklnkecajaa
open Go.RowKit
theorem crcBit_cases (c : BitVec 32) : crcBit c = if c.toNat % 2 = 1 then (c >>> 1) ^^^ 0xedb88320#32 else c >>> 1 := by
  unfold crcBit
  have h1 : c &&& 1#32 = if c.toNat % 2 = 1 then 1#32 else 0#32 := by
    apply BitVec.eq_of_toNat_eq
    rw [BitVec.toNat_and]
    have : c.toNat &&& (1#32).toNat = c.toNat % 2 := Nat.and_two_pow_sub_one_eq_mod c.toNat 1
    rw [this]
    split <;> simp <;> omega
  rw [h1]
  split
  · rw [show -(1#32) = BitVec.allOnes 32 from by decide, BitVec.and_allOnes]
  · simp

def crcParts (s : BitVec 32) (ps : List Part) : BitVec 32 := ps.foldl (fun s p => crcMore s p.bs) s
theorem crcParts_flat (s : BitVec 32) (ps : List Part) : crcParts s ps = crcMore s (ps.flatMap (·.bs)) := by
  induction ps generalizing s with
  | nil => simp [crcParts, crcMore_nil]
  | cons p ps ih => rw [List.flatMap_cons, crcMore_append, ← ih]; rfl


/-- Bytes that are read, wherever they lie. -/
structure BytR (w0 : World) (B : Nat) (H : List Ent) (a : Option Addr) (len cap : Nat) (l : List UInt8) : Prop where
  eq : l.length = len
  le : len ≤ cap
  small : cap ≤ 9223372036854775807
  nil : a = none → cap = 0
  pos : 0 < len → ∃ bb off, a = some ⟨bb, off, none⟩
  rd : Rds w0 B H a (l.map byteV)
section
variable {w0 : World} {B : Nat} {H H' : List Ent} {a : Option Addr} {len cap : Nat} {l : List UInt8}
theorem BytR.imp (h : BytR w0 B H a len cap l) (hi : Imp H' H) : BytR w0 B H' a len cap l := ⟨h.eq, h.le, h.small, h.nil, h.pos, h.rd.weak fun w hw => hi _ _ _ hw⟩
theorem BytR.zero : BytR w0 B H none 0 0 [] := ⟨rfl, Nat.le_refl _, by decide, fun _ => rfl, fun h => absurd h (by omega), by simp, fun _ => rfl, by simp⟩
theorem BytR.of (hB : w0.heap.size ≤ B) (h : Sl byteV w0 a len cap l) : BytR w0 B H a len cap l :=
  ⟨h.size_eq, h.le, h.small, h.nil, fun h0 => by obtain ⟨b, off, hb, _⟩ := h.row 0 (by rw [h.size_eq]; exact h0); exact ⟨b, off, hb⟩, Rds.sl (c := ⟨Try.prog, 0, w0, B⟩) h hB (fun y => rfl)⟩
theorem BytR.own {e n : Nat} {F : List Ent} (o : Own e 1 (.slice a n cap) n (l.map byteV) F H) : BytR w0 B H a n cap l := by
  have h1 := o.len
  rw [List.length_map, Nat.mul_one] at h1
  obtain ⟨_, _, e1, h2, h3⟩ := o.form
  cases e1
  refine ⟨h1, h2, h3, ?_, fun h => by obtain ⟨g, c, e, _⟩ := o.posn h; cases e; exact ⟨_, _, rfl⟩, o.rds (c := ⟨Try.prog, 0, w0, B⟩) (fun u hu => by obtain ⟨x, _, rfl⟩ := List.mem_map.1 hu; rfl)⟩
  intro hn
  rcases o with ⟨h1, _⟩ | ⟨g, cap, h1, _⟩
  · cases h1; rfl
  · cases h1; cases hn
theorem BytR.cell (h : BytR w0 B H a len cap l) {k : Nat} (hk : k < l.length) : (l.map byteV)[k]? = some (.int .u8 ((l[k].toNat : Nat) : Int)) := by simp [hk, byteV]
end
/-- A list of slices of bytes that is read. -/
structure PartsR (w0 : World) (B : Nat) (H : List Ent) (a : Option Addr) (len : Nat) (ps : List Part) : Prop where
  eq : ps.length = len
  pos : 0 < len → ∃ bb off, a = some ⟨bb, off, none⟩
  rd : Rds w0 B H a (ps.map partV)
  each : ∀ p ∈ ps, BytR w0 B H p.a p.len p.cap p.bs
theorem PartsR.imp {w0 : World} {B : Nat} {H H' : List Ent} {a : Option Addr} {len : Nat} {ps : List Part} (h : PartsR w0 B H a len ps) (hi : Imp H' H) : PartsR w0 B H' a len ps :=
  ⟨h.eq, h.pos, h.rd.weak fun w hw => hi _ _ _ hw, fun p hp => (h.each p hp).imp hi⟩
theorem PartsR.zero {w0 : World} {B : Nat} {H : List Ent} {a : Option Addr} : PartsR w0 B H a 0 [] :=
  ⟨rfl, fun h => absurd h (by omega), ⟨by simp, fun _ => rfl, by simp⟩, by simp⟩
theorem PartsR.of {w0 : World} {B : Nat} {E : List Ent} (hB : w0.heap.size ≤ B) {a : Option Addr} {len cap : Nat} {ps : List Part} (h : Parts w0 a len cap ps) : PartsR w0 B E a len ps :=
  ⟨h.sl.size_eq, fun h0 => by obtain ⟨b, off, hb, _⟩ := h.sl.row 0 (by rw [h.sl.size_eq]; exact h0); exact ⟨b, off, hb⟩, Rds.sl (c := ⟨Try.prog, 0, w0, B⟩) h.sl hB (fun y => rfl), fun p hp => .of hB (h.each p hp)⟩
/-- The k-th of them. -/
theorem PartsR.at {w0 : World} {B : Nat} {H : List Ent} {a : Option Addr} {len : Nat} {ps : List Part} (h : PartsR w0 B H a len ps) {k : Nat} (hk : k < len) : ∃ p : Part, ∃ hl : k < ps.length, p = ps[k] ∧ (ps.map partV)[k]? = some (.slice p.a p.len p.cap) ∧ BytR w0 B H p.a p.len p.cap p.bs := by
  have hl : k < ps.length := by rw [h.eq]; exact hk
  exact ⟨ps[k], hl, rfl, by simp [hl, partV], h.each _ (List.getElem_mem hl)⟩
section
variable {c : Cx} {fr : Fr} {H : List Ent} {ops : Array Oper} {S : List Oper → Fr → List Ent → Prop} {rest : List Oper} {dst : Option Nat} {ty : TypeId} {pos : String} {after : Array Edge} {x y : Operand} {t u T U : TypeId}
theorem hl_loadRd [Stp c ops S] {E : List Ent} {bb off j : Nat} {l : List Value} {v : Value} [TOne c.P T] (hx : ev fr x = .pointer (some ⟨bb, off + j, none⟩)) (hr : Rds c.w0 c.B E (some ⟨bb, off, none⟩) l) (hi : Imp H E) (hv : l[j]? = some v) (hd : dOk c.n dst = true) (h : S rest (updO fr dst v) H) :
    S (⟨dst, .load T x, ty, pos, after, none⟩ :: rest) fr H :=
  hl_load1s (a := ⟨bb, off, none⟩) (j := j) (by rw [Addr.add_lit]; exact hx) (hr.weak fun w hw => hi _ _ _ hw) hv hd h
theorem hl_cvB8 [Stp c ops S] {v : UInt8} [TInt c.P U .u8] [TInt c.P T .u32] (hx : ev fr x = .int .u8 (v.toNat : Int)) (hd : dOk c.n dst = true) (h : S rest (updO fr dst (.int .u32 ((u32 v).toNat : Int))) H) : S (⟨dst, .convert U T x, ty, pos, after, none⟩ :: rest) fr H :=
  hl_convInt hx hd (by have := v.toNat_lt; rw [IntWalk.u32_in _ (by omega), ← u32_toNat]; exact h)
theorem hl_cvB64 [Stp c ops S] {v : BitVec 32} [TInt c.P U .i64] [TInt c.P T .u32] (hx : ev fr x = .int .i64 (v.toNat : Int)) (hd : dOk c.n dst = true) (h : S rest (updO fr dst (.int .u32 (v.toNat : Int))) H) : S (⟨dst, .convert U T x, ty, pos, after, none⟩ :: rest) fr H :=
  hl_convInt hx hd (by have := v.isLt; rw [IntWalk.u32_in _ (by omega)]; exact h)
theorem hl_cvBi [Stp c ops S] {v : BitVec 32} [TInt c.P U .u32] [TInt c.P T .i64] (hx : ev fr x = .int .u32 (v.toNat : Int)) (hd : dOk c.n dst = true) (h : S rest (updO fr dst (.int .i64 (v.toNat : Int))) H) : S (⟨dst, .convert U T x, ty, pos, after, none⟩ :: rest) fr H :=
  hl_convI64 hx (by omega) (by have := v.isLt; omega) hd h
theorem hl_xorB [Stp c ops S] {a b : BitVec 32} (hx : ev fr x = .int .u32 (a.toNat : Int)) (hy : ev fr y = .int .u32 (b.toNat : Int)) (hd : dOk c.n dst = true) (k : S rest (updO fr dst (.int .u32 ((a ^^^ b).toNat : Int))) H) : S (⟨dst, .binOp .xor t x y u, ty, pos, after, none⟩ :: rest) fr H :=
  hl_xor hx hy hd (by rw [bits_xor32]; exact k)
theorem hl_notB [Stp c ops S] {a : BitVec 32} (hx : ev fr x = .int .u32 (a.toNat : Int)) (hy : ev fr y = .int .u32 4294967295) (hd : dOk c.n dst = true) (k : S rest (updO fr dst (.int .u32 ((bnot a).toNat : Int))) H) : S (⟨dst, .binOp .xor t x y u, ty, pos, after, none⟩ :: rest) fr H :=
  hl_xor hx hy hd (by rw [bnot_bits]; exact k)
end
section
variable {w0 : World} {B : Nat} {H : List Ent}
theorem crcL_take (c : BitVec 32) {bs : List UInt8} {k : Nat} (h : k < bs.length) : crcL c (bs.take (k + 1)) = crcByte (crcL c (bs.take k)) bs[k] := by
  rw [List.take_add_one, List.getElem?_eq_getElem h]
  unfold crcL
  rw [List.foldl_append]
  rfl
set_option maxHeartbeats 8000000
set_option maxRecDepth 100000
theorem crcMore_fn (c0 : BitVec 32) {a : Option Addr} {len cap : Nat} {bs : List UInt8} (h : BytR w0 B H a len cap bs) (hle : len ≤ 9223372036854775806) :
    Fn Try.prog w0 B 38 [.int .i64 (c0.toNat : Int), .slice a len cap] H (fun v H' => v = .int .i64 ((crcMore c0 bs).toNat : Int) ∧ H' = H) := by
  have hl := h.eq
  refine fn_intro Try.func38 rfl (by kernel_rfl) rfl ?_
  repeat (first | refine hl_cvB64 rfl rfl ?_ | refine hl_notB rfl rfl rfl ?_ | refine go1_ ?_ | refine bx_ (fun _ => ?_))
  refine hc_loopd (fun q fr M => ∃ k, k + q = len ∧ Agr fr [(5, .int .u32 ((crcL (bnot c0) (bs.take k)).toNat : Int)), (11, .slice a len cap), (12, .int .i64 (len : Int)), (13, .int .i64 (k : Int))] ∧ M = H) len ?_ ?_
  · exact ⟨0, by omega, ⟨rfl, rfl, rfl, rfl, trivial⟩, rfl⟩
  rintro q fr M ⟨k, hk, hf, rfl⟩
  obtain ⟨base, rfl⟩ := hf.out
  clear hf
  by_cases hlt : k < len
  · obtain ⟨bb, off, rfl⟩ := h.pos (by omega)
    have hkl : k < bs.length := by omega
    have hcell := h.cell hkl
    have hst := crcL_take (bnot c0) hkl
    generalize crcL (bnot c0) (bs.take k) = c1 at *
    generalize hu : bs[k] = u at *
    repeat (first | refine hl_loadRd rfl h.rd (Imp.refl _) hcell rfl ?_ | refine hl_cvB8 rfl rfl ?_ | refine hl_xorB rfl rfl rfl ?_ | refine go1_ ?_ | refine bx_ (fun _ => ?_))
    refine hc_loopd (fun q2 fr M2 => ∃ j, j + q2 = 8 ∧ Agr fr [(5, .int .u32 ((crcBits j (c1 ^^^ u32 u)).toNat : Int)), (11, .slice (some ⟨bb, off, none⟩) len cap), (12, .int .i64 (len : Int)), (13, .int .i64 (k : Int)), (21, .int .i64 (j : Int))] ∧ M2 = M) 8 ?_ ?_
    · exact ⟨0, by omega, ⟨rfl, rfl, rfl, rfl, rfl, trivial⟩, rfl⟩
    clear base
    rintro q2 fr M2 ⟨j, hj, hf, rfl⟩
    obtain ⟨base, rfl⟩ := hf.out
    clear hf
    by_cases hj8 : j < 8
    · have hst2 : crcBits (j + 1) (c1 ^^^ u32 u) = crcBit (crcBits j (c1 ^^^ u32 u)) := rfl
      generalize crcBits j (c1 ^^^ u32 u) = c2 at *
      have hb := crcBit_bits c2
      repeat (first | refine go_ ?_ | refine bx_ (fun _ => ?_))
      refine ⟨q2 - 1, by omega, _, Imp.refl _, j + 1, by omega, ⟨Eq.trans (b := .int .u32 (bits .xor .u32 ((c2.toNat : Int) / 2 ^ 1) (bits .and .u32 3988292384 (IntKind.u32.wrap (0 - bits .and .u32 (c2.toNat : Int) 1))))) rfl ?_, rfl, rfl, rfl, rfl, trivial⟩, rfl⟩
      rw [IntKind.wrap_u32, Int.zero_sub, hst2, ← hb]
      rfl
    · obtain rfl : j = 8 := by omega
      repeat (first | refine go_ ?_ | refine bx_ (fun _ => ?_))
      exact ⟨q - 1, by omega, _, Imp.refl _, k + 1, by omega, ⟨by rw [hst]; rfl, rfl, rfl, rfl, trivial⟩, rfl⟩
  · obtain rfl : k = len := by omega
    rw [show bs.take k = bs by rw [← hl]; exact List.take_length]
    repeat (first | refine hl_notB rfl rfl rfl ?_ | refine hl_cvBi rfl rfl ?_ | refine go1_ ?_ | refine bx_ (fun _ => ?_))
    exact fin1I rfl rfl ⟨rfl, rfl⟩
theorem crcParts_take (c : BitVec 32) {ps : List Part} {k : Nat} (h : k < ps.length) : crcParts c (ps.take (k + 1)) = crcMore (crcParts c (ps.take k)) ps[k].bs := by
  rw [List.take_add_one, List.getElem?_eq_getElem h]
  unfold crcParts
  rw [List.foldl_append]
  rfl
theorem crc_fn {a : Option Addr} {len cap : Nat} {ps : List Part} {xs : List UInt8} (hp : PartsR w0 B H a len ps) (hle : len ≤ 9223372036854775806) (hs : ∀ p ∈ ps, p.len ≤ 9223372036854775806) (hx : ps.flatMap (·.bs) = xs) :
    Fn Try.prog w0 B 27 [.slice a len cap] H (fun v H' => v = .int .i64 ((crc xs).toNat : Int) ∧ H' = H) := by
  subst hx
  refine fn_intro Try.func27 rfl (by kernel_rfl) rfl ?_
  have he := hp.eq
  repeat (first | refine go_ ?_ | refine bx_ (fun _ => ?_))
  refine hc_loopd (fun q fr M => ∃ k, k + q = len ∧ Agr fr [(3, .int .i64 ((crcParts 0 (ps.take k)).toNat : Int)), (6, .slice a len cap), (7, .int .i64 (len : Int)), (8, .int .i64 (k : Int))] ∧ M = H) len ?_ ?_
  · exact ⟨0, by omega, ⟨rfl, rfl, rfl, rfl, trivial⟩, rfl⟩
  rintro q fr M ⟨k, hk, hf, rfl⟩
  obtain ⟨base, rfl⟩ := hf.out
  clear hf
  by_cases hlt : k < len
  · obtain ⟨bb, off, rfl⟩ := hp.pos (by omega)
    obtain ⟨p, hkl, hpe, hcell, hok⟩ := hp.at hlt
    have hst := crcParts_take 0 hkl
    rw [← hpe] at hst
    have h5 := hs p (by rw [hpe]; exact List.getElem_mem hkl)
    generalize crcParts 0 (ps.take k) = c1 at *
    repeat (first | refine hl_loadRd rfl hp.rd (Imp.refl _) hcell rfl ?_ | refine go1_ ?_ | refine bx_ (fun _ => ?_) | refine hl_callv rfl rfl (crcMore_fn c1 hok h5) ?_)
    exact ⟨q - 1, by omega, _, Imp.refl _, k + 1, by omega, ⟨by rw [hst]; rfl, rfl, rfl, rfl, trivial⟩, rfl⟩
  · obtain rfl : k = len := by omega
    rw [show ps.take k = ps by rw [← he]; exact List.take_length, crcParts_flat]
    repeat (first | refine go_ ?_ | refine bx_ (fun _ => ?_))
    exact fin1I rfl rfl ⟨rfl, rfl⟩
end
end Go.Proofs.Ytpeegklnkecajaa
