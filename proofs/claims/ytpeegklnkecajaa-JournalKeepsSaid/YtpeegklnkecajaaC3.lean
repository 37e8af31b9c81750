/-
  Records: what is put together. No condition.
-/
import Derived.Test.YtpeegklnkecajaaC2
namespace Go.Proofs.Ytpeegklnkecajaa
open Go.RowKit
theorem Imp.sub {H H2 : List Ent} (h : H2.Sublist H) : Imp H H2 := fun _ _ _ hw =>
  ⟨hw.below, hw.lt, List.Nodup.sublist (h.map _) hw.nodup, fun e he => hw.own e (h.subset he)⟩
theorem Own.imp' {e sz n : Nat} {v : Value} {C : List Value} {F H : List Ent} (o : Own e sz v n C F H) : Imp H F := fun _ _ _ hw => o.hp hw
/-- What lies between is forgotten. -/
theorem Own.past {e sz n : Nat} {v : Value} {C : List Value} {F F2 H : List Ent} (o : Own e sz v n C F H) (h : F2.Sublist F) : ∃ H2, Imp H H2 ∧ Own e sz v n C F2 H2 := by
  obtain ⟨X, hp, ho⟩ := o.permE
  exact ⟨X ++ F2, Imp.perm hp (Imp.sub (List.Sublist.append (List.Sublist.refl X) h)), ho F2⟩
theorem PartsR.ent {w0 : World} {B : Nat} {H F : List Ent} {g k n : Nat} {T : TypeId} {C : List Value} {ps : List Part} (ht : Take H ⟨g, T, C, k⟩ F) (hC : C = ps.map partV) (hn : ps.length = n) (he : ∀ p ∈ ps, BytR w0 B H p.a p.len p.cap p.bs) : PartsR w0 B H (some ⟨g, 0, none⟩) n ps :=
  ⟨hn, fun _ => ⟨_, _, rfl⟩, Rds.ent (c := ⟨Try.prog, 0, w0, B⟩) (n := C.length) ht (by rw [List.drop_zero, List.take_length, hC]) (fun u hu => by obtain ⟨x, _, rfl⟩ := List.mem_map.1 hu; rfl), he⟩
section
variable {c : Cx} {Q : Pst} {fr : Fr} {H F : List Ent} {ops : Array Oper} {S : List Oper → Fr → List Ent → Prop} {rest : List Oper} {dst : Option Nat} {ty : TypeId} {pos : String} {after : Array Edge} {x y : Operand} {t u T U e : TypeId}
theorem hl_xorN [Stp c ops S] {a : BitVec 32} {v : UInt8} (hx : ev fr x = .int .i64 (a.toNat : Int)) (hy : ev fr y = .int .i64 (v.toNat : Int)) (hd : dOk c.n dst = true) (k : S rest (updO fr dst (.int .i64 ((a ^^^ u32 v).toNat : Int))) H) : S (⟨dst, .binOp .xor t x y u, ty, pos, after, none⟩ :: rest) fr H :=
  hl_xor hx hy hd (by
    have h1 := a.isLt
    have h2 := v.toNat_lt
    rw [xor64 _ _ (by omega) (by omega), show a.toNat ^^^ v.toNat = (a ^^^ u32 v).toNat by rw [BitVec.toNat_xor, u32_toNat]]; exact k)
theorem hl_notN [Stp c ops S] {a : BitVec 32} (hx : ev fr x = .int .i64 (a.toNat : Int)) (hy : ev fr y = .int .i64 4294967295) (hd : dOk c.n dst = true) (k : S rest (updO fr dst (.int .i64 ((bnot a).toNat : Int))) H) : S (⟨dst, .binOp .xor t x y u, ty, pos, after, none⟩ :: rest) fr H :=
  hl_xor hx hy hd (by
    have h1 := a.isLt
    rw [show (4294967295 : Int) = ((4294967295 : Nat) : Int) from rfl, xor64 _ _ (by omega) (by omega), show a.toNat ^^^ 4294967295 = (bnot a).toNat by rw [bnot, ← BitVec.xor_allOnes, BitVec.toNat_xor]; rfl]; exact k)
theorem hl_cv8N [Stp c ops S] {v : UInt8} [TInt c.P U .u8] [TInt c.P T .i64] (hx : ev fr x = .int .u8 (v.toNat : Int)) (hd : dOk c.n dst = true) (h : S rest (updO fr dst (.int .i64 (v.toNat : Int))) H) : S (⟨dst, .convert U T x, ty, pos, after, none⟩ :: rest) fr H :=
  hl_convI64 hx (by omega) (by have := v.toNat_lt; omega) hd h
end
section
variable {w0 : World} {B : Nat} {H : List Ent}
set_option maxHeartbeats 8000000
set_option maxRecDepth 100000
theorem rcrc_fn {a : Option Addr} {len cap : Nat} {bs : List UInt8} (h : BytR w0 B H a len cap bs) (hle : len ≤ 9223372036854775806) :
    Fn Try.prog w0 B 33 [.slice a len cap] H (fun v H' => v = .int .i64 ((crc bs).toNat : Int) ∧ H' = H) := by
  have hl := h.eq
  refine fn_intro Try.func33 rfl (by kernel_rfl) rfl ?_
  repeat (first | refine go_ ?_ | refine bx_ (fun _ => ?_))
  refine hc_loopd (fun q fr M => ∃ k, k + q = len ∧ Agr fr [(0, .slice a len cap), (3, .int .i64 ((crcL (bnot 0) (bs.take k)).toNat : Int)), (4, .int .i64 (k : Int))] ∧ M = H) len ?_ ?_
  · exact ⟨0, by omega, ⟨rfl, rfl, rfl, trivial⟩, rfl⟩
  rintro q fr M ⟨k, hk, hf, rfl⟩
  obtain ⟨base, rfl⟩ := hf.out
  clear hf
  by_cases hlt : k < len
  · obtain ⟨bb, off, rfl⟩ := h.pos (by omega)
    have hkl : k < bs.length := by omega
    have hcell := h.cell hkl
    have hst := crcL_take (bnot 0) hkl
    generalize crcL (bnot 0) (bs.take k) = c1 at *
    generalize hu : bs[k] = u at *
    repeat (first | refine hl_loadRd rfl h.rd (Imp.refl _) hcell rfl ?_ | refine hl_cv8N rfl rfl ?_ | refine hl_xorN rfl rfl rfl ?_ | refine go1_ ?_ | refine bx_ (fun _ => ?_))
    refine hc_loopd (fun q2 fr M2 => ∃ j, j + q2 = 8 ∧ Agr fr [(0, .slice (some ⟨bb, off, none⟩) len cap), (3, .int .i64 ((crcBits j (c1 ^^^ u32 u)).toNat : Int)), (4, .int .i64 (k : Int)), (5, .int .i64 (j : Int))] ∧ M2 = M) 8 ?_ ?_
    · exact ⟨0, by omega, ⟨rfl, rfl, rfl, rfl, trivial⟩, rfl⟩
    clear base
    rintro q2 fr M2 ⟨j, hj, hf, rfl⟩
    obtain ⟨base, rfl⟩ := hf.out
    clear hf
    by_cases hj8 : j < 8
    · have hst2 : crcBits (j + 1) (c1 ^^^ u32 u) = crcBit (crcBits j (c1 ^^^ u32 u)) := rfl
      generalize crcBits j (c1 ^^^ u32 u) = c2 at *
      have hlt2 := c2.isLt
      have e3 : ((c2.toNat : Int) / (2 : Int) ^ 1) = ((c2 >>> 1).toNat : Int) := by
        rw [BitVec.toNat_ushiftRight, Nat.shiftRight_eq_div_pow]; omega
      have h4 := (c2 >>> 1).isLt
      by_cases hodd : c2.toNat % 2 = 1
      · repeat (first | refine go_ ?_ | refine bx_ (fun _ => ?_))
        refine ⟨q2 - 1, by omega, _, Imp.refl _, j + 1, by omega, ⟨rfl, Eq.trans (b := .int .i64 (bits .xor .i64 ((c2.toNat : Int) / 2 ^ 1) 3988292384)) rfl ?_, rfl, rfl, trivial⟩, rfl⟩
        rw [hst2, crcBit_cases, if_pos hodd, e3, show (3988292384 : Int) = ((3988292384 : Nat) : Int) from rfl, xor64 _ _ (by omega) (by omega), BitVec.toNat_xor]
        rfl
      · repeat (first | refine go_ ?_ | refine bx_ (fun _ => ?_))
        refine ⟨q2 - 1, by omega, _, Imp.refl _, j + 1, by omega, ⟨rfl, Eq.trans (b := .int .i64 ((c2.toNat : Int) / 2 ^ 1)) rfl ?_, rfl, rfl, trivial⟩, rfl⟩
        rw [hst2, crcBit_cases, if_neg hodd, e3]
    · obtain rfl : j = 8 := by omega
      repeat (first | refine go_ ?_ | refine bx_ (fun _ => ?_))
      exact ⟨q - 1, by omega, _, Imp.refl _, k + 1, by omega, ⟨rfl, by rw [hst]; rfl, rfl, trivial⟩, rfl⟩
  · obtain rfl : k = len := by omega
    rw [show bs.take k = bs by rw [← hl]; exact List.take_length]
    repeat (first | refine hl_notN rfl rfl rfl ?_ | refine go1_ ?_ | refine bx_ (fun _ => ?_))
    exact fin1I rfl rfl ⟨rfl, rfl⟩
theorem same_fn {a a2 : Option Addr} {n n2 c c2 : Nat} {l m : List UInt8} (hl : BytR w0 B H a n c l) (hm : BytR w0 B H a2 n2 c2 m) (hs : n ≤ 9223372036854775806) :
    Fn Try.prog w0 B 13 [.slice a n c, .slice a2 n2 c2] H (fun v H' => v = .bool (decide (l = m)) ∧ H' = H) := by
  have e1 := hl.eq
  have e2 := hm.eq
  refine fn_intro Try.func13 rfl (by kernel_rfl) rfl ?_
  by_cases hne : n = n2
  rotate_left
  · repeat (first | refine go_ ?_ | refine bx_ (fun _ => ?_))
    exact fin1B rfl rfl ⟨by rw [decide_eq_false (fun h => hne (by rw [← e1, ← e2, h]))], rfl⟩
  subst hne
  repeat (first | refine go_ ?_ | refine bx_ (fun _ => ?_))
  refine hc_loopd (fun q fr M => ∃ k, k + q = n ∧ (∀ i (h1 : i < l.length) (h2 : i < m.length), i < k → l[i] = m[i]) ∧ Agr fr [(0, .slice a n c), (1, .slice a2 n c2), (5, .int .i64 (k : Int))] ∧ M = H) n ?_ ?_
  · exact ⟨0, by omega, fun i _ _ h => absurd h (by omega), ⟨rfl, rfl, rfl, trivial⟩, rfl⟩
  rintro q fr M ⟨k, hk, hall, hf, rfl⟩
  obtain ⟨base, rfl⟩ := hf.out
  clear hf
  by_cases hlt : k < n
  · obtain ⟨b1, o1, rfl⟩ := hl.pos (by omega)
    obtain ⟨b2, o2, rfl⟩ := hm.pos (by omega)
    have k1 : k < l.length := by omega
    have k2 : k < m.length := by omega
    have c1 := hl.cell k1
    have c2 := hm.cell k2
    by_cases he : l[k] = m[k]
    · have hn : l[k].toNat = m[k].toNat := by rw [he]
      repeat (first | refine go_ ?_ | refine bx_ (fun _ => ?_))
      (refine hc_draw (by kernel_rfl) (by kernel_rfl) ?_; repeat (first | refine hl_loadRd rfl hl.rd (Imp.refl _) c1 rfl ?_ | refine hl_loadRd rfl hm.rd (Imp.refl _) c2 rfl ?_ | refine gd1_ ?_))
      repeat (first | refine go_ ?_ | refine bx_ (fun _ => ?_))
      refine ⟨q - 1, by omega, _, Imp.refl _, k + 1, by omega, fun i h1 h2 h3 => ?_, ⟨rfl, rfl, rfl, trivial⟩, rfl⟩
      by_cases h : i < k
      · exact hall i h1 h2 h
      · obtain rfl : i = k := by omega
        exact he
    · have hn : l[k].toNat ≠ m[k].toNat := fun h => he (UInt8.toNat_inj.1 h)
      repeat (first | refine go_ ?_ | refine bx_ (fun _ => ?_))
      (refine hc_draw (by kernel_rfl) (by kernel_rfl) ?_; repeat (first | refine hl_loadRd rfl hl.rd (Imp.refl _) c1 rfl ?_ | refine hl_loadRd rfl hm.rd (Imp.refl _) c2 rfl ?_ | refine gd1_ ?_))
      repeat (first | refine go_ ?_ | refine bx_ (fun _ => ?_))
      exact fin1B rfl rfl ⟨by rw [decide_eq_false (fun h => he (by simp [h]))], rfl⟩
  · obtain rfl : k = n := by omega
    have : l = m := List.ext_getElem (by omega) fun i h1 h2 => hall i h1 h2 (by omega)
    repeat (first | refine go_ ?_ | refine bx_ (fun _ => ?_))
    exact fin1B rfl rfl ⟨by rw [decide_eq_true this], rfl⟩
theorem join_fn {a a2 : Option Addr} {n n2 c c2 : Nat} {l m : List UInt8} (hl : BytR w0 B H a n c l) (hm : BytR w0 B H a2 n2 c2 m) (hs : n ≤ 1000000000) (hs2 : n2 ≤ 1000000000) :
    Fn Try.prog w0 B 15 [.slice a n c, .slice a2 n2 c2] H (fun v H' => Own 5 1 v (n + n2) ((l ++ m).map byteV) H H') := by
  have e1 := hl.eq
  have e2 := hm.eq
  refine fn_intro Try.func15 rfl (by kernel_rfl) rfl ?_
  repeat (first | refine go_ ?_ | refine bx_ (fun _ => ?_))
  refine hl_append rfl rfl .here rfl hl.rd.under (by simp [e1]) rfl (by decide) (by decide) (by omega) (by omega) rfl (fun g' cap' h1 h2 => ?_)
  rw [List.nil_append, Nat.zero_add] at *
  repeat (first | refine go_ ?_ | refine bx_ (fun _ => ?_))
  refine hl_append rfl rfl .here (by simp [e1]) hm.rd.under (by simp [e2]) rfl (by decide) (by omega) (by omega) (by omega) rfl (fun g2 cap2 h3 h4 => ?_)
  rw [← List.map_append]
  repeat (first | refine go_ ?_ | refine bx_ (fun _ => ?_))
  exact fin1S rfl rfl (Own.mk h3 h4 (by simp [e1, e2]) (List.Perm.refl _))
theorem grow_fn (n : Nat) (hn : n ≤ 100000000000) : Fn Try.prog w0 B 39 [.slice none 0 0, .int .i64 (n : Int)] H (fun v H' => Own 5 1 v 0 [] H H') := by
  refine fn_intro Try.func39 rfl (by kernel_rfl) rfl ?_
  by_cases h0 : n = 0
  · subst h0
    repeat (first | refine go_ ?_ | refine bx_ (fun _ => ?_) | refine hl_cap rfl rfl ?_)
    exact fin1S rfl rfl Own.nil
  · repeat (first | refine go_ ?_ | refine bx_ (fun _ => ?_) | refine hl_cap rfl rfl ?_)
    refine hl_sliceTo (j := 0) rfl rfl rfl (by omega) rfl ?_
    repeat (first | refine go_ ?_ | refine bx_ (fun _ => ?_))
    refine hl_appendZ (k := n) rfl rfl (by show Value.int .i64 ((n : Int) - (((0 : Nat) : Int) - ((0 : Nat) : Int))) = _; congr 1 <;> omega) (by omega) hn rfl (fun g cap h1 h2 => ?_)
    repeat (first | refine go_ ?_ | refine bx_ (fun _ => ?_))
    refine hl_sliceTo (j := 0) rfl rfl rfl (by omega) rfl ?_
    repeat (first | refine go_ ?_ | refine bx_ (fun _ => ?_))
    exact fin1S rfl rfl (Own.mk (by omega) h2 rfl (List.Perm.refl _))
def sumL (ps : List Part) : Nat := (ps.map (·.len)).sum
theorem sumL_take {ps : List Part} {k : Nat} (h : k < ps.length) : sumL (ps.take (k + 1)) = sumL (ps.take k) + ps[k].len := by
  unfold sumL
  rw [List.take_add_one, List.getElem?_eq_getElem h, List.map_append, List.sum_append]
  simp
theorem sumL_le (ps : List Part) (k : Nat) : sumL (ps.take k) ≤ sumL ps := by
  have : sumL ps = sumL (ps.take k) + sumL (ps.drop k) := by
    unfold sumL
    rw [← List.sum_append, ← List.map_append, List.take_append_drop]
  omega
theorem flat_take {ps : List Part} {k : Nat} (h : k < ps.length) : (ps.take (k + 1)).flatMap (·.bs) = (ps.take k).flatMap (·.bs) ++ ps[k].bs := by
  rw [List.take_add_one, List.getElem?_eq_getElem h, List.flatMap_append]
  simp
theorem concat_fn {a : Option Addr} {len cap : Nat} {ps : List Part} (hp : PartsR w0 B H a len ps) (hle : len ≤ 9223372036854775806) (hs : sumL ps ≤ 1000000000) :
    Fn Try.prog w0 B 31 [.slice a len cap] H (fun v H' => Own 5 1 v (sumL ps) ((ps.flatMap (·.bs)).map byteV) H H') := by
  have he := hp.eq
  refine fn_intro Try.func31 rfl (by kernel_rfl) rfl ?_
  repeat (first | refine go_ ?_ | refine bx_ (fun _ => ?_))
  refine hc_loopd (fun q fr M => ∃ k, k + q = len ∧ Agr fr [(0, .slice a len cap), (3, .int .i64 (sumL (ps.take k) : Int)), (9, .slice a len cap), (10, .int .i64 (len : Int)), (11, .int .i64 (k : Int))] ∧ M = H) len ?_ ?_
  · exact ⟨0, by omega, ⟨rfl, rfl, rfl, rfl, rfl, trivial⟩, rfl⟩
  rintro q fr M ⟨k, hk, hf, rfl⟩
  obtain ⟨base, rfl⟩ := hf.out
  clear hf
  by_cases hlt : k < len
  · obtain ⟨bb, off, rfl⟩ := hp.pos (by omega)
    obtain ⟨p, hkl, hpe, hcell, hok⟩ := hp.at hlt
    have hst := sumL_take hkl
    rw [← hpe] at hst
    have b1 := sumL_le ps (k + 1)
    generalize sumL (ps.take k) = s1 at *
    repeat (first | refine hl_loadRd rfl hp.rd (Imp.refl _) hcell rfl ?_ | refine go1_ ?_ | refine bx_ (fun _ => ?_))
    exact ⟨q - 1, by omega, _, Imp.refl _, k + 1, by omega, ⟨rfl, by rw [hst]; rfl, rfl, rfl, rfl, trivial⟩, rfl⟩
  obtain rfl : len = k := by omega
  rw [show ps.take len = ps by rw [← he]; exact List.take_length]
  repeat (first | refine go_ ?_ | refine bx_ (fun _ => ?_))
  refine hl_call rfl rfl (grow_fn (sumL ps) (by omega)) (fun v M2 o => ?_)
  obtain ⟨a0, c0, rfl, _, _⟩ := o.form
  repeat (first | refine go_ ?_ | refine bx_ (fun _ => ?_))
  refine hc_loopd (fun q fr M3 => ∃ k v n, k + q = len ∧ n = sumL (ps.take k) ∧ Own 5 1 v n (((ps.take k).flatMap (·.bs)).map byteV) M M3 ∧ Agr fr [(6, v), (25, .slice a len cap), (26, .int .i64 (len : Int)), (27, .int .i64 (k : Int))]) len ?_ ?_
  · exact ⟨0, _, 0, by omega, rfl, o, rfl, rfl, rfl, rfl, trivial⟩
  clear base
  rintro q fr M3 ⟨j, v, n, hj, rfl, o3, hf⟩
  obtain ⟨base, rfl⟩ := hf.out
  clear hf
  by_cases hlt2 : j < len
  · obtain ⟨bb, off, rfl⟩ := hp.pos (by omega)
    obtain ⟨p, hkl, hpe, hcell, hok⟩ := hp.at hlt2
    have hst := sumL_take hkl
    have hft := flat_take hkl
    rw [← hpe] at hst hft
    have b1 := sumL_le ps (j + 1)
    obtain ⟨a1, c1, rfl, _, _⟩ := o3.form
    have i3 := o3.imp
    have hok3 := hok.imp i3
    repeat (first | refine hl_loadRd rfl hp.rd i3 hcell rfl ?_ | refine go1_ ?_ | refine bx_ (fun _ => ?_))
    refine hl_append_own (F := M) rfl rfl o3 hok3.rd (by rw [List.length_map, hok.eq, Nat.mul_one]) rfl (by decide) (by omega) (by omega) rfl (fun v4 M4 o4 => ?_)
    obtain ⟨a4, c4, rfl, _, _⟩ := o4.form
    rw [← List.map_append, ← hft, ← hst] at o4
    repeat (first | refine go_ ?_ | refine bx_ (fun _ => ?_))
    exact ⟨q - 1, by omega, _, Imp.refl _, j + 1, _, _, by omega, rfl, o4, by rw [hst]; rfl, rfl, rfl, rfl, trivial⟩
  · obtain rfl : len = j := by omega
    rw [show ps.take len = ps by rw [← he]; exact List.take_length] at o3
    obtain ⟨a1, c1, rfl, _, _⟩ := o3.form
    repeat (first | refine go_ ?_ | refine bx_ (fun _ => ?_))
    exact fin1S rfl rfl o3
end
end Go.Proofs.Ytpeegklnkecajaa
