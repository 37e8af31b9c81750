/-
  Parts of bytes, numbers in four bytes, what is put together. No condition.
-/
import Derived.Test.YtpeegklnkecajaaC1
import Derived.Lib.AppendZerosOnto
namespace Go.Proofs.Ytpeegklnkecajaa
open Go.RowKit
section
variable {c : Cx} {Q : Pst} {fr : Fr} {H F : List Ent} {ops : Array Oper} {S : List Oper → Fr → List Ent → Prop} {rest : List Oper} {dst : Option Nat} {ty : TypeId} {pos : String} {after : Array Edge} {x y : Operand} {t u T U e : TypeId}
/-- 's[i:j]' of bytes that are read. -/
theorem hl_sliceBy [hS : Stp c ops S] {E : List Ent} {a : Option Addr} {len cap i j : Nat} {l : List UInt8} {lo hi : Option Operand} {ki kj : IntKind} [hT : TSlc c.P T e] [TSz c.P e 1] (hx : ev fr x = .slice a len cap) (hb : BytR c.w0 c.B E a len cap l) (hE : Imp H E)
    (hlo : match lo with | some o => ev fr o = .int ki (i : Int) | none => i = 0) (hhi : match hi with | some o => ev fr o = .int kj (j : Int) | none => j = len) (hij : i ≤ j) (hj : j ≤ len) (hd : dOk c.n dst = true)
    (h : ∀ a', BytR c.w0 c.B E a' (j - i) (cap - i) ((l.drop i).take (j - i)) → S rest (updO fr dst (.slice a' (j - i) (cap - i))) H) :
    S (⟨dst, .slice T x lo hi none, ty, pos, after, none⟩ :: rest) fr H := by
  have heq := hb.eq
  have hle := hb.le
  have hsm := hb.small
  have hlen : ((l.drop i).take (j - i)).length = j - i := by rw [List.length_take, List.length_drop]; omega
  by_cases h0 : 0 < len
  · obtain ⟨bb, off, rfl⟩ := hb.pos h0
    refine hl_slice hx hlo hhi hij (by omega) hd fun off' ho => h _ ⟨hlen, by omega, by omega, fun h => (by cases h), fun _ => ⟨_, _, rfl⟩, ?_⟩
    rw [List.map_take, List.map_drop]
    by_cases hic : i < cap
    · rw [ho hic, Nat.mul_one]
      refine ⟨fun w hw ad ha k v hv => ?_, fun h => (by cases h), fun v hv => hb.rd.one v (List.mem_of_mem_drop (List.mem_of_mem_take hv))⟩
      cases ha
      rw [List.getElem?_take] at hv
      split at hv
      · rw [List.getElem?_drop] at hv
        have := hb.rd.cell w hw _ rfl (i + k) v hv
        rw [Addr.add_lit] at this ⊢
        rw [← this, Nat.add_assoc]
      · cases hv
    · rw [show j - i = 0 by omega, List.take_zero]
      exact ⟨fun _ _ _ _ j u hu => by simp at hu, fun h => (by cases h), fun _ h => by cases h⟩
  · have hr : Rds c.w0 c.B H a (l.map byteV) := hb.rd.weak fun w hw => hE _ _ _ hw
    refine hl_sliceR hx hr (by simpa using heq) hle hb.nil hlo hhi hij hj hd fun a' h1 h2 => h a' ⟨hlen, by omega, by omega, h2, fun h => absurd h (by omega), ?_⟩
    rw [List.map_take, List.map_drop, show j - i = 0 by omega, List.take_zero]
    exact ⟨fun _ _ _ _ j u hu => by simp at hu, fun _ => rfl, fun _ h => by cases h⟩
/-- 's[i:j]' where i lies ahead of the row's end. -/
theorem hl_sliceX [hS : Stp c ops S] {b off len cap i j : Nat} {lo hi : Option Operand} {ki kj : IntKind} [hT : TSlc c.P T e] [TSz c.P e 1] (hx : ev fr x = .slice (some ⟨b, off, none⟩) len cap)
    (hlo : match lo with | some o => ev fr o = .int ki (i : Int) | none => i = 0) (hhi : match hi with | some o => ev fr o = .int kj (j : Int) | none => j = len) (hij : i ≤ j) (hj : j ≤ cap) (hic : i < cap) (hd : dOk c.n dst = true)
    (h : S rest (updO fr dst (.slice (some ⟨b, off + i, none⟩) (j - i) (cap - i))) H) :
    S (⟨dst, .slice T x lo hi none, ty, pos, after, none⟩ :: rest) fr H :=
  hl_slice hx hlo hhi hij hj hd (fun off' ho => by rw [ho hic, Nat.mul_one]; exact h)
theorem hl_cap [hS : Stp c ops S] {len cap : Nat} {a : Option Addr} [hT : TSlc c.P T e] (hx : ev fr x = .slice a len cap) (hd : dOk c.n dst = true) (h : S rest (updO fr dst (.int .i64 (cap : Int))) H) :
    S (⟨dst, .call { callee := .builtin .cap, args := #[x], argTypes := #[T] }, ty, pos, after, none⟩ :: rest) fr H :=
  hl_pure hd _ (fun w _ => by simp [execOp, resolve, invoke, builtin, Builtin.cap_, hx, run_underlying hT.h, goInt]) h
/-- 'append(nil, make(..)...)': room, of which nothing is told. -/
theorem hl_appendZ [hT : TSlc c.P T e] [hsz : TSz c.P e 1] [hby : TByt c.P e 1] {z : Value} [hz : TZero c.P e z] [hn : TInt c.P U .i64] {k : Nat} (hzs : z.cells.size = 1) (hx : ev fr x = .slice none 0 0) (hy : ev fr y = .int .i64 (k : Int)) (h0 : 0 < k) (hk : k ≤ 100000000000) (hd : dOk c.n dst = true)
    (h : ∀ g cap, k ≤ cap → cap ≤ 9223372036854775807 → HL c ops Q rest (updO fr dst (.slice (some ⟨g, 0, none⟩) k cap)) (⟨g, e, [], cap * 1⟩ :: H)) :
    HL c ops Q (⟨dst, .call { callee := .builtin .append, args := #[x, y], argTypes := #[T, U] }, ty, pos, after, none⟩ :: rest) fr H :=
  hl_some hd fun w hw => by
    obtain ⟨inf, hi, hs⟩ := hsz.info
    obtain ⟨inf2, hi2, hzz⟩ := Option.bind_eq_some_iff.1 hz.h
    have e2 := Option.some.inj (hi2.symm.trans hi)
    subst e2
    obtain ⟨inf3, hi3, hbb⟩ := Option.map_eq_some_iff.1 hby.h
    have e3 := Option.some.inj (hi3.symm.trans hi)
    subst e3
    have hr := Lib.run_append_grow_zeros (P := c.P) w T U ty e _ z .i64 .i64 hT.h hn.h hi hzz none 0 0 [] (by simp [Builtin.firstCells]) k h0 (by omega) (by omega) (by omega) (by rw [hbb]; omega) (growslice_fits (by omega) (by rw [hbb]; omega))
    rw [Nat.zero_add] at hr
    have hg := grownCap_ge w k 0 e
    have hm : grownCap w k 0 e ≤ 9223372036854775807 := by
      have := grownCap_le_maxLen w k 0 e (by unfold maxLen; omega)
      unfold maxLen at this; omega
    refine ⟨.slice (some ⟨w.heap.size, 0, none⟩) k (grownCap w k 0 e), _, _, ?_, (hw.grow (Below.refl _ _).drew).new (#[] ++ Builtin.zeroCells z.cells k ++ Builtin.zeroCells z.cells (grownCap w k 0 e - k)) e [] (grownCap w k 0 e * 1) List.nil_prefix ?_, h w.heap.size _ hg hm⟩
    · simp only [execOp, resolve, invoke, builtin, Sem.run_bind, Sem.run_pure, Result.andThen_ok, List.map_toArray, List.map_cons, List.map_nil, hx, hy, hr]
    · simp [size_zeroCells, hzs]; omega
end
theorem BytR.drop {w0 : World} {B : Nat} {H : List Ent} {bb off len cap : Nat} {l : List UInt8} (h : BytR w0 B H (some ⟨bb, off, none⟩) len cap l) (i n : Nat) (hi : i + n ≤ len) : BytR w0 B H (some ⟨bb, off + i, none⟩) n (cap - i) ((l.drop i).take n) := by
  have he := h.eq
  have hle := h.le
  have hs := h.small
  refine ⟨by rw [List.length_take, List.length_drop]; omega, by omega, by omega, fun h => (by cases h), fun _ => ⟨_, _, rfl⟩, ?_⟩
  rw [List.map_take, List.map_drop]
  refine ⟨fun w hw ad ha k v hv => ?_, fun h => (by cases h), fun v hv => h.rd.one v (List.mem_of_mem_drop (List.mem_of_mem_take hv))⟩
  cases ha
  rw [List.getElem?_take] at hv
  split at hv
  · rw [List.getElem?_drop] at hv
    have := h.rd.cell w hw _ rfl (i + k) v hv
    rw [Addr.add_lit] at this ⊢
    rw [← this, Nat.add_assoc]
  · cases hv
/-! Numbers in bytes -/
def be4 (n : Nat) : List UInt8 := [UInt8.ofNat (n / 2 ^ 24), UInt8.ofNat (n / 2 ^ 16), UInt8.ofNat (n / 2 ^ 8), UInt8.ofNat n]
def num4 (l : List UInt8) : Nat := (((l.getD 0 0).toNat * 256 + (l.getD 1 0).toNat) * 256 + (l.getD 2 0).toNat) * 256 + (l.getD 3 0).toNat
theorem length_be4 (n : Nat) : (be4 n).length = 4 := rfl
theorem wrap8 (n : Nat) : IntKind.u8.wrap (n : Int) = ((UInt8.ofNat n).toNat : Int) := by
  rw [IntKind.wrap_u8]
  simp
theorem wrap8d (n k : Nat) : IntKind.u8.wrap ((n : Int) / 2 ^ k) = ((UInt8.ofNat (n / 2 ^ k)).toNat : Int) := by
  rw [show ((n : Int) / 2 ^ k) = ((n / 2 ^ k : Nat) : Int) by simp, wrap8]
theorem num4_lt (l : List UInt8) : num4 l < 4294967296 := by
  unfold num4
  have h0 := (l.getD 0 0).toNat_lt
  have h1 := (l.getD 1 0).toNat_lt
  have h2 := (l.getD 2 0).toNat_lt
  have h3 := (l.getD 3 0).toNat_lt
  omega
theorem num4_be4 {n : Nat} (h : n < 4294967296) (r : List UInt8) : num4 (be4 n ++ r) = n := by
  unfold num4 be4
  simp only [List.cons_append, List.getD_cons_zero, List.getD_cons_succ, UInt8.toNat_ofNat']
  omega
theorem or_add (a b : Nat) (k : Nat) (hb : b < 2 ^ k) (h : a * 2 ^ k + b < 9223372036854775808) : bits .or .i64 ((a * 2 ^ k : Nat) : Int) (b : Int) = ((a * 2 ^ k + b : Nat) : Int) := by
  rw [or64 _ _ (by omega) (by omega)]
  congr 1
  rw [Nat.mul_comm, Nat.two_pow_add_eq_or_of_lt hb]
section
variable {w0 : World} {B : Nat} {H : List Ent}
set_option maxHeartbeats 8000000
set_option maxRecDepth 100000
theorem number_fn {a : Option Addr} {len cap : Nat} {l : List UInt8} (h : BytR w0 B H a len cap l) (h4 : 4 ≤ len) :
    Fn Try.prog w0 B 26 [.slice a len cap] H (fun v H' => v = .int .i64 (num4 l : Int) ∧ H' = H) := by
  have he := h.eq
  obtain ⟨bb, off, rfl⟩ := h.pos (by omega)
  refine fn_intro Try.func26 rfl (by kernel_rfl) rfl ?_
  have hr := h.rd.rowB
  rw [he] at hr
  have b0 := (l.getD 0 0).toNat_lt
  have b1 := (l.getD 1 0).toNat_lt
  have b2 := (l.getD 2 0).toNat_lt
  have b3 := (l.getD 3 0).toNat_lt
  repeat (first | refine go_ ?_ | refine bx_ (fun _ => ?_))
  (refine hc_draw (by kernel_rfl) (by kernel_rfl) ?_; repeat (first | refine gd_ ?_))
  have c0 : IntKind.i64.wrap (byteF l 0) = byteF l 0 := IntWalk.i64_in _ (by unfold byteF; omega)
  have c1 : IntKind.i64.wrap (byteF l 1) = byteF l 1 := IntWalk.i64_in _ (by unfold byteF; omega)
  have c2 : IntKind.i64.wrap (byteF l 2) = byteF l 2 := IntWalk.i64_in _ (by unfold byteF; omega)
  have c3 : IntKind.i64.wrap (byteF l 3) = byteF l 3 := IntWalk.i64_in _ (by unfold byteF; omega)
  have d0 : IntKind.i64.wrap (byteF l 0 * 2 ^ 24) = (((l.getD 0 0).toNat * 2 ^ 24 : Nat) : Int) := by rw [IntWalk.i64_in _ (by unfold byteF; omega)]; unfold byteF; omega
  have d1 : IntKind.i64.wrap (byteF l 1 * 2 ^ 16) = (((l.getD 1 0).toNat * 2 ^ 16 : Nat) : Int) := by rw [IntWalk.i64_in _ (by unfold byteF; omega)]; unfold byteF; omega
  have d2 : IntKind.i64.wrap (byteF l 2 * 2 ^ 8) = (((l.getD 2 0).toNat * 2 ^ 8 : Nat) : Int) := by rw [IntWalk.i64_in _ (by unfold byteF; omega)]; unfold byteF; omega
  have e1 := or_add (l.getD 0 0).toNat ((l.getD 1 0).toNat * 2 ^ 16) 24 (by omega) (by omega)
  have e2 := or_add ((l.getD 0 0).toNat * 2 ^ 8 + (l.getD 1 0).toNat) ((l.getD 2 0).toNat * 2 ^ 8) 16 (by omega) (by omega)
  have e3 := or_add ((l.getD 0 0).toNat * 2 ^ 16 + (l.getD 1 0).toNat * 2 ^ 8 + (l.getD 2 0).toNat) ((l.getD 3 0).toNat) 8 (by omega) (by omega)
  rw [c0, c1, c2, c3, d0, d1, d2, e1, show (l.getD 0 0).toNat * 2 ^ 24 + (l.getD 1 0).toNat * 2 ^ 16 = ((l.getD 0 0).toNat * 2 ^ 8 + (l.getD 1 0).toNat) * 2 ^ 16 by omega, e2,
    show ((l.getD 0 0).toNat * 2 ^ 8 + (l.getD 1 0).toNat) * 2 ^ 16 + (l.getD 2 0).toNat * 2 ^ 8 = ((l.getD 0 0).toNat * 2 ^ 16 + (l.getD 1 0).toNat * 2 ^ 8 + (l.getD 2 0).toNat) * 2 ^ 8 by omega, show byteF l 3 = ((l.getD 3 0).toNat : Int) from rfl, e3]
  repeat (first | refine go_ ?_ | refine bx_ (fun _ => ?_))
  refine fin1I rfl rfl ⟨?_, rfl⟩
  congr 2
  unfold num4
  omega
theorem rnumber_fn {a : Option Addr} {cap : Nat} {l : List UInt8} (h : BytR w0 B H a 4 cap l) :
    Fn Try.prog w0 B 29 [.slice a 4 cap] H (fun v H' => v = .int .i64 (num4 l : Int) ∧ H' = H) := by
  have he := h.eq
  obtain ⟨bb, off, rfl⟩ := h.pos (by omega)
  refine fn_intro Try.func29 rfl (by kernel_rfl) rfl ?_
  have hr := h.rd.rowB
  rw [he] at hr
  have b0 : 0 ≤ byteF l 0 ∧ byteF l 0 < 256 := by have := (l.getD 0 0).toNat_lt; unfold byteF; omega
  have b1 : 0 ≤ byteF l 1 ∧ byteF l 1 < 256 := by have := (l.getD 1 0).toNat_lt; unfold byteF; omega
  have b2 : 0 ≤ byteF l 2 ∧ byteF l 2 < 256 := by have := (l.getD 2 0).toNat_lt; unfold byteF; omega
  have b3 : 0 ≤ byteF l 3 ∧ byteF l 3 < 256 := by have := (l.getD 3 0).toNat_lt; unfold byteF; omega
  repeat (first | refine go_ ?_ | refine bx_ (fun _ => ?_))
  refine hc_rounds 5 ?_
  repeat (first | refine go_ ?_ | refine bx_ (fun _ => ?_))
  refine fin1I rfl rfl ⟨?_, rfl⟩
  congr 1
  unfold num4 byteF
  omega
theorem four_fn (n : Nat) (h : n < 4294967296) : Fn Try.prog w0 B 30 [.int .i64 (n : Int)] H (fun v H' => ∃ g, v = .slice (some ⟨g, 0, none⟩) 4 4 ∧ H' = ⟨g, 5, (be4 n).map byteV, 4⟩ :: H) := by
  refine fn_intro Try.func30 rfl (by kernel_rfl) rfl ?_
  repeat (first | refine go_ ?_ | refine bx_ (fun _ => ?_))
  rename_i g
  rw [wrap8d, wrap8d, wrap8d, wrap8]
  exact fin1S rfl rfl ⟨g, rfl, rfl⟩
theorem big_fn (n : Nat) (h : n < 4294967296) : Fn Try.prog w0 B 32 [.int .i64 (n : Int), .int .i64 4] H (fun v H' => ∃ g, v = .slice (some ⟨g, 0, none⟩) 4 4 ∧ H' = ⟨g, 5, (be4 n).map byteV, 4⟩ :: H) := by
  refine fn_intro Try.func32 rfl (by kernel_rfl) rfl ?_
  repeat (first | refine go_ ?_ | refine bx_ (fun _ => ?_))
  refine hl_make1 (n := 4) rfl rfl rfl (by decide) (by decide) rfl (fun g => ?_)
  repeat (first | refine go_ ?_ | refine bx_ (fun _ => ?_))
  refine hc_rounds 5 ?_
  repeat (first | refine go_ ?_ | refine bx_ (fun _ => ?_))
  have e1 : (n : Int) / 2 ^ 8 / 2 ^ 8 / 2 ^ 8 = (n : Int) / 2 ^ 24 := by omega
  have e2 : (n : Int) / 2 ^ 8 / 2 ^ 8 = (n : Int) / 2 ^ 16 := by omega
  rw [e1, e2, wrap8d, wrap8d, wrap8d, wrap8]
  exact fin1S rfl rfl ⟨g, rfl, rfl⟩
end
end Go.Proofs.Ytpeegklnkecajaa
