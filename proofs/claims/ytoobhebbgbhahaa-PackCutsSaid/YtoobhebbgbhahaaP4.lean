/-
  Numbers that are written. No condition.
-/
import Derived.Test.YtoobhebbgbhahaaP3
import Derived.Test.YtoobhebbgbhahaaTy
import Derived.Lib.AppendZerosOnto
namespace Go.Proofs.Ytoobhebbgbhahaa
open Go.RowKit
theorem Imp.sub {H H2 : List Ent} (h : H2.Sublist H) : Imp H H2 := fun _ _ _ hw =>
  ⟨hw.below, hw.lt, List.Nodup.sublist (h.map _) hw.nodup, fun e he => hw.own e (h.subset he)⟩
theorem Take.app {e : Ent} : ∀ {R R' : List Ent} (X : List Ent), Take R e R' → Take (X ++ R) e (X ++ R')
  | _, _, [], h => h
  | _, _, _ :: X, h => .there (Take.app X h)
section
variable {c : Cx} {fr : Fr} {H : List Ent} {ops : Array Oper} {S : List Oper → Fr → List Ent → Prop} {rest : List Oper} {dst : Option Nat} {ty : TypeId} {pos : String} {after : Array Edge} {x y : Operand} {t u T U : TypeId}
theorem hl_loadRd [Stp c ops S] {E : List Ent} {bb off j : Nat} {l : List Value} {v : Value} [TOne c.P T] (hx : ev fr x = .pointer (some ⟨bb, off + j, none⟩)) (hr : Rds c.w0 c.B E (some ⟨bb, off, none⟩) l) (hi : Imp H E) (hv : l[j]? = some v) (hd : dOk c.n dst = true) (h : S rest (updO fr dst v) H) :
    S (⟨dst, .load T x, ty, pos, after, none⟩ :: rest) fr H :=
  hl_load1s (a := ⟨bb, off, none⟩) (j := j) (by rw [Addr.add_lit]; exact hx) (hr.weak fun w hw => hi _ _ _ hw) hv hd h
end
abbrev iV (n : Int) : Value := .int .i64 n
/-- A list of numbers that is read. -/
structure NumR (w0 : World) (B : Nat) (H : List Ent) (a : Option Addr) (len : Nat) (l : List Int) : Prop where
  eq : l.length = len
  pos : 0 < len → ∃ bb off, a = some ⟨bb, off, none⟩
  rd : Rds w0 B H a (l.map iV)
theorem NumR.imp {w0 : World} {B : Nat} {H H' : List Ent} {a : Option Addr} {len : Nat} {l : List Int} (h : NumR w0 B H a len l) (hi : Imp H' H) : NumR w0 B H' a len l := ⟨h.eq, h.pos, h.rd.weak fun w hw => hi _ _ _ hw⟩
theorem NumR.ent {w0 : World} {B : Nat} {H F : List Ent} {g i k n : Nat} {T : TypeId} {C : List Value} {l : List Int} (ht : Take H ⟨g, T, C, k⟩ F) (hC : (C.drop i).take n = l.map iV) (hn : l.length = n) : NumR w0 B H (some ⟨g, i, none⟩) n l :=
  ⟨hn, fun _ => ⟨_, _, rfl⟩, Rds.ent (c := ⟨Try.prog, 0, w0, B⟩) ht hC (fun u hu => by obtain ⟨x, _, rfl⟩ := List.mem_map.1 hu; rfl)⟩
/-- What is being written. -/
def Ou (g : Nat) (bs : List UInt8) (X : List Ent) : Prop := ∃ sv Xb, X = ⟨g, 74, [sv], 1⟩ :: Xb ∧ ∀ F, Own 5 1 sv bs.length (bs.map byteV) F (Xb ++ F)
theorem length_numsB_le : ∀ {l : List Int}, (∀ n ∈ l, I64 n) → (numsB l).length ≤ 10 * l.length
  | [], _ => Nat.le_refl _
  | n :: l, h => by
    have h1 := length_numsB_le (l := l) fun m hm => h m (by simp [hm])
    have h2 := length_numB_le (h n (by simp))
    rw [numsB_cons, List.length_append, List.length_cons]; omega
theorem numsB_take {l : List Int} {k : Nat} (h : k < l.length) : numsB (l.take (k + 1)) = numsB (l.take k) ++ numB l[k] := by
  rw [List.take_succ_eq_append_getElem h, numsB_append]
  simp [numsB]
section
variable {w0 : World} {B : Nat} {H R : List Ent} {g : Nat}
set_option maxHeartbeats 8000000
set_option maxRecDepth 100000
theorem onum_fn {bs : List UInt8} {X : List Ent} (hX : Ou g bs X) {a : Option Addr} {len cap : Nat} {L : List Int} (hL : NumR w0 B R a len L) (hI : ∀ n ∈ L, I64 n) (hb : bs.length + 10 * len ≤ 1000000000) :
    Fn Try.prog w0 B 25 [.pointer (some ⟨g, 0, none⟩), .slice a len cap] (X ++ R) (fun _ H' => ∃ X', Imp H' (X' ++ R) ∧ Ou g (bs ++ numsB L) X') := by
  have he := hL.eq
  refine fn_intro Try.func25 rfl (by kernel_rfl) rfl ?_
  repeat (first | refine go_ ?_ | refine bx_ (fun _ => ?_))
  refine hc_loopd (fun q fr M => ∃ k X, k + q = len ∧ Ou g (bs ++ numsB (L.take k)) X ∧ Imp M (X ++ R) ∧ Agr fr [(0, .pointer (some ⟨g, 0, none⟩)), (7, .slice a len cap), (8, .int .i64 (len : Int)), (9, .int .i64 (k : Int))]) len ?_ ?_
  · exact ⟨0, X, by omega, by simpa [numsB] using hX, Imp.refl _, rfl, rfl, rfl, rfl, trivial⟩
  clear hX X
  rintro q fr M ⟨k, X, hk, ⟨sv, Xb, rfl, ho⟩, hi, hf⟩
  obtain ⟨base, rfl⟩ := hf.out
  clear hf
  refine HC.imp ?_ hi
  obtain ⟨av, cv, rfl, _, _⟩ := (ho []).form
  by_cases hlt : k < len
  rotate_left
  · obtain rfl : len = k := by omega
    rw [show L.take len = L by rw [← he]; exact List.take_length] at ho ⊢
    repeat (first | refine go_ ?_ | refine bx_ (fun _ => ?_))
    exact fin0 rfl (H2 := (⟨g, 74, [.slice av (bs ++ numsB L).length cv], 1⟩ :: Xb) ++ R) ⟨_ :: Xb, Imp.refl _, _, Xb, rfl, ho⟩ (Imp.refl _)
  obtain ⟨bb, off, rfl⟩ := hL.pos (by omega)
  have hkL : k < L.length := by omega
  have hcell : (L.map iV)[k]? = some (.int .i64 L[k]) := by simp [hkL]
  have hn := hI _ (List.getElem_mem hkL)
  have hz := zz_u64 hn
  have hzl := zz_lt hn
  have hst := numsB_take hkL
  have hlen : (bs ++ numsB (L.take (k + 1))).length ≤ 1000000000 := by
    have := length_numsB_le (l := L.take (k + 1)) fun m hm => hI m (List.mem_of_mem_take hm)
    rw [List.length_take] at this
    rw [List.length_append]; omega
  generalize hv : L[k] = v at *
  repeat (first | refine hl_loadRd rfl hL.rd (Imp.drop (Imp.tail Xb _)) hcell rfl ?_ | refine go1_ ?_ | refine bx_ (fun _ => ?_))
  rw [hz]
  have htgt : (bs ++ numsB (L.take k)) ++ putU (zz v) = bs ++ numsB (L.take (k + 1)) := by rw [hst, List.append_assoc]; rfl
  obtain ⟨tgt, htgd⟩ : ∃ t, t = bs ++ numsB (L.take (k + 1)) := ⟨_, rfl⟩
  rw [← htgd] at htgt hlen
  generalize zz v = u0 at *
  refine hc_loopd (fun u fr M => ∃ bs1 X, bs1 ++ putU u = tgt ∧ Ou g bs1 X ∧ Imp M (X ++ R) ∧ Agr fr [(0, .pointer (some ⟨g, 0, none⟩)), (6, .int .u64 (u : Int)), (7, .slice (some ⟨bb, off, none⟩) len cap), (8, .int .i64 (len : Int)), (9, .int .i64 (k : Int))]) u0 ?_ ?_
  · exact ⟨_, _ :: Xb, htgt, ⟨_, Xb, rfl, ho⟩, Imp.refl _, rfl, rfl, rfl, rfl, rfl, trivial⟩
  clear base ho htgt hst hz hi
  rintro u fr M ⟨bs1, X, ht, ⟨sv, Xb, rfl, ho⟩, hi, hf⟩
  obtain ⟨base, rfl⟩ := hf.out
  clear hf
  refine HC.imp ?_ hi
  obtain ⟨av, cv, rfl, hc1, hc2⟩ := (ho []).form
  have htl := congrArg List.length ht
  have hpl := length_putU u
  rw [List.length_append] at htl
  by_cases hge : 128 ≤ u
  · repeat (first | rw [byteOr] | refine go1_ ?_ | refine bx_ (fun _ => ?_))
    rename_i gb
    refine hl_append_own rfl rfl (((ho R).under ⟨g, 74, [.slice av bs1.length cv], 1⟩).under ⟨gb, 5, [.int .u8 ((UInt8.ofNat (u % 128 + 128)).toNat : Int)], 1 * 1⟩) (Rds.ent (n := 1) (l := [.int .u8 ((UInt8.ofNat (u % 128 + 128)).toNat : Int)]) .here rfl (by simp [Value.oneCell'])) rfl rfl (by decide) (by omega) (by omega) rfl (fun v4 M4 o4 => ?_)
    obtain ⟨a4, c4, rfl, _, _⟩ := o4.form
    obtain ⟨Z, hZ, ho4⟩ := o4.permE
    refine HL.perm ?_ (hZ.trans (Take.app Z (.there .here)).perm)
    repeat (first | refine go_ ?_ | refine bx_ (fun _ => ?_))
    refine ⟨u / 128, by omega, _, Imp.refl _, bs1 ++ [UInt8.ofNat (u % 128 + 128)], ⟨g, 74, [.slice a4 (bs1.length + 1) c4], 1⟩ :: Z, ?_, ⟨_, Z, rfl, fun F => ?_⟩, ?_, rfl, Eq.trans (b := .int .u64 ((u : Int) / 2 ^ 7)) rfl (congrArg (Value.int .u64) (by omega)), rfl, rfl, rfl, trivial⟩
    · rw [List.append_assoc, ← ht, putU_ge (u := u) (by omega)]; rfl
    · rw [List.map_append, List.length_append]; exact ho4 F
    · exact Imp.sub (List.Sublist.cons_cons _ (List.Sublist.append (List.Sublist.refl _) (List.sublist_cons_self _ _)))
  · repeat (first | rw [byte_lt (show u < 128 by omega)] | refine go1_ ?_ | refine bx_ (fun _ => ?_))
    rename_i gb
    refine hl_append_own rfl rfl (((ho R).under ⟨g, 74, [.slice av bs1.length cv], 1⟩).under ⟨gb, 5, [.int .u8 ((UInt8.ofNat u).toNat : Int)], 1 * 1⟩) (Rds.ent (n := 1) (l := [.int .u8 ((UInt8.ofNat u).toNat : Int)]) .here rfl (by simp [Value.oneCell'])) rfl rfl (by decide) (by omega) (by omega) rfl (fun v4 M4 o4 => ?_)
    obtain ⟨a4, c4, rfl, _, _⟩ := o4.form
    obtain ⟨Z, hZ, ho4⟩ := o4.permE
    refine HL.perm ?_ (hZ.trans (Take.app Z (.there .here)).perm)
    repeat (first | refine go_ ?_ | refine bx_ (fun _ => ?_))
    refine ⟨q - 1, by omega, _, Imp.refl _, k + 1, ⟨g, 74, [.slice a4 (bs1.length + 1) c4], 1⟩ :: Z, by omega, ⟨_, Z, rfl, fun F => ?_⟩, ?_, rfl, rfl, rfl, rfl, trivial⟩
    · rw [← htgd, ← ht, putU_lt (u := u) (by omega), List.map_append, List.length_append]; exact ho4 F
    · exact Imp.sub (List.Sublist.cons_cons _ (List.Sublist.append (List.Sublist.refl _) (List.sublist_cons_self _ _)))
end
end Go.Proofs.Ytoobhebbgbhahaa
