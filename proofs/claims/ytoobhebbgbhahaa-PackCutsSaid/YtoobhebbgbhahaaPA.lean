/-
  The document's bytes. No condition.
-/
import Derived.Test.YtoobhebbgbhahaaP9
namespace Go.Proofs.Ytoobhebbgbhahaa
open Go.RowKit
section
variable {c : Cx} {Q : Pst} {fr : Fr} {H : List Ent} {ops : Array Oper} {rest : List Oper} {dst : Option Nat} {ty : TypeId} {pos : String} {after : Array Edge} {x y : Operand} {T e : TypeId} {z : Value}
/-- One row of bytes behind another, both the call's own. -/
theorem hl_join [TSlc c.P T e] [TSz c.P e 1] [TByt c.P e 1] [TZero c.P e z] {n m n' c1 cx : Nat} {a a' : Option Addr} {l r : List UInt8} {Xb Xr Tl : List Ent} (hs : ev fr x = .slice a' n' c1) (hx : ev fr y = .slice a m cx) (hn' : n' = n)
    (ho : ∀ F, Own e 1 (.slice a' n' c1) n (l.map byteV) F (Xb ++ F)) (hr : ∀ F, Own e 1 (.slice a m cx) m (r.map byteV) F (Xr ++ F)) (hp : H.Perm (Xr ++ (Xb ++ Tl))) (hzs : z.cells.size = 1) (hb : n + m ≤ 1000000000) (hd : dOk c.n dst = true)
    (h : ∀ a' c' X', (∀ F, Own e 1 (.slice a' (n + m) c') (n + m) ((l ++ r).map byteV) F (X' ++ F)) → HL c ops Q rest (updO fr dst (.slice a' (n + m) c')) (X' ++ Tl)) :
    HL c ops Q (⟨dst, .call { callee := .builtin .append, args := #[x, y], argTypes := #[T, T] }, ty, pos, after, none⟩ :: rest) fr H := by
  refine HL.perm ?_ (hp.trans (app_swap Xr Xb Tl))
  have hrl := (hr []).len
  have rd : Rds c.w0 c.B (Xb ++ (Xr ++ Tl)) a (r.map byteV) := (((hr Tl).rds (c := c) (fun u hu => by obtain ⟨x, _, rfl⟩ := List.mem_map.1 hu; rfl))).weak fun w hw => (Imp.tail Xb _) _ _ _ hw
  refine hl_append_own (by_ := 1) hs hx (ho (Xr ++ Tl)) rd (by rw [hrl]) hzs (by decide) (by omega) (by omega) hd (fun v4 M4 o4 => ?_)
  obtain ⟨a4, c4, rfl, _, _⟩ := o4.form
  obtain ⟨X4, hp4, ho4⟩ := o4.permE
  refine HL.imp (h a4 c4 X4 fun F => by rw [List.map_append]; exact ho4 F) (Imp.perm hp4 (Imp.sub ?_))
  exact List.Sublist.append (List.Sublist.refl _) (List.sublist_append_right _ _)
end
theorem byteW {u : Nat} (h : u < 256) : IntKind.u8.wrap (u : Int) = ((UInt8.ofNat u).toNat : Int) := by
  rw [byte_ofNat h, show IntKind.u8.wrap (u : Int) = (u : Int) % 256 from rfl]
  omega
section
variable {w0 : World} {B : Nat} {H R R0 : List Ent} {g : Nat}
set_option maxHeartbeats 8000000
set_option maxRecDepth 100000
theorem same_fn {a a2 : Option Addr} {n n2 c c2 : Nat} {l m : List UInt8} (hl : BytR w0 B H a n c l) (hm : BytR w0 B H a2 n2 c2 m) (hs : n ≤ 9223372036854775806) :
    Fn Try.prog w0 B 12 [.slice a n c, .slice a2 n2 c2] H (fun v H' => v = .bool (decide (l = m)) ∧ H' = H) := by
  have e1 := hl.eq
  have e2 := hm.eq
  refine fn_intro Try.func12 rfl (by kernel_rfl) rfl ?_
  by_cases hne : n = n2
  rotate_left
  · repeat (first | refine go_ ?_ | refine bx_ (fun _ => ?_))
    exact fin1B rfl rfl ⟨by rw [decide_eq_false (fun h => hne (by rw [← e1, ← e2, h]))], rfl⟩
  subst hne
  repeat (first | refine go_ ?_ | refine bx_ (fun _ => ?_))
  refine hc_loopd (fun q fr M => ∃ k, k + q = n ∧ (∀ i (h1 : i < l.length) (h2 : i < m.length), i < k → l[i] = m[i]) ∧ Agr fr [(0, .slice a n c), (1, .slice a2 n c2), (5, .int .i64 (k : Int))] ∧ M = H) n ?_ ?_
  · exact ⟨0, by omega, fun i _ _ h => absurd h (by omega), ⟨rfl, rfl, rfl, trivial⟩, rfl⟩
  rintro q fr M ⟨k, hk, hall, hf, rfl⟩
  obtain ⟨base, rfl⟩ := hf.out
  clear hf
  by_cases hlt : k < n
  · obtain ⟨b1, o1, rfl⟩ := hl.pos (by omega)
    obtain ⟨b2, o2, rfl⟩ := hm.pos (by omega)
    have k1 : k < l.length := by omega
    have k2 : k < m.length := by omega
    have c1 := hl.cell k1
    have c2 := hm.cell k2
    by_cases he : l[k] = m[k]
    · have hn : l[k].toNat = m[k].toNat := by rw [he]
      repeat (first | refine go_ ?_ | refine bx_ (fun _ => ?_))
      (refine hc_draw (by kernel_rfl) (by kernel_rfl) ?_; repeat (first | refine hl_loadRd rfl hl.rd (Imp.refl _) c1 rfl ?_ | refine hl_loadRd rfl hm.rd (Imp.refl _) c2 rfl ?_ | refine gd1_ ?_))
      repeat (first | refine go_ ?_ | refine bx_ (fun _ => ?_))
      refine ⟨q - 1, by omega, _, Imp.refl _, k + 1, by omega, fun i h1 h2 h3 => ?_, ⟨rfl, rfl, rfl, trivial⟩, rfl⟩
      by_cases h : i < k
      · exact hall i h1 h2 h
      · obtain rfl : i = k := by omega
        exact he
    · have hn : l[k].toNat ≠ m[k].toNat := fun h => he (UInt8.toNat_inj.1 h)
      repeat (first | refine go_ ?_ | refine bx_ (fun _ => ?_))
      (refine hc_draw (by kernel_rfl) (by kernel_rfl) ?_; repeat (first | refine hl_loadRd rfl hl.rd (Imp.refl _) c1 rfl ?_ | refine hl_loadRd rfl hm.rd (Imp.refl _) c2 rfl ?_ | refine gd1_ ?_))
      repeat (first | refine go_ ?_ | refine bx_ (fun _ => ?_))
      exact fin1B rfl rfl ⟨by rw [decide_eq_false (fun h => he (by simp [h]))], rfl⟩
  · obtain rfl : k = n := by omega
    have : l = m := List.ext_getElem (by omega) fun i h1 h2 => hall i h1 h2 (by omega)
    repeat (first | refine go_ ?_ | refine bx_ (fun _ => ?_))
    exact fin1B rfl rfl ⟨by rw [decide_eq_true this], rfl⟩
theorem join_fn {a a2 : Option Addr} {n n2 c c2 : Nat} {l m : List UInt8} (hl : BytR w0 B H a n c l) (hm : BytR w0 B H a2 n2 c2 m) (hs : n ≤ 1000000000) (hs2 : n2 ≤ 1000000000) :
    Fn Try.prog w0 B 18 [.slice a n c, .slice a2 n2 c2] H (fun v H' => Own 5 1 v (n + n2) ((l ++ m).map byteV) H H') := by
  have e1 := hl.eq
  have e2 := hm.eq
  refine fn_intro Try.func18 rfl (by kernel_rfl) rfl ?_
  repeat (first | refine go_ ?_ | refine bx_ (fun _ => ?_))
  refine hl_append rfl rfl .here rfl hl.rd.under (by simp [e1]) rfl (by decide) (by decide) (by omega) (by omega) rfl (fun g' cap' h1 h2 => ?_)
  rw [List.nil_append, Nat.zero_add] at *
  repeat (first | refine go_ ?_ | refine bx_ (fun _ => ?_))
  refine hl_append rfl rfl .here (by simp [e1]) hm.rd.under (by simp [e2]) rfl (by decide) (by omega) (by omega) (by omega) rfl (fun g2 cap2 h3 h4 => ?_)
  rw [← List.map_append]
  repeat (first | refine go_ ?_ | refine bx_ (fun _ => ?_))
  exact fin1S rfl rfl (Own.mk h3 h4 (by simp [e1, e2]) (List.Perm.refl _))
theorem rnum_fn {n : Int} (hn : I64 n) : Fn Try.prog w0 B 17 [.int .i64 n] H (fun v H' => Own 5 1 v (numB n).length ((numB n).map byteV) H H') := by
  have hlen := length_numB_le hn
  obtain ⟨hn1, hn2⟩ := hn
  refine fn_intro Try.func17 rfl (by kernel_rfl) rfl ?_
  obtain ⟨u, hu⟩ : ∃ u, u = zz n := ⟨_, rfl⟩
  have hput : numB n = putU u := by rw [hu]; rfl
  rw [hput] at hlen ⊢
  have hcs : (∃ N : Nat, n = -1 - (N : Int) ∧ u = 2 * N + 1) ∨ ∃ N : Nat, n = (N : Int) ∧ u = 2 * N := by
    rw [hu]
    unfold zz
    by_cases h0 : 0 ≤ n
    · exact .inr ⟨n.toNat, by omega, by rw [if_pos h0]; omega⟩
    · exact .inl ⟨(-1 - n).toNat, by omega, by rw [if_neg h0]; omega⟩
  clear hu hput
  rcases hcs with ⟨N, rfl, hu⟩ | ⟨N, rfl, hu⟩
  all_goals
    repeat (first | refine go_ ?_ | refine bx_ (fun _ => ?_))
    refine hc_loopd (fun q fr M => ∃ out k sv Xb, (k < 128 ∧ q ≤ 200000000000000000) ∧ out ++ putU (k + 128 * q) = putU u ∧ (∀ F, Own 5 1 sv out.length (out.map byteV) F (Xb ++ F)) ∧ Imp M (Xb ++ H) ∧ Agr fr [(0, .int .i64 (q : Int)), (3, sv), (5, .int .i64 (k : Int))]) (u / 128) ?_ ?_
    · exact ⟨[], u % 128, _, [], ⟨by omega, by omega⟩, by rw [List.nil_append, show u % 128 + 128 * (u / 128) = u by omega], fun F => Own.nil, Imp.refl _, (congrArg (Value.int .i64) (by omega)), rfl, (congrArg (Value.int .i64) (by omega)), trivial⟩
    rintro q fr M ⟨out, k, sv, Xb, ⟨hk, hqs⟩, hput, ho, him, hf⟩
    obtain ⟨base, rfl⟩ := hf.out
    clear hf
    refine HC.imp ?_ him
    obtain ⟨av, cv, rfl, _, _⟩ := (ho []).form
    have hlo := congrArg List.length hput
    rw [List.length_append] at hlo
    by_cases hq : 0 < q
    · have hp1 := putU_ge (u := k + 128 * q) (by omega)
      rw [show (k + 128 * q) % 128 + 128 = k + 128 by omega, show (k + 128 * q) / 128 = q by omega] at hp1
      repeat (first | rw [show ((k : Int) + 128) = ((k + 128 : Nat) : Int) by omega] | rw [byteW (show k + 128 < 256 by omega)] | refine go1_ ?_ | refine bx_ (fun _ => ?_))
      rename_i gb
      refine hl_append_own (F := ⟨gb, 5, [.int .u8 ((UInt8.ofNat (k + 128)).toNat : Int)], 1 * 1⟩ :: H) rfl rfl ((ho H).under _) (Rds.ent (n := 1) (l := [.int .u8 ((UInt8.ofNat (k + 128)).toNat : Int)]) .here rfl (by simp [Value.oneCell'])) rfl rfl (by decide) (by omega) (by omega) rfl (fun v4 M4 o4 => ?_)
      obtain ⟨a4, c4, rfl, _, _⟩ := o4.form
      obtain ⟨Z, hZ, ho4⟩ := o4.permE
      repeat (first | refine go_ ?_ | refine bx_ (fun _ => ?_))
      refine ⟨q / 128, by omega, _, Imp.refl _, out ++ [UInt8.ofNat (k + 128)], q % 128, _, Z, ⟨by omega, by omega⟩, ?_, fun F => by rw [List.map_append, List.length_append]; exact ho4 F, Imp.perm hZ (Imp.sub (List.Sublist.append (List.Sublist.refl _) (List.sublist_cons_self _ _))), (congrArg (Value.int .i64) (by omega)), rfl, (congrArg (Value.int .i64) (by omega)), trivial⟩
      rw [show q % 128 + 128 * (q / 128) = q by omega, List.append_assoc, ← hput, hp1]
      rfl
    · obtain rfl : q = 0 := by omega
      rw [show k + 128 * 0 = k by omega, putU_lt hk] at hput
      repeat (first | rw [byteW (show k < 256 by omega)] | refine go1_ ?_ | refine bx_ (fun _ => ?_))
      rename_i gb
      refine hl_append_own (F := ⟨gb, 5, [.int .u8 ((UInt8.ofNat k).toNat : Int)], 1 * 1⟩ :: H) rfl rfl ((ho H).under _) (Rds.ent (n := 1) (l := [.int .u8 ((UInt8.ofNat k).toNat : Int)]) .here rfl (by simp [Value.oneCell'])) rfl rfl (by decide) (by omega) (by omega) rfl (fun v4 M4 o4 => ?_)
      obtain ⟨a4, c4, rfl, _, _⟩ := o4.form
      obtain ⟨Z, hZ, ho4⟩ := o4.permE
      repeat (first | refine go_ ?_ | refine bx_ (fun _ => ?_))
      rw [← hput]
      refine fin1S rfl rfl (H2 := Z ++ H) ?_ (Imp.perm hZ (Imp.sub (List.Sublist.append (List.Sublist.refl _) (List.sublist_cons_self _ _))))
      rw [List.map_append, List.length_append]; exact ho4 H
end
end Go.Proofs.Ytoobhebbgbhahaa
