/-
  BitsOwn. No condition.
-/
import Derived.Test.YtbgmakblfnpjkaaB5
import Derived.Test.YtbgmakblfnpjkaaOpenNum
namespace Go.Proofs.Ytbgmakblfnpjkaa.bitsOwn
open Go.RowKit

theorem _root_.Go.Proofs.Ytbgmakblfnpjkaa.Wrt.over {g n : Nat} {high : Bool} {l : List UInt8} {F H H' : List Ent} {e sz k : Nat} {v : Value} {C : List Value} (h : Wrt g high l n F H) (ho : Own e sz v k C H H') : ∃ F1, Wrt g high l n F1 H' := by
  obtain ⟨X, hX, hW⟩ := h.open
  obtain ⟨Z, hZ, _⟩ := ho.permE
  exact ⟨Z ++ F, (hW _).perm (hZ.trans ((hX.append_left Z).trans (app_swap _ _ _)))⟩
theorem _root_.Go.Proofs.Ytbgmakblfnpjkaa.hl_strEqT {c : Cx} {fr : Fr} {H : List Ent} {ops : Array Oper} {rest : List Oper} {dst : Option Nat} {ty : TypeId} {pos : String} {after : Array Edge} {x y : Operand} {T u : TypeId} {S : List Oper → Fr → List Ent → Prop} [Stp c ops S]
    {a b : ByteArray} (hx : ev fr x = .string a) (hy : ev fr y = .string b) (hab : a = b) (hd : dOk c.n dst = true) (k : S rest (updO fr dst (.bool true)) H) : S (⟨dst, .binOp .eql T x y u, ty, pos, after, none⟩ :: rest) fr H :=
  hl_strEq hx hy hd (by rw [hab, beq_self_eq_true]; exact k)

set_option maxHeartbeats 8000000 in
set_option maxRecDepth 100000 in
theorem law {w0 : World} {B : Nat} {H : List Ent} (hB : w0.heap.size ≤ B) {a : Option Addr} {len cap : Nat} {l : List Num} (hl : SlS 3 numV w0 a len cap l) (hx : ∀ x ∈ l, x.wf)
    {a2 : Option Addr} {len2 cap2 : Nat} {l2 : List Num} (hl2 : SlS 3 numV w0 a2 len2 cap2 l2) (hx2 : ∀ x ∈ l2, x.wf) (high : Bool) :
    Fn Try.prog w0 B 4 [.slice a len cap, .slice a2 len2 cap2, .bool high] H (fun u _ => u = .bool true) := by
  have hle := hl.size_eq
  have hcap := hl.small
  have hlc := hl.le
  have hle2 := hl2.size_eq
  have hcap2 := hl2.small
  have hlc2 := hl2.le
  refine fn_intro Try.func4 rfl (by kernel_rfl) rfl ?_
  by_cases h200 : 200 < len
  · repeat (first | refine go_ ?_ | refine bx_ (fun _ => ?_) | refine hl_callv rfl rfl (anchor_fn) ?_)
    exact fin1B rfl rfl rfl
  by_cases h202 : 200 < len2
  · repeat (first | refine go_ ?_ | refine bx_ (fun _ => ?_) | refine hl_callv rfl rfl (anchor_fn) ?_)
    exact fin1B rfl rfl rfl
  repeat (first | refine go_ ?_ | refine bx_ (fun _ => ?_) | refine hl_callv rfl rfl (anchor_fn) ?_)
  refine hl_call rfl rfl (new_x high) (fun _ H' h' => ?_)
  obtain ⟨ga, Xa, rfl, rfl, ha⟩ := h'
  repeat (first | refine go_ ?_ | refine bx_ (fun _ => ?_))
  refine hl_call rfl rfl (new_x high) (fun _ H' h' => ?_)
  obtain ⟨gb, Xb, rfl, rfl, hb⟩ := h'
  repeat (first | refine go_ ?_ | refine bx_ (fun _ => ?_))
  refine hc_loopd (fun m fr M => ∃ k La Xa Xb, k + m = len ∧ La.length ≤ 0 + 24 * k ∧ Agr fr [(0, .slice a len cap), (1, .slice a2 len2 cap2), (2, .bool high), (7, .pointer (some ⟨ga, 0, none⟩)), (8, .pointer (some ⟨gb, 0, none⟩)), (35, .slice a len cap), (36, .int .i64 (len : Int)), (37, .int .i64 (k : Int))]
    ∧ M = Xb ++ (Xa ++ H) ∧ WrX ga high La Xa ∧ WrX gb high La Xb) len ?_ ?_
  · exact ⟨0, _, Xa, Xb, by omega, by simp, ⟨rfl, rfl, rfl, rfl, rfl, rfl, rfl, rfl, trivial⟩, rfl, ha, hb⟩
  clear ha hb Xa Xb
  rintro m fr M ⟨k, La, Xa, Xb, hk, hL, hf, rfl, ha, hb⟩
  obtain ⟨base, rfl⟩ := hf.out
  by_cases hlt : k < len
  · have hkl : k < l.length := by omega
    obtain ⟨b, off, hba, hrow⟩ := hl.row k hkl
    have hwf := hx _ (List.getElem_mem hkl)
    obtain ⟨v, n, f, hxe⟩ : ∃ v n f, l[k] = ⟨v, n, f⟩ := ⟨_, _, _, rfl⟩
    obtain ⟨hv, hn⟩ := hwf
    rw [hxe] at hv hn
    change -9223372036854775808 ≤ v ∧ v ≤ 9223372036854775807 at hv
    change -9223372036854775808 ≤ n ∧ n ≤ 9223372036854775807 at hn
    have hlm := (length_numMore high La v n).2
    subst hba
    repeat (first | refine go_ ?_ | refine bx_ (fun _ => ?_))
    refine hl_loadE (k := 3) (f := numV) hl hkl hB rfl (by decide) rfl rfl ?_
    rw [hxe]
    change HL _ _ _ _ (updO _ _ (.agg #[.int .i64 v, .int .i64 n, .bool f])) _
    repeat (first | refine go_ ?_ | refine bx_ (fun _ => ?_))
    refine HL.perm ?_ (((app_swap Xb Xa H).cons _).trans List.perm_middle.symm)
    refine hl_call rfl rfl (Put_x ha (by omega) v n hv hn) (fun r H5 h5 => ?_)
    obtain ⟨rfl, Xa', rfl, ha'⟩ := h5
    refine HL.perm ?_ List.perm_middle
    repeat (first | refine go_ ?_ | refine bx_ (fun _ => ?_))
    refine HL.perm ?_ (((app_swap Xa' Xb H).cons _).trans List.perm_middle.symm)
    refine hl_call rfl rfl (Put_x hb (by omega) v n hv hn) (fun r H5 h5 => ?_)
    obtain ⟨rfl, Xb', rfl, hb'⟩ := h5
    repeat (first | refine go_ ?_ | refine bx_ (fun _ => ?_))
    exact ⟨m - 1, by omega, Xb' ++ (Xa' ++ H), Imp.perm List.perm_middle (Imp.drop (Imp.refl _)), k + 1, _, Xa', Xb', by omega, by omega, ⟨rfl, rfl, rfl, rfl, rfl, rfl, rfl, rfl, trivial⟩, rfl, ha', hb'⟩
  obtain rfl : len = k := by omega
  repeat (first | refine go_ ?_ | refine bx_ (fun _ => ?_))
  refine HL.perm ?_ (app_swap _ _ _)
  refine hl_call rfl rfl (bytes_x ha (by omega)) (fun v1 M1 o1 => ?_)
  obtain ⟨a1, c1, rfl, hc1, hc2⟩ := o1.form
  obtain ⟨n1, hn1⟩ : ∃ n, n = (La.length + 7) / 8 := ⟨_, rfl⟩
  have hl1 := length_bytesOf high La
  rw [← hn1] at o1 hc1 hl1 ⊢
  repeat (first | refine go_ ?_ | refine bx_ (fun _ => ?_))
  refine hc_loop (fun m fr M => ∃ (i : Nat) (C : List Int), i + m = n1 ∧ C.length = n1 ∧ Agr fr [(0, .slice a len cap), (1, .slice a2 len2 cap2), (2, .bool high), (7, .pointer (some ⟨ga, 0, none⟩)), (8, .pointer (some ⟨gb, 0, none⟩)), (11, .slice a1 n1 c1), (56, .slice a1 n1 c1), (57, .int .i64 (n1 : Int)), (58, .int .i64 (i : Int))] ∧ Own 5 1 (.slice a1 n1 c1) n1 (C.map (Value.int .u8)) (Xa ++ (Xb ++ H)) M) n1 ?_ ?_
  · exact ⟨0, (bytesOf high La).map (fun b => (b.toNat : Int)), by omega, by simp [hl1], ⟨rfl, rfl, rfl, rfl, rfl, rfl, rfl, rfl, rfl, trivial⟩, by rw [List.map_map]; exact o1⟩
  clear o1 hf base
  rintro m fr M ⟨i, C, hi, hC, hf, o1⟩
  obtain ⟨base, rfl⟩ := hf.out
  by_cases hin : i < n1
  · obtain ⟨g1, d1, he1, _, _, _, p1⟩ := o1.posn (by omega)
    cases he1
    refine HC.perm ?_ p1
    repeat (first | refine go_ ?_ | refine bx_ (fun _ => ?_))
    refine hl_load1 (v := .int .u8 (C.getD i 0)) rfl .here (by simp [hC, hin]) rfl ?_
    repeat (first | refine go_ ?_ | refine bx_ (fun _ => ?_))
    refine ⟨m - 1, by omega, i + 1, C.set i (bits .xor .u8 (C.getD i 0) 255), by omega, by simp [hC], ⟨rfl, rfl, rfl, rfl, rfl, rfl, rfl, rfl, rfl, trivial⟩, ?_⟩
    rw [List.map_set]
    exact Own.mk (by omega) (by omega) (by simp [hC]) (List.Perm.refl _)
  refine HC.imp ?_ (o1.imp.trans (Imp.perm (app_swap _ _ _) (Imp.refl _)))
  clear o1
  obtain ⟨L0, hL0⟩ : ∃ n, n = La.length := ⟨_, rfl⟩
  rw [← hL0] at hL
  repeat (first | refine go_ ?_ | refine bx_ (fun _ => ?_))
  refine hc_loopd (fun m fr M => ∃ k La Xa Xb, k + m = len2 ∧ La.length ≤ L0 + 24 * k ∧ Agr fr [(0, .slice a len cap), (1, .slice a2 len2 cap2), (2, .bool high), (7, .pointer (some ⟨ga, 0, none⟩)), (8, .pointer (some ⟨gb, 0, none⟩)), (68, .slice a2 len2 cap2), (69, .int .i64 (len2 : Int)), (70, .int .i64 (k : Int))]
    ∧ M = Xb ++ (Xa ++ H) ∧ WrX ga high La Xa ∧ WrX gb high La Xb) len2 ?_ ?_
  · exact ⟨0, _, Xa, Xb, by omega, by simpa using (Nat.le_of_eq hL0.symm), ⟨rfl, rfl, rfl, rfl, rfl, rfl, rfl, rfl, trivial⟩, rfl, ha, hb⟩
  clear ha hb Xa Xb
  rintro m fr M ⟨k, La, Xa, Xb, hk, hL, hf, rfl, ha, hb⟩
  obtain ⟨base, rfl⟩ := hf.out
  by_cases hlt : k < len2
  · have hkl : k < l2.length := by omega
    obtain ⟨b, off, hba, hrow⟩ := hl2.row k hkl
    have hwf := hx2 _ (List.getElem_mem hkl)
    obtain ⟨v, n, f, hxe⟩ : ∃ v n f, l2[k] = ⟨v, n, f⟩ := ⟨_, _, _, rfl⟩
    obtain ⟨hv, hn⟩ := hwf
    rw [hxe] at hv hn
    change -9223372036854775808 ≤ v ∧ v ≤ 9223372036854775807 at hv
    change -9223372036854775808 ≤ n ∧ n ≤ 9223372036854775807 at hn
    have hlm := (length_numMore high La v n).2
    subst hba
    repeat (first | refine go_ ?_ | refine bx_ (fun _ => ?_))
    refine hl_loadE (k := 3) (f := numV) hl2 hkl hB rfl (by decide) rfl rfl ?_
    rw [hxe]
    change HL _ _ _ _ (updO _ _ (.agg #[.int .i64 v, .int .i64 n, .bool f])) _
    repeat (first | refine go_ ?_ | refine bx_ (fun _ => ?_))
    refine HL.perm ?_ (((app_swap Xb Xa H).cons _).trans List.perm_middle.symm)
    refine hl_call rfl rfl (Put_x ha (by omega) v n hv hn) (fun r H5 h5 => ?_)
    obtain ⟨rfl, Xa', rfl, ha'⟩ := h5
    refine HL.perm ?_ List.perm_middle
    repeat (first | refine go_ ?_ | refine bx_ (fun _ => ?_))
    refine HL.perm ?_ (((app_swap Xa' Xb H).cons _).trans List.perm_middle.symm)
    refine hl_call rfl rfl (Put_x hb (by omega) v n hv hn) (fun r H5 h5 => ?_)
    obtain ⟨rfl, Xb', rfl, hb'⟩ := h5
    repeat (first | refine go_ ?_ | refine bx_ (fun _ => ?_))
    exact ⟨m - 1, by omega, Xb' ++ (Xa' ++ H), Imp.perm List.perm_middle (Imp.drop (Imp.refl _)), k + 1, _, Xa', Xb', by omega, by omega, ⟨rfl, rfl, rfl, rfl, rfl, rfl, rfl, rfl, trivial⟩, rfl, ha', hb'⟩
  obtain rfl : len2 = k := by omega
  obtain ⟨Fa, wa⟩ : ∃ F, WrB ga high La F (Xb ++ (Xa ++ H)) := ⟨_, (ha (Xb ++ H)).perm (app_swap _ _ _)⟩
  have wb := hb (Xa ++ H)
  have hl1 := length_bytesOf high La
  repeat (first | refine go_ ?_ | refine bx_ (fun _ => ?_))
  refine hc_meet (fun fr M => Agr fr [(6, .bool true)]) ?_ ?_
  · refine hc_drawA (Xb ++ (Xa ++ H)) (by kernel_rfl) ?_
    refine ha_quiet [0, 3] (by rfl) (by kernel_rfl) ?_
    repeat (first | refine gd_ ?_ | refine hl_strEqT rfl rfl rfl rfl ?_)
    refine ha_fork1 1 (by rfl) (by kernel_rfl) (by rfl) (by first | exact Imp.refl _ | exact Imp.drop (Imp.refl _) | exact Imp.drop (Imp.drop (Imp.refl _)) | exact Imp.drop (Imp.drop (Imp.drop (Imp.refl _))) | exact Imp.drop (Imp.drop (Imp.drop (Imp.drop (Imp.refl _)))) | exact Imp.drop (Imp.drop (Imp.drop (Imp.drop (Imp.drop (Imp.refl _))))) | exact Imp.drop (Imp.drop (Imp.drop (Imp.drop (Imp.drop (Imp.drop (Imp.refl _)))))) | exact Imp.drop (Imp.drop (Imp.drop (Imp.drop (Imp.drop (Imp.drop (Imp.drop (Imp.refl _))))))) | exact Imp.drop (Imp.drop (Imp.drop (Imp.drop (Imp.drop (Imp.drop (Imp.drop (Imp.drop (Imp.refl _)))))))) | assumption) ?_
    · skip
      refine hl_call rfl rfl (bytes_fn wa (by omega)) (fun v1 M1 o1 => ?_)
      obtain ⟨a1, c1, rfl, hc1, hc2⟩ := o1.form
      have r1 := o1.rds (c := ⟨Try.prog, 0, w0, B⟩) (by simp [Value.oneCell'])
      have i1 := o1.imp
      obtain ⟨Fb1, wb1⟩ := wb.over o1
      obtain ⟨Fa1, wa1⟩ := wa.over o1
      repeat (first | refine op_ ?_ | refine bx_ (fun _ => ?_))
      refine ha_fork2 2 4 (by rfl) (by kernel_rfl) (by rfl) (by rfl) (by first | exact Imp.refl _ | exact Imp.drop (Imp.refl _) | exact Imp.drop (Imp.drop (Imp.refl _)) | exact Imp.drop (Imp.drop (Imp.drop (Imp.refl _))) | exact Imp.drop (Imp.drop (Imp.drop (Imp.drop (Imp.refl _)))) | exact Imp.drop (Imp.drop (Imp.drop (Imp.drop (Imp.drop (Imp.refl _))))) | exact Imp.drop (Imp.drop (Imp.drop (Imp.drop (Imp.drop (Imp.drop (Imp.refl _)))))) | exact Imp.drop (Imp.drop (Imp.drop (Imp.drop (Imp.drop (Imp.drop (Imp.drop (Imp.refl _))))))) | exact Imp.drop (Imp.drop (Imp.drop (Imp.drop (Imp.drop (Imp.drop (Imp.drop (Imp.drop (Imp.refl _)))))))) | assumption) ?_ ?_
      · skip
        refine hl_convStr rfl (by assumption) rfl ?_
        repeat (first | refine op_ ?_ | refine bx_ (fun _ => ?_))
        refine ha_fork1 4 (by rfl) (by kernel_rfl) (by rfl) (by first | exact Imp.refl _ | exact Imp.drop (Imp.refl _) | exact Imp.drop (Imp.drop (Imp.refl _)) | exact Imp.drop (Imp.drop (Imp.drop (Imp.refl _))) | exact Imp.drop (Imp.drop (Imp.drop (Imp.drop (Imp.refl _)))) | exact Imp.drop (Imp.drop (Imp.drop (Imp.drop (Imp.drop (Imp.refl _))))) | exact Imp.drop (Imp.drop (Imp.drop (Imp.drop (Imp.drop (Imp.drop (Imp.refl _)))))) | exact Imp.drop (Imp.drop (Imp.drop (Imp.drop (Imp.drop (Imp.drop (Imp.drop (Imp.refl _))))))) | exact Imp.drop (Imp.drop (Imp.drop (Imp.drop (Imp.drop (Imp.drop (Imp.drop (Imp.drop (Imp.refl _)))))))) | assumption) ?_
        · skip
          refine hl_call rfl rfl (bytes_fn wb1 (by omega)) (fun v2 M2 o2 => ?_)
          obtain ⟨a2, c2, rfl, hc3, hc4⟩ := o2.form
          have r2 := o2.rds (c := ⟨Try.prog, 0, w0, B⟩) (by simp [Value.oneCell'])
          have r1' := r1.weak (fun w h => o2.imp _ _ _ h)
          have i2 := o2.imp.trans i1
          obtain ⟨Fb2, wb2⟩ := wb1.over o2
          obtain ⟨Fa2, wa2⟩ := wa1.over o2
          repeat (first | refine op_ ?_ | refine bx_ (fun _ => ?_))
          refine ha_fork1 5 (by rfl) (by kernel_rfl) (by rfl) (by first | exact Imp.refl _ | exact Imp.drop (Imp.refl _) | exact Imp.drop (Imp.drop (Imp.refl _)) | exact Imp.drop (Imp.drop (Imp.drop (Imp.refl _))) | exact Imp.drop (Imp.drop (Imp.drop (Imp.drop (Imp.refl _)))) | exact Imp.drop (Imp.drop (Imp.drop (Imp.drop (Imp.drop (Imp.refl _))))) | exact Imp.drop (Imp.drop (Imp.drop (Imp.drop (Imp.drop (Imp.drop (Imp.refl _)))))) | exact Imp.drop (Imp.drop (Imp.drop (Imp.drop (Imp.drop (Imp.drop (Imp.drop (Imp.refl _))))))) | exact Imp.drop (Imp.drop (Imp.drop (Imp.drop (Imp.drop (Imp.drop (Imp.drop (Imp.drop (Imp.refl _)))))))) | assumption) ?_
          · skip
            refine hl_convStr rfl (by assumption) rfl ?_
            repeat (first | refine op_ ?_ | refine bx_ (fun _ => ?_))
            refine ha_quiet [6, 7, 8, 10] (by rfl) (by kernel_rfl) ?_
            repeat (first | refine gd_ ?_ | refine hl_strEqT rfl rfl rfl rfl ?_)
            refine ha_fork1 9 (by rfl) (by kernel_rfl) (by rfl) (by first | exact Imp.refl _ | exact Imp.drop (Imp.refl _) | exact Imp.drop (Imp.drop (Imp.refl _)) | exact Imp.drop (Imp.drop (Imp.drop (Imp.refl _))) | exact Imp.drop (Imp.drop (Imp.drop (Imp.drop (Imp.refl _)))) | exact Imp.drop (Imp.drop (Imp.drop (Imp.drop (Imp.drop (Imp.refl _))))) | exact Imp.drop (Imp.drop (Imp.drop (Imp.drop (Imp.drop (Imp.drop (Imp.refl _)))))) | exact Imp.drop (Imp.drop (Imp.drop (Imp.drop (Imp.drop (Imp.drop (Imp.drop (Imp.refl _))))))) | exact Imp.drop (Imp.drop (Imp.drop (Imp.drop (Imp.drop (Imp.drop (Imp.drop (Imp.drop (Imp.refl _)))))))) | assumption) ?_
            · skip
              refine hl_run (by rfl) (by rfl) rfl ?_
              refine hl_callv rfl rfl (count_q wa2) ?_
              repeat (first | refine op_ ?_ | refine bx_ (fun _ => ?_))
              refine ha_fork1 11 (by rfl) (by kernel_rfl) (by rfl) (by first | exact Imp.refl _ | exact Imp.drop (Imp.refl _) | exact Imp.drop (Imp.drop (Imp.refl _)) | exact Imp.drop (Imp.drop (Imp.drop (Imp.refl _))) | exact Imp.drop (Imp.drop (Imp.drop (Imp.drop (Imp.refl _)))) | exact Imp.drop (Imp.drop (Imp.drop (Imp.drop (Imp.drop (Imp.refl _))))) | exact Imp.drop (Imp.drop (Imp.drop (Imp.drop (Imp.drop (Imp.drop (Imp.refl _)))))) | exact Imp.drop (Imp.drop (Imp.drop (Imp.drop (Imp.drop (Imp.drop (Imp.drop (Imp.refl _))))))) | exact Imp.drop (Imp.drop (Imp.drop (Imp.drop (Imp.drop (Imp.drop (Imp.drop (Imp.drop (Imp.refl _)))))))) | assumption) ?_
              · skip
                refine hl_run (by rfl) (by rfl) rfl ?_
                refine hl_callv rfl rfl (count_q wb2) ?_
                repeat (first | refine op_ ?_ | refine bx_ (fun _ => ?_))
                refine ha_quiet [12, 13, 14] (by rfl) (by kernel_rfl) ?_
                repeat (first | refine gd_ ?_ | refine hl_strEqT rfl rfl rfl rfl ?_)
                refine ha_end (by rfl) (by kernel_rfl) (by first | exact Imp.refl _ | exact Imp.drop (Imp.refl _) | exact Imp.drop (Imp.drop (Imp.refl _)) | exact Imp.drop (Imp.drop (Imp.drop (Imp.refl _))) | exact Imp.drop (Imp.drop (Imp.drop (Imp.drop (Imp.refl _)))) | exact Imp.drop (Imp.drop (Imp.drop (Imp.drop (Imp.drop (Imp.refl _))))) | exact Imp.drop (Imp.drop (Imp.drop (Imp.drop (Imp.drop (Imp.drop (Imp.refl _)))))) | exact Imp.drop (Imp.drop (Imp.drop (Imp.drop (Imp.drop (Imp.drop (Imp.drop (Imp.refl _))))))) | exact Imp.drop (Imp.drop (Imp.drop (Imp.drop (Imp.drop (Imp.drop (Imp.drop (Imp.drop (Imp.refl _)))))))) | assumption) ?_
                exact ⟨rfl, trivial⟩
      · skip
        refine hl_call rfl rfl (bytes_fn wb1 (by omega)) (fun v2 M2 o2 => ?_)
        obtain ⟨a2, c2, rfl, hc3, hc4⟩ := o2.form
        have r2 := o2.rds (c := ⟨Try.prog, 0, w0, B⟩) (by simp [Value.oneCell'])
        have r1' := r1.weak (fun w h => o2.imp _ _ _ h)
        have i2 := o2.imp.trans i1
        obtain ⟨Fb2, wb2⟩ := wb1.over o2
        obtain ⟨Fa2, wa2⟩ := wa1.over o2
        repeat (first | refine op_ ?_ | refine bx_ (fun _ => ?_))
        refine ha_fork2 2 5 (by rfl) (by kernel_rfl) (by rfl) (by rfl) (by first | exact Imp.refl _ | exact Imp.drop (Imp.refl _) | exact Imp.drop (Imp.drop (Imp.refl _)) | exact Imp.drop (Imp.drop (Imp.drop (Imp.refl _))) | exact Imp.drop (Imp.drop (Imp.drop (Imp.drop (Imp.refl _)))) | exact Imp.drop (Imp.drop (Imp.drop (Imp.drop (Imp.drop (Imp.refl _))))) | exact Imp.drop (Imp.drop (Imp.drop (Imp.drop (Imp.drop (Imp.drop (Imp.refl _)))))) | exact Imp.drop (Imp.drop (Imp.drop (Imp.drop (Imp.drop (Imp.drop (Imp.drop (Imp.refl _))))))) | exact Imp.drop (Imp.drop (Imp.drop (Imp.drop (Imp.drop (Imp.drop (Imp.drop (Imp.drop (Imp.refl _)))))))) | assumption) ?_ ?_
        · skip
          refine hl_convStr rfl (by assumption) rfl ?_
          repeat (first | refine op_ ?_ | refine bx_ (fun _ => ?_))
          refine ha_fork1 5 (by rfl) (by kernel_rfl) (by rfl) (by first | exact Imp.refl _ | exact Imp.drop (Imp.refl _) | exact Imp.drop (Imp.drop (Imp.refl _)) | exact Imp.drop (Imp.drop (Imp.drop (Imp.refl _))) | exact Imp.drop (Imp.drop (Imp.drop (Imp.drop (Imp.refl _)))) | exact Imp.drop (Imp.drop (Imp.drop (Imp.drop (Imp.drop (Imp.refl _))))) | exact Imp.drop (Imp.drop (Imp.drop (Imp.drop (Imp.drop (Imp.drop (Imp.refl _)))))) | exact Imp.drop (Imp.drop (Imp.drop (Imp.drop (Imp.drop (Imp.drop (Imp.drop (Imp.refl _))))))) | exact Imp.drop (Imp.drop (Imp.drop (Imp.drop (Imp.drop (Imp.drop (Imp.drop (Imp.drop (Imp.refl _)))))))) | assumption) ?_
          · skip
            refine hl_convStr rfl (by assumption) rfl ?_
            repeat (first | refine op_ ?_ | refine bx_ (fun _ => ?_))
            refine ha_quiet [6, 7, 8, 10] (by rfl) (by kernel_rfl) ?_
            repeat (first | refine gd_ ?_ | refine hl_strEqT rfl rfl rfl rfl ?_)
            refine ha_fork1 9 (by rfl) (by kernel_rfl) (by rfl) (by first | exact Imp.refl _ | exact Imp.drop (Imp.refl _) | exact Imp.drop (Imp.drop (Imp.refl _)) | exact Imp.drop (Imp.drop (Imp.drop (Imp.refl _))) | exact Imp.drop (Imp.drop (Imp.drop (Imp.drop (Imp.refl _)))) | exact Imp.drop (Imp.drop (Imp.drop (Imp.drop (Imp.drop (Imp.refl _))))) | exact Imp.drop (Imp.drop (Imp.drop (Imp.drop (Imp.drop (Imp.drop (Imp.refl _)))))) | exact Imp.drop (Imp.drop (Imp.drop (Imp.drop (Imp.drop (Imp.drop (Imp.drop (Imp.refl _))))))) | exact Imp.drop (Imp.drop (Imp.drop (Imp.drop (Imp.drop (Imp.drop (Imp.drop (Imp.drop (Imp.refl _)))))))) | assumption) ?_
            · skip
              refine hl_run (by rfl) (by rfl) rfl ?_
              refine hl_callv rfl rfl (count_q wa2) ?_
              repeat (first | refine op_ ?_ | refine bx_ (fun _ => ?_))
              refine ha_fork1 11 (by rfl) (by kernel_rfl) (by rfl) (by first | exact Imp.refl _ | exact Imp.drop (Imp.refl _) | exact Imp.drop (Imp.drop (Imp.refl _)) | exact Imp.drop (Imp.drop (Imp.drop (Imp.refl _))) | exact Imp.drop (Imp.drop (Imp.drop (Imp.drop (Imp.refl _)))) | exact Imp.drop (Imp.drop (Imp.drop (Imp.drop (Imp.drop (Imp.refl _))))) | exact Imp.drop (Imp.drop (Imp.drop (Imp.drop (Imp.drop (Imp.drop (Imp.refl _)))))) | exact Imp.drop (Imp.drop (Imp.drop (Imp.drop (Imp.drop (Imp.drop (Imp.drop (Imp.refl _))))))) | exact Imp.drop (Imp.drop (Imp.drop (Imp.drop (Imp.drop (Imp.drop (Imp.drop (Imp.drop (Imp.refl _)))))))) | assumption) ?_
              · skip
                refine hl_run (by rfl) (by rfl) rfl ?_
                refine hl_callv rfl rfl (count_q wb2) ?_
                repeat (first | refine op_ ?_ | refine bx_ (fun _ => ?_))
                refine ha_quiet [12, 13, 14] (by rfl) (by kernel_rfl) ?_
                repeat (first | refine gd_ ?_ | refine hl_strEqT rfl rfl rfl rfl ?_)
                refine ha_end (by rfl) (by kernel_rfl) (by first | exact Imp.refl _ | exact Imp.drop (Imp.refl _) | exact Imp.drop (Imp.drop (Imp.refl _)) | exact Imp.drop (Imp.drop (Imp.drop (Imp.refl _))) | exact Imp.drop (Imp.drop (Imp.drop (Imp.drop (Imp.refl _)))) | exact Imp.drop (Imp.drop (Imp.drop (Imp.drop (Imp.drop (Imp.refl _))))) | exact Imp.drop (Imp.drop (Imp.drop (Imp.drop (Imp.drop (Imp.drop (Imp.refl _)))))) | exact Imp.drop (Imp.drop (Imp.drop (Imp.drop (Imp.drop (Imp.drop (Imp.drop (Imp.refl _))))))) | exact Imp.drop (Imp.drop (Imp.drop (Imp.drop (Imp.drop (Imp.drop (Imp.drop (Imp.drop (Imp.refl _)))))))) | assumption) ?_
                exact ⟨rfl, trivial⟩
        · skip
          refine hl_convStr rfl (by assumption) rfl ?_
          repeat (first | refine op_ ?_ | refine bx_ (fun _ => ?_))
          refine ha_fork1 2 (by rfl) (by kernel_rfl) (by rfl) (by first | exact Imp.refl _ | exact Imp.drop (Imp.refl _) | exact Imp.drop (Imp.drop (Imp.refl _)) | exact Imp.drop (Imp.drop (Imp.drop (Imp.refl _))) | exact Imp.drop (Imp.drop (Imp.drop (Imp.drop (Imp.refl _)))) | exact Imp.drop (Imp.drop (Imp.drop (Imp.drop (Imp.drop (Imp.refl _))))) | exact Imp.drop (Imp.drop (Imp.drop (Imp.drop (Imp.drop (Imp.drop (Imp.refl _)))))) | exact Imp.drop (Imp.drop (Imp.drop (Imp.drop (Imp.drop (Imp.drop (Imp.drop (Imp.refl _))))))) | exact Imp.drop (Imp.drop (Imp.drop (Imp.drop (Imp.drop (Imp.drop (Imp.drop (Imp.drop (Imp.refl _)))))))) | assumption) ?_
          · skip
            refine hl_convStr rfl (by assumption) rfl ?_
            repeat (first | refine op_ ?_ | refine bx_ (fun _ => ?_))
            refine ha_quiet [6, 7, 8, 10] (by rfl) (by kernel_rfl) ?_
            repeat (first | refine gd_ ?_ | refine hl_strEqT rfl rfl rfl rfl ?_)
            refine ha_fork1 9 (by rfl) (by kernel_rfl) (by rfl) (by first | exact Imp.refl _ | exact Imp.drop (Imp.refl _) | exact Imp.drop (Imp.drop (Imp.refl _)) | exact Imp.drop (Imp.drop (Imp.drop (Imp.refl _))) | exact Imp.drop (Imp.drop (Imp.drop (Imp.drop (Imp.refl _)))) | exact Imp.drop (Imp.drop (Imp.drop (Imp.drop (Imp.drop (Imp.refl _))))) | exact Imp.drop (Imp.drop (Imp.drop (Imp.drop (Imp.drop (Imp.drop (Imp.refl _)))))) | exact Imp.drop (Imp.drop (Imp.drop (Imp.drop (Imp.drop (Imp.drop (Imp.drop (Imp.refl _))))))) | exact Imp.drop (Imp.drop (Imp.drop (Imp.drop (Imp.drop (Imp.drop (Imp.drop (Imp.drop (Imp.refl _)))))))) | assumption) ?_
            · skip
              refine hl_run (by rfl) (by rfl) rfl ?_
              refine hl_callv rfl rfl (count_q wa2) ?_
              repeat (first | refine op_ ?_ | refine bx_ (fun _ => ?_))
              refine ha_fork1 11 (by rfl) (by kernel_rfl) (by rfl) (by first | exact Imp.refl _ | exact Imp.drop (Imp.refl _) | exact Imp.drop (Imp.drop (Imp.refl _)) | exact Imp.drop (Imp.drop (Imp.drop (Imp.refl _))) | exact Imp.drop (Imp.drop (Imp.drop (Imp.drop (Imp.refl _)))) | exact Imp.drop (Imp.drop (Imp.drop (Imp.drop (Imp.drop (Imp.refl _))))) | exact Imp.drop (Imp.drop (Imp.drop (Imp.drop (Imp.drop (Imp.drop (Imp.refl _)))))) | exact Imp.drop (Imp.drop (Imp.drop (Imp.drop (Imp.drop (Imp.drop (Imp.drop (Imp.refl _))))))) | exact Imp.drop (Imp.drop (Imp.drop (Imp.drop (Imp.drop (Imp.drop (Imp.drop (Imp.drop (Imp.refl _)))))))) | assumption) ?_
              · skip
                refine hl_run (by rfl) (by rfl) rfl ?_
                refine hl_callv rfl rfl (count_q wb2) ?_
                repeat (first | refine op_ ?_ | refine bx_ (fun _ => ?_))
                refine ha_quiet [12, 13, 14] (by rfl) (by kernel_rfl) ?_
                repeat (first | refine gd_ ?_ | refine hl_strEqT rfl rfl rfl rfl ?_)
                refine ha_end (by rfl) (by kernel_rfl) (by first | exact Imp.refl _ | exact Imp.drop (Imp.refl _) | exact Imp.drop (Imp.drop (Imp.refl _)) | exact Imp.drop (Imp.drop (Imp.drop (Imp.refl _))) | exact Imp.drop (Imp.drop (Imp.drop (Imp.drop (Imp.refl _)))) | exact Imp.drop (Imp.drop (Imp.drop (Imp.drop (Imp.drop (Imp.refl _))))) | exact Imp.drop (Imp.drop (Imp.drop (Imp.drop (Imp.drop (Imp.drop (Imp.refl _)))))) | exact Imp.drop (Imp.drop (Imp.drop (Imp.drop (Imp.drop (Imp.drop (Imp.drop (Imp.refl _))))))) | exact Imp.drop (Imp.drop (Imp.drop (Imp.drop (Imp.drop (Imp.drop (Imp.drop (Imp.drop (Imp.refl _)))))))) | assumption) ?_
                exact ⟨rfl, trivial⟩
  · rintro fr M hf
    obtain ⟨base, rfl⟩ := hf.out
    repeat (first | refine go_ ?_ | refine bx_ (fun _ => ?_))
    exact fin1B rfl rfl rfl
theorem walk (a : Option Addr) (len cap : Nat) (l : List Num) (a2 : Option Addr) (len2 cap2 : Nat) (l2 : List Num) (high : Bool) (w : World) (hl : SlS 3 numV w a len cap l) (hx : ∀ x ∈ l, x.wf) (hl2 : SlS 3 numV w a2 len2 cap2 l2) (hx2 : ∀ x ∈ l2, x.wf) :
    Calls Try.prog 4 #[.slice a len cap, .slice a2 len2 cap2, .bool high] w fun e w' => e = .returned (.bool true) ∧ Below w.heap.size w w' :=
  calls_of_fn (law (Nat.le_refl _) hl hx hl2 hx2 high) fun _ _ h => h

/-! The step to the statement (written by program). -/
open Go.ChangeShapes Go.WideShapes Go.ChangeAt
set_option maxRecDepth 100000 in
theorem lifted (os : Os) (started : os.Started) (H : Type) (enc : TypeId × Value → H) :
    ReturnsInHanded {} Try.checked os 4 .any (Rows.bitsOwnSpec.pre6 enc Try.prog Try.f4 Rows.bitsOwnRow.domain false) (Rows.bitsOwnSpec.post enc Try.prog Try.f4 false true false false) := by
  refine returnsInHanded_of_change (C := Try.checked) own started (by kernel_rfl) Try.func4
    (ChangeSpec.witness6 (enc := enc) (C := Try.checked) false ⟨#[], #[.slice none 0 0, .slice none 0 0, .bool false], []⟩ 8 (by kernel_rfl) (by kernel_rfl) (by kernel_rfl) (by kernel_rfl)) ?_
  intro W base args ds gs before hval0 hW hcnd _
  have hval : ∀ (j : Nat) t v, Try.f4.params[j]? = some t → args[j]? = some v → Value.okWide Try.prog W .any base t v := hval0
  have hW' := hW
  obtain ⟨p, q, hA0, hV, rfl, hfz, hnd⟩ := hW
  have hA : DataW.TrodAll enc Try.prog W 0 (fun _ => true) true Try.f4.params.toList args.toList ds p := hA0
  rw [Try.params4] at hA hval
  obtain ⟨v0, vs0, d0, ds0, p0, q0, hargs, rfl, rfl, h0, r0⟩ := trodAll_cons hA
  obtain ⟨v1, vs1, d1, ds1, p1, q1, rfl, rfl, rfl, h1, r1⟩ := trodAll_cons r0
  obtain ⟨v2, vs2, d2, ds2, p2, q2, rfl, rfl, rfl, h2, r2⟩ := trodAll_cons r1
  obtain ⟨rfl, rfl, rfl⟩ := trodAll_nil r2
  obtain rfl : args = #[v0, v1, v2] := by cases args; simp_all
  obtain ⟨rfl, rfl⟩ := trodVars_none hV
  have k0 := h0
  have lt0 : ∀ x ∈ p0, x.block < W.heap.size := by obtain ⟨m, hm⟩ := k0; exact DataW.trod_lt m _ _ _ hm
  obtain ⟨a0, len0, cap0, e0⟩ := okWide_slice Try.underlying22 (hval 0 22 v0 rfl rfl)
  obtain ⟨l0, w0, b0⟩ := open_numL e0 k0
  subst e0
  have k1 := h1
  have lt1 : ∀ x ∈ p1, x.block < W.heap.size := by obtain ⟨m, hm⟩ := k1; exact DataW.trod_lt m _ _ _ hm
  obtain ⟨a1, len1, cap1, e1⟩ := okWide_slice Try.underlying22 (hval 1 22 v1 rfl rfl)
  obtain ⟨l1, w1, b1⟩ := open_numL e1 k1
  subst e1
  have k2 := h2
  have lt2 : ∀ x ∈ p2, x.block < W.heap.size := by obtain ⟨m, hm⟩ := k2; exact DataW.trod_lt m _ _ _ hm
  obtain ⟨a2, rfl, _, _⟩ := open_bool Try.underlying4 (hval 2 4 v2 rfl rfl) h2
  clear hA0 hval0
  refine (walk a0 len0 cap0 l0 a1 len1 cap1 l1 a2 W w0 b0 w1 b1).mono fun e W' ⟨he, bel⟩ => ?_
  subst he
  exact ⟨_, rfl, _, _, _, [], _, [], hW', trodAll_mk1 (shut_bool Try.underlying4 _), (trodAll_cons_mk (Below.trod laidOut (by kernel_rfl) (of_decide_eq_true (by kernel_rfl)) k0 bel lt0) (trodAll_cons_mk (Below.trod laidOut (by kernel_rfl) (of_decide_eq_true (by kernel_rfl)) k1 bel lt1) (trodAll_cons_mk (Below.trod laidOut (by kernel_rfl) (of_decide_eq_true (by kernel_rfl)) k2 bel lt2) trodAll_mk0))), rfl, bel.frame _, fun h => by cases h⟩

theorem over : Rows.bitsOwnRow.holds Try.pinned (OpenSpec.ofChange Rows.bitsOwnSpec) :=
  OpenClaim.holds_of_wide 4 Try.f4 rfl rfl rfl rfl rfl rfl rfl ⟨rfl, rfl, rfl, rfl, rfl⟩ rfl rfl rfl rfl rfl (by kernel_rfl) Try.func4 (by kernel_rfl)
    (of_decide_eq_true (by kernel_rfl)) (by unfold Func.isWrapper; first | (rw [if_pos (by decide +kernel)]; kernel_rfl) | (rw [if_neg (by decide +kernel)]; exact ⟨rfl, rfl⟩))
    (fun os started H enc _ => lifted os started H enc)

/-- The statement. -/
theorem proved : Rows.BitsOwnSaid := over
#print axioms proved
end Go.Proofs.Ytbgmakblfnpjkaa.bitsOwn
