/-
  BitsWrites. No condition.
-/
import Derived.Test.YtbgmakblfnpjkaaB6
namespace Go.Proofs.Ytbgmakblfnpjkaa.bitsWrites
open Go.RowKit

theorem _root_.Go.Proofs.Ytbgmakblfnpjkaa.Wrt.over {g n : Nat} {high : Bool} {l : List UInt8} {F H H' : List Ent} {e sz k : Nat} {v : Value} {C : List Value} (h : Wrt g high l n F H) (ho : Own e sz v k C H H') : ∃ F1, Wrt g high l n F1 H' := by
  obtain ⟨X, hX, hW⟩ := h.open
  obtain ⟨Z, hZ, _⟩ := ho.permE
  exact ⟨Z ++ F, (hW _).perm (hZ.trans ((hX.append_left Z).trans (app_swap _ _ _)))⟩
theorem _root_.Go.Proofs.Ytbgmakblfnpjkaa.hl_strEqT {c : Cx} {fr : Fr} {H : List Ent} {ops : Array Oper} {rest : List Oper} {dst : Option Nat} {ty : TypeId} {pos : String} {after : Array Edge} {x y : Operand} {T u : TypeId} {S : List Oper → Fr → List Ent → Prop} [Stp c ops S]
    {a b : ByteArray} (hx : ev fr x = .string a) (hy : ev fr y = .string b) (hab : a = b) (hd : dOk c.n dst = true) (k : S rest (updO fr dst (.bool true)) H) : S (⟨dst, .binOp .eql T x y u, ty, pos, after, none⟩ :: rest) fr H :=
  hl_strEq hx hy hd (by rw [hab, beq_self_eq_true]; exact k)

/-- The bytes when i bits are laid in. -/
def wantOf (high : Bool) (L : List Bool) (i : Nat) : List UInt8 := bytesOf high (L.take i) ++ List.replicate ((L.length + 7) / 8 - (i + 7) / 8) 0
theorem length_wantOf (high : Bool) (L : List Bool) (i : Nat) (hi : i ≤ L.length) : (wantOf high L i).length = (L.length + 7) / 8 := by
  unfold wantOf
  rw [List.length_append, length_bytesOf, List.length_replicate, List.length_take, Nat.min_eq_left hi]
  omega
theorem wantOf_succ (high : Bool) (L : List Bool) (i : Nat) (hi : i < L.length) :
    wantOf high L (i + 1) = (wantOf high L i).set (i / 8) ((wantOf high L i).getD (i / 8) 0 ||| ((if L[i] then 1 else 0) <<< UInt8.ofNat (bitPos i high))) := by
  have hb : bytesOf high (L.take (i + 1)) = bput (bytesOf high (L.take i)) i high L[i] := by
    rw [List.take_succ_eq_append_getElem hi, bytesOf_snoc, List.length_take, Nat.min_eq_left (by omega)]
  have hl := length_bytesOf high (L.take i)
  rw [List.length_take, Nat.min_eq_left (by omega)] at hl
  unfold wantOf
  rw [hb]
  unfold bput
  by_cases h8 : i % 8 = 0
  · rw [if_pos h8]
    have e : (L.length + 7) / 8 - (i + 7) / 8 = (L.length + 7) / 8 - (i + 1 + 7) / 8 + 1 := by omega
    rw [e, List.replicate_succ]
    rw [show bytesOf high (List.take i L) ++ 0 :: List.replicate ((L.length + 7) / 8 - (i + 1 + 7) / 8) 0 = (bytesOf high (List.take i L) ++ [0]) ++ List.replicate ((L.length + 7) / 8 - (i + 1 + 7) / 8) 0 from by simp]
    have hlt : i / 8 < (bytesOf high (List.take i L) ++ [0]).length := by rw [List.length_append, List.length_singleton]; omega
    rw [List.set_append_left _ _ hlt]
    congr 2
    simp only [List.getD_eq_getElem?_getD]
    rw [List.getElem?_append_left hlt]
  · rw [if_neg h8]
    have e : (L.length + 7) / 8 - (i + 7) / 8 = (L.length + 7) / 8 - (i + 1 + 7) / 8 := by omega
    rw [e]
    have hlt : i / 8 < (bytesOf high (List.take i L)).length := by omega
    rw [List.set_append_left _ _ hlt]
    congr 2
    simp only [List.getD_eq_getElem?_getD]
    rw [List.getElem?_append_left hlt]
theorem shl8 (b : Bool) (s : Nat) (hs : s < 8) : IntKind.u8.wrap (IntKind.i64.wrap ((b.toNat : Int) * 2 ^ s)) = ((((if b then 1 else 0) <<< UInt8.ofNat s : UInt8)).toNat : Int) := by
  have h : ∀ b : Bool, ∀ s : Fin 8, IntKind.u8.wrap (IntKind.i64.wrap ((b.toNat : Int) * 2 ^ s.val)) = ((((if b then 1 else 0) <<< UInt8.ofNat s.val : UInt8)).toNat : Int) := by decide
  exact h b ⟨s, hs⟩

set_option maxHeartbeats 8000000 in
set_option maxRecDepth 100000 in
theorem law {w0 : World} {B : Nat} {H : List Ent} (hB : w0.heap.size ≤ B) {a : Option Addr} {len cap : Nat} {l : List Num} (hl : SlS 3 numV w0 a len cap l) (hx : ∀ x ∈ l, x.wf) (high : Bool) :
    Fn Try.prog w0 B 5 [.slice a len cap, .bool high] H (fun u _ => u = .bool true) := by
  have hle := hl.size_eq
  have hcap := hl.small
  have hlc := hl.le
  refine fn_intro Try.func5 rfl (by kernel_rfl) rfl ?_
  by_cases h300 : 300 < len
  · repeat (first | refine go_ ?_ | refine bx_ (fun _ => ?_) | refine hl_callv rfl rfl (anchor_fn) ?_)
    exact fin1B rfl rfl rfl
  repeat (first | refine go_ ?_ | refine bx_ (fun _ => ?_) | refine hl_callv rfl rfl (anchor_fn) ?_)
  refine hl_call rfl rfl (new_x high) (fun _ H' h' => ?_)
  obtain ⟨g, X, rfl, rfl, h⟩ := h'
  repeat (first | refine go_ ?_ | refine bx_ (fun _ => ?_))
  refine hc_loopd (fun m fr M => ∃ k X, k + m = len ∧ Agr fr [(0, .slice a len cap), (1, .bool high), (5, .pointer (some ⟨g, 0, none⟩)), (23, .slice a len cap), (24, .int .i64 (len : Int)), (25, .int .i64 (k : Int))] ∧ M = X ++ H ∧ WrX g high (bitsOf high [] (l.take k)) X) len ?_ ?_
  · exact ⟨0, X, by omega, ⟨rfl, rfl, rfl, rfl, rfl, rfl, trivial⟩, rfl, h⟩
  clear h X
  rintro m fr M ⟨k, X, hk, hf, rfl, h⟩
  obtain ⟨base, rfl⟩ := hf.out
  by_cases hlt : k < len
  · have hkl : k < l.length := by omega
    obtain ⟨b, off, rfl, hrow⟩ := hl.row k hkl
    have hwf := hx _ (List.getElem_mem hkl)
    obtain ⟨v, n, f, hxe⟩ : ∃ v n f, l[k] = ⟨v, n, f⟩ := ⟨_, _, _, rfl⟩
    obtain ⟨hv, hn⟩ := hwf
    rw [hxe] at hv hn
    change -9223372036854775808 ≤ v ∧ v ≤ 9223372036854775807 at hv
    change -9223372036854775808 ≤ n ∧ n ≤ 9223372036854775807 at hn
    have hlen := length_bitsOf high l k (by omega)
    have hstep := bitsOf_take high l k hkl
    rw [hxe] at hstep
    repeat (first | refine go_ ?_ | refine bx_ (fun _ => ?_))
    refine hl_loadE (k := 3) (f := numV) hl hkl hB rfl (by decide) rfl rfl ?_
    rw [hxe]
    change HL _ _ _ _ (updO _ _ (.agg #[.int .i64 v, .int .i64 n, .bool f])) _
    cases f
    · repeat (first | refine go_ ?_ | refine bx_ (fun _ => ?_))
      rename_i x
      refine hc_meet (fun fr M => Agr fr [(0, .slice (some ⟨b, off, none⟩) len cap), (1, .bool high), (5, .pointer (some ⟨g, 0, none⟩)), (23, .slice (some ⟨b, off, none⟩) len cap), (24, .int .i64 (len : Int)), (25, .int .i64 (k : Int)), (43, .bool false)] ∧ ∃ X', M = X' ++ (⟨x, 27, [.int .i64 v, .int .i64 n, .bool false], 3⟩ :: H) ∧ WrX g high (bitsOf high [] (l.take (k + 1))) X') ?_ ?_
      · refine HC.perm ?_ List.perm_middle.symm
        refine hc_drawA (⟨x, 27, [.int .i64 v, .int .i64 n, .bool false], 3⟩ :: H) (by kernel_rfl) ?_
        have hi0 : Imp (X ++ (⟨x, 27, [.int .i64 v, .int .i64 n, .bool false], 3⟩ :: H)) (⟨x, 27, [.int .i64 v, .int .i64 n, .bool false], 3⟩ :: H) := Imp.tail X _
        refine ha_quiet [0, 1, 2, 3, 4, 6] (by rfl) (by kernel_rfl) ?_
        repeat (first | refine gd_ ?_ | refine hq_call rfl rfl (fun H _ => right_any v n false) ?_)
        refine ha_fork1 5 (by rfl) (by kernel_rfl) (by rfl) (by first | exact Imp.refl _ | exact Imp.drop (Imp.refl _) | exact Imp.drop (Imp.drop (Imp.refl _)) | exact Imp.drop (Imp.drop (Imp.drop (Imp.refl _))) | exact Imp.drop (Imp.drop (Imp.drop (Imp.drop (Imp.refl _)))) | exact Imp.drop (Imp.drop (Imp.drop (Imp.drop (Imp.drop (Imp.refl _))))) | exact Imp.drop (Imp.drop (Imp.drop (Imp.drop (Imp.drop (Imp.drop (Imp.refl _)))))) | exact Imp.drop (Imp.drop (Imp.drop (Imp.drop (Imp.drop (Imp.drop (Imp.drop (Imp.refl _))))))) | exact Imp.drop (Imp.drop (Imp.drop (Imp.drop (Imp.drop (Imp.drop (Imp.drop (Imp.drop (Imp.refl _)))))))) | assumption) ?_
        · skip
          refine hl_call rfl rfl (Put_x h (by omega) v n hv hn) (fun r H5 h5 => ?_)
          obtain ⟨rfl, X5, rfl, h5⟩ := h5
          have hi5 : Imp (X5 ++ (⟨x, 27, [.int .i64 v, .int .i64 n, .bool false], 3⟩ :: H)) (⟨x, 27, [.int .i64 v, .int .i64 n, .bool false], 3⟩ :: H) := Imp.tail X5 _
          rw [show numMore high (bitsOf high [] (l.take k)) v n = bitsOf high [] (l.take (k + 1)) from hstep.symm] at h5
          repeat (first | refine op_ ?_ | refine bx_ (fun _ => ?_))
          refine ha_quiet [7, 8] (by rfl) (by kernel_rfl) ?_
          repeat (first | refine gd_ ?_ | refine hq_call rfl rfl (fun H _ => right_any v n false) ?_)
          refine ha_end (by rfl) (by kernel_rfl) (by first | exact Imp.refl _ | exact Imp.drop (Imp.refl _) | exact Imp.drop (Imp.drop (Imp.refl _)) | exact Imp.drop (Imp.drop (Imp.drop (Imp.refl _))) | exact Imp.drop (Imp.drop (Imp.drop (Imp.drop (Imp.refl _)))) | exact Imp.drop (Imp.drop (Imp.drop (Imp.drop (Imp.drop (Imp.refl _))))) | exact Imp.drop (Imp.drop (Imp.drop (Imp.drop (Imp.drop (Imp.drop (Imp.refl _)))))) | exact Imp.drop (Imp.drop (Imp.drop (Imp.drop (Imp.drop (Imp.drop (Imp.drop (Imp.refl _))))))) | exact Imp.drop (Imp.drop (Imp.drop (Imp.drop (Imp.drop (Imp.drop (Imp.drop (Imp.drop (Imp.refl _)))))))) | assumption) ?_
          exact ⟨⟨rfl, rfl, rfl, rfl, rfl, rfl, by simp [updO, upd], trivial⟩, X5, rfl, h5⟩
      · rintro fr M ⟨hf, X', rfl, h'⟩
        obtain ⟨base, rfl⟩ := hf.out
        repeat (first | refine go_ ?_ | refine bx_ (fun _ => ?_))
        exact ⟨m - 1, by omega, X' ++ H, Imp.perm List.perm_middle (Imp.drop (Imp.refl _)), k + 1, X', by omega, ⟨rfl, rfl, rfl, rfl, rfl, rfl, trivial⟩, rfl, h'⟩
    · repeat (first | refine go_ ?_ | refine bx_ (fun _ => ?_))
      refine HL.drop ?_
      refine hl_call rfl rfl (fill_fn (h H) (by omega) v hv) (fun r H2 h2 => ?_)
      obtain ⟨X', hX', h'⟩ := WrB.x h2
      refine HL.perm ?_ hX'
      repeat (first | refine go_ ?_ | refine bx_ (fun _ => ?_))
      exact ⟨m - 1, by omega, X' ++ H, Imp.refl _, k + 1, X', by omega, ⟨rfl, rfl, rfl, rfl, rfl, rfl, trivial⟩, rfl, by rw [hstep]; exact h'⟩
  · obtain rfl : len = k := by omega
    rw [List.take_of_length_le (by omega)] at h
    have hlen := length_bitsOf high l l.length (by omega)
    rw [List.take_length] at hlen
    repeat (first | refine go_ ?_ | refine bx_ (fun _ => ?_))
    refine hl_call rfl rfl (bitsOf_fn hB hl hx (by omega) high) (fun v M' o => ?_)
    obtain ⟨L, hL⟩ : ∃ L, L = bitsOf high [] l := ⟨_, rfl⟩
    rw [← hL] at h hlen o
    clear hL
    obtain ⟨ai, ci, rfl, hi1, hi2⟩ := o.form
    obtain ⟨Zi, hZi, oi⟩ := o.permE
    refine HL.perm ?_ hZi
    have hn8 : ((L.length : Int) + 7) / 8 = (((L.length + 7) / 8 : Nat) : Int) := by omega
    obtain ⟨n, hn⟩ : ∃ n, n = (L.length + 7) / 8 := ⟨_, rfl⟩
    rw [← hn] at hn8
    repeat (first | rw [hn8] | refine go1_ ?_ | refine bx_ (fun _ => ?_))
    refine hl_make1 rfl rfl rfl (by omega) (by omega) rfl (fun gw => ?_)
    repeat (first | refine go_ ?_ | refine bx_ (fun _ => ?_))
    refine hc_loop (fun m fr M => ∃ i, i + m = L.length ∧ Agr fr [(1, .bool high), (5, .pointer (some ⟨g, 0, none⟩)), (8, .slice ai L.length ci), (9, .slice (some ⟨gw, 0, none⟩) n n), (53, .slice ai L.length ci), (54, .int .i64 (L.length : Int)), (55, .int .i64 (i : Int))]
      ∧ M.Perm (⟨gw, 5, (wantOf high L i).map byteV, n * 1⟩ :: (Zi ++ (X ++ H)))) L.length ?_ ?_
    · refine ⟨0, by omega, ⟨rfl, rfl, rfl, rfl, rfl, rfl, rfl, trivial⟩, ?_⟩
      have e : (wantOf high L 0).map byteV = List.replicate n (.int .u8 0) := by
        unfold wantOf
        rw [hn]
        simp [bytesOf, byteV]
      rw [e]
    clear hf base
    rintro m fr M ⟨i, hi, hf, hp⟩
    obtain ⟨base, rfl⟩ := hf.out
    have hlw := length_wantOf high L i (by omega)
    rw [← hn] at hlw
    by_cases hin : i < L.length
    · obtain ⟨gi, di, he, _, _, _, pi⟩ := (oi (X ++ H)).posn (by omega)
      cases he
      refine HC.perm ?_ (hp.trans (pi.cons _))
      have hgetL : (L.map bitV)[i]? = some (.int .i64 (L[i].toNat : Int)) := by simp [hin]
      have hgetW : ((wantOf high L i).map byteV)[i / 8]? = some (byteV ((wantOf high L i).getD (i / 8) 0)) := by
        have : i / 8 < (wantOf high L i).length := by omega
        simp [this]
      have hbp := bitPos_lt i high
      have hi8 : (i : Int) / 8 = ((i / 8 : Nat) : Int) := by omega
      have hsh := shl8 L[i] (bitPos i high) hbp
      have hb1 : (L[i].toNat : Int) ≤ 1 := by cases L[i] <;> decide
      have hws := wantOf_succ high L i hin
      cases high
      · have hbt : ((i : Int) % 8) = ((bitPos i false : Nat) : Int) := by unfold bitPos; simp
        repeat (first | rw [hbt] | refine go1_ ?_ | refine bx_ (fun _ => ?_))
        (refine hc_drawS (by kernel_rfl) (by kernel_rfl) ?_; repeat (first | rw [hi8] | rw [hsh] | rw [bits_or8] | refine gd1_ ?_))
        repeat (first | refine go_ ?_ | refine bx_ (fun _ => ?_))
        refine ⟨m - 1, by omega, i + 1, by omega, ⟨rfl, rfl, rfl, rfl, rfl, rfl, rfl, trivial⟩, ?_⟩
        rw [hws, List.map_set]
        exact (pi.cons _).symm
      · have hbt : ((7 : Int) - (i : Int) % 8) = ((bitPos i true : Nat) : Int) := by unfold bitPos; simp; omega
        repeat (first | rw [hbt] | refine go1_ ?_ | refine bx_ (fun _ => ?_))
        (refine hc_drawS (by kernel_rfl) (by kernel_rfl) ?_; repeat (first | rw [hi8] | rw [hsh] | rw [bits_or8] | refine gd1_ ?_))
        repeat (first | refine go_ ?_ | refine bx_ (fun _ => ?_))
        refine ⟨m - 1, by omega, i + 1, by omega, ⟨rfl, rfl, rfl, rfl, rfl, rfl, rfl, trivial⟩, ?_⟩
        rw [hws, List.map_set]
        exact (pi.cons _).symm
    · obtain rfl : i = L.length := by omega
      have hw : wantOf high L L.length = bytesOf high L := by
        unfold wantOf; simp
      rw [hw] at hp hlw
      refine HC.perm ?_ hp
      clear hp
      repeat (first | refine go_ ?_ | refine bx_ (fun _ => ?_))
      refine HL.perm (H' := X ++ (⟨gw, 5, (bytesOf high L).map byteV, n * 1⟩ :: (Zi ++ H))) ?_ ((((app_swap Zi X H).cons _)).trans List.perm_middle.symm)
      obtain ⟨R, hR⟩ : ∃ R, R = ⟨gw, 5, (bytesOf high L).map byteV, n * 1⟩ :: (Zi ++ H) := ⟨_, rfl⟩
      have rw0 : Rds w0 B R (some ⟨gw, 0, none⟩) ((bytesOf high L).map byteV) := by
        rw [hR]
        exact Rds.ent (c := ⟨Try.prog, 0, w0, B⟩) (n := n) .here (by rw [List.drop_zero, List.take_of_length_le (by simp [hlw])]) (by simp [Value.oneCell'])
      rw [← hR]
      have hlen2 := length_bytesOf high L
      refine hl_call rfl rfl (bytes_x h (by omega)) (fun v1 M1 o1 => ?_)
      rw [← hn] at o1 hlen2
      obtain ⟨a1, c1, rfl, hc1, hc2⟩ := o1.form
      have r1 : Rds w0 B M1 _ _ := o1.rds (c := ⟨Try.prog, 0, w0, B⟩) (by simp [Value.oneCell'])
      have i1 := o1.imp
      have wa := h R
      obtain ⟨Fa, wa1⟩ := wa.over o1
      have rw1 : Rds w0 B M1 (some ⟨gw, 0, none⟩) ((bytesOf high L).map byteV) := rw0.weak fun w hw => Imp.tail X R _ _ _ (i1 _ _ _ hw)
      repeat (first | refine go_ ?_ | refine bx_ (fun _ => ?_))
      refine hc_meet (fun fr M => Agr fr [(4, .bool true)]) ?_ ?_
      · refine hc_drawA M1 (by kernel_rfl) ?_
        rw [← hlen2]
        refine ha_quiet [0, 2, 3] (by rfl) (by kernel_rfl) ?_
        repeat (first | refine gd_ ?_ | refine hl_convStr rfl r1 rfl ?_ | refine hl_convStr rfl rw1 rfl ?_ | refine hl_strEqT rfl rfl rfl rfl ?_)
        refine ha_fork1 1 (by rfl) (by kernel_rfl) (by rfl) (by first | exact Imp.refl _ | exact Imp.drop (Imp.refl _) | exact Imp.drop (Imp.drop (Imp.refl _)) | exact Imp.drop (Imp.drop (Imp.drop (Imp.refl _))) | exact Imp.drop (Imp.drop (Imp.drop (Imp.drop (Imp.refl _)))) | exact Imp.drop (Imp.drop (Imp.drop (Imp.drop (Imp.drop (Imp.refl _))))) | exact Imp.drop (Imp.drop (Imp.drop (Imp.drop (Imp.drop (Imp.drop (Imp.refl _)))))) | exact Imp.drop (Imp.drop (Imp.drop (Imp.drop (Imp.drop (Imp.drop (Imp.drop (Imp.refl _))))))) | exact Imp.drop (Imp.drop (Imp.drop (Imp.drop (Imp.drop (Imp.drop (Imp.drop (Imp.drop (Imp.refl _)))))))) | assumption) ?_
        · skip
          refine hl_callv rfl rfl (count_q wa1) ?_
          repeat (first | refine op_ ?_ | refine bx_ (fun _ => ?_))
          refine ha_quiet [4, 5, 6, 7, 8, 9, 10, 11, 12, 13, 16, 17] (by rfl) (by kernel_rfl) ?_
          repeat (first | refine gd_ ?_ | refine hl_convStr rfl r1 rfl ?_ | refine hl_convStr rfl rw1 rfl ?_ | refine hl_strEqT rfl rfl rfl rfl ?_)
          refine ha_fork1 14 (by rfl) (by kernel_rfl) (by rfl) (by first | exact Imp.refl _ | exact Imp.drop (Imp.refl _) | exact Imp.drop (Imp.drop (Imp.refl _)) | exact Imp.drop (Imp.drop (Imp.drop (Imp.refl _))) | exact Imp.drop (Imp.drop (Imp.drop (Imp.drop (Imp.refl _)))) | exact Imp.drop (Imp.drop (Imp.drop (Imp.drop (Imp.drop (Imp.refl _))))) | exact Imp.drop (Imp.drop (Imp.drop (Imp.drop (Imp.drop (Imp.drop (Imp.refl _)))))) | exact Imp.drop (Imp.drop (Imp.drop (Imp.drop (Imp.drop (Imp.drop (Imp.drop (Imp.refl _))))))) | exact Imp.drop (Imp.drop (Imp.drop (Imp.drop (Imp.drop (Imp.drop (Imp.drop (Imp.drop (Imp.refl _)))))))) | assumption) ?_
          · skip
            refine hl_run (by rfl) (by rfl) rfl ?_
            refine hl_call rfl rfl (bytes_fn wa1 (by omega)) (fun v2 M2 o2 => ?_)
            obtain ⟨a2, c2, rfl, hc3, hc4⟩ := o2.form
            have r2 : Rds w0 B M2 _ _ := o2.rds (c := ⟨Try.prog, 0, w0, B⟩) (by simp [Value.oneCell'])
            have i2 := o2.imp
            repeat (first | refine op_ ?_ | refine bx_ (fun _ => ?_))
            refine ha_fork1 15 (by rfl) (by kernel_rfl) (by rfl) (by first | exact Imp.refl _ | exact Imp.drop (Imp.refl _) | exact Imp.drop (Imp.drop (Imp.refl _)) | exact Imp.drop (Imp.drop (Imp.drop (Imp.refl _))) | exact Imp.drop (Imp.drop (Imp.drop (Imp.drop (Imp.refl _)))) | exact Imp.drop (Imp.drop (Imp.drop (Imp.drop (Imp.drop (Imp.refl _))))) | exact Imp.drop (Imp.drop (Imp.drop (Imp.drop (Imp.drop (Imp.drop (Imp.refl _)))))) | exact Imp.drop (Imp.drop (Imp.drop (Imp.drop (Imp.drop (Imp.drop (Imp.drop (Imp.refl _))))))) | exact Imp.drop (Imp.drop (Imp.drop (Imp.drop (Imp.drop (Imp.drop (Imp.drop (Imp.drop (Imp.refl _)))))))) | assumption) ?_
            · skip
              refine hl_run (by rfl) (by rfl) rfl ?_
              refine hl_convStr rfl r2 rfl ?_
              repeat (first | refine op_ ?_ | refine bx_ (fun _ => ?_))
              refine ha_quiet [18, 19, 20] (by rfl) (by kernel_rfl) ?_
              repeat (first | refine gd_ ?_ | refine hl_convStr rfl r1 rfl ?_ | refine hl_convStr rfl rw1 rfl ?_ | refine hl_strEqT rfl rfl rfl rfl ?_)
              refine ha_end (by rfl) (by kernel_rfl) (by first | exact Imp.refl _ | exact Imp.drop (Imp.refl _) | exact Imp.drop (Imp.drop (Imp.refl _)) | exact Imp.drop (Imp.drop (Imp.drop (Imp.refl _))) | exact Imp.drop (Imp.drop (Imp.drop (Imp.drop (Imp.refl _)))) | exact Imp.drop (Imp.drop (Imp.drop (Imp.drop (Imp.drop (Imp.refl _))))) | exact Imp.drop (Imp.drop (Imp.drop (Imp.drop (Imp.drop (Imp.drop (Imp.refl _)))))) | exact Imp.drop (Imp.drop (Imp.drop (Imp.drop (Imp.drop (Imp.drop (Imp.drop (Imp.refl _))))))) | exact Imp.drop (Imp.drop (Imp.drop (Imp.drop (Imp.drop (Imp.drop (Imp.drop (Imp.drop (Imp.refl _)))))))) | assumption) ?_
              exact ⟨rfl, trivial⟩
      · rintro fr M hf
        obtain ⟨base, rfl⟩ := hf.out
        repeat (first | refine go_ ?_ | refine bx_ (fun _ => ?_))
        exact fin1B rfl rfl rfl
theorem walk (a : Option Addr) (len cap : Nat) (l : List Num) (high : Bool) (w : World) (hl : SlS 3 numV w a len cap l) (hx : ∀ x ∈ l, x.wf) :
    Calls Try.prog 5 #[.slice a len cap, .bool high] w fun e w' => e = .returned (.bool true) ∧ Below w.heap.size w w' :=
  calls_of_fn (law (Nat.le_refl _) hl hx high) fun _ _ h => h

/-! The step to the statement (written by program). -/
open Go.ChangeShapes Go.WideShapes Go.ChangeAt
set_option maxRecDepth 100000 in
theorem lifted (os : Os) (started : os.Started) (H : Type) (enc : TypeId × Value → H) :
    ReturnsInHanded {} Try.checked os 5 .any (Rows.bitsWritesSpec.pre6 enc Try.prog Try.f5 Rows.bitsWritesRow.domain false) (Rows.bitsWritesSpec.post enc Try.prog Try.f5 false true false false) := by
  refine returnsInHanded_of_change (C := Try.checked) own started (by kernel_rfl) Try.func5
    (ChangeSpec.witness6 (enc := enc) (C := Try.checked) false ⟨#[], #[.slice none 0 0, .bool false], []⟩ 8 (by kernel_rfl) (by kernel_rfl) (by kernel_rfl) (by kernel_rfl)) ?_
  intro W base args ds gs before hval0 hW hcnd _
  have hval : ∀ (j : Nat) t v, Try.f5.params[j]? = some t → args[j]? = some v → Value.okWide Try.prog W .any base t v := hval0
  have hW' := hW
  obtain ⟨p, q, hA0, hV, rfl, hfz, hnd⟩ := hW
  have hA : DataW.TrodAll enc Try.prog W 0 (fun _ => true) true Try.f5.params.toList args.toList ds p := hA0
  rw [Try.params5] at hA hval
  obtain ⟨v0, vs0, d0, ds0, p0, q0, hargs, rfl, rfl, h0, r0⟩ := trodAll_cons hA
  obtain ⟨v1, vs1, d1, ds1, p1, q1, rfl, rfl, rfl, h1, r1⟩ := trodAll_cons r0
  obtain ⟨rfl, rfl, rfl⟩ := trodAll_nil r1
  obtain rfl : args = #[v0, v1] := by cases args; simp_all
  obtain ⟨rfl, rfl⟩ := trodVars_none hV
  have k0 := h0
  have lt0 : ∀ x ∈ p0, x.block < W.heap.size := by obtain ⟨m, hm⟩ := k0; exact DataW.trod_lt m _ _ _ hm
  obtain ⟨a0, len0, cap0, e0⟩ := okWide_slice Try.underlying22 (hval 0 22 v0 rfl rfl)
  obtain ⟨l0, w0, b0⟩ := open_numL e0 k0
  subst e0
  have k1 := h1
  have lt1 : ∀ x ∈ p1, x.block < W.heap.size := by obtain ⟨m, hm⟩ := k1; exact DataW.trod_lt m _ _ _ hm
  obtain ⟨a1, rfl, _, _⟩ := open_bool Try.underlying4 (hval 1 4 v1 rfl rfl) h1
  clear hA0 hval0
  refine (walk a0 len0 cap0 l0 a1 W w0 b0).mono fun e W' ⟨he, bel⟩ => ?_
  subst he
  exact ⟨_, rfl, _, _, _, [], _, [], hW', trodAll_mk1 (shut_bool Try.underlying4 _), (trodAll_cons_mk (Below.trod laidOut (by kernel_rfl) (of_decide_eq_true (by kernel_rfl)) k0 bel lt0) (trodAll_cons_mk (Below.trod laidOut (by kernel_rfl) (of_decide_eq_true (by kernel_rfl)) k1 bel lt1) trodAll_mk0)), rfl, bel.frame _, fun h => by cases h⟩

theorem over : Rows.bitsWritesRow.holds Try.pinned (OpenSpec.ofChange Rows.bitsWritesSpec) :=
  OpenClaim.holds_of_wide 5 Try.f5 rfl rfl rfl rfl rfl rfl rfl ⟨rfl, rfl, rfl, rfl, rfl⟩ rfl rfl rfl rfl rfl (by kernel_rfl) Try.func5 (by kernel_rfl)
    (of_decide_eq_true (by kernel_rfl)) (by unfold Func.isWrapper; first | (rw [if_pos (by decide +kernel)]; kernel_rfl) | (rw [if_neg (by decide +kernel)]; exact ⟨rfl, rfl⟩))
    (fun os started H enc _ => lifted os started H enc)

/-- The statement. -/
theorem proved : Rows.BitsWritesSaid := over
#print axioms proved
end Go.Proofs.Ytbgmakblfnpjkaa.bitsWrites
