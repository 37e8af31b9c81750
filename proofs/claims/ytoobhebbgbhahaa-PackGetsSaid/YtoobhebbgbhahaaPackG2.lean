/-
  The document's bytes. No condition.
-/
import Derived.Deep.Slices
import Derived.Carry
import Derived.Deep.Fields
import Derived.ChangeSame
import Derived.ChangeArms
import Derived.Test.YtoobhebbgbhahaaPackG1
namespace Go.Proofs.Ytoobhebbgbhahaa
open Go.RowKit
section
variable {c : Cx} {Q : Pst} {fr : Fr} {H : List Ent} {ops : Array Oper} {rest : List Oper} {dst : Option Nat} {ty : TypeId} {pos : String} {after : Array Edge} {x y : Operand} {T e : TypeId} {z : Value}
/-- One row of bytes behind another, both the call's own. -/
theorem hl_join [TSlc c.P T e] [TSz c.P e 1] [TByt c.P e 1] [TZero c.P e z] {n m n' c1 cx : Nat} {a a' : Option Addr} {l r : List UInt8} {Xb Xr Tl : List Ent} (hs : ev fr x = .slice a' n' c1) (hx : ev fr y = .slice a m cx) (hn' : n' = n)
    (ho : ∀ F, Own e 1 (.slice a' n' c1) n (l.map byteV) F (Xb ++ F)) (hr : ∀ F, Own e 1 (.slice a m cx) m (r.map byteV) F (Xr ++ F)) (hp : H.Perm (Xr ++ (Xb ++ Tl))) (hzs : z.cells.size = 1) (hb : n + m ≤ 1000000000) (hd : dOk c.n dst = true)
    (h : ∀ a' c' X', (∀ F, Own e 1 (.slice a' (n + m) c') (n + m) ((l ++ r).map byteV) F (X' ++ F)) → HL c ops Q rest (updO fr dst (.slice a' (n + m) c')) (X' ++ Tl)) (hT9 : e ≠ mapTag := by first | assumption | decide) :
    HL c ops Q (⟨dst, .call { callee := .builtin .append, args := #[x, y], argTypes := #[T, T] }, ty, pos, after, none⟩ :: rest) fr H := by
  refine HL.perm ?_ (hp.trans (app_swap Xr Xb Tl))
  have hrl := (hr []).len
  have rd : Rds c.w0 c.B (Xb ++ (Xr ++ Tl)) a (r.map byteV) := (((hr Tl).rds (c := c) (fun u hu => by obtain ⟨x, _, rfl⟩ := List.mem_map.1 hu; rfl))).weak fun w hw => (Imp.tail Xb _) _ _ _ hw
  refine hl_append_own (by_ := 1) hs hx (ho (Xr ++ Tl)) rd (by rw [hrl]) hzs (by decide) (by omega) (by omega) hd (fun v4 M4 o4 => ?_)
  obtain ⟨a4, c4, rfl, _, _⟩ := o4.form
  obtain ⟨X4, hp4, ho4⟩ := o4.permE
  refine HL.imp (h a4 c4 X4 fun F => by rw [List.map_append]; exact ho4 F) (Imp.perm hp4 (Imp.sub ?_))
  exact List.Sublist.append (List.Sublist.refl _) (List.sublist_append_right _ _)
end
theorem byteW {u : Nat} (h : u < 256) : IntKind.u8.wrap (u : Int) = ((UInt8.ofNat u).toNat : Int) := by
  rw [byte_ofNat h, show IntKind.u8.wrap (u : Int) = (u : Int) % 256 from rfl]
  omega
section
variable {w0 : World} {B : Nat} {H R R0 : List Ent} {g : Nat}
set_option maxHeartbeats 8000000
set_option maxRecDepth 100000
theorem same_fn {a a2 : Option Addr} {n n2 c c2 : Nat} {l m : List UInt8} (hl : BytR w0 B H a n c l) (hm : BytR w0 B H a2 n2 c2 m) (hs : n ≤ 9223372036854775806) :
    Fn Try.prog w0 B 12 [.slice a n c, .slice a2 n2 c2] H (fun v H' => v = .bool (decide (l = m)) ∧ H' = H) := by
  have e1 := hl.eq
  have e2 := hm.eq
  refine fn_intro Try.func12 rfl (by kernel_rfl) rfl ?_
  by_cases hne : n = n2
  rotate_left
  · repeat (first | refine go_ ?_ | refine bx_ (fun _ => ?_))
    exact fin1B rfl rfl ⟨by rw [decide_eq_false (fun h => hne (by rw [← e1, ← e2, h]))], rfl⟩
  subst hne
  repeat (first | refine go_ ?_ | refine bx_ (fun _ => ?_))
  refine hc_loopd (fun q fr M => ∃ k, k + q = n ∧ (∀ i (h1 : i < l.length) (h2 : i < m.length), i < k → l[i] = m[i]) ∧ Agr fr [(0, .slice a n c), (1, .slice a2 n c2), (5, .int .i64 (k : Int))] ∧ M = H) n ?_ ?_
  · exact ⟨0, by omega, fun i _ _ h => absurd h (by omega), ⟨rfl, rfl, rfl, trivial⟩, rfl⟩
  rintro q fr M ⟨k, hk, hall, hf, rfl⟩
  obtain ⟨base, rfl⟩ := hf.out
  clear hf
  by_cases hlt : k < n
  · obtain ⟨b1, o1, rfl⟩ := hl.pos (by omega)
    obtain ⟨b2, o2, rfl⟩ := hm.pos (by omega)
    have k1 : k < l.length := by omega
    have k2 : k < m.length := by omega
    have c1 := hl.cell k1
    have c2 := hm.cell k2
    by_cases he : l[k] = m[k]
    · have hn : l[k].toNat = m[k].toNat := by rw [he]
      repeat (first | refine go_ ?_ | refine bx_ (fun _ => ?_))
      (refine hc_draw (by kernel_rfl) (by kernel_rfl) ?_; repeat (first | refine hl_loadRd rfl hl.rd (Imp.refl _) c1 rfl ?_ | refine hl_loadRd rfl hm.rd (Imp.refl _) c2 rfl ?_ | refine gd1_ ?_))
      repeat (first | refine go_ ?_ | refine bx_ (fun _ => ?_))
      refine ⟨q - 1, by omega, _, Imp.refl _, k + 1, by omega, fun i h1 h2 h3 => ?_, ⟨rfl, rfl, rfl, trivial⟩, rfl⟩
      by_cases h : i < k
      · exact hall i h1 h2 h
      · obtain rfl : i = k := by omega
        exact he
    · have hn : l[k].toNat ≠ m[k].toNat := fun h => he (UInt8.toNat_inj.1 h)
      repeat (first | refine go_ ?_ | refine bx_ (fun _ => ?_))
      (refine hc_draw (by kernel_rfl) (by kernel_rfl) ?_; repeat (first | refine hl_loadRd rfl hl.rd (Imp.refl _) c1 rfl ?_ | refine hl_loadRd rfl hm.rd (Imp.refl _) c2 rfl ?_ | refine gd1_ ?_))
      repeat (first | refine go_ ?_ | refine bx_ (fun _ => ?_))
      exact fin1B rfl rfl ⟨by rw [decide_eq_false (fun h => he (by simp [h]))], rfl⟩
  · obtain rfl : k = n := by omega
    have : l = m := List.ext_getElem (by omega) fun i h1 h2 => hall i h1 h2 (by omega)
    repeat (first | refine go_ ?_ | refine bx_ (fun _ => ?_))
    exact fin1B rfl rfl ⟨by rw [decide_eq_true this], rfl⟩
theorem join_fn {a a2 : Option Addr} {n n2 c c2 : Nat} {l m : List UInt8} (hl : BytR w0 B H a n c l) (hm : BytR w0 B H a2 n2 c2 m) (hs : n ≤ 1000000000) (hs2 : n2 ≤ 1000000000) :
    Fn Try.prog w0 B 18 [.slice a n c, .slice a2 n2 c2] H (fun v H' => Own 5 1 v (n + n2) ((l ++ m).map byteV) H H') := by
  have e1 := hl.eq
  have e2 := hm.eq
  refine fn_intro Try.func18 rfl (by kernel_rfl) rfl ?_
  repeat (first | refine go_ ?_ | refine bx_ (fun _ => ?_))
  refine hl_append rfl rfl .here rfl hl.rd.under (by simp [e1]) rfl (by decide) (by decide) (by omega) (by omega) rfl (fun g' cap' h1 h2 => ?_)
  rw [List.nil_append, Nat.zero_add] at *
  repeat (first | refine go_ ?_ | refine bx_ (fun _ => ?_))
  refine hl_append rfl rfl .here (by simp [e1]) hm.rd.under (by simp [e2]) rfl (by decide) (by omega) (by omega) (by omega) rfl (fun g2 cap2 h3 h4 => ?_)
  rw [← List.map_append]
  repeat (first | refine go_ ?_ | refine bx_ (fun _ => ?_))
  exact fin1S rfl rfl (Own.mk h3 h4 (by simp [e1, e2]) (List.Perm.refl _))
theorem rnum_fn {n : Int} (hn : I64 n) : Fn Try.prog w0 B 17 [.int .i64 n] H (fun v H' => Own 5 1 v (numB n).length ((numB n).map byteV) H H') := by
  have hlen := length_numB_le hn
  obtain ⟨hn1, hn2⟩ := hn
  refine fn_intro Try.func17 rfl (by kernel_rfl) rfl ?_
  obtain ⟨u, hu⟩ : ∃ u, u = zz n := ⟨_, rfl⟩
  have hput : numB n = putU u := by rw [hu]; rfl
  rw [hput] at hlen ⊢
  have hcs : (∃ N : Nat, n = -1 - (N : Int) ∧ u = 2 * N + 1) ∨ ∃ N : Nat, n = (N : Int) ∧ u = 2 * N := by
    rw [hu]
    unfold zz
    by_cases h0 : 0 ≤ n
    · exact .inr ⟨n.toNat, by omega, by rw [if_pos h0]; omega⟩
    · exact .inl ⟨(-1 - n).toNat, by omega, by rw [if_neg h0]; omega⟩
  clear hu hput
  rcases hcs with ⟨N, rfl, hu⟩ | ⟨N, rfl, hu⟩
  all_goals
    repeat (first | refine go_ ?_ | refine bx_ (fun _ => ?_))
    refine hc_loopd (fun q fr M => ∃ out k sv Xb, (k < 128 ∧ q ≤ 200000000000000000) ∧ out ++ putU (k + 128 * q) = putU u ∧ (∀ F, Own 5 1 sv out.length (out.map byteV) F (Xb ++ F)) ∧ Imp M (Xb ++ H) ∧ Agr fr [(0, .int .i64 (q : Int)), (3, sv), (5, .int .i64 (k : Int))]) (u / 128) ?_ ?_
    · exact ⟨[], u % 128, _, [], ⟨by omega, by omega⟩, by rw [List.nil_append, show u % 128 + 128 * (u / 128) = u by omega], fun F => Own.nil, Imp.refl _, (congrArg (Value.int .i64) (by omega)), rfl, (congrArg (Value.int .i64) (by omega)), trivial⟩
    rintro q fr M ⟨out, k, sv, Xb, ⟨hk, hqs⟩, hput, ho, him, hf⟩
    obtain ⟨base, rfl⟩ := hf.out
    clear hf
    refine HC.imp ?_ him
    obtain ⟨av, cv, rfl, _, _⟩ := (ho []).form
    have hlo := congrArg List.length hput
    rw [List.length_append] at hlo
    by_cases hq : 0 < q
    · have hp1 := putU_ge (u := k + 128 * q) (by omega)
      rw [show (k + 128 * q) % 128 + 128 = k + 128 by omega, show (k + 128 * q) / 128 = q by omega] at hp1
      repeat (first | rw [show ((k : Int) + 128) = ((k + 128 : Nat) : Int) by omega] | rw [byteW (show k + 128 < 256 by omega)] | refine go1_ ?_ | refine bx_ (fun _ => ?_))
      rename_i gb
      refine hl_append_own (F := ⟨gb, 5, [.int .u8 ((UInt8.ofNat (k + 128)).toNat : Int)], 1 * 1⟩ :: H) rfl rfl ((ho H).under _) (Rds.ent (n := 1) (l := [.int .u8 ((UInt8.ofNat (k + 128)).toNat : Int)]) .here rfl (by simp [Value.oneCell'])) rfl rfl (by decide) (by omega) (by omega) rfl (fun v4 M4 o4 => ?_)
      obtain ⟨a4, c4, rfl, _, _⟩ := o4.form
      obtain ⟨Z, hZ, ho4⟩ := o4.permE
      repeat (first | refine go_ ?_ | refine bx_ (fun _ => ?_))
      refine ⟨q / 128, by omega, _, Imp.refl _, out ++ [UInt8.ofNat (k + 128)], q % 128, _, Z, ⟨by omega, by omega⟩, ?_, fun F => by rw [List.map_append, List.length_append]; exact ho4 F, Imp.perm hZ (Imp.sub (List.Sublist.append (List.Sublist.refl _) (List.sublist_cons_self _ _))), (congrArg (Value.int .i64) (by omega)), rfl, (congrArg (Value.int .i64) (by omega)), trivial⟩
      rw [show q % 128 + 128 * (q / 128) = q by omega, List.append_assoc, ← hput, hp1]
      rfl
    · obtain rfl : q = 0 := by omega
      rw [show k + 128 * 0 = k by omega, putU_lt hk] at hput
      repeat (first | rw [byteW (show k < 256 by omega)] | refine go1_ ?_ | refine bx_ (fun _ => ?_))
      rename_i gb
      refine hl_append_own (F := ⟨gb, 5, [.int .u8 ((UInt8.ofNat k).toNat : Int)], 1 * 1⟩ :: H) rfl rfl ((ho H).under _) (Rds.ent (n := 1) (l := [.int .u8 ((UInt8.ofNat k).toNat : Int)]) .here rfl (by simp [Value.oneCell'])) rfl rfl (by decide) (by omega) (by omega) rfl (fun v4 M4 o4 => ?_)
      obtain ⟨a4, c4, rfl, _, _⟩ := o4.form
      obtain ⟨Z, hZ, ho4⟩ := o4.permE
      repeat (first | refine go_ ?_ | refine bx_ (fun _ => ?_))
      rw [← hput]
      refine fin1S rfl rfl (H2 := Z ++ H) ?_ (Imp.perm hZ (Imp.sub (List.Sublist.append (List.Sublist.refl _) (List.sublist_cons_self _ _))))
      rw [List.map_append, List.length_append]; exact ho4 H
end
end Go.Proofs.Ytoobhebbgbhahaa
namespace Go.Proofs.Ytoobhebbgbhahaa
open Go.RowKit
theorem PtR.c01 {w0 : World} {B : Nat} {H : List Ent} {a : Option Addr} {len : Nat} {l : List Pt} (h : PtR w0 B H a len l) {k : Nat} (hk : k < l.length) : (l.flatMap ptV)[k * 2]? = some (.int .i64 l[k].x) ∧ (l.flatMap ptV)[k * 2 + 1]? = some (.int .i64 l[k].y) := by
  have e := flat_pt l k hk
  constructor
  · have := congrArg (fun l => l[0]?) e
    simp only [List.getElem?_take, List.getElem?_drop] at this
    simpa using this
  · have := congrArg (fun l => l[1]?) e
    simp only [List.getElem?_take, List.getElem?_drop] at this
    simpa using this
section
variable {w0 : World} {B : Nat} {H R R0 : List Ent} {g : Nat}
set_option maxHeartbeats 8000000
set_option maxRecDepth 100000
theorem rnums_fn {a : Option Addr} {len cap : Nat} {L : List Int} (hL : NumR w0 B H a len L) (hI : ∀ n ∈ L, I64 n) (hlen : len ≤ 10000000) :
    Fn Try.prog w0 B 32 [.slice a len cap] H (fun v H' => Own 5 1 v (numsB L).length ((numsB L).map byteV) H H') := by
  have he := hL.eq
  refine fn_intro Try.func32 rfl (by kernel_rfl) rfl ?_
  repeat (first | refine go_ ?_ | refine bx_ (fun _ => ?_))
  refine hc_loopd (fun q fr M => ∃ k n sv Xb, k + q = len ∧ n = (numsB (L.take k)).length ∧ (∀ F, Own 5 1 sv n ((numsB (L.take k)).map byteV) F (Xb ++ F)) ∧ Imp M (Xb ++ H) ∧ Agr fr [(0, .slice a len cap), (3, sv), (4, .int .i64 (k : Int))]) len ?_ ?_
  · exact ⟨0, 0, _, [], by omega, rfl, fun F => Own.nil, Imp.refl _, rfl, rfl, rfl, trivial⟩
  rintro q fr M ⟨k, n, sv, Xb, hk, hn, ho, him, hf⟩
  obtain ⟨base, rfl⟩ := hf.out
  clear hf
  refine HC.imp ?_ him
  obtain ⟨av, cv, rfl, _, _⟩ := (ho []).form
  by_cases hlt : k < len
  rotate_left
  · obtain rfl : len = k := by omega
    rw [show L.take len = L by rw [← he]; exact List.take_length] at ho hn
    subst hn
    repeat (first | refine go_ ?_ | refine bx_ (fun _ => ?_))
    exact fin1S rfl rfl (ho H)
  obtain ⟨bb, off, rfl⟩ := hL.pos (by omega)
  have hkL : k < L.length := by omega
  have hcell : (L.map iV)[k]? = some (.int .i64 L[k]) := by simp [hkL]
  have hin := hI _ (List.getElem_mem hkL)
  have hst := numsB_take hkL
  have hb1 := length_numsB_le (l := L.take k) fun m hm => hI m (List.mem_of_mem_take hm)
  have hb2 := length_numB_le hin
  rw [List.length_take] at hb1
  generalize hv : L[k] = v at *
  repeat (first | refine hl_loadRd rfl hL.rd (Imp.tail Xb _) hcell rfl ?_ | refine go1_ ?_ | refine bx_ (fun _ => ?_))
  refine hl_call rfl rfl (rnum_fn hin) (fun v1 M1 o => ?_)
  obtain ⟨a1, c1, rfl, _, _⟩ := o.form
  obtain ⟨Xr, hpr, hor⟩ := o.permE
  repeat (first | refine go_ ?_ | refine bx_ (fun _ => ?_))
  refine hl_join rfl rfl rfl ho hor hpr rfl (by omega) rfl (fun a2 c2 X2 ho2 => ?_)
  rw [← hst] at ho2
  repeat (first | refine go_ ?_ | refine bx_ (fun _ => ?_))
  exact ⟨q - 1, by omega, _, Imp.refl _, k + 1, _, _, X2, by omega, by rw [hst, List.length_append, hn], ho2, Imp.refl _, rfl, rfl, rfl, trivial⟩
theorem rlist_fn {a : Option Addr} {len cap : Nat} {L : List Int} (hL : NumR w0 B H a len L) (hI : ∀ n ∈ L, I64 n) (hlen : len ≤ 10000000) :
    Fn Try.prog w0 B 33 [.slice a len cap] H (fun v H' => Own 5 1 v (lstB L).length ((lstB L).map byteV) H H') := by
  have he := hL.eq
  refine fn_intro Try.func33 rfl (by kernel_rfl) rfl ?_
  have hw : I64 (len : Int) := ⟨by omega, by omega⟩
  have hb1 := length_numsB_le hI
  have hb2 := length_numB_le hw
  repeat (first | refine go_ ?_ | refine bx_ (fun _ => ?_))
  refine hl_call rfl rfl (rnum_fn hw) (fun v1 M1 o => ?_)
  obtain ⟨a1, c1, rfl, _, _⟩ := o.form
  obtain ⟨Xb, hpb, ho⟩ := o.permE
  refine HL.perm ?_ hpb
  repeat (first | refine go_ ?_ | refine bx_ (fun _ => ?_))
  refine hl_call rfl rfl (rnums_fn (hL.imp (Imp.tail Xb H)) hI hlen) (fun v2 M2 o2 => ?_)
  obtain ⟨a2, c2, rfl, _, _⟩ := o2.form
  obtain ⟨Xr, hpr, hor⟩ := o2.permE
  repeat (first | refine go_ ?_ | refine bx_ (fun _ => ?_))
  refine hl_join rfl rfl rfl ho hor hpr rfl (by omega) rfl (fun a3 c3 X3 ho3 => ?_)
  have e : numB (len : Int) ++ numsB L = lstB L := by unfold lstB; rw [he]
  rw [e] at ho3
  have e2 := congrArg List.length e
  rw [List.length_append] at e2
  rw [e2] at ho3 ⊢
  repeat (first | refine go_ ?_ | refine bx_ (fun _ => ?_))
  exact fin1S rfl rfl (ho3 H)
theorem redit_fn {f m : Nat → Int} {pa sa qa : Option Addr} {pn pc sn sc qn qc : Nat} {P Q : List Int} {S : List Pt} (hP : NumR w0 B H pa pn P) (hS : PtR w0 B H sa sn S) (hQ : NumR w0 B H qa qn Q) (hw : Ed.wf ⟨f10 f, P, S, f6 m, Q⟩) :
    Fn Try.prog w0 B 13 [.agg (edC f m (.slice pa pn pc) (.slice sa sn sc) (.slice qa qn qc)).toArray] H (fun v H' => Own 5 1 v (Ed.put ⟨f10 f, P, S, f6 m, Q⟩).length ((Ed.put ⟨f10 f, P, S, f6 m, Q⟩).map byteV) H H') := by
  have eP := hP.eq
  have eS := hS.eq
  have eQ := hQ.eq
  obtain ⟨wf1, wP, wS, wm, wQ, _, _, lP, lS, lQ⟩ := hw
  dsimp only at wf1 wP wS wm wQ lP lS lQ
  refine fn_intro Try.func13 rfl (by kernel_rfl) rfl ?_
  repeat (first | refine go_ ?_ | refine bx_ (fun _ => ?_))
  rename_i gE gb
  obtain ⟨eb, heb⟩ : ∃ eb : Ent, eb = ⟨gE, 39, edC f m (.slice pa pn pc) (.slice sa sn sc) (.slice qa qn qc), 19⟩ := ⟨_, rfl⟩
  have tx : ∀ (Y T : List Ent), Take (Y ++ (eb :: T)) ⟨gE, 39, edC f m (.slice pa pn pc) (.slice sa sn sc) (.slice qa qn qc), 19⟩ (Y ++ T) := fun Y T => by rw [heb]; exact Take.app Y .here
  have txE : Take (eb :: H) ⟨gE, 39, edC f m (.slice pa pn pc) (.slice sa sn sc) (.slice qa qn qc), 19⟩ H := tx [] H
  refine HL.perm (H' := ⟨gb, 3, (f10 f).map iV, 10⟩ :: (eb :: H)) ?_ (by rw [heb]; exact List.Perm.refl _)
  have b0 := length_numsB_le wf1
  have b1 := length_lstB_le wP lP
  have b4 := length_numsB_le wm
  have b5 := length_lstB_le wQ lQ
  have wsn : I64 (sn : Int) := ⟨by omega, by omega⟩
  have b2 := length_numB_le wsn
  simp only [List.length_cons, List.length_nil] at b0 b4
  refine hl_call rfl rfl (rnums_fn (cap := 10) (len := 10) (L := f10 f) (NumR.ent (i := 0) (n := 10) .here rfl rfl) wf1 (by decide)) (fun v M o => ?_)
  obtain ⟨a1, c1, rfl, _, _⟩ := o.form
  obtain ⟨X1, hp1, ho1⟩ := o.permE
  refine HL.imp ?_ (Imp.perm hp1 (Imp.sub (List.Sublist.append (List.Sublist.refl X1) (List.sublist_cons_self _ _))))
  repeat (first | refine hl_load1 rfl (tx _ _) rfl rfl ?_ | refine go1_ ?_ | refine bx_ (fun _ => ?_))
  refine hl_call rfl rfl (rlist_fn (hP.imp ((Imp.tail X1 _).trans (Imp.drop (Imp.refl _)))) wP (by omega)) (fun v M o => ?_)
  obtain ⟨a2, c2, rfl, _, _⟩ := o.form
  obtain ⟨Xr, hpr, hor⟩ := o.permE
  repeat (first | refine go_ ?_ | refine bx_ (fun _ => ?_))
  refine hl_join rfl rfl rfl ho1 hor hpr rfl (by omega) rfl (fun a3 c3 X3 ho3 => ?_)
  repeat (first | refine hl_load1 rfl (tx _ _) rfl rfl ?_ | refine go1_ ?_ | refine bx_ (fun _ => ?_))
  refine hl_call rfl rfl (rnum_fn wsn) (fun v M o => ?_)
  obtain ⟨a4, c4, rfl, _, _⟩ := o.form
  obtain ⟨Xr2, hpr2, hor2⟩ := o.permE
  repeat (first | refine go_ ?_ | refine bx_ (fun _ => ?_))
  refine hl_join rfl rfl rfl ho3 hor2 hpr2 rfl (by omega) rfl (fun a5 c5 X5 ho5 => ?_)
  obtain ⟨b3, hb3⟩ : ∃ b3, b3 = numsB (f10 f) ++ lstB P ++ numB (sn : Int) := ⟨_, rfl⟩
  have l3 : b3.length = (numsB (f10 f)).length + (lstB P).length + (numB (sn : Int)).length := by rw [hb3, List.length_append, List.length_append]
  rw [← hb3, ← l3] at ho5
  rw [← l3]
  repeat (first | refine go_ ?_ | refine bx_ (fun _ => ?_))
  refine hc_loopd (fun q fr M => ∃ k n sv X, k + q = sn ∧ n = (b3 ++ ptsB (S.take k)).length ∧ (∀ F, Own 5 1 sv n ((b3 ++ ptsB (S.take k)).map byteV) F (X ++ F)) ∧ Imp M (X ++ (eb :: H)) ∧ Agr fr [(1, .pointer (some ⟨gE, 0, none⟩)), (3, sv), (4, .int .i64 (k : Int))]) sn ?_ ?_
  · exact ⟨0, b3.length, .slice a5 b3.length c5, X5, by omega, by simp [ptsB], by simpa [ptsB] using ho5, Imp.refl _, rfl, rfl, rfl, trivial⟩
  clear ho1 ho3 ho5 hor hor2 hpr hpr2 hp1
  rintro q fr M ⟨k, n, sv, X, hk, hn, ho, hi, hf⟩
  obtain ⟨base, rfl⟩ := hf.out
  clear hf
  refine HC.imp ?_ hi
  obtain ⟨av, cv, rfl, _, _⟩ := (ho []).form
  have l4 := length_ptsB_le (l := S.take k) fun p hp => wS p (List.mem_of_mem_take hp)
  rw [List.length_take] at l4
  have l4b : 20 * min k S.length ≤ 20 * sn := Nat.mul_le_mul_left _ (by omega)
  rw [List.length_append] at hn
  by_cases hlt : k < sn
  · obtain ⟨bb, off, rfl⟩ := hS.pos (by omega)
    have hkS : k < S.length := by omega
    obtain ⟨hc0, hc1⟩ := hS.c01 hkS
    have hst := ptsB_take hkS
    have hwp := wS _ (List.getElem_mem hkS)
    generalize hpp : S[k] = p at *
    have hwn : ∀ n ∈ [p.x, p.y], I64 n := fun n hn => by
      simp only [List.mem_cons, List.not_mem_nil, or_false] at hn
      rcases hn with rfl | rfl
      · exact hwp.1
      · exact hwp.2
    have b6 := length_numsB_le hwn
    simp only [List.length_cons, List.length_nil] at b6
    repeat (first | refine hl_load1 rfl (tx _ _) rfl rfl ?_ | refine go1_ ?_ | refine bx_ (fun _ => ?_))
    refine hc_meet (fun fr M => ∃ sv X, (∀ F, Own 5 1 sv (n + (numsB [p.x, p.y]).length) ((b3 ++ ptsB (S.take k) ++ numsB [p.x, p.y]).map byteV) F (X ++ F)) ∧ Imp M (X ++ (eb :: H)) ∧ Agr fr [(1, .pointer (some ⟨gE, 0, none⟩)), (3, sv), (4, .int .i64 (k : Int))]) ?_ ?_
    · refine hc_drawA (eb :: H) (by kernel_rfl) ?_
      have iE0 : Imp (X ++ (eb :: H)) (eb :: H) := Imp.tail X _
      refine ha_quiet [0, 1, 2, 3, 4, 5, 6, 7, 8, 9, 10, 11, 12] (by rfl) (by kernel_rfl) ?_
      repeat (first | refine hl_load1 rfl txE rfl rfl ?_ | refine hl_loadRd (j := k * 2) rfl hS.rd (Imp.drop (Imp.refl _)) hc0 rfl ?_ | refine hl_loadRd (j := k * 2 + 1) rfl hS.rd (Imp.drop (Imp.refl _)) hc1 rfl ?_ | refine gd1_ ?_)
      refine ha_fork1 13 (by rfl) (by kernel_rfl) (by rfl) (by first | exact Imp.refl _ | exact Imp.drop (Imp.refl _) | exact Imp.drop (Imp.drop (Imp.refl _)) | exact Imp.drop (Imp.drop (Imp.drop (Imp.refl _))) | exact Imp.drop (Imp.drop (Imp.drop (Imp.drop (Imp.refl _)))) | exact Imp.drop (Imp.drop (Imp.drop (Imp.drop (Imp.drop (Imp.refl _))))) | exact Imp.drop (Imp.drop (Imp.drop (Imp.drop (Imp.drop (Imp.drop (Imp.refl _)))))) | exact Imp.drop (Imp.drop (Imp.drop (Imp.drop (Imp.drop (Imp.drop (Imp.drop (Imp.refl _))))))) | exact Imp.drop (Imp.drop (Imp.drop (Imp.drop (Imp.drop (Imp.drop (Imp.drop (Imp.drop (Imp.refl _)))))))) | assumption | exact Imp.drop (by assumption) | exact Imp.drop (Imp.drop (by assumption)) | exact imp_nil _ | exact Imp.drop2 (Imp.refl _) | exact Imp.drop2 (Imp.drop2 (Imp.refl _)) | exact Imp.drop (Imp.drop2 (Imp.refl _))) ?_
      · skip
        repeat (first | refine op_ ?_ | refine bx_ (fun _ => ?_))
        rename_i gp
        have iE1 : Imp (⟨gp, 3, [.int .i64 p.x, .int .i64 p.y], 2 * 1⟩ :: (X ++ (eb :: H))) (eb :: H) := Imp.drop iE0
        refine ha_fork1 14 (by rfl) (by kernel_rfl) (by rfl) (by first | exact Imp.refl _ | exact Imp.drop (Imp.refl _) | exact Imp.drop (Imp.drop (Imp.refl _)) | exact Imp.drop (Imp.drop (Imp.drop (Imp.refl _))) | exact Imp.drop (Imp.drop (Imp.drop (Imp.drop (Imp.refl _)))) | exact Imp.drop (Imp.drop (Imp.drop (Imp.drop (Imp.drop (Imp.refl _))))) | exact Imp.drop (Imp.drop (Imp.drop (Imp.drop (Imp.drop (Imp.drop (Imp.refl _)))))) | exact Imp.drop (Imp.drop (Imp.drop (Imp.drop (Imp.drop (Imp.drop (Imp.drop (Imp.refl _))))))) | exact Imp.drop (Imp.drop (Imp.drop (Imp.drop (Imp.drop (Imp.drop (Imp.drop (Imp.drop (Imp.refl _)))))))) | assumption | exact Imp.drop (by assumption) | exact Imp.drop (Imp.drop (by assumption)) | exact imp_nil _ | exact Imp.drop2 (Imp.refl _) | exact Imp.drop2 (Imp.drop2 (Imp.refl _)) | exact Imp.drop (Imp.drop2 (Imp.refl _))) ?_
        · skip
          refine hl_call rfl rfl (rnums_fn (cap := 2) (len := 2) (L := [p.x, p.y]) (NumR.ent (i := 0) (n := 2) .here rfl rfl) hwn (by decide)) (fun v M7 o7 => ?_)
          obtain ⟨a7, c7, rfl, _, _⟩ := o7.form
          obtain ⟨X7, hp7, ho7⟩ := o7.permE
          have hp7' : M7.Perm (X7 ++ (X ++ (⟨gp, 3, [.int .i64 p.x, .int .i64 p.y], 2 * 1⟩ :: (eb :: H)))) := hp7.trans (List.Perm.append_left X7 List.perm_middle.symm)
          have iE2 : Imp M7 (eb :: H) := o7.imp.trans iE1
          repeat (first | refine op_ ?_ | refine bx_ (fun _ => ?_))
          refine ha_fork1 15 (by rfl) (by kernel_rfl) (by rfl) (by first | exact Imp.refl _ | exact Imp.drop (Imp.refl _) | exact Imp.drop (Imp.drop (Imp.refl _)) | exact Imp.drop (Imp.drop (Imp.drop (Imp.refl _))) | exact Imp.drop (Imp.drop (Imp.drop (Imp.drop (Imp.refl _)))) | exact Imp.drop (Imp.drop (Imp.drop (Imp.drop (Imp.drop (Imp.refl _))))) | exact Imp.drop (Imp.drop (Imp.drop (Imp.drop (Imp.drop (Imp.drop (Imp.refl _)))))) | exact Imp.drop (Imp.drop (Imp.drop (Imp.drop (Imp.drop (Imp.drop (Imp.drop (Imp.refl _))))))) | exact Imp.drop (Imp.drop (Imp.drop (Imp.drop (Imp.drop (Imp.drop (Imp.drop (Imp.drop (Imp.refl _)))))))) | assumption | exact Imp.drop (by assumption) | exact Imp.drop (Imp.drop (by assumption)) | exact imp_nil _ | exact Imp.drop2 (Imp.refl _) | exact Imp.drop2 (Imp.drop2 (Imp.refl _)) | exact Imp.drop (Imp.drop2 (Imp.refl _))) ?_
          · skip
            refine hl_join rfl rfl rfl ho ho7 hp7' rfl (by omega) rfl (fun a8 c8 X8 ho8 => ?_)
            have iE8 : Imp (X8 ++ (⟨gp, 3, [.int .i64 p.x, .int .i64 p.y], 2 * 1⟩ :: (eb :: H))) (X8 ++ (eb :: H)) := Imp.sub (List.Sublist.append (List.Sublist.refl _) (List.sublist_cons_self _ _))
            have iE3 : Imp (X8 ++ (⟨gp, 3, [.int .i64 p.x, .int .i64 p.y], 2 * 1⟩ :: (eb :: H))) (eb :: H) := (Imp.tail X8 _).trans (Imp.drop (Imp.refl _))
            repeat (first | refine op_ ?_ | refine bx_ (fun _ => ?_))
            refine ha_quiet [16] (by rfl) (by kernel_rfl) ?_
            repeat (first | refine hl_load1 rfl txE rfl rfl ?_ | refine hl_loadRd (j := k * 2) rfl hS.rd (Imp.drop (Imp.refl _)) hc0 rfl ?_ | refine hl_loadRd (j := k * 2 + 1) rfl hS.rd (Imp.drop (Imp.refl _)) hc1 rfl ?_ | refine gd1_ ?_)
            refine ha_end (by rfl) (by kernel_rfl) (by first | exact Imp.refl _ | exact Imp.drop (Imp.refl _) | exact Imp.drop (Imp.drop (Imp.refl _)) | exact Imp.drop (Imp.drop (Imp.drop (Imp.refl _))) | exact Imp.drop (Imp.drop (Imp.drop (Imp.drop (Imp.refl _)))) | exact Imp.drop (Imp.drop (Imp.drop (Imp.drop (Imp.drop (Imp.refl _))))) | exact Imp.drop (Imp.drop (Imp.drop (Imp.drop (Imp.drop (Imp.drop (Imp.refl _)))))) | exact Imp.drop (Imp.drop (Imp.drop (Imp.drop (Imp.drop (Imp.drop (Imp.drop (Imp.refl _))))))) | exact Imp.drop (Imp.drop (Imp.drop (Imp.drop (Imp.drop (Imp.drop (Imp.drop (Imp.drop (Imp.refl _)))))))) | assumption | exact Imp.drop (by assumption) | exact Imp.drop (Imp.drop (by assumption)) | exact imp_nil _ | exact Imp.drop2 (Imp.refl _) | exact Imp.drop2 (Imp.drop2 (Imp.refl _)) | exact Imp.drop (Imp.drop2 (Imp.refl _))) ?_
            exact ⟨_, X8, ho8, iE8, rfl, rfl, rfl, trivial⟩
    rintro fr M ⟨sv8, X8, ho8, hi8, hf⟩
    obtain ⟨base, rfl⟩ := hf.out
    clear hf
    refine HC.imp ?_ hi8
    rw [List.append_assoc, ← hst] at ho8
    obtain ⟨a8, c8, rfl, _, _⟩ := (ho8 []).form
    repeat (first | refine go_ ?_ | refine bx_ (fun _ => ?_))
    exact ⟨q - 1, by omega, _, Imp.refl _, k + 1, _, _, X8, by omega, by rw [hst, ← List.append_assoc, List.length_append, List.length_append, ← hn], ho8, Imp.refl _, rfl, rfl, rfl, trivial⟩
  · obtain rfl : sn = k := by omega
    rw [show S.take sn = S by rw [← eS]; exact List.take_length] at ho l4 hn
    repeat (first | refine hl_load1 rfl (tx _ _) rfl rfl ?_ | refine go1_ ?_ | refine bx_ (fun _ => ?_) | refine hl_sliceArr (i := 0) (j := 6) (ki := .i64) (kj := .i64) rfl rfl rfl (by decide) (by decide) rfl (fun off' hof => ?_))
    obtain rfl : off' = 12 := by simpa using hof (by decide)
    refine hl_call rfl rfl (rnums_fn (cap := 6) (len := 6) (L := f6 m) (NumR.ent (i := 12) (n := 6) (tx _ _) rfl rfl) wm (by decide)) (fun v M o => ?_)
    obtain ⟨a6, c6, rfl, _, _⟩ := o.form
    obtain ⟨X6, hp6, ho6⟩ := o.permE
    repeat (first | refine go_ ?_ | refine bx_ (fun _ => ?_))
    refine hl_join rfl rfl rfl ho ho6 hp6 rfl (by omega) rfl (fun a7 c7 X7 ho7 => ?_)
    repeat (first | refine hl_load1 rfl (tx _ _) rfl rfl ?_ | refine go1_ ?_ | refine bx_ (fun _ => ?_))
    refine hl_call rfl rfl (rlist_fn (hQ.imp ((Imp.tail X7 _).trans (Imp.drop (Imp.refl _)))) wQ (by omega)) (fun v M o => ?_)
    obtain ⟨a8, c8, rfl, _, _⟩ := o.form
    obtain ⟨X8, hp8, ho8⟩ := o.permE
    repeat (first | refine go_ ?_ | refine bx_ (fun _ => ?_))
    refine hl_join rfl rfl rfl ho7 ho8 hp8 rfl (by omega) rfl (fun a9 c9 X9 ho9 => ?_)
    have e5 : b3 ++ ptsB S ++ numsB (f6 m) ++ lstB Q = Ed.put ⟨f10 f, P, S, f6 m, Q⟩ := by
      rw [hb3]
      unfold Ed.put
      dsimp only
      rw [eS]
      simp
    rw [e5] at ho9
    have e6 := congrArg List.length e5
    rw [List.length_append, List.length_append, List.length_append, ← hn] at e6
    rw [e6] at ho9 ⊢
    repeat (first | refine go_ ?_ | refine bx_ (fun _ => ?_))
    exact fin1S rfl rfl (ho9 H) (Imp.sub (List.Sublist.append (List.Sublist.refl _) (List.sublist_cons_self _ _)))
end
end Go.Proofs.Ytoobhebbgbhahaa
namespace Go.Proofs.Ytoobhebbgbhahaa
open Go.RowKit
abbrev RfB (g : Nat) (a : Option Addr) (n c p e : Nat) : Ent := ⟨g, 90, [.slice a n c, .int .i64 (p : Int), .int .i64 (e : Int)], 3⟩
section
variable {w0 : World} {B : Nat} {H R R0 : List Ent} {g : Nat}
set_option maxHeartbeats 8000000
set_option maxRecDepth 100000
theorem rfail_fn {a : Option Addr} {n c p e k : Nat} : Fn Try.prog w0 B 38 [.pointer (some ⟨g, 0, none⟩), .int .i64 (k : Int)] (RfB g a n c p e :: R) (fun v H' => v = .tuple #[] ∧ H' = RfB g a n c p (if e = 0 then k else e) :: R) := by
  refine fn_intro Try.func38 rfl (by kernel_rfl) rfl ?_
  by_cases h : e = 0
  · subst h
    repeat (first | refine go_ ?_ | refine bx_ (fun _ => ?_))
    exact fin0 rfl ⟨rfl, rfl⟩
  · rw [if_neg h]
    repeat (first | refine go_ ?_ | refine bx_ (fun _ => ?_))
    exact fin0 rfl ⟨rfl, rfl⟩
theorem rrnum_fn {s : Rd} {a : Option Addr} {n c p : Nat} {b : List UInt8} (hb : BytR w0 B R0 a n c b) (hi : Imp R R0) (hs : s.l = b.drop p) (hp : p ≤ n) :
    Fn Try.prog w0 B 35 [.pointer (some ⟨g, 0, none⟩)] (RfB g a n c p s.e :: R) (fun v H' => ∃ p', v = .int .i64 s.num.1 ∧ H' = RfB g a n c p' s.num.2.e :: R ∧ s.num.2.l = b.drop p' ∧ p' ≤ n) := by
  obtain ⟨l, e⟩ := s
  dsimp only at hs ⊢
  have hn := hb.eq
  have hle := hb.le
  have hsm := hb.small
  refine fn_intro Try.func35 rfl (by kernel_rfl) rfl ?_
  by_cases h : e = 0
  rotate_left
  · rw [show Rd.num ⟨l, e⟩ = (0, ⟨l, e⟩) by rw [Rd.num, if_pos h]]
    repeat (first | refine go_ ?_ | refine bx_ (fun _ => ?_))
    exact fin1I rfl rfl ⟨p, rfl, rfl, hs, hp⟩
  subst h
  obtain ⟨G, hG⟩ : ∃ G, G = getU 0 0 l := ⟨_, rfl⟩
  have hnum : Rd.num ⟨l, 0⟩ = (if G.2.2 = 0 then unzz G.1 else 0, ⟨G.2.1, G.2.2⟩) := by rw [Rd.num, if_neg (by simp), hG]
  rw [hnum]
  repeat (first | refine go_ ?_ | refine bx_ (fun _ => ?_))
  refine hc_loopd (fun q fr M => ∃ k u p, k + q = 10 ∧ k ≤ 9 ∧ getU k u (b.drop p) = G ∧ u < 2 ^ (7 * k) ∧ p ≤ n ∧ M = RfB g a n c p 0 :: R ∧ Agr fr [(0, .pointer (some ⟨g, 0, none⟩)), (3, .int .i64 ((u / 2 : Nat) : Int)), (4, .bool (decide (u % 2 = 1))), (5, .int .i64 (k : Int))]) 10 ?_ ?_
  · exact ⟨0, 0, p, by omega, by omega, by rw [hG, hs], by simp, hp, rfl, rfl, rfl, rfl, rfl, trivial⟩
  clear hs hnum hG hp p l
  rintro q fr M ⟨k, u, p, hk, hk9, hG, hu, hp, rfl, hf⟩
  obtain ⟨base, rfl⟩ := hf.out
  clear hf
  by_cases hend : p < n
  rotate_left
  · obtain rfl : p = n := by omega
    rw [List.drop_of_length_le (by omega), getU] at hG
    subst hG
    repeat (first | refine go_ ?_ | refine bx_ (fun _ => ?_))
    (refine hc_draw (by kernel_rfl) (by kernel_rfl) ?_; repeat (first | refine gd_ ?_))
    repeat (first | refine go_ ?_ | refine bx_ (fun _ => ?_))
    refine hl_call rfl rfl (rfail_fn (k := 20)) (fun v M hv => ?_)
    obtain ⟨rfl, rfl⟩ := hv
    rw [if_pos rfl]
    repeat (first | refine go_ ?_ | refine bx_ (fun _ => ?_))
    exact fin1I rfl rfl ⟨p, rfl, rfl, by rw [List.drop_of_length_le (by omega)], by omega⟩
  obtain ⟨bb, off, rfl⟩ := hb.pos (by omega)
  have hpl : p < b.length := by omega
  have hcell := hb.cell hpl
  have hdr : b.drop p = b[p] :: b.drop (p + 1) := List.drop_eq_getElem_cons hpl
  rw [hdr, getU] at hG
  generalize b[p] = x at *
  have hx := x.toNat_lt
  have hop := or_part (c := x.toNat % 128) hu (by omega) hk9
  repeat (first | refine go_ ?_ | refine bx_ (fun _ => ?_))
  (refine hc_draw (by kernel_rfl) (by kernel_rfl) ?_; repeat (first | refine gd_ ?_))
  repeat (first | refine go_ ?_ | refine bx_ (fun _ => ?_))
  (refine hc_draw (by kernel_rfl) (by kernel_rfl) ?_; repeat (first | refine hl_loadRd (E := R0) rfl hb.rd ((Imp.drop (Imp.refl _)).trans hi) hcell rfl ?_ | refine gd1_ ?_))
  refine thn_norm ?_
  refine hc_seq ?_
  refine hc_region ?_
  repeat (first | refine op_ ?_ | refine bx_ (fun _ => ?_))
  refine hc_seq ?_
  refine hc_seq ?_
  obtain ⟨M1, hM1⟩ : ∃ M1, M1 = RfB g (some ⟨bb, off, none⟩) n c (p + 1) 0 :: R := ⟨_, rfl⟩
  refine HC.perm (H' := M1) ?_ (by rw [hM1]; exact List.Perm.refl _)
  refine hc_meet (fun fr M => Agr fr [(0, .pointer (some ⟨g, 0, none⟩)), (3, .int .i64 ((u / 2 : Nat) : Int)), (4, .bool (decide (u % 2 = 1))), (5, .int .i64 (k : Int)), (6, .int .i64 (x.toNat : Int)), (60, .bool (decide ((k = 9 ∧ 1 < x.toNat) ∨ (0 < k ∧ x.toNat = 0))))] ∧ M = M1) ?_ ?_
  · by_cases h9 : k = 9
    · by_cases h1 : 1 < x.toNat
      · rw [show decide ((k = 9 ∧ 1 < x.toNat) ∨ (0 < k ∧ x.toNat = 0)) = true from decide_eq_true (.inl ⟨h9, h1⟩)]
        repeat (first | refine go_ ?_ | refine bx_ (fun _ => ?_))
        exact ⟨⟨rfl, rfl, rfl, rfl, rfl, rfl, trivial⟩, rfl⟩
      · by_cases h0 : x.toNat = 0
        · rw [show decide ((k = 9 ∧ 1 < x.toNat) ∨ (0 < k ∧ x.toNat = 0)) = true from decide_eq_true (.inr ⟨by omega, h0⟩)]
          repeat (first | refine go_ ?_ | refine bx_ (fun _ => ?_))
          exact ⟨⟨rfl, rfl, rfl, rfl, rfl, rfl, trivial⟩, rfl⟩
        · rw [show decide ((k = 9 ∧ 1 < x.toNat) ∨ (0 < k ∧ x.toNat = 0)) = false from decide_eq_false (by omega)]
          repeat (first | refine go_ ?_ | refine bx_ (fun _ => ?_))
          exact ⟨⟨rfl, rfl, rfl, rfl, rfl, rfl, trivial⟩, rfl⟩
    · by_cases hk0 : 0 < k
      · by_cases h0 : x.toNat = 0
        · rw [show decide ((k = 9 ∧ 1 < x.toNat) ∨ (0 < k ∧ x.toNat = 0)) = true from decide_eq_true (.inr ⟨by omega, h0⟩)]
          repeat (first | refine go_ ?_ | refine bx_ (fun _ => ?_))
          exact ⟨⟨rfl, rfl, rfl, rfl, rfl, rfl, trivial⟩, rfl⟩
        · rw [show decide ((k = 9 ∧ 1 < x.toNat) ∨ (0 < k ∧ x.toNat = 0)) = false from decide_eq_false (by omega)]
          repeat (first | refine go_ ?_ | refine bx_ (fun _ => ?_))
          exact ⟨⟨rfl, rfl, rfl, rfl, rfl, rfl, trivial⟩, rfl⟩
      · rw [show decide ((k = 9 ∧ 1 < x.toNat) ∨ (0 < k ∧ x.toNat = 0)) = false from decide_eq_false (by omega)]
        repeat (first | refine go_ ?_ | refine bx_ (fun _ => ?_))
        exact ⟨⟨rfl, rfl, rfl, rfl, rfl, rfl, trivial⟩, rfl⟩
  clear base
  rintro fr M ⟨hf, rfl⟩
  obtain ⟨base, rfl⟩ := hf.out
  clear hf
  rw [hM1]
  by_cases hbad : (k = 9 ∧ 1 < x.toNat) ∨ (0 < k ∧ x.toNat = 0)
  · rw [decide_eq_true hbad]
    rw [if_pos hbad] at hG
    subst hG
    repeat (first | refine go_ ?_ | refine bx_ (fun _ => ?_))
    refine hl_call rfl rfl (rfail_fn (k := 25)) (fun v M hv => ?_)
    obtain ⟨rfl, rfl⟩ := hv
    rw [if_pos rfl]
    repeat (first | refine go_ ?_ | refine bx_ (fun _ => ?_))
    exact fin1I rfl rfl ⟨p + 1, rfl, rfl, rfl, by omega⟩
  rw [decide_eq_false hbad]
  rw [if_neg hbad] at hG
  have hun : u + x.toNat % 128 * 2 ^ (7 * k) < 2 ^ (7 * (k + 1)) := by
    have e : 2 ^ (7 * (k + 1)) = 128 * 2 ^ (7 * k) := by rw [show 7 * (k + 1) = 7 + 7 * k by omega, Nat.pow_add]
    have h2 := Nat.mul_le_mul_right (2 ^ (7 * k)) (show x.toNat % 128 ≤ 127 by omega)
    rw [e]; omega
  have hu64 : u + x.toNat % 128 * 2 ^ (7 * k) < 18446744073709551616 := by
    rcases Nat.lt_or_ge k 9 with h | h
    · have : 2 ^ (7 * (k + 1)) ≤ 2 ^ 63 := Nat.pow_le_pow_right (by decide) (by omega)
      simp only [Nat.reducePow] at this
      omega
    · obtain rfl : k = 9 := by omega
      simp only [Nat.reduceMul, Nat.reducePow] at hu ⊢
      omega
  obtain ⟨U, hU⟩ : ∃ U, U = u + x.toNat % 128 * 2 ^ (7 * k) := ⟨_, rfl⟩
  rw [← hU] at hun hu64 hG
  have hpart : (0 < k → u % 2 = U % 2 ∧ ∃ W, W = x.toNat % 128 * 2 ^ (7 * k - 1) ∧ U / 2 = u / 2 + W) ∧ (k = 0 → U = x.toNat % 128) := by
    refine ⟨fun h0 => ?_, fun h0 => ?_⟩
    · have e : 2 ^ (7 * k) = 2 * 2 ^ (7 * k - 1) := by rw [show 7 * k = (7 * k - 1) + 1 by omega, Nat.pow_succ]; simp only [Nat.add_sub_cancel]; omega
      have e2 : x.toNat % 128 * 2 ^ (7 * k) = 2 * (x.toNat % 128 * 2 ^ (7 * k - 1)) := by rw [e, Nat.mul_left_comm]
      rw [e2] at hU
      refine ⟨by omega, _, rfl, by omega⟩
    · subst h0
      simp only [Nat.mul_zero, Nat.pow_zero, Nat.lt_one_iff, Nat.mul_one] at hu hU
      omega
  clear hU
  by_cases hod : U % 2 = 1
  · have huz : unzz U = -1 - ((U / 2 : Nat) : Int) := by unfold unzz; rw [if_neg (by omega)]
    by_cases hk0 : k = 0
    · have hU := hpart.2 hk0
      subst hk0
      by_cases hlt : x.toNat < 128
      · rw [if_pos hlt] at hG
        subst hG
        rw [if_pos rfl]
        repeat (first | refine go_ ?_ | refine bx_ (fun _ => ?_))
        exact fin1I rfl rfl ⟨p + 1, congrArg (Value.int .i64) (by rw [huz]; omega), rfl, rfl, by omega⟩
      · rw [if_neg hlt] at hG
        repeat (first | refine go_ ?_ | refine bx_ (fun _ => ?_))
        exact ⟨q - 1, by omega, _, Imp.refl _, 1, U, p + 1, by omega, by omega, hG, hun, by omega, rfl, rfl, congrArg (Value.int .i64) (by omega), congrArg Value.bool (decide_eq_true hod).symm, rfl, trivial⟩
    · obtain ⟨hpar, W, hW, hUW⟩ := hpart.1 (by omega)
      clear hpart
      have hsh : IntKind.i64.wrap ((x.toNat : Int) % 128 * 2 ^ (7 * k - 1)) = (W : Int) := by
        have e : (x.toNat : Int) % 128 * 2 ^ (7 * k - 1) = (W : Int) := by rw [hW]; simp
        rw [e, IntWalk.i64_in _ (by omega)]
      rw [decide_eq_true (show u % 2 = 1 by omega)]
      by_cases hlt : x.toNat < 128
      · rw [if_pos hlt] at hG
        subst hG
        rw [if_pos rfl]
        repeat (first | rw [show (7 : Int) * (k : Int) - 1 = ((7 * k - 1 : Nat) : Int) by omega] | rw [hsh] | refine go1_ ?_ | refine bx_ (fun _ => ?_))
        exact fin1I rfl rfl ⟨p + 1, congrArg (Value.int .i64) (by rw [huz]; omega), rfl, rfl, by omega⟩
      · rw [if_neg hlt] at hG
        repeat (first | rw [show (7 : Int) * (k : Int) - 1 = ((7 * k - 1 : Nat) : Int) by omega] | rw [hsh] | refine go1_ ?_ | refine bx_ (fun _ => ?_))
        exact ⟨q - 1, by omega, _, Imp.refl _, k + 1, U, p + 1, by omega, by omega, hG, hun, by omega, rfl, rfl, congrArg (Value.int .i64) (by omega), congrArg Value.bool (decide_eq_true hod).symm, rfl, trivial⟩
  · have huz : unzz U = ((U / 2 : Nat) : Int) := by unfold unzz; rw [if_pos (by omega)]
    by_cases hk0 : k = 0
    · have hU := hpart.2 hk0
      subst hk0
      by_cases hlt : x.toNat < 128
      · rw [if_pos hlt] at hG
        subst hG
        rw [if_pos rfl]
        repeat (first | refine go_ ?_ | refine bx_ (fun _ => ?_))
        exact fin1I rfl rfl ⟨p + 1, congrArg (Value.int .i64) (by rw [huz]; omega), rfl, rfl, by omega⟩
      · rw [if_neg hlt] at hG
        repeat (first | refine go_ ?_ | refine bx_ (fun _ => ?_))
        exact ⟨q - 1, by omega, _, Imp.refl _, 1, U, p + 1, by omega, by omega, hG, hun, by omega, rfl, rfl, congrArg (Value.int .i64) (by omega), congrArg Value.bool (decide_eq_false hod).symm, rfl, trivial⟩
    · obtain ⟨hpar, W, hW, hUW⟩ := hpart.1 (by omega)
      clear hpart
      have hsh : IntKind.i64.wrap ((x.toNat : Int) % 128 * 2 ^ (7 * k - 1)) = (W : Int) := by
        have e : (x.toNat : Int) % 128 * 2 ^ (7 * k - 1) = (W : Int) := by rw [hW]; simp
        rw [e, IntWalk.i64_in _ (by omega)]
      rw [decide_eq_false (show ¬ u % 2 = 1 by omega)]
      by_cases hlt : x.toNat < 128
      · rw [if_pos hlt] at hG
        subst hG
        rw [if_pos rfl]
        repeat (first | rw [show (7 : Int) * (k : Int) - 1 = ((7 * k - 1 : Nat) : Int) by omega] | rw [hsh] | refine go1_ ?_ | refine bx_ (fun _ => ?_))
        exact fin1I rfl rfl ⟨p + 1, congrArg (Value.int .i64) (by rw [huz]; omega), rfl, rfl, by omega⟩
      · rw [if_neg hlt] at hG
        repeat (first | rw [show (7 : Int) * (k : Int) - 1 = ((7 * k - 1 : Nat) : Int) by omega] | rw [hsh] | refine go1_ ?_ | refine bx_ (fun _ => ?_))
        exact ⟨q - 1, by omega, _, Imp.refl _, k + 1, U, p + 1, by omega, by omega, hG, hun, by omega, rfl, rfl, congrArg (Value.int .i64) (by omega), congrArg Value.bool (decide_eq_false hod).symm, rfl, trivial⟩
end
end Go.Proofs.Ytoobhebbgbhahaa
namespace Go.Proofs.Ytoobhebbgbhahaa
open Go.RowKit
section
variable {w0 : World} {B : Nat} {H R R0 : List Ent} {g : Nat}
set_option maxHeartbeats 8000000
set_option maxRecDepth 100000
theorem rrsize_fn {s : Rd} {a : Option Addr} {n c p : Nat} {b : List UInt8} (hb : BytR w0 B R0 a n c b) (hi : Imp R R0) (hs : s.l = b.drop p) (hp : p ≤ n) :
    Fn Try.prog w0 B 37 [.pointer (some ⟨g, 0, none⟩)] (RfB g a n c p s.e :: R) (fun v H' => ∃ p', v = .int .i64 (s.size.1 : Int) ∧ H' = RfB g a n c p' s.size.2.e :: R ∧ s.size.2.l = b.drop p' ∧ p' ≤ n) := by
  have hn := hb.eq
  have hle := hb.le
  have hsm := hb.small
  refine fn_intro Try.func37 rfl (by kernel_rfl) rfl ?_
  repeat (first | refine go_ ?_ | refine bx_ (fun _ => ?_))
  refine hl_call rfl rfl (rrnum_fn hb hi hs hp) (fun v M hv => ?_)
  obtain ⟨p', rfl, rfl, hs', hp'⟩ := hv
  rw [Rd.size]
  have hin := Rd.num_in s
  unfold I64 at hin
  generalize s.num = r at *
  obtain ⟨z, l', e'⟩ := r
  dsimp only at *
  subst hs'
  rw [List.length_drop, hn]
  by_cases h0 : e' = 0
  rotate_left
  · rw [if_pos h0]
    repeat (first | refine go_ ?_ | refine bx_ (fun _ => ?_))
    (refine hc_draw (by kernel_rfl) (by kernel_rfl) ?_; repeat (first | refine gd_ ?_))
    repeat (first | refine go_ ?_ | refine bx_ (fun _ => ?_))
    exact fin1I rfl rfl ⟨p', rfl, rfl, rfl, hp'⟩
  subst h0
  rw [if_neg (by simp)]
  by_cases h1 : z < 0
  · rw [if_pos h1]
    repeat (first | refine go_ ?_ | refine bx_ (fun _ => ?_))
    refine hl_call rfl rfl (rfail_fn (k := 25)) (fun v M hv => ?_)
    obtain ⟨rfl, rfl⟩ := hv
    rw [if_pos rfl]
    repeat (first | refine go_ ?_ | refine bx_ (fun _ => ?_))
    (refine hc_draw (by kernel_rfl) (by kernel_rfl) ?_; repeat (first | refine gd_ ?_))
    repeat (first | refine go_ ?_ | refine bx_ (fun _ => ?_))
    exact fin1I rfl rfl ⟨p', rfl, rfl, rfl, hp'⟩
  rw [if_neg h1]
  by_cases h2 : ((n - p' : Nat) : Int) < z
  · rw [if_pos h2]
    repeat (first | refine go_ ?_ | refine bx_ (fun _ => ?_))
    (refine hc_draw (by kernel_rfl) (by kernel_rfl) ?_; repeat (first | refine gd_ ?_))
    repeat (first | refine go_ ?_ | refine bx_ (fun _ => ?_))
    refine hl_call rfl rfl (rfail_fn (k := 20)) (fun v M hv => ?_)
    obtain ⟨rfl, rfl⟩ := hv
    rw [if_pos rfl]
    repeat (first | refine go_ ?_ | refine bx_ (fun _ => ?_))
    exact fin1I rfl rfl ⟨p', rfl, rfl, rfl, hp'⟩
  rw [if_neg h2]
  repeat (first | refine go_ ?_ | refine bx_ (fun _ => ?_))
  (refine hc_draw (by kernel_rfl) (by kernel_rfl) ?_; repeat (first | refine gd_ ?_))
  repeat (first | refine go_ ?_ | refine bx_ (fun _ => ?_))
  exact fin1I rfl rfl ⟨p', by rw [show ((z.toNat : Nat) : Int) = z by omega], rfl, rfl, hp'⟩
theorem rrnums_fn {s : Rd} {a : Option Addr} {n c p : Nat} {b : List UInt8} (hb : BytR w0 B R0 a n c b) (hi : Imp R R0) (hs : s.l = b.drop p) (hp : p ≤ n) (hn : n ≤ 1000000000) :
    Fn Try.prog w0 B 36 [.pointer (some ⟨g, 0, none⟩)] (RfB g a n c p s.e :: R) (fun v H' => ∃ p' Xl, Imp H' (RfB g a n c p' s.nums.2.e :: (Xl ++ R)) ∧ (∀ F, Own 3 1 v s.nums.1.length (s.nums.1.map iV) F (Xl ++ F)) ∧ s.nums.2.l = b.drop p' ∧ p' ≤ n) := by
  have hle := hb.eq
  refine fn_intro Try.func36 rfl (by kernel_rfl) rfl ?_
  repeat (first | refine go_ ?_ | refine bx_ (fun _ => ?_))
  refine hl_call rfl rfl (rrsize_fn hb hi hs hp) (fun v M hv => ?_)
  obtain ⟨p', rfl, rfl, hs', hp'⟩ := hv
  obtain ⟨G, hG⟩ : ∃ G, G = s.nums := ⟨_, rfl⟩
  rw [← hG]
  rw [Rd.nums] at hG
  have hsz := s.size_le.2
  have hsl := congrArg List.length hs
  rw [List.length_drop] at hsl
  generalize s.size = r at *
  obtain ⟨N, t⟩ := r
  dsimp only at *
  repeat (first | refine go_ ?_ | refine bx_ (fun _ => ?_))
  refine hc_loopd (fun q fr M => ∃ j L1 s p sv Xl, j + q = N ∧ L1.length = j ∧ (L1 ++ (Rd.numsP q s).1 = G.1 ∧ (Rd.numsP q s).2 = G.2) ∧ (∀ F, Own 3 1 sv j (L1.map iV) F (Xl ++ F)) ∧ Imp M (RfB g a n c p s.e :: (Xl ++ R)) ∧ (s.l = b.drop p ∧ p ≤ n) ∧ Agr fr [(0, .pointer (some ⟨g, 0, none⟩)), (3, .int .i64 (N : Int)), (4, sv), (5, .int .i64 (j : Int))]) N ?_ ?_
  · exact ⟨0, [], t, p', _, [], by omega, rfl, ⟨by rw [← hG]; rfl, by rw [← hG]⟩, fun F => Own.nil, Imp.refl _, ⟨hs', hp'⟩, rfl, rfl, rfl, rfl, trivial⟩
  have hN : N ≤ n := by omega
  clear hG hs' hp' hs hsz hsl hp p' p s
  rintro q fr M ⟨j, L1, s, p, sv, Xl, hj, hL1, ⟨h1, h2⟩, ho, him, ⟨hs, hp⟩, hf⟩
  obtain ⟨base, rfl⟩ := hf.out
  clear hf
  refine HC.imp ?_ him
  obtain ⟨av, cv, rfl, _, _⟩ := (ho []).form
  by_cases hq : q = 0
  · subst hq
    rw [Rd.numsP] at h1 h2
    rw [List.append_nil] at h1
    dsimp only at h2
    obtain rfl : j = N := by omega
    repeat (first | refine go_ ?_ | refine bx_ (fun _ => ?_))
    rw [← h1, ← h2]
    exact fin1S rfl rfl ⟨p, Xl, Imp.refl _, by rw [hL1]; exact ho, hs, hp⟩
  obtain ⟨q, rfl⟩ : ∃ q', q = q' + 1 := ⟨q - 1, by omega⟩
  rw [Rd.numsP] at h1 h2
  by_cases h0 : s.e = 0
  rotate_left
  · rw [if_pos h0] at h1 h2
    rw [List.append_nil] at h1
    dsimp only at h2
    repeat (first | refine go_ ?_ | refine bx_ (fun _ => ?_))
    rw [← h1, ← h2]
    exact fin1S rfl rfl ⟨p, Xl, Imp.refl _, by rw [hL1]; exact ho, hs, hp⟩
  rw [if_neg (by omega)] at h1 h2
  dsimp only at h1 h2
  repeat (first | refine go_ ?_ | refine bx_ (fun _ => ?_))
  refine hl_call rfl rfl (rrnum_fn (R := Xl ++ R) hb ((Imp.tail Xl R).trans hi) hs hp) (fun v M hv => ?_)
  obtain ⟨p', rfl, rfl, hs', hp'⟩ := hv
  generalize s.num = r at *
  obtain ⟨z, t⟩ := r
  dsimp only at *
  repeat (first | refine go_ ?_ | refine bx_ (fun _ => ?_))
  rename_i gb
  refine hl_append_own (F := ⟨gb, 3, [.int .i64 z], 1 * 1⟩ :: RfB g a n c p' t.e :: R) rfl rfl (((ho R).under (RfB g a n c p' t.e)).under ⟨gb, 3, [.int .i64 z], 1 * 1⟩) (Rds.ent (n := 1) (l := [.int .i64 z]) .here rfl (by simp [Value.oneCell'])) rfl rfl (by decide) (by omega) (by omega) rfl (fun v4 M4 o4 => ?_)
  obtain ⟨a4, c4, rfl, _, _⟩ := o4.form
  obtain ⟨Z, hZ, ho4⟩ := o4.permE
  repeat (first | refine go_ ?_ | refine bx_ (fun _ => ?_))
  refine ⟨q, by omega, _, Imp.refl _, j + 1, L1 ++ [z], t, p', _, Z, by omega, by simp [hL1], ⟨by rw [← h1]; simp, h2⟩, fun F => by rw [List.map_append]; exact ho4 F, ?_, ⟨hs', hp'⟩, rfl, rfl, rfl, rfl, trivial⟩
  exact Imp.perm (hZ.trans (Take.app Z (.there .here)).perm) (Imp.sub (List.Sublist.cons_cons _ (List.Sublist.append (List.Sublist.refl _) (List.sublist_cons_self _ _))))
end
end Go.Proofs.Ytoobhebbgbhahaa
namespace Go.Proofs.Ytoobhebbgbhahaa
open Go.RowKit
/-- The first twelve cells. -/
abbrev edP (f : Nat → Int) (pv sv : Value) : List Value := [.int .i64 (f 0), .int .i64 (f 1), .int .i64 (f 2), .int .i64 (f 3), .int .i64 (f 4), .int .i64 (f 5), .int .i64 (f 6), .int .i64 (f 7), .int .i64 (f 8), .int .i64 (f 9), pv, sv]
section
variable {w0 : World} {B : Nat} {H R R0 : List Ent} {g : Nat}
set_option maxHeartbeats 16000000
set_option maxRecDepth 100000
theorem rgetEdit_fn {a : Option Addr} {n c : Nat} {l : List UInt8} (hb : BytR w0 B H a n c l) (hn : n ≤ 1000000) :
    Fn Try.prog w0 B 16 [.slice a n c] H (fun v H' => ∃ (f m : Nat → Int) (pv sv qv : Value) (P Q : List Int) (S : List Pt) (Xp Xs Xq : List Ent), v = .tuple #[.agg (edC f m pv sv qv).toArray, .int .i64 ((getE l).2 : Int)] ∧ (getE l).1 = ⟨f10 f, P, S, f6 m, Q⟩ ∧ H' = Xp ++ (Xs ++ (Xq ++ H)) ∧
      (∀ F, Own 3 1 pv P.length (P.map iV) F (Xp ++ F)) ∧ (∀ F, Own 86 2 sv S.length (S.flatMap ptV) F (Xs ++ F)) ∧ (∀ F, Own 3 1 qv Q.length (Q.map iV) F (Xq ++ F))) := by
  have he := hb.eq
  have hle := hb.le
  have hsm := hb.small
  refine fn_intro Try.func16 rfl (by kernel_rfl) rfl ?_
  repeat (first | refine go_ ?_ | refine bx_ (fun _ => ?_))
  rename_i g2 gi gf
  obtain ⟨b2, hbe⟩ : ∃ b2 : Ent, b2 = ⟨g2, 39, edC (fun _ => 0) (fun _ => 0) (.slice none 0 0) (.slice none 0 0) (.slice none 0 0), 19⟩ := ⟨_, rfl⟩
  have iH : Imp (b2 :: H) H := Imp.drop (Imp.refl _)
  refine HC.perm (H' := ⟨gf, 91, List.replicate 10 (.int .i64 0), 10⟩ :: RfB gi a n c 0 0 :: b2 :: H) ?_ (by rw [hbe]; exact List.Perm.refl _)
  obtain ⟨G1, hG1⟩ : ∃ G1, G1 = Rd.fix 10 ⟨l, 0⟩ := ⟨_, rfl⟩
  refine hc_loopd (fun q fr M => ∃ j L1 s p C, j + q = 10 ∧ L1.length = j ∧ (L1 ++ (Rd.fix q s).1 = G1.1 ∧ (Rd.fix q s).2 = G1.2) ∧ C = L1.map iV ++ List.replicate q (.int .i64 0) ∧ (s.l = l.drop p ∧ p ≤ n) ∧
    M = ⟨gf, 91, C, 10⟩ :: RfB gi a n c p s.e :: b2 :: H ∧ Agr fr [(0, .slice a n c), (2, .pointer (some ⟨g2, 0, none⟩)), (4, .pointer (some ⟨gi, 0, none⟩)), (5, .pointer (some ⟨gf, 0, none⟩)), (6, .int .i64 (j : Int))]) 10 ?_ ?_
  · exact ⟨0, [], ⟨l, 0⟩, 0, _, by omega, rfl, ⟨by rw [hG1]; rfl, by rw [hG1]⟩, rfl, ⟨rfl, by omega⟩, rfl, rfl, rfl, rfl, rfl, rfl, trivial⟩
  rintro q fr M ⟨j, L1, s, p, C, hj, hL1, ⟨h1, h2⟩, rfl, ⟨hs, hp⟩, rfl, hff⟩
  obtain ⟨base, rfl⟩ := hff.out
  clear hff
  by_cases hq : q = 0
  rotate_left
  · obtain ⟨q, rfl⟩ : ∃ q', q = q' + 1 := ⟨q - 1, by omega⟩
    rw [Rd.fix] at h1 h2
    dsimp only at h1 h2
    have hlen : j < (L1.map iV ++ List.replicate (q + 1) (Value.int .i64 0)).length := by simp; omega
    have hset : ∀ z : Int, (L1.map iV ++ List.replicate (q + 1) (Value.int .i64 0)).set j (.int .i64 z) = (L1 ++ [z]).map iV ++ List.replicate q (.int .i64 0) := fun z => by
      rw [List.set_append_right _ _ (by simp; omega), List.length_map, hL1, Nat.sub_self, List.replicate_succ, List.set_cons_zero, List.map_append, List.append_assoc]
      rfl
    refine HC.perm (H' := RfB gi a n c p s.e :: ⟨gf, 91, L1.map iV ++ List.replicate (q + 1) (.int .i64 0), 10⟩ :: b2 :: H) ?_ (List.Perm.swap _ _ _)
    repeat (first | refine go_ ?_ | refine bx_ (fun _ => ?_))
    refine hl_call rfl rfl (rrnum_fn hb (Imp.drop iH) hs hp) (fun v M hv => ?_)
    obtain ⟨p', rfl, rfl, hs', hp'⟩ := hv
    repeat (first | refine go_ ?_ | refine bx_ (fun _ => ?_))
    refine ⟨q, by omega, _, Imp.refl _, j + 1, L1 ++ [s.num.1], s.num.2, p', _, by omega, by simp [hL1], ⟨by rw [← h1]; simp, h2⟩, hset s.num.1, ⟨hs', hp'⟩, rfl, rfl, rfl, rfl, rfl, rfl, trivial⟩
  subst hq
  rw [Rd.fix] at h1 h2
  rw [List.append_nil] at h1
  dsimp only at h2
  obtain rfl : j = 10 := by omega
  obtain ⟨f, hf⟩ := ten_of hL1
  subst hf
  subst h2
  have hsl := congrArg List.length hs
  rw [List.length_drop, he] at hsl
  repeat (first | refine go_ ?_ | refine bx_ (fun _ => ?_))
  rename_i g7
  refine HL.imp (H' := RfB gi a n c p G1.2.e :: ⟨g7, 39, edC f (fun _ => 0) (.slice none 0 0) (.slice none 0 0) (.slice none 0 0), 19⟩ :: b2 :: H) ?_ (Imp.trans (Imp.sub (H2 := ⟨g7, 39, edC f (fun _ => 0) (.slice none 0 0) (.slice none 0 0) (.slice none 0 0), 19⟩ :: RfB gi a n c p G1.2.e :: b2 :: H) (List.Sublist.cons_cons _ (List.sublist_cons_self _ _))) (Imp.perm (List.Perm.swap _ _ _) (Imp.refl _)))
  have hf10 : Rd.fix 10 ⟨l, 0⟩ = (f10 f, G1.2) := by rw [← hG1, h1]
  obtain ⟨s1, hs1⟩ : ∃ s1, s1 = G1.2 := ⟨_, rfl⟩
  rw [← hs1] at hf10 hs ⊢
  have hl1 : s1.l.length ≤ n := by rw [hs, List.length_drop]; omega
  refine hl_call rfl rfl (rrnums_fn (s := s1) hb (Imp.drop iH) hs hp (by omega)) (fun v M hv => ?_)
  obtain ⟨p2, Xp, hi1, hop, hs2, hp2⟩ := hv
  refine HL.imp ?_ hi1
  obtain ⟨G2, hG2⟩ : ∃ G2, G2 = s1.nums := ⟨_, rfl⟩
  rw [← hG2] at hop hs2 ⊢
  obtain ⟨pa, pc, rfl, _, _⟩ := (hop []).form
  repeat (first | refine go_ ?_ | refine bx_ (fun _ => ?_) | (refine is_store ?_; refine hl_storeS rfl rfl (.there (Take.app Xp .here)) (by simp) rfl ?_))
  refine HL.perm (H' := RfB gi a n c p2 G2.2.e :: ⟨g7, 39, edC f (fun _ => 0) (.slice pa G2.1.length pc) (.slice none 0 0) (.slice none 0 0), 19⟩ :: (Xp ++ (b2 :: H))) ?_ (List.Perm.swap _ _ _)
  have iT : ∀ (X : List Ent) (e : Ent), Imp (e :: (X ++ (Xp ++ (b2 :: H)))) H := fun X e => Imp.drop ((Imp.tail X _).trans ((Imp.tail Xp _).trans iH))
  refine hl_call rfl rfl (rrsize_fn (s := G2.2) hb (iT [] _) hs2 hp2) (fun v M hv => ?_)
  obtain ⟨p3, rfl, rfl, hs3, hp3⟩ := hv
  have hsz3 := (Rd.size_le G2.2).2
  rw [hs2, List.length_drop] at hsz3
  obtain ⟨G3, hG3⟩ : ∃ G3, G3 = G2.2.size := ⟨_, rfl⟩
  rw [← hG3] at hs3 hsz3 ⊢
  obtain ⟨N, s3⟩ := G3
  dsimp only at hs3 hsz3 ⊢
  obtain ⟨G4, hG4⟩ : ∃ G4, G4 = Rd.ptsP N s3 := ⟨_, rfl⟩
  repeat (first | refine op_ ?_ | refine bx_ (fun _ => ?_))
  refine hc_seq ?_
  refine hc_seq ?_
  refine hc_region ?_
  repeat (first | refine op_ ?_ | refine bx_ (fun _ => ?_))
  refine hc_meet (fun fr M => ∃ p sv Xs, (∀ F, Own 86 2 sv G4.1.length (G4.1.flatMap ptV) F (Xs ++ F)) ∧ (G4.2.l = l.drop p ∧ p ≤ n) ∧ Imp M (RfB gi a n c p G4.2.e :: ⟨g7, 39, edC f (fun _ => 0) (.slice pa G2.1.length pc) sv (.slice none 0 0), 19⟩ :: (Xs ++ (Xp ++ (b2 :: H)))) ∧
    Agr fr [(0, .slice a n c), (2, .pointer (some ⟨g2, 0, none⟩)), (4, .pointer (some ⟨gi, 0, none⟩)), (7, .pointer (some ⟨g7, 0, none⟩))]) ?_ ?_
  · repeat (first | refine go_ ?_ | refine bx_ (fun _ => ?_))
    refine hc_loopd (fun q fr M => ∃ j S1 s p sv Xs, j + q = N ∧ S1.length = j ∧ (S1 ++ (Rd.ptsP q s).1 = G4.1 ∧ (Rd.ptsP q s).2 = G4.2) ∧ (∀ F, Own 86 2 sv j (S1.flatMap ptV) F (Xs ++ F)) ∧ (s.l = l.drop p ∧ p ≤ n) ∧ Imp M (RfB gi a n c p s.e :: ⟨g7, 39, edC f (fun _ => 0) (.slice pa G2.1.length pc) sv (.slice none 0 0), 19⟩ :: (Xs ++ (Xp ++ (b2 :: H)))) ∧
      Agr fr [(0, .slice a n c), (2, .pointer (some ⟨g2, 0, none⟩)), (4, .pointer (some ⟨gi, 0, none⟩)), (7, .pointer (some ⟨g7, 0, none⟩)), (8, .int .i64 (N : Int)), (9, .int .i64 (j : Int))]) N ?_ ?_
    · exact ⟨0, [], s3, p3, _, [], by omega, rfl, ⟨by rw [hG4]; rfl, by rw [hG4]⟩, fun F => Own.nil, ⟨hs3, hp3⟩, Imp.refl _, rfl, rfl, rfl, rfl, rfl, rfl, trivial⟩
    have hN : N ≤ n := by omega
    clear hs3 hsz3 hp3 hs2 hp2 hs hp hsl hl1 hi1 p3 p2 p
    rintro q fr M ⟨j, S1, s, p, sv, Xs, hj, hS1, ⟨h1, h2⟩, ho, ⟨hs, hp⟩, him, hff⟩
    obtain ⟨base, rfl⟩ := hff.out
    clear hff
    refine HC.imp ?_ him
    obtain ⟨av, cv, rfl, _, _⟩ := (ho []).form
    by_cases hq : q = 0
    · subst hq
      rw [Rd.ptsP] at h1 h2
      rw [List.append_nil] at h1
      dsimp only at h2
      obtain rfl : j = N := by omega
      repeat (first | refine go_ ?_ | refine bx_ (fun _ => ?_))
      exact ⟨p, _, Xs, by rw [← h1, hS1]; exact ho, by rw [← h2]; exact ⟨hs, hp⟩, by rw [← h2]; exact Imp.refl _, rfl, rfl, rfl, rfl, trivial⟩
    obtain ⟨q, rfl⟩ : ∃ q', q = q' + 1 := ⟨q - 1, by omega⟩
    rw [Rd.ptsP] at h1 h2
    by_cases h0 : s.e = 0
    rotate_left
    · rw [if_pos h0] at h1 h2
      rw [List.append_nil] at h1
      dsimp only at h2
      repeat (first | refine go_ ?_ | refine bx_ (fun _ => ?_))
      exact ⟨p, _, Xs, by rw [← h1, hS1]; exact ho, by rw [← h2]; exact ⟨hs, hp⟩, by rw [← h2]; exact Imp.refl _, rfl, rfl, rfl, rfl, trivial⟩
    rw [if_neg (by omega)] at h1 h2
    dsimp only at h1 h2
    have iX := iT Xs ⟨g7, 39, edC f (fun _ => 0) (.slice pa G2.1.length pc) (.slice av j cv) (.slice none 0 0), 19⟩
    repeat (first | refine go_ ?_ | refine bx_ (fun _ => ?_))
    refine hl_call rfl rfl (rrnum_fn hb iX hs hp) (fun v M hv => ?_)
    obtain ⟨p5, rfl, rfl, hs5, hp5⟩ := hv
    repeat (first | refine go_ ?_ | refine bx_ (fun _ => ?_))
    refine hl_call rfl rfl (rrnum_fn (s := s.num.2) hb iX hs5 hp5) (fun v M hv => ?_)
    obtain ⟨p6, rfl, rfl, hs6, hp6⟩ := hv
    repeat (first | refine go_ ?_ | refine bx_ (fun _ => ?_))
    rename_i gb
    refine hl_append_own (F := ⟨gb, 86, [.int .i64 s.num.1, .int .i64 s.num.2.num.1], 1 * 2⟩ :: RfB gi a n c p6 s.num.2.num.2.e :: ⟨g7, 39, edC f (fun _ => 0) (.slice pa G2.1.length pc) (.slice av j cv) (.slice none 0 0), 19⟩ :: (Xp ++ (b2 :: H))) rfl rfl ((((ho _).under _).under _).under _) (Rds.ent (n := 2) (l := [.int .i64 s.num.1, .int .i64 s.num.2.num.1]) .here rfl (by simp [Value.oneCell'])) rfl rfl (by decide) (by omega) (by omega) rfl (fun v8 M8 o8 => ?_)
    obtain ⟨a8, c8, rfl, _, _⟩ := o8.form
    obtain ⟨Z, hZ, ho8⟩ := o8.permE
    refine HL.perm ?_ (hZ.trans (app_swap Z [_, _, _] _))
    repeat (first | refine go_ ?_ | refine bx_ (fun _ => ?_))
    exact ⟨q, by omega, _, Imp.refl _, j + 1, S1 ++ [(⟨s.num.1, s.num.2.num.1⟩ : Pt)], s.num.2.num.2, p6, .slice a8 (j + 1) c8, Z, by omega, by simp [hS1], ⟨by rw [← h1]; simp, h2⟩, fun F => by rw [List.flatMap_append]; exact ho8 F, ⟨hs6, hp6⟩, Imp.perm (List.perm_middle (l₁ := [_, _])).symm (Imp.perm (List.Perm.refl _) (Imp.drop (Imp.refl _))), rfl, rfl, rfl, rfl, rfl, rfl, trivial⟩
  rintro fr M ⟨p4, sv, Xs, hos, ⟨hs4, hp4⟩, him, hff⟩
  obtain ⟨base, rfl⟩ := hff.out
  clear hff
  refine HC.imp ?_ him
  obtain ⟨sa, sc, rfl, _, _⟩ := (hos []).form
  obtain ⟨G5, hG5⟩ : ∃ G5, G5 = Rd.fix 6 G4.2 := ⟨_, rfl⟩
  repeat (first | refine go_ ?_ | refine bx_ (fun _ => ?_))
  obtain ⟨T, hT⟩ : ∃ T, T = Xs ++ (Xp ++ (b2 :: H)) := ⟨_, rfl⟩
  have iT3 : ∀ e, Imp (e :: T) H := fun e => by rw [hT]; exact iT Xs e
  rw [← hT]
  refine hc_loopd (fun q fr M => ∃ j L1 s p C, j + q = 6 ∧ L1.length = j ∧ (L1 ++ (Rd.fix q s).1 = G5.1 ∧ (Rd.fix q s).2 = G5.2) ∧ C = edP f (.slice pa G2.1.length pc) (.slice sa G4.1.length sc) ++ ((L1.map iV ++ List.replicate q (.int .i64 0)) ++ [Value.slice none 0 0]) ∧ (s.l = l.drop p ∧ p ≤ n) ∧
    M = RfB gi a n c p s.e :: ⟨g7, 39, C, 19⟩ :: T ∧ Agr fr [(0, .slice a n c), (2, .pointer (some ⟨g2, 0, none⟩)), (4, .pointer (some ⟨gi, 0, none⟩)), (7, .pointer (some ⟨g7, 0, none⟩)), (12, .int .i64 (j : Int))]) 6 ?_ ?_
  · exact ⟨0, [], G4.2, p4, _, by omega, rfl, ⟨by rw [hG5]; rfl, by rw [hG5]⟩, rfl, ⟨hs4, hp4⟩, rfl, rfl, rfl, rfl, rfl, rfl, trivial⟩
  clear hs4 hp4 hi1 him
  rintro q fr M ⟨j, L1, s, p, C, hj, hL1, ⟨h1, h2⟩, rfl, ⟨hs, hp⟩, rfl, hff⟩
  obtain ⟨base, rfl⟩ := hff.out
  clear hff
  by_cases hq : q = 0
  rotate_left
  · obtain ⟨q, rfl⟩ : ∃ q', q = q' + 1 := ⟨q - 1, by omega⟩
    rw [Rd.fix] at h1 h2
    dsimp only at h1 h2
    have hlen : 12 + j < (edP f (.slice pa G2.1.length pc) (.slice sa G4.1.length sc) ++ ((L1.map iV ++ List.replicate (q + 1) (Value.int .i64 0)) ++ [Value.slice none 0 0])).length := by simp; omega
    have hset : ∀ z : Int, (edP f (.slice pa G2.1.length pc) (.slice sa G4.1.length sc) ++ ((L1.map iV ++ List.replicate (q + 1) (Value.int .i64 0)) ++ [Value.slice none 0 0])).set (12 + j) (.int .i64 z) = edP f (.slice pa G2.1.length pc) (.slice sa G4.1.length sc) ++ (((L1 ++ [z]).map iV ++ List.replicate q (.int .i64 0)) ++ [Value.slice none 0 0]) := fun z => by
      rw [List.set_append_right _ _ (by simp), show 12 + j - (edP f (.slice pa G2.1.length pc) (.slice sa G4.1.length sc)).length = j by simp, List.set_append_left _ _ (by simp; omega), List.set_append_right _ _ (by simp; omega), List.length_map, hL1, Nat.sub_self, List.replicate_succ, List.set_cons_zero, List.map_append]
      simp
    repeat (first | refine go_ ?_ | refine bx_ (fun _ => ?_))
    refine hl_call rfl rfl (rrnum_fn hb (iT3 _) hs hp) (fun v M hv => ?_)
    obtain ⟨p', rfl, rfl, hs', hp'⟩ := hv
    repeat (first | refine go_ ?_ | refine bx_ (fun _ => ?_))
    refine ⟨q, by omega, _, Imp.perm (List.Perm.swap _ _ _) (Imp.refl _), j + 1, L1 ++ [s.num.1], s.num.2, p', _, by omega, by simp [hL1], ⟨by rw [← h1]; simp, h2⟩, hset s.num.1, ⟨hs', hp'⟩, rfl, rfl, rfl, rfl, rfl, rfl, trivial⟩
  subst hq
  rw [Rd.fix] at h1 h2
  rw [List.append_nil] at h1
  dsimp only at h2
  obtain rfl : j = 6 := by omega
  obtain ⟨m, hm⟩ := six_of hL1
  subst hm
  refine HC.perm (H' := RfB gi a n c p s.e :: ⟨g7, 39, edC f m (.slice pa G2.1.length pc) (.slice sa G4.1.length sc) (.slice none 0 0), 19⟩ :: T) ?_ (List.Perm.refl _)
  have hm : Rd.fix 6 G4.2 = (f6 m, s) := by rw [← hG5, h1, h2]
  repeat (first | refine go_ ?_ | refine bx_ (fun _ => ?_))
  refine hl_call rfl rfl (rrnums_fn (s := s) hb (iT3 _) hs hp (by omega)) (fun v M hv => ?_)
  obtain ⟨p7, Xq, hi7, hoq, hs7, hp7⟩ := hv
  refine HL.imp ?_ hi7
  obtain ⟨G6, hG6⟩ : ∃ G6, G6 = s.nums := ⟨_, rfl⟩
  rw [← hG6] at hoq hs7 ⊢
  obtain ⟨qa, qc, rfl, _, _⟩ := (hoq []).form
  have hR : getR l = (⟨f10 f, G2.1, G4.1, f6 m, G6.1⟩, G6.2) := by
    unfold getR
    dsimp only
    rw [hf10]
    dsimp only
    rw [← hG2, ← hG3]
    dsimp only
    rw [← hG4, hm]
    dsimp only
    rw [← hG6]
  have hE : getE l = if G6.2.endE = 0 then (⟨f10 f, G2.1, G4.1, f6 m, G6.1⟩, 0) else (Ed.zero, G6.2.endE) := by
    unfold getE
    rw [hR]
  have hend : G6.2.endE = if G6.2.e = 0 ∧ p7 < n then 25 else G6.2.e := by
    unfold Rd.endE
    have : G6.2.l ≠ [] ↔ p7 < n := by
      rw [hs7]
      constructor
      · intro h
        have := List.length_pos_iff.2 h
        rw [List.length_drop] at this
        omega
      · intro h h0
        have := congrArg List.length h0
        rw [List.length_drop, List.length_nil] at this
        omega
    simp only [this]
  rw [hE]
  repeat (first | refine go_ ?_ | refine bx_ (fun _ => ?_))
  refine is_store ?_
  refine hl_storeS rfl rfl (.there (Take.app Xq .here)) (by simp) rfl ?_
  rw [hT]
  refine HL.perm (H' := b2 :: RfB gi a n c p7 G6.2.e :: ⟨g7, 39, edC f m (.slice pa G2.1.length pc) (.slice sa G4.1.length sc) (.slice qa G6.1.length qc), 19⟩ :: (Xq ++ (Xs ++ (Xp ++ H)))) ?_ ((List.Perm.swap _ _ _).trans (Take.there (.there (Take.app Xq (Take.app Xs (Take.app Xp .here))))).perm)
  rw [hend]
  generalize G6.2.e = ee
  rw [hbe]
  by_cases h0 : ee = 0
  · by_cases hpl : p7 < n
    · have h1 : ee = 0 ∧ p7 < n := ⟨h0, hpl⟩
      rw [if_pos h1, if_neg (show ¬ (25 : Nat) = 0 by decide)]
      clear h1
      subst h0
      repeat (first | refine go_ ?_ | refine bx_ (fun _ => ?_))
      refine HL.perm ?_ (List.Perm.swap _ _ _)
      refine hl_call rfl rfl (rfail_fn (k := 25)) (fun v M hv => ?_)
      obtain ⟨rfl, rfl⟩ := hv
      rw [if_pos rfl]
      refine HL.perm ?_ (List.Perm.swap _ _ _)
      repeat (first | refine go_ ?_ | refine bx_ (fun _ => ?_))
      obtain ⟨T2, hT2⟩ : ∃ T2, T2 = ⟨g7, 39, edC f m (.slice pa G2.1.length pc) (.slice sa G4.1.length sc) (.slice qa G6.1.length qc), 19⟩ :: (Xq ++ (Xs ++ (Xp ++ H))) := ⟨_, rfl⟩
      have iT2 : Imp T2 H := by rw [hT2]; exact Imp.drop ((Imp.tail Xq _).trans ((Imp.tail Xs _).trans (Imp.tail Xp _)))
      rw [← hT2]
      refine hc_meet (fun fr M => Agr fr [(2, .pointer (some ⟨g2, 0, none⟩)), (3, .int .i64 ((25 : Nat) : Int))] ∧ M = ⟨g2, 39, edC (fun _ => 0) (fun _ => 0) (.slice none 0 0) (.slice none 0 0) (.slice none 0 0), 19⟩ :: RfB gi a n c p7 25 :: T2) ?_ ?_
      · refine hc_drawA (RfB gi a n c p7 25 :: T2) (by kernel_rfl) ?_
        refine ha_quiet [0, 1, 2, 3, 4] (by rfl) (by kernel_rfl) ?_
        repeat (first | refine gd_ ?_)
        refine ha_fork1 5 (by rfl) (by kernel_rfl) (by rfl) (by first | exact Imp.refl _ | exact Imp.drop (Imp.refl _) | exact Imp.drop (Imp.drop (Imp.refl _)) | exact Imp.drop (Imp.drop (Imp.drop (Imp.refl _))) | exact Imp.drop (Imp.drop (Imp.drop (Imp.drop (Imp.refl _)))) | exact Imp.drop (Imp.drop (Imp.drop (Imp.drop (Imp.drop (Imp.refl _))))) | exact Imp.drop (Imp.drop (Imp.drop (Imp.drop (Imp.drop (Imp.drop (Imp.refl _)))))) | exact Imp.drop (Imp.drop (Imp.drop (Imp.drop (Imp.drop (Imp.drop (Imp.drop (Imp.refl _))))))) | exact Imp.drop (Imp.drop (Imp.drop (Imp.drop (Imp.drop (Imp.drop (Imp.drop (Imp.drop (Imp.refl _)))))))) | assumption | exact Imp.drop (by assumption) | exact Imp.drop (Imp.drop (by assumption)) | exact imp_nil _ | exact Imp.drop2 (Imp.refl _) | exact Imp.drop2 (Imp.drop2 (Imp.refl _)) | exact Imp.drop (Imp.drop2 (Imp.refl _))) ?_
        · skip
          repeat (first | refine op_ ?_ | refine bx_ (fun _ => ?_))
          refine ha_quiet [6] (by rfl) (by kernel_rfl) ?_
          repeat (first | refine gd_ ?_)
          refine ha_end (by rfl) (by kernel_rfl) (by first | exact Imp.refl _ | exact Imp.drop (Imp.refl _) | exact Imp.drop (Imp.drop (Imp.refl _)) | exact Imp.drop (Imp.drop (Imp.drop (Imp.refl _))) | exact Imp.drop (Imp.drop (Imp.drop (Imp.drop (Imp.refl _)))) | exact Imp.drop (Imp.drop (Imp.drop (Imp.drop (Imp.drop (Imp.refl _))))) | exact Imp.drop (Imp.drop (Imp.drop (Imp.drop (Imp.drop (Imp.drop (Imp.refl _)))))) | exact Imp.drop (Imp.drop (Imp.drop (Imp.drop (Imp.drop (Imp.drop (Imp.drop (Imp.refl _))))))) | exact Imp.drop (Imp.drop (Imp.drop (Imp.drop (Imp.drop (Imp.drop (Imp.drop (Imp.drop (Imp.refl _)))))))) | assumption | exact Imp.drop (by assumption) | exact Imp.drop (Imp.drop (by assumption)) | exact imp_nil _ | exact Imp.drop2 (Imp.refl _) | exact Imp.drop2 (Imp.drop2 (Imp.refl _)) | exact Imp.drop (Imp.drop2 (Imp.refl _))) ?_
          exact ⟨⟨rfl, rfl, trivial⟩, rfl⟩
      rintro fr M ⟨hff, rfl⟩
      obtain ⟨base, rfl⟩ := hff.out
      clear hff
      repeat (first | refine go_ ?_ | refine bx_ (fun _ => ?_))
      refine finCI (n := 19) rfl rfl .here rfl rfl ⟨fun _ => 0, fun _ => 0, .slice none 0 0, .slice none 0 0, .slice none 0 0, [], [], [], [], [], [], rfl, rfl, rfl, fun F => Own.nil, fun F => Own.nil, fun F => Own.nil⟩ (Imp.drop (Imp.drop iT2))
    · have h1 : ¬ (ee = 0 ∧ p7 < n) := fun h => hpl h.2
      rw [if_neg h1, if_pos h0]
      subst h0
      repeat (first | refine go_ ?_ | refine bx_ (fun _ => ?_))
      refine finCI (n := 19) rfl rfl .here rfl rfl ⟨f, m, .slice pa G2.1.length pc, .slice sa G4.1.length sc, .slice qa G6.1.length qc, G2.1, G6.1, G4.1, Xp, Xs, Xq, rfl, rfl, rfl, hop, hos, hoq⟩ (Imp.drop (Imp.drop (Imp.drop (Imp.perm (rev3 Xq Xs Xp H) (Imp.refl _)))))
  · have h1 : ¬ (ee = 0 ∧ p7 < n) := fun h => h0 h.1
    rw [if_neg h1, if_neg h0]
    repeat (first | refine go_ ?_ | refine bx_ (fun _ => ?_))
    obtain ⟨T2, hT2⟩ : ∃ T2, T2 = ⟨g7, 39, edC f m (.slice pa G2.1.length pc) (.slice sa G4.1.length sc) (.slice qa G6.1.length qc), 19⟩ :: (Xq ++ (Xs ++ (Xp ++ H))) := ⟨_, rfl⟩
    have iT2 : Imp T2 H := by rw [hT2]; exact Imp.drop ((Imp.tail Xq _).trans ((Imp.tail Xs _).trans (Imp.tail Xp _)))
    rw [← hT2]
    refine hc_meet (fun fr M => Agr fr [(2, .pointer (some ⟨g2, 0, none⟩)), (3, .int .i64 (ee : Int))] ∧ M = ⟨g2, 39, edC (fun _ => 0) (fun _ => 0) (.slice none 0 0) (.slice none 0 0) (.slice none 0 0), 19⟩ :: RfB gi a n c p7 ee :: T2) ?_ ?_
    · refine hc_drawA (RfB gi a n c p7 ee :: T2) (by kernel_rfl) ?_
      refine ha_quiet [0, 1, 2, 3, 4] (by rfl) (by kernel_rfl) ?_
      repeat (first | refine gd_ ?_)
      refine ha_fork1 5 (by rfl) (by kernel_rfl) (by rfl) (by first | exact Imp.refl _ | exact Imp.drop (Imp.refl _) | exact Imp.drop (Imp.drop (Imp.refl _)) | exact Imp.drop (Imp.drop (Imp.drop (Imp.refl _))) | exact Imp.drop (Imp.drop (Imp.drop (Imp.drop (Imp.refl _)))) | exact Imp.drop (Imp.drop (Imp.drop (Imp.drop (Imp.drop (Imp.refl _))))) | exact Imp.drop (Imp.drop (Imp.drop (Imp.drop (Imp.drop (Imp.drop (Imp.refl _)))))) | exact Imp.drop (Imp.drop (Imp.drop (Imp.drop (Imp.drop (Imp.drop (Imp.drop (Imp.refl _))))))) | exact Imp.drop (Imp.drop (Imp.drop (Imp.drop (Imp.drop (Imp.drop (Imp.drop (Imp.drop (Imp.refl _)))))))) | assumption | exact Imp.drop (by assumption) | exact Imp.drop (Imp.drop (by assumption)) | exact imp_nil _ | exact Imp.drop2 (Imp.refl _) | exact Imp.drop2 (Imp.drop2 (Imp.refl _)) | exact Imp.drop (Imp.drop2 (Imp.refl _))) ?_
      · skip
        repeat (first | refine op_ ?_ | refine bx_ (fun _ => ?_))
        refine ha_quiet [6] (by rfl) (by kernel_rfl) ?_
        repeat (first | refine gd_ ?_)
        refine ha_end (by rfl) (by kernel_rfl) (by first | exact Imp.refl _ | exact Imp.drop (Imp.refl _) | exact Imp.drop (Imp.drop (Imp.refl _)) | exact Imp.drop (Imp.drop (Imp.drop (Imp.refl _))) | exact Imp.drop (Imp.drop (Imp.drop (Imp.drop (Imp.refl _)))) | exact Imp.drop (Imp.drop (Imp.drop (Imp.drop (Imp.drop (Imp.refl _))))) | exact Imp.drop (Imp.drop (Imp.drop (Imp.drop (Imp.drop (Imp.drop (Imp.refl _)))))) | exact Imp.drop (Imp.drop (Imp.drop (Imp.drop (Imp.drop (Imp.drop (Imp.drop (Imp.refl _))))))) | exact Imp.drop (Imp.drop (Imp.drop (Imp.drop (Imp.drop (Imp.drop (Imp.drop (Imp.drop (Imp.refl _)))))))) | assumption | exact Imp.drop (by assumption) | exact Imp.drop (Imp.drop (by assumption)) | exact imp_nil _ | exact Imp.drop2 (Imp.refl _) | exact Imp.drop2 (Imp.drop2 (Imp.refl _)) | exact Imp.drop (Imp.drop2 (Imp.refl _))) ?_
        exact ⟨⟨rfl, rfl, trivial⟩, rfl⟩
    rintro fr M ⟨hff, rfl⟩
    obtain ⟨base, rfl⟩ := hff.out
    clear hff
    repeat (first | refine go_ ?_ | refine bx_ (fun _ => ?_))
    refine finCI (n := 19) rfl rfl .here rfl rfl ⟨fun _ => 0, fun _ => 0, .slice none 0 0, .slice none 0 0, .slice none 0 0, [], [], [], [], [], [], rfl, rfl, rfl, fun F => Own.nil, fun F => Own.nil, fun F => Own.nil⟩ (Imp.drop (Imp.drop iT2))
end
end Go.Proofs.Ytoobhebbgbhahaa
namespace Go.Proofs.Ytoobhebbgbhahaa
open Go.RowKit
def intFs (P : Program) : Nat → List Field → Bool
  | _, [] => true
  | i, f :: fs => (match P.underlying f.type with | some (.int _) => true | _ => false) && decide (f.offset = i) && intFs P (i + 1) fs
def intS (P : Program) (T : TypeId) : Bool := (match P.underlying T with | some (.struct fs) => intFs P 0 fs.toList | _ => false) && !P.stoodInHeld T && !P.eqGuardType P.depth T
section
variable {P : Program} {w : World}
theorem run_part_one {T : TypeId} {k : IntKind} {xs : Array Value} {i : Nat} {v : Value} (hT : P.underlying T = some (.int k)) (hv : xs[i]? = some v) : (part T xs i).run P w = .ok v w := by
  have h1 : (isAgg T).run P w = .ok false w := by
    unfold isAgg
    simp [run_underlying hT]
  unfold part
  simp only [Sem.run_bind, h1, Result.andThen_ok, Bool.false_eq_true, if_false, hv]
  rfl
theorem eqFields_self (d : Nat) (xs : Array Value) : ∀ (fs : List Field) (i : Nat), intFs P i fs = true → (∀ j, i ≤ j → j < i + fs.length → ∃ k a, xs[j]? = some (.int k a)) → (Op.eqFields (d + 1) xs xs fs).run P w = .ok true w
  | [], _, _, _ => by simp [Op.eqFields]
  | f :: fs, i, h, hx => by
    simp only [intFs, Bool.and_eq_true, decide_eq_true_eq] at h
    obtain ⟨⟨h1, h2⟩, h3⟩ := h
    have ih := eqFields_self d xs fs (i + 1) h3 (fun j hj hj2 => hx j (by omega) (by simp; omega))
    obtain ⟨k, a, hka⟩ := hx i (Nat.le_refl _) (by simp)
    cases hu : P.underlying f.type with
    | none => rw [hu] at h1; simp at h1
    | some dsc =>
      cases dsc with
      | int k' =>
        have hp := run_part_one (w := w) hu (h2 ▸ hka : xs[f.offset]? = some (.int k a))
        simp only [Op.eqFields]
        split
        · simp only [Sem.run_bind, hp, Result.andThen_ok, run_equalIn_int w d f.type k k' a a hu, beq_self_eq_true, Bool.not_true, Bool.false_eq_true, if_false]
          exact ih
        · exact ih
      | _ => rw [hu] at h1; simp at h1
theorem run_eq_self {T : TypeId} {xs : List Value} (h : intS P T = true) (hx : ∀ u ∈ xs, ∃ k a, u = Value.int k a) (hn : (P.fieldsOf T).size = xs.length) : (Op.equalIn 10000 T (.agg xs.toArray) (.agg xs.toArray)).run P w = .ok true w := by
  unfold intS at h
  simp only [Bool.and_eq_true, Bool.not_eq_true'] at h
  obtain ⟨⟨h1, h2⟩, _⟩ := h
  have hT : P.underlying T = some (.struct (P.fieldsOf T)) := by
    unfold Program.fieldsOf
    cases hu : P.underlying T with
    | none => rw [hu] at h1; simp at h1
    | some d => cases d <;> first | rfl | (rw [hu] at h1; simp at h1)
  rw [hT] at h1
  refine (run_equalIn_struct w 9999 T _ _ hT h2).trans (eqFields_self 9998 _ _ 0 h1 fun j _ hj => ?_)
  have hj' : j < xs.length := by rw [← hn, ← Array.length_toList]; omega
  obtain ⟨k, a, e⟩ := hx _ (List.getElem_mem hj')
  exact ⟨k, a, by simp [hj', e]⟩
end
class TIntS (P : Program) (T : TypeId) (n : outParam Nat) : Prop where
  h : intS P T = true
  n : (P.fieldsOf T).size = n
section
variable {c : Cx} {Q : Pst} {fr : Fr} {H F : List Ent} {ops : Array Oper} {rest : List Oper} {dst : Option Nat} {ty : TypeId} {pos : String} {after : Array Edge}
variable {x y : Operand} {T u e : TypeId} {S : List Oper → Fr → List Ent → Prop}
theorem hl_neAggF [hS : Stp c ops S] {n : Nat} {xs : List Value} [hT : TIntS c.P T n] (hx : ev fr x = .agg xs.toArray) (hy : ev fr y = .agg xs.toArray) (hi : ∀ u ∈ xs, ∃ k a, u = Value.int k a) (hn : xs.length = n) (hd : dOk c.n dst = true) (k : S rest (updO fr dst (.bool false)) H) :
    S (⟨dst, .binOp .neq T x y u, ty, pos, after, none⟩ :: rest) fr H :=
  hl_bin .neq hx hy hd (fun w => run_eqGuard_agg (w := w) .neq T x y _ _ (by have := hT.h; unfold intS at this; simp at this; exact this.2)) (fun w => by
    rw [run_neq_struct, run_eq_self hT.h hi (by rw [hT.n, hn])]; rfl) k
theorem hl_eqAggT [hS : Stp c ops S] {n : Nat} {xs : List Value} [hT : TIntS c.P T n] (hx : ev fr x = .agg xs.toArray) (hy : ev fr y = .agg xs.toArray) (hi : ∀ u ∈ xs, ∃ k a, u = Value.int k a) (hn : xs.length = n) (hd : dOk c.n dst = true) (k : S rest (updO fr dst (.bool true)) H) :
    S (⟨dst, .binOp .eql T x y u, ty, pos, after, none⟩ :: rest) fr H :=
  hl_bin .eql hx hy hd (fun w => run_eqGuard_agg (w := w) .eql T x y _ _ (by have := hT.h; unfold intS at this; simp at this; exact this.2)) (fun w => by
    rw [run_eql_struct, run_eq_self hT.h hi (by rw [hT.n, hn])]; rfl) k
/-- 'make([]T, 0, n)'. -/
theorem hl_makeC {sz by_ : Nat} {z : Value} [hT : TSlc c.P T e] [hsz : TSz c.P e sz] [hby : TByt c.P e by_] [hz : TZero c.P e z] {n : Nat} (hx : ev fr x = .int .i64 0) (hy : ev fr y = .int .i64 (n : Int)) (hb : by_ * n ≤ 281474976710656) (hmx : n ≤ 9223372036854775807) (hd : dOk c.n dst = true)
    (h : ∀ g, HL c ops Q rest (updO fr dst (.slice (some ⟨g, 0, none⟩) 0 n)) (⟨g, e, [], n * sz⟩ :: H)) (hT9 : e ≠ mapTag := by first | assumption | decide) :
    HL c ops Q (⟨dst, .makeSlice T x y, ty, pos, after, none⟩ :: rest) fr H :=
  hl_some hd fun w hw => by
    obtain ⟨inf, hi, hs⟩ := hsz.info
    obtain ⟨inf2, hi2, hzz⟩ := Option.bind_eq_some_iff.1 hz.h
    have e2 := Option.some.inj (hi2.symm.trans hi)
    subst e2
    obtain ⟨inf3, hi3, hbb⟩ := Option.map_eq_some_iff.1 hby.h
    have e3 := Option.some.inj (hi3.symm.trans hi)
    subst e3
    have hb' : (inf3.bytes : Int) * (n : Int) ≤ 281474976710656 := by
      rw [hbb]
      have h1 : ((by_ * n : Nat) : Int) ≤ 281474976710656 := by omega
      rwa [Int.natCast_mul] at h1
    have hr := run_make (P := c.P) w T e _ z hT.h hi hzz .i64 .i64 0 n (by omega) (by omega) hb' (by omega)
    rw [hs, Int.toNat_natCast, show (0 : Int).toNat = 0 from rfl] at hr
    exact ⟨_, _, _, by simp [execOp, hx, hy, hr], hw.new (madeCells z.cells (n * sz)) e [] (n * sz) (List.nil_prefix) (size_madeCells _ _) hT9, h _⟩
end
end Go.Proofs.Ytoobhebbgbhahaa
namespace Go.Proofs.Ytoobhebbgbhahaa
open Go.RowKit
instance : TIntS Try.prog 86 2 := ⟨by kernel_rfl, by kernel_rfl⟩
section
variable {w0 : World} {B : Nat} {H R R0 : List Ent} {g : Nat}
set_option maxHeartbeats 16000000
set_option maxRecDepth 100000
theorem medit_fn {f m : Nat → Int} {pa sa qa : Option Addr} {pn pc sn sc qn qc : Nat} {S : List Pt} (hS : PtR w0 B H sa sn S) (hsn : sn ≤ 1000000) :
    Fn Try.prog w0 B 14 [.agg (edC f m (.slice pa pn pc) (.slice sa sn sc) (.slice qa qn qc)).toArray] H (fun v H' => ∃ a' c' Xs, v = .agg (edC f m (.slice pa pn pc) (.slice a' sn c') (.slice qa qn qc)).toArray ∧ H' = Xs ++ H ∧ ∀ F, Own 86 2 (.slice a' sn c') sn (S.flatMap ptV) F (Xs ++ F)) := by
  have eS := hS.eq
  refine fn_intro Try.func14 rfl (by kernel_rfl) rfl ?_
  repeat (first | refine hl_loadN (i := 12) (n := 6) (vs := [.int .i64 (m 0), .int .i64 (m 1), .int .i64 (m 2), .int .i64 (m 3), .int .i64 (m 4), .int .i64 (m 5)]) rfl (by first | exact .here | exact (.there .here) | exact (.there (.there .here)) | exact (.there (.there (.there .here))) | exact (.there (.there (.there (.there .here)))) | exact (.there (.there (.there (.there (.there .here))))) | exact (.there (.there (.there (.there (.there (.there .here)))))) | exact (.there (.there (.there (.there (.there (.there (.there .here))))))) | exact (.there (.there (.there (.there (.there (.there (.there (.there .here))))))))) rfl rfl rfl ?_ | refine go1_ ?_ | refine bx_ (fun _ => ?_))
  rename_i gE g2 g3
  obtain ⟨T, hT⟩ : ∃ T, T = ⟨g2, 39, edC (fun _ => 0) (fun _ => 0) (.slice none 0 0) (.slice none 0 0) (.slice none 0 0), 19⟩ :: ⟨gE, 27, edC f m (.slice pa pn pc) (.slice sa sn sc) (.slice qa qn qc), 19⟩ :: H := ⟨_, rfl⟩
  refine HC.perm (H' := ⟨g3, 39, edC f m (.slice pa pn pc) (.slice none 0 0) (.slice qa qn qc), 19⟩ :: T) ?_ (by rw [hT]; exact List.Perm.refl _)
  have iT : Imp T H := by rw [hT]; exact Imp.drop (Imp.drop (Imp.refl _))
  refine hc_loopd (fun q fr M => ∃ k sv Xs, k + q = sn ∧ (∀ F, Own 86 2 sv k ((S.take k).flatMap ptV) F (Xs ++ F)) ∧ Imp M (⟨g3, 39, edC f m (.slice pa pn pc) sv (.slice qa qn qc), 19⟩ :: (Xs ++ T)) ∧ Agr fr [(2, .pointer (some ⟨g2, 0, none⟩)), (3, .pointer (some ⟨g3, 0, none⟩)), (34, .slice sa sn sc), (35, .int .i64 (sn : Int)), (36, .int .i64 (k : Int))]) sn ?_ ?_
  · exact ⟨0, _, [], by omega, fun F => Own.nil, Imp.refl _, rfl, rfl, rfl, rfl, rfl, trivial⟩
  rintro q fr M ⟨k, sv, Xs, hk, ho, hi, hf⟩
  obtain ⟨base, rfl⟩ := hf.out
  clear hf
  refine HC.imp ?_ hi
  obtain ⟨av, cv, rfl, _, _⟩ := (ho []).form
  by_cases hlt : k < sn
  · obtain ⟨bb, off, rfl⟩ := hS.pos (by omega)
    obtain ⟨hkS, hcell⟩ := hS.at' hlt
    have hst : (S.take (k + 1)).flatMap ptV = (S.take k).flatMap ptV ++ ptV S[k] := by
      rw [List.take_succ_eq_append_getElem hkS, List.flatMap_append]
      simp
    generalize hpp : S[k] = p at *
    repeat (first | refine hl_loadRN (l := S.flatMap ptV) rfl hS.rd (Imp.drop ((Imp.tail Xs _).trans iT)) hcell rfl rfl ?_ | refine go1_ ?_ | refine bx_ (fun _ => ?_))
    rename_i gp gb
    refine hl_append_own (F := ⟨gb, 86, [.int .i64 p.x, .int .i64 p.y], 1 * 2⟩ :: ⟨gp, 78, [.int .i64 p.x, .int .i64 p.y], 2⟩ :: ⟨g3, 39, edC f m (.slice pa pn pc) (.slice av k cv) (.slice qa qn qc), 19⟩ :: T) rfl rfl ((((ho _).under _).under _).under _) (Rds.ent (n := 2) (l := [.int .i64 p.x, .int .i64 p.y]) .here rfl (by simp [Value.oneCell'])) rfl rfl (by decide) (by omega) (by omega) rfl (fun v8 M8 o8 => ?_)
    obtain ⟨a8, c8, rfl, _, _⟩ := o8.form
    obtain ⟨Z, hZ, ho8⟩ := o8.permE
    refine HL.perm ?_ (hZ.trans (app_swap Z [_, _, _] _))
    repeat (first | refine go_ ?_ | refine bx_ (fun _ => ?_))
    refine ⟨q - 1, by omega, _, Imp.refl _, k + 1, .slice a8 (k + 1) c8, Z, by omega, fun F => by rw [hst]; exact ho8 F, ?_, rfl, rfl, rfl, rfl, rfl, trivial⟩
    exact Imp.perm (List.Perm.refl _) (Imp.sub (List.Sublist.cons_cons _ ((List.sublist_cons_self _ _).trans (List.sublist_cons_self _ _))))
  · obtain rfl : sn = k := by omega
    rw [show S.take sn = S by rw [← eS]; exact List.take_length] at ho
    rw [hT]
    refine HC.perm (H' := ⟨g2, 39, edC (fun _ => 0) (fun _ => 0) (.slice none 0 0) (.slice none 0 0) (.slice none 0 0), 19⟩ :: ⟨g3, 39, edC f m (.slice pa pn pc) (.slice av sn cv) (.slice qa qn qc), 19⟩ :: (Xs ++ (⟨gE, 27, edC f m (.slice pa pn pc) (.slice sa sn sc) (.slice qa qn qc), 19⟩ :: H))) ?_ (Take.there (Take.app Xs .here)).perm
    repeat (first | refine go_ ?_ | refine bx_ (fun _ => ?_))
    exact finC (n := 19) rfl rfl .here rfl ⟨av, cv, Xs, rfl, rfl, ho⟩ (Imp.drop (Imp.drop (Imp.sub (List.Sublist.append (List.Sublist.refl _) (List.sublist_cons_self _ _)))))
theorem isame_fn {a a2 : Option Addr} {n n2 c c2 : Nat} {l m : List Int} (hl : NumR w0 B H a n l) (hm : NumR w0 B H a2 n2 m) (he : l = m) (hs : n ≤ 9223372036854775806) :
    Fn Try.prog w0 B 34 [.slice a n c, .slice a2 n2 c2] H (fun v H' => v = .bool true ∧ H' = H) := by
  subst he
  have e1 := hl.eq
  have e2 := hm.eq
  obtain rfl : n = n2 := by omega
  refine fn_intro Try.func34 rfl (by kernel_rfl) rfl ?_
  repeat (first | refine go_ ?_ | refine bx_ (fun _ => ?_))
  refine hc_loopd (fun q fr M => ∃ k, k + q = n ∧ Agr fr [(1, .slice a2 n c2), (12, .slice a n c), (13, .int .i64 (n : Int)), (14, .int .i64 (k : Int))] ∧ M = H) n ?_ ?_
  · exact ⟨0, by omega, ⟨rfl, rfl, rfl, rfl, trivial⟩, rfl⟩
  rintro q fr M ⟨k, hk, hf, rfl⟩
  obtain ⟨base, rfl⟩ := hf.out
  clear hf
  by_cases hlt : k < n
  · obtain ⟨b1, o1, rfl⟩ := hl.pos (by omega)
    obtain ⟨b2, o2, rfl⟩ := hm.pos (by omega)
    have k1 : k < l.length := by omega
    have c1 : (l.map iV)[k]? = some (.int .i64 l[k]) := by simp [k1]
    generalize l[k] = z at *
    repeat (first | refine hl_loadRd rfl hl.rd (Imp.refl _) c1 rfl ?_ | refine hl_loadRd rfl hm.rd (Imp.refl _) c1 rfl ?_ | refine go1_ ?_ | refine bx_ (fun _ => ?_))
    exact ⟨q - 1, by omega, _, Imp.refl _, k + 1, by omega, ⟨rfl, rfl, rfl, rfl, trivial⟩, rfl⟩
  · repeat (first | refine go_ ?_ | refine bx_ (fun _ => ?_))
    exact fin1B rfl rfl ⟨rfl, rfl⟩
end
end Go.Proofs.Ytoobhebbgbhahaa
namespace Go.Proofs.Ytoobhebbgbhahaa
open Go.RowKit
theorem PtR.own {w0 : World} {B : Nat} {e n cap : Nat} {a : Option Addr} {F H : List Ent} {l : List Pt} (o : Own e 2 (.slice a n cap) n (l.flatMap ptV) F H) : PtR w0 B H a n l :=
  ⟨by have := o.len; rw [length_pts] at this; omega, fun h => by obtain ⟨g, c, e, _⟩ := o.posn h; cases e; exact ⟨_, _, rfl⟩, o.rds (c := ⟨Try.prog, 0, w0, B⟩) (one_pts l)⟩
theorem NumR.own {w0 : World} {B : Nat} {e n cap : Nat} {a : Option Addr} {F H : List Ent} {l : List Int} (o : Own e 1 (.slice a n cap) n (l.map iV) F H) : NumR w0 B H a n l :=
  ⟨by have := o.len; rw [List.length_map] at this; omega, fun h => by obtain ⟨g, c, e, _⟩ := o.posn h; cases e; exact ⟨_, _, rfl⟩, o.rds (c := ⟨Try.prog, 0, w0, B⟩) (fun u hu => by obtain ⟨x, _, rfl⟩ := List.mem_map.1 hu; rfl)⟩
section
variable {w0 : World} {B : Nat} {H R R0 : List Ent} {g : Nat}
set_option maxHeartbeats 16000000
set_option maxRecDepth 100000
theorem like_fn {f m : Nat → Int} {pa sa qa pb sb qb : Option Addr} {pn pc sn sc qn qc pn' pc' sn' sc' qn' qc' : Nat} {P Q : List Int} {S : List Pt} (hP : NumR w0 B H pa pn P) (hP' : NumR w0 B H pb pn' P) (hS : PtR w0 B H sa sn S) (hS' : PtR w0 B H sb sn' S) (hQ : NumR w0 B H qa qn Q) (hQ' : NumR w0 B H qb qn' Q)
    (hl1 : P.length ≤ 1000000) (hl2 : S.length ≤ 1000000) (hl3 : Q.length ≤ 1000000) :
    Fn Try.prog w0 B 15 [.agg (edC f m (.slice pa pn pc) (.slice sa sn sc) (.slice qa qn qc)).toArray, .agg (edC f m (.slice pb pn' pc') (.slice sb sn' sc') (.slice qb qn' qc')).toArray] H (fun v H' => v = .bool true ∧ H' = H) := by
  have eP := hP.eq
  have eP' := hP'.eq
  have eS := hS.eq
  have eS' := hS'.eq
  have eQ := hQ.eq
  have eQ' := hQ'.eq
  obtain rfl : pn = pn' := by omega
  obtain rfl : sn = sn' := by omega
  obtain rfl : qn = qn' := by omega
  refine fn_intro Try.func15 rfl (by kernel_rfl) rfl ?_
  repeat (first | refine go_ ?_ | refine bx_ (fun _ => ?_))
  rename_i ga gb
  refine hl_call rfl rfl (medit_fn (hS.imp (Imp.drop (Imp.drop (Imp.refl _)))) (by omega)) (fun v M o => ?_)
  obtain ⟨a1, c1, Xs, rfl, rfl, ho⟩ := o
  obtain ⟨T, hT⟩ : ∃ T, T = ⟨gb, 39, edC f m (.slice pb pn pc') (.slice sb sn sc') (.slice qb qn qc'), 19⟩ :: ⟨ga, 27, edC f m (.slice pa pn pc) (.slice sa sn sc) (.slice qa qn qc), 19⟩ :: H := ⟨_, rfl⟩
  refine HL.perm (H' := Xs ++ T) ?_ (by rw [hT]; exact List.Perm.refl _)
  have iT : Imp T H := by rw [hT]; exact Imp.drop (Imp.drop (Imp.refl _))
  have iX : Imp (Xs ++ T) H := (Imp.tail Xs _).trans iT
  have hX : PtR w0 B (Xs ++ T) a1 sn S := PtR.own (ho T)
  have tb : ∃ F, Take (Xs ++ T) ⟨gb, 39, edC f m (.slice pb pn pc') (.slice sb sn sc') (.slice qb qn qc'), 19⟩ F := ⟨_, Take.app Xs (by rw [hT]; exact .here)⟩
  obtain ⟨F, tb⟩ := tb
  generalize Xs ++ T = M at *
  have S1 := fun (M' : List Ent) (i : Imp M' M) => isame_fn (c := pc) (c2 := pc') ((hP.imp iX).imp i) ((hP'.imp iX).imp i) rfl (by omega)
  have S2 := fun (M' : List Ent) (i : Imp M' M) => isame_fn (c := qc) (c2 := qc') ((hQ.imp iX).imp i) ((hQ'.imp iX).imp i) rfl (by omega)
  repeat (first | refine hl_load1 rfl (.there tb) rfl rfl ?_ | refine hl_loadN (i := 12) (n := 6) (vs := (f6 m).map intV) rfl .here rfl rfl rfl ?_ | refine hl_loadN (i := 12) (n := 6) (vs := (f6 m).map intV) rfl (.there tb) rfl rfl rfl ?_ | refine hl_neArrF (l := f6 m) (m := f6 m) rfl rfl rfl rfl rfl ?_ | refine go1_ ?_ | refine bx_ (fun _ => ?_) | refine hl_callv rfl rfl (S1 _ (Imp.drop (Imp.refl _))) ?_ | refine hl_callv rfl rfl (S2 _ (Imp.drop (Imp.refl _))) ?_)
  rename_i g5
  refine HC.imp (H' := M) ?_ (Imp.drop (Imp.refl _))
  refine hc_loopd (fun q fr M1 => ∃ k, k + q = sn ∧ Agr fr [(3, .pointer (some ⟨gb, 0, none⟩)), (111, .slice a1 sn c1), (112, .int .i64 (sn : Int)), (113, .int .i64 (k : Int))] ∧ M1 = M) sn ?_ ?_
  · exact ⟨0, by omega, ⟨rfl, rfl, rfl, rfl, trivial⟩, rfl⟩
  rintro q fr M1 ⟨k, hk, hf, rfl⟩
  obtain ⟨base, rfl⟩ := hf.out
  clear hf
  by_cases hlt : k < sn
  rotate_left
  · repeat (first | refine go_ ?_ | refine bx_ (fun _ => ?_))
    exact fin1B rfl rfl ⟨rfl, rfl⟩ iX
  obtain ⟨b1, o1, rfl⟩ := hX.pos (by omega)
  obtain ⟨b2, o2, rfl⟩ := hS'.pos (by omega)
  obtain ⟨hkS, hcell⟩ := hX.at' hlt
  have hcell2 := flat_pt S k hkS
  generalize hpp : S[k] = p at *
  have hin : ∀ u ∈ [Value.int .i64 p.x, Value.int .i64 p.y], ∃ k a, u = Value.int k a := fun u hu => by
    simp only [List.mem_cons, List.not_mem_nil, or_false] at hu
    rcases hu with rfl | rfl
    · exact ⟨_, _, rfl⟩
    · exact ⟨_, _, rfl⟩
  repeat (first | refine hl_loadRN (l := S.flatMap ptV) rfl hX.rd (Imp.refl _) hcell rfl rfl ?_ | refine go1_ ?_ | refine bx_ (fun _ => ?_))
  (refine hc_draw (by kernel_rfl) (by kernel_rfl) ?_; repeat (first | refine hl_load1 rfl (.there tb) rfl rfl ?_ | refine hl_loadRN (l := S.flatMap ptV) rfl hS'.rd (Imp.drop iX) hcell2 rfl rfl ?_ | refine hl_neAggF (xs := [.int .i64 p.x, .int .i64 p.y]) rfl rfl hin rfl rfl ?_ | refine gd1_ ?_))
  repeat (first | refine go_ ?_ | refine bx_ (fun _ => ?_))
  exact ⟨q - 1, by omega, M1, Imp.drop (Imp.refl _), k + 1, by omega, ⟨rfl, rfl, rfl, rfl, trivial⟩, rfl⟩
end
end Go.Proofs.Ytoobhebbgbhahaa
namespace Go.Proofs.Ytoobhebbgbhahaa
open Go.RowKit
def E0 : Ed := ⟨[64, -1, 0, 0, 0, 0, 0, 0, 0, 0], [], [], [0, 0, 0, 0, 0, 0], []⟩
theorem i64s {n : Int} (h : -1000 ≤ n ∧ n ≤ 1000) : I64 n := ⟨by omega, by omega⟩
theorem E0_wf : E0.wf := by
  refine ⟨?_, by simp [E0], by simp [E0], ?_, by simp [E0], rfl, rfl, by decide, by decide, by decide⟩
  · intro n hn
    simp only [E0, List.mem_cons, List.not_mem_nil, or_false] at hn
    exact i64s (by omega)
  · intro n hn
    simp only [E0, List.mem_cons, List.not_mem_nil, or_false] at hn
    exact i64s (by omega)
theorem num_64 : numB 64 = [128, 1] := by
  unfold numB
  rw [show zz 64 = 128 by decide, putU_ge (by decide), show 128 / 128 = 1 by decide, putU_lt (by decide)]
  rfl
theorem num_m1 : numB (-1) = [1] := by
  unfold numB
  rw [show zz (-1) = 1 by decide, putU_lt (by decide)]
  rfl
theorem num_0 : numB 0 = [0] := by
  unfold numB
  rw [show zz 0 = 0 by decide, putU_lt (by decide)]
  rfl
theorem E0_put : E0.put = [128, 1, 1, 0, 0, 0, 0, 0, 0, 0, 0, 0, 0, 0, 0, 0, 0, 0, 0, 0] := by
  unfold Ed.put E0 lstB numsB ptsB
  simp [num_64, num_m1, num_0]
theorem getE_E0 : getE E0.put = (E0, 0) := getE_put E0_wf
/-- A read edit's lists, read again. -/
theorem BytR.take {w0 : World} {B : Nat} {H : List Ent} {a : Option Addr} {len cap : Nat} {l : List UInt8} (h : BytR w0 B H a len cap l) (j : Nat) (hj : j ≤ len) : BytR w0 B H a j cap (l.take j) := by
  have he := h.eq
  have hle := h.le
  exact ⟨by rw [List.length_take]; omega, by omega, h.small, h.nil, fun h0 => h.pos (by omega), by rw [List.map_take]; exact h.rd.take j⟩
section
variable {w0 : World} {B : Nat} {H R R0 : List Ent} {g : Nat}
set_option maxHeartbeats 16000000
set_option maxRecDepth 100000
theorem NumR.zero {a : Option Addr} : NumR w0 B H a 0 [] := ⟨rfl, fun h => absurd h (by omega), ⟨by simp, fun _ => rfl, by simp⟩⟩
theorem PtR.zero {a : Option Addr} : PtR w0 B H a 0 [] := ⟨rfl, fun h => absurd h (by omega), ⟨by simp, fun _ => rfl, by simp⟩⟩
theorem anchor_fn : Fn Try.prog w0 B 9 [] H (fun v H' => v = .bool true ∧ H' = H) := by
  refine fn_intro Try.func9 rfl (by kernel_rfl) rfl ?_
  repeat (first | refine go_ ?_ | refine bx_ (fun _ => ?_))
  have C := putEdit_fn (w0 := w0) (B := B) (H := H) (f := fun i => [64, -1, 0, 0, 0, 0, 0, 0, 0, 0].getD i 0) (m := fun _ => 0) (pa := none) (pn := 0) (pc := 0) (sa := none) (sn := 0) (sc := 0) (qa := none) (qn := 0) (qc := 0) NumR.zero PtR.zero NumR.zero E0_wf
  refine hl_call rfl rfl C (fun v M o => ?_)
  have o : Own 5 1 v E0.put.length (E0.put.map byteV) H M := o
  have hl20 : E0.put.length = 20 := by rw [E0_put]; rfl
  obtain ⟨g1, c1, rfl, hc1, hc2, _, hp⟩ := o.posn (by rw [hl20]; decide)
  obtain ⟨Xb, hpb, hob⟩ := o.permE
  rw [hl20] at hob hc1 ⊢
  refine HL.perm ?_ hpb
  have bb : ∀ F, BytR w0 B (Xb ++ F) (some ⟨g1, 0, none⟩) 20 c1 E0.put := fun F => BytR.own (hob F)
  repeat (first | refine go_ ?_ | refine bx_ (fun _ => ?_))
  refine hl_call rfl rfl (getEdit_fn (bb H) (by decide)) (fun v M o => ?_)
  obtain ⟨f, m, pv, sv, qv, P, Q, S, Xp, Xs, Xq, rfl, hE, rfl, hop, hos, hoq⟩ := o
  rw [getE_E0] at hE ⊢
  dsimp only at hE ⊢
  have hf := congrArg Ed.f hE
  have hf0 : f 0 = 64 := by have := congrArg (fun l => l.getD 0 0) hf; exact this.symm
  have hf1 : f 1 = -1 := by have := congrArg (fun l => l.getD 1 0) hf; exact this.symm
  clear hE hf
  obtain ⟨pa, pc, rfl, _, _⟩ := (hop []).form
  obtain ⟨sa, sc, rfl, _, _⟩ := (hos []).form
  obtain ⟨qa, qc, rfl, _, _⟩ := (hoq []).form
  have iM : Imp (Xp ++ (Xs ++ (Xq ++ (Xb ++ H)))) (Xb ++ H) := (Imp.tail Xp _).trans ((Imp.tail Xs _).trans (Imp.tail Xq _))
  generalize Xp ++ (Xs ++ (Xq ++ (Xb ++ H))) = M at *
  repeat (first | refine go_ ?_ | refine bx_ (fun _ => ?_) | refine hl_sliceTo (j := 19) rfl rfl rfl (by omega) rfl ?_)
  rename_i g2
  have b2 := ((bb H).imp (show Imp (⟨g2, 27, edC f m (.slice pa P.length pc) (.slice sa S.length sc) (.slice qa Q.length qc), 19⟩ :: M) (Xb ++ H) from Imp.drop iM)).take 19 (by decide)
  refine hl_call rfl rfl (getEdit_fn b2 (by decide)) (fun v M2 o => ?_)
  obtain ⟨f2, m2, pv2, sv2, qv2, P2, Q2, S2, Xp2, Xs2, Xq2, rfl, hE2, rfl, hop2, hos2, hoq2⟩ := o
  rw [getE_cut E0_wf (by rw [hl20]; decide)]
  obtain ⟨pa2, pc2, rfl, _, _⟩ := (hop2 []).form
  obtain ⟨sa2, sc2, rfl, _, _⟩ := (hos2 []).form
  obtain ⟨qa2, qc2, rfl, _, _⟩ := (hoq2 []).form
  have tg2 := fun (e : Ent) => Take.there (x := e) (Take.app Xp2 (Take.app Xs2 (Take.app Xq2 (.here (e := ⟨g2, 27, edC f m (.slice pa P.length pc) (.slice sa S.length sc) (.slice qa Q.length qc), 19⟩) (H := M)))))
  have iA : ∀ e : Ent, Imp (e :: (Xp2 ++ (Xs2 ++ (Xq2 ++ (⟨g2, 27, edC f m (.slice pa P.length pc) (.slice sa S.length sc) (.slice qa Q.length qc), 19⟩ :: M))))) (Xb ++ H) := fun e => Imp.drop ((Imp.tail Xp2 _).trans ((Imp.tail Xs2 _).trans ((Imp.tail Xq2 _).trans (Imp.drop iM))))
  have hr := (bb H).rd
  rw [E0_put] at hr
  repeat (first | refine hl_loadRd (j := 0) rfl hr (iA _) (v := .int .u8 128) rfl rfl ?_ | refine hl_loadRd (j := 1) rfl hr (iA _) (v := .int .u8 1) rfl rfl ?_ | refine hl_loadRd (j := 2) rfl hr (iA _) (v := .int .u8 1) rfl rfl ?_ | refine hl_load1 rfl (tg2 _) rfl rfl ?_ | refine go1_ ?_ | refine bx_ (fun _ => ?_))
  exact fin1B rfl rfl ⟨rfl, rfl⟩ ((iA _).trans (Imp.tail Xb H))
end
end Go.Proofs.Ytoobhebbgbhahaa
namespace Go.Proofs.Ytoobhebbgbhahaa
open Go.RowKit Go.ChangeShapes Go.WideShapes Go.ChangeAt Go.Deep

theorem own : ownKnob Try.prog.godebug = none := by kernel_rfl
theorem laidOut : laidOutB Try.prog = true := by kernel_rfl

section
variable {H : Type} {enc : TypeId × Value → H} {P : Program} {w : World} {base : Nat} {spare : Nat → Bool} {held : Bool}

theorem row_at {α : Type} {f : α → Value} {w : World} {x : Addr} {l : List α} (h : ∀ i (hi : i < l.length), w.cell? (x.add i) = some (f l[i])) : RowAt f w (some x) l := by
  intro i hi
  obtain ⟨b, off, spot⟩ := x
  have h0 := h 0 (by omega)
  have hs : spot = none := by
    have := World.cell?_spot h0
    simpa [Addr.add] using this
  subst hs
  refine ⟨b, off, rfl, ?_⟩
  rw [← h i hi]
  simp only [Addr.add]
  split
  · rename_i h0; subst h0; rfl
  · rfl

theorem wf_u8 {n : Int} (h : (Lit.int .u8 n).wf = true) : 0 ≤ n ∧ n ≤ 255 := by
  simpa [Lit.wf, IntKind.min, IntKind.max, IntKind.signed, IntKind.bits] using h
theorem wf_i64 {n : Int} (h : (Lit.int .i64 n).wf = true) : -9223372036854775808 ≤ n ∧ n ≤ 9223372036854775807 := by
  simpa [Lit.wf, IntKind.min, IntKind.max, IntKind.signed, IntKind.bits] using h

theorem open_bytes {t e : TypeId} {v : Value} {d : DataW H} {ps : List MemPlace} (ht : P.underlying t = some (.slice e)) (he : P.underlying e = some (.int .u8)) (hc : P.cellsOf e = 1)
    {a : Option Addr} {len cap : Nat} (hv : v = .slice a len cap) (h : DataW.Trod enc P w base (fun _ => true) held t v d ps) : ∃ bs : List UInt8, Sl byteV w a len cap bs := by
  subst hv
  obtain ⟨fuel, hf⟩ := h
  rcases open_ints ht he hc hf with ⟨hcs, _⟩ | ⟨x, l, c, zs, hcs, _, hl, hm, hz, _, hcell, hwz⟩
  · simp [Value.cells] at hcs
    obtain ⟨rfl, rfl, rfl⟩ := hcs
    exact ⟨[], Sl.nil_mk _ _⟩
  · simp [Value.cells] at hcs
    obtain ⟨rfl, rfl, rfl⟩ := hcs
    simp only [if_true] at hz
    refine ⟨(zs.take len).map fun z => UInt8.ofNat z.toNat, by simp; omega, hl, by unfold maxLen at hm; omega, (fun h => by cases h), row_at ?_⟩
    intro i hi
    simp only [List.length_map, List.length_take] at hi
    rw [hcell i (by omega)]
    have hw := wf_u8 (hwz (zs[i]'(by omega)) (List.getElem_mem _))
    simp only [List.getElem_map, List.getElem_take, byteV, List.getD, List.getElem?_eq_getElem (show i < zs.length by omega), Option.getD_some]
    congr 2
    rw [UInt8.toNat_ofNat_of_lt' (by show _ < 256; omega)]
    omega

theorem open_nums {t e : TypeId} {v : Value} {d : DataW H} {ps : List MemPlace} (ht : P.underlying t = some (.slice e)) (he : P.underlying e = some (.int .i64)) (hc : P.cellsOf e = 1)
    {a : Option Addr} {len cap : Nat} (hv : v = .slice a len cap) (h : DataW.Trod enc P w base (fun _ => true) held t v d ps) :
    ∃ zs : List Int, Sl intV w a len cap zs ∧ ∀ z ∈ zs, -9223372036854775808 ≤ z ∧ z ≤ 9223372036854775807 := by
  subst hv
  obtain ⟨fuel, hf⟩ := h
  rcases open_ints ht he hc hf with ⟨hcs, _⟩ | ⟨x, l, c, zs, hcs, _, hl, hm, hz, _, hcell, hwz⟩
  · simp [Value.cells] at hcs
    obtain ⟨rfl, rfl, rfl⟩ := hcs
    exact ⟨[], Sl.nil_mk _ _, fun z hz => by cases hz⟩
  · simp [Value.cells] at hcs
    obtain ⟨rfl, rfl, rfl⟩ := hcs
    simp only [if_true] at hz
    refine ⟨zs.take len, ⟨by simp; omega, hl, by unfold maxLen at hm; omega, (fun h => by cases h), row_at ?_⟩, fun z hz => wf_i64 (hwz z (List.mem_of_mem_take hz))⟩
    intro i hi
    simp only [List.length_take] at hi
    rw [hcell i (by omega)]
    simp [List.getD, List.getElem?_eq_getElem (show i < zs.length by omega)]

theorem open_parts {t e q : TypeId} {v : Value} {d : DataW H} {ps : List MemPlace} (ht : P.underlying t = some (.slice e)) (hc : P.cellsOf e = 1) (he : P.underlying e = some (.slice q)) (hq : P.underlying q = some (.int .u8)) (hcq : P.cellsOf q = 1)
    {a : Option Addr} {len cap : Nat} (hv : v = .slice a len cap) (h : DataW.Trod enc P w base (fun _ => true) held t v d ps) : ∃ l : List Part, Parts w a len cap l := by
  subst hv
  obtain ⟨fuel, hf⟩ := h
  rcases open_slice1 ht hc hf with ⟨hcs, _⟩ | ⟨x, l, c, m, n, V, D, Pl, hcs, _, hl, hm, hmm, _, hx⟩
  · simp [Value.cells] at hcs
    obtain ⟨rfl, rfl, rfl⟩ := hcs
    exact ⟨[], Parts.none _⟩
  · simp [Value.cells] at hcs
    obtain ⟨rfl, rfl, rfl⟩ := hcs
    simp only [if_true] at hmm
    subst hmm
    have hp : ∀ i, i < len → ∃ p : Part, w.cell? (x.add i) = some (partV p) ∧ Sl byteV w p.a p.len p.cap p.bs := by
      intro i hi
      obtain ⟨h1, h2⟩ := hx i (by omega)
      obtain ⟨a, len, cap, hV⟩ : ∃ a len cap, V i = .slice a len cap := by
        rcases open_ints he hq hcq h2 with ⟨hcs, _⟩ | ⟨_, _, _, _, hcs, _⟩
        · exact ⟨_, _, _, by simpa using hcs⟩
        · exact ⟨_, _, _, by simpa using hcs⟩
      obtain ⟨bs, hbs⟩ := open_bytes (v := V i) he hq hcq hV ⟨n, by rw [hV] at h2 ⊢; exact h2⟩
      exact ⟨⟨a, len, cap, bs⟩, by rw [h1, hV]; rfl, hbs⟩
    obtain ⟨l, hlen, hl2⟩ := list_choose hp
    refine ⟨l, ⟨hlen, hl, by unfold maxLen at hm; omega, (fun h => by cases h), row_at fun i hi => (hl2 i hi).1⟩, fun p hp => ?_⟩
    obtain ⟨i, hi, rfl⟩ := List.getElem_of_mem hp
    exact (hl2 i hi).2

end
end Go.Proofs.Ytoobhebbgbhahaa
namespace Go.Proofs.Ytoobhebbgbhahaa
open Go.RowKit Go.ChangeShapes Go.WideShapes Go.ChangeAt Go.Deep

section
variable {H : Type} {enc : TypeId × Value → H} {P : Program} {w : World} {base : Nat} {spare : Nat → Bool} {held : Bool}
theorem open_slice_fields {t e : TypeId} {fs : Array Field} {fuel : Nat} {cs : List Value} {x : DataW H × List MemPlace} (ht : P.underlying t = some (.slice e)) (he : P.underlying e = some (.struct fs))
    (hone : oneCellFields P fs = true) (hC : P.cellsOf e = fs.size) (h : DataW.trod enc P w base spare held fuel t cs = some x) :
    (cs = [.slice none 0 0] ∧ x = (.nil, [])) ∨
    ∃ (a : Addr) (len cap m : Nat) (D : Nat → DataW H) (Pl : Nat → List MemPlace), cs = [.slice (some a) len cap] ∧ base ≤ a.block ∧ len ≤ cap ∧ cap ≤ maxLen ∧ m = (if spare a.block then cap else len) ∧
      x = (.slice ((List.range len).map D) ((List.range (m - len)).map fun j => D (len + j)), MemPlace.row a (m * fs.size) ++ (List.range m).flatMap Pl) ∧
      ∀ i, i < m → ∃ (ys : List (DataW H × List MemPlace)) (n : Nat), D i = .agg (ys.map (·.1)) ∧ Pl i = ys.flatMap (·.2) ∧ ys.length = fs.size ∧
        ∀ (j : Nat) (f : Field), fs[j]? = some f → ∃ (v : Value) (y : DataW H × List MemPlace), w.cell? (a.add (i * fs.size + j)) = some v ∧ ys[j]? = some y ∧ DataW.trod enc P w base spare held n f.type [v] = some y := by
  rcases open_slice ht h with h0 | ⟨a, len, cap, m, n, D, Pl, hcs, hb, hl, hm, hmm, hx, hi⟩
  · exact .inl h0
  · refine .inr ⟨a, len, cap, m, D, Pl, hcs, hb, hl, hm, hmm, by rw [hC] at hx; exact hx, fun i him => ?_⟩
    obtain ⟨cs', hc, ht'⟩ := hi i him
    rw [hC] at hc
    obtain ⟨ys, n', hn', hy, hlen, hyl, hf⟩ := DataW.trod_struct he ht'
    obtain ⟨_, hcl, hat⟩ := World.cells?_some hc
    simp only [Prod.mk.injEq] at hy
    refine ⟨ys, n', hy.1, hy.2, hyl, fun j f hj => ?_⟩
    obtain ⟨ho, hk⟩ := hone_of hone j f hj
    have hjl : j < fs.size := (Array.getElem?_eq_some_iff.1 hj).1
    have hcell := hat j hjl
    have hv : cs'[j]? = some (cs'[j]'(by omega)) := List.getElem?_eq_getElem (by omega)
    have h1 := hf j f hj
    rw [ho, hk] at h1
    have hone' : (cs'.drop j).take 1 = [cs'[j]'(by omega)] := by
      rw [List.drop_eq_getElem_cons (by omega)]
      rfl
    rw [hone'] at h1
    have hys : ys[j]? = some (ys[j]'(by omega)) := List.getElem?_eq_getElem (by omega)
    refine ⟨_, _, ?_, hys, h1.trans hys⟩
    rw [← Go.Deep.add_add, hcell, hv]
end

/-- A slice value of elements of k cells that reads as a list. -/
structure SlS {α : Type} (k : Nat) (f : α → List Value) (w : World) (a : Option Addr) (len cap : Nat) (l : List α) : Prop where
  size_eq : l.length = len
  le : len ≤ cap
  small : cap ≤ 9223372036854775807
  nil : a = none → cap = 0
  row : ∀ i (h : i < l.length), ∃ b off, a = some ⟨b, off, none⟩ ∧ ∀ (j : Nat) u, (f l[i])[j]? = some u → w.cell? ⟨b, off + i * k + j, none⟩ = some u

section
variable {H : Type} {enc : TypeId × Value → H} {P : Program} {w : World} {base : Nat} {held : Bool}
theorem open_structs {α : Type} (f : α → List Value) (ok : α → Prop) {t e : TypeId} {fs : Array Field} {v : Value} {d : DataW H} {ps : List MemPlace} (ht : P.underlying t = some (.slice e)) (he : P.underlying e = some (.struct fs))
    (hone : oneCellFields P fs = true) (hC : P.cellsOf e = fs.size) (h0 : 0 < fs.size)
    (conv : ∀ vs : List Value, vs.length = fs.size → (∀ (j : Nat) (g : Field), fs[j]? = some g → ∃ v, vs[j]? = some v ∧ ∃ n y, DataW.trod enc P w base (fun _ => true) held n g.type [v] = some y) → ∃ x : α, f x = vs ∧ ok x)
    {a : Option Addr} {len cap : Nat} (hv : v = .slice a len cap) (h : DataW.Trod enc P w base (fun _ => true) held t v d ps) : ∃ l : List α, SlS fs.size f w a len cap l ∧ ∀ x ∈ l, ok x := by
  subst hv
  obtain ⟨fuel, hf⟩ := h
  rcases open_slice_fields ht he hone hC hf with ⟨hcs, _⟩ | ⟨x, l, c, m, D, Pl, hcs, _, hl, hm, hmm, _, hx⟩
  · simp [Value.cells] at hcs
    obtain ⟨rfl, rfl, rfl⟩ := hcs
    exact ⟨[], ⟨rfl, by omega, by omega, fun _ => rfl, fun i h => absurd h (by simp)⟩, fun x hx => by cases hx⟩
  · simp [Value.cells] at hcs
    obtain ⟨rfl, rfl, rfl⟩ := hcs
    simp only [if_true] at hmm
    have hel : ∀ i, i < m → ∃ y : α, (∀ (j : Nat) u, (f y)[j]? = some u → w.cell? (x.add (i * fs.size + j)) = some u) ∧ (f y).length = fs.size ∧ ok y := by
      intro i hi
      obtain ⟨ys, n, _, _, _, hj⟩ := hx i hi
      have hj' : ∀ j, j < fs.size → ∃ v, w.cell? (x.add (i * fs.size + j)) = some v ∧ ∃ n y, DataW.trod enc P w base (fun _ => true) held n (fs[j]!).type [v] = some y := by
        intro j hlt
        obtain ⟨v, y, h1, _, h3⟩ := hj j (fs[j]'hlt) (Array.getElem?_eq_getElem hlt)
        exact ⟨v, h1, n, y, by simpa [hlt] using h3⟩
      obtain ⟨vs, hvl, hvs⟩ := list_choose hj'
      obtain ⟨y, hy, hok⟩ := conv vs hvl (fun j g hg => by
        have hlt : j < fs.size := (Array.getElem?_eq_some_iff.1 hg).1
        obtain ⟨h1, n, y, h2⟩ := hvs j (by omega)
        refine ⟨vs[j]'(by omega), List.getElem?_eq_getElem (by omega), n, y, ?_⟩
        have : fs[j]! = g := by rw [Array.getElem?_eq_getElem hlt] at hg; simp only [Option.some.injEq] at hg; simp [hlt, hg]
        rw [← this]; exact h2)
      refine ⟨y, fun j u hu => ?_, by rw [hy]; exact hvl, hok⟩
      rw [hy] at hu
      obtain ⟨hlt, hu⟩ := List.getElem?_eq_some_iff.1 hu
      rw [(hvs j hlt).1, hu]
    obtain ⟨l, hlen, hl2⟩ := list_choose hel
    refine ⟨l.take len, ⟨by rw [List.length_take]; omega, hl, by unfold maxLen at hm; omega, (fun h => by cases h), fun i hi => ?_⟩, fun y hy => ?_⟩
    · have hi : i < l.length := by rw [List.length_take] at hi; omega
      rw [List.getElem_take]
      obtain ⟨b, off, spot⟩ := x
      have hs : spot = none := by
        obtain ⟨hc, hfl, _⟩ := hl2 i hi
        have h1 := hc 0 _ (List.getElem?_eq_getElem (by omega))
        have := World.cell?_spot h1
        unfold Addr.add at this
        by_cases hz : i * fs.size + 0 = 0
        · simpa [hz] using this
        · -- the address of the first element tells
          obtain ⟨hc0, hfl0, _⟩ := hl2 0 (by omega)
          have h2 := hc0 0 _ (List.getElem?_eq_getElem (by omega))
          have := World.cell?_spot h2
          simpa [Addr.add] using this
      subst hs
      refine ⟨b, off, rfl, fun j u hu => ?_⟩
      rw [← (hl2 i hi).1 j u hu, Addr.add_lit, Nat.add_assoc]
    · obtain ⟨i, hi, rfl⟩ := List.getElem_of_mem (List.mem_of_mem_take hy)
      exact (hl2 i hi).2.2
end

section
variable {c : Cx} {Q : Pst} {fr : Fr} {H F : List Ent} {ops : Array Oper} {rest : List Oper} {dst : Option Nat} {ty : TypeId} {pos : String} {after : Array Edge} {x : Operand} {T : TypeId} {S : List Oper → Fr → List Ent → Prop}
theorem SlS.lt {α : Type} {k : Nat} {f : α → List Value} {w : World} {b off len cap : Nat} {l : List α} (h : SlS k f w (some ⟨b, off, none⟩) len cap l) {i : Nat} (hi : i < l.length) (hk : 0 < (f l[i]).length) : b < w.heap.size := by
  obtain ⟨b', off', hb, hc⟩ := h.row i hi
  cases hb
  have hc := hc 0 _ (List.getElem?_eq_getElem hk)
  simp only [World.cell?] at hc
  rcases Nat.lt_or_ge b w.heap.size with h1 | h1
  · exact h1
  · rw [Array.getElem?_eq_none h1] at hc; cases hc
/-- An element read out of an argument. -/
theorem hl_loadE [Stp c ops S] {α : Type} {k : Nat} {f : α → List Value} {b off len cap i : Nat} {l : List α} [TAgg c.P T] [TSz c.P T k] (hl : SlS k f c.w0 (some ⟨b, off, none⟩) len cap l) (hi : i < l.length) (hB : c.w0.heap.size ≤ c.B) (hk : (f l[i]).length = k) (h0 : 0 < k)
    (hx : ev fr x = .pointer (some ⟨b, off + i * k, none⟩)) (hd : dOk c.n dst = true) (h : S rest (updO fr dst (.agg (f l[i]).toArray)) H) : S (⟨dst, .load T x, ty, pos, after, none⟩ :: rest) fr H :=
  hl_loadNr hx (fun j u hu => by
    obtain ⟨b', off', hb, hc⟩ := hl.row i hi
    cases hb
    exact hc j u hu) (Nat.lt_of_lt_of_le (hl.lt hi (by omega)) hB) hk hd h
/-- An element of one cell, read out of an argument. -/
theorem hl_loadV [Stp c ops S] {α : Type} {f : α → Value} {b off len cap i : Nat} {l : List α} [TOne c.P T] (hl : Sl f c.w0 (some ⟨b, off, none⟩) len cap l) (hi : i < l.length) (hB : c.w0.heap.size ≤ c.B)
    (hx : ev fr x = .pointer (some ⟨b, off + i, none⟩)) (hd : dOk c.n dst = true) (h : S rest (updO fr dst (f l[i])) H) : S (⟨dst, .load T x, ty, pos, after, none⟩ :: rest) fr H := by
  obtain ⟨b', off', hb, hc⟩ := hl.row i hi
  cases hb
  refine hl_load1r hx hc ?_ hd h
  simp only [World.cell?] at hc
  rcases Nat.lt_or_ge b c.w0.heap.size with h1 | h1
  · omega
  · rw [Array.getElem?_eq_none h1] at hc; cases hc
end
end Go.Proofs.Ytoobhebbgbhahaa
namespace Go.Proofs.Ytoobhebbgbhahaa
open Go.RowKit Go.ChangeShapes Go.WideShapes Go.ChangeAt Go.Deep
/-- An edit that is handed in. -/
structure EdA where
  f : Nat → Int
  m : Nat → Int
  pa : Option Addr
  pn : Nat
  pc : Nat
  sa : Option Addr
  sn : Nat
  sc : Nat
  qa : Option Addr
  qn : Nat
  qc : Nat
  P : List Int
  S : List Pt
  Q : List Int
abbrev EdA.v (x : EdA) : Value := .agg (edC x.f x.m (.slice x.pa x.pn x.pc) (.slice x.sa x.sn x.sc) (.slice x.qa x.qn x.qc)).toArray
structure EdA.wf (w : World) (x : EdA) : Prop where
  f : ∀ n ∈ f10 x.f, I64 n
  m : ∀ n ∈ f6 x.m, I64 n
  P : Sl intV w x.pa x.pn x.pc x.P ∧ ∀ n ∈ x.P, I64 n
  S : SlS 2 ptV w x.sa x.sn x.sc x.S ∧ ∀ p ∈ x.S, I64 p.x ∧ I64 p.y
  Q : Sl intV w x.qa x.qn x.qc x.Q ∧ ∀ n ∈ x.Q, I64 n
theorem rds_pts {w0 : World} {B : Nat} {E : List Ent} (hB : w0.heap.size ≤ B) {a : Option Addr} {len cap : Nat} {l : List Pt} (hl : SlS 2 ptV w0 a len cap l) : Rds w0 B E a (l.flatMap ptV) := by
  have hcell : ∀ (j : Nat) u, (l.flatMap ptV)[j]? = some u → ∃ i, ∃ h : i < l.length, ∃ q, j = i * 2 + q ∧ (ptV l[i])[q]? = some u := by
    intro j u hu
    have hj : j < (l.flatMap ptV).length := (List.getElem?_eq_some_iff.1 hu).1
    rw [length_pts] at hj
    refine ⟨j / 2, by omega, j % 2, by omega, ?_⟩
    rw [← flat_pt l (j / 2) (by omega), List.getElem?_take, if_pos (Nat.mod_lt _ (by decide)), List.getElem?_drop, ← hu]
    congr 1; omega
  refine ⟨fun w hw ad ha j u hu => ?_, fun hn => ?_, one_pts l⟩
  · obtain ⟨i, hi, q, rfl, hq⟩ := hcell j u hu
    obtain ⟨b, off, hb, hc⟩ := hl.row i hi
    rw [ha] at hb; cases hb
    have hc := hc q u hq
    rw [Addr.add_lit, ← hc, show off + (i * 2 + q) = off + i * 2 + q by omega]
    have hblk : b < B := by
      refine Nat.lt_of_lt_of_le ?_ hB
      simp only [World.cell?] at hc
      rcases Nat.lt_or_ge b w0.heap.size with h1 | h1
      · exact h1
      · rw [Array.getElem?_eq_none h1] at hc; cases hc
    exact hw.below.cell (p := ⟨b, off + i * 2 + q, none⟩) hblk
  · have := hl.nil hn
    have h2 := hl.le
    have h3 := hl.size_eq
    have : l = [] := List.eq_nil_of_length_eq_zero (by omega)
    rw [this]; rfl
theorem ptR_of {w0 : World} {B : Nat} {E : List Ent} (hB : w0.heap.size ≤ B) {a : Option Addr} {len cap : Nat} {l : List Pt} (hl : SlS 2 ptV w0 a len cap l) : PtR w0 B E a len l :=
  ⟨hl.size_eq, fun h0 => by obtain ⟨b, off, hb, _⟩ := hl.row 0 (by rw [hl.size_eq]; exact h0); exact ⟨b, off, hb⟩, rds_pts hB hl⟩
section
variable {H : Type} {enc : TypeId × Value → H} {w : World} {base : Nat} {held : Bool}
theorem open_pts {v : Value} {d : DataW H} {ps : List MemPlace} {a : Option Addr} {len cap : Nat} (hv : v = .slice a len cap)
    (h : DataW.Trod enc Try.prog w base (fun _ => true) held 23 v d ps) : ∃ l : List Pt, SlS 2 ptV w a len cap l ∧ ∀ p ∈ l, I64 p.x ∧ I64 p.y := by
  refine open_structs ptV (fun p => I64 p.x ∧ I64 p.y) Try.underlying23 Try.underlying78 (by kernel_rfl) (by kernel_rfl) (by decide) ?_ hv h
  intro vs hl hf
  obtain ⟨x, hx, n0, y0, h0⟩ := hf 0 _ rfl
  obtain ⟨y, hy, n1, y1, h1⟩ := hf 1 _ rfl
  obtain ⟨i, hi, _, wi⟩ := DataW.trod_int Try.underlying3 h0
  obtain ⟨j, hj, _, wj⟩ := DataW.trod_int Try.underlying3 h1
  cases hi; cases hj
  match vs, hl with
  | [p, q], _ =>
    cases hx; cases hy
    exact ⟨⟨i, j⟩, rfl, wf_i64 wi, wf_i64 wj⟩
theorem cellsInt : Try.prog.cellsOf 3 = 1 := by kernel_rfl
theorem one_int {fuel : Nat} {cs : List Value} {c : Value} {o : Option (DataW H × List MemPlace)} {k : Nat} (h : DataW.trod enc Try.prog w base (fun _ => true) held fuel 3 ((cs.drop k).take (Try.prog.cellsOf 3)) = o) (ho : o.isSome = true) (hc : (cs.drop k).take 1 = [c]) : ∃ z, c = .int .i64 z ∧ I64 z := by
  obtain ⟨y, rfl⟩ := Option.isSome_iff_exists.1 ho
  rw [cellsInt, hc] at h
  obtain ⟨z, hz, _, hw⟩ := DataW.trod_int Try.underlying3 h
  exact ⟨z, by simpa using hz, wf_i64 hw⟩
theorem one_val {fuel : Nat} {cs : List Value} {c : Value} {o : Option (DataW H × List MemPlace)} {k : Nat} {T : TypeId} (hT : Try.prog.cellsOf T = 1) (h : DataW.trod enc Try.prog w base (fun _ => true) held fuel T ((cs.drop k).take (Try.prog.cellsOf T)) = o) (ho : o.isSome = true) (hc : (cs.drop k).take 1 = [c]) : ∃ y, DataW.trod enc Try.prog w base (fun _ => true) held fuel T [c] = some y := by
  obtain ⟨y, rfl⟩ := Option.isSome_iff_exists.1 ho
  rw [hT, hc] at h
  exact ⟨y, h⟩
theorem one_slice {fuel : Nat} {c : Value} {y : DataW H × List MemPlace} {T e : TypeId} (hT : Try.prog.underlying T = some (.slice e)) (h : DataW.trod enc Try.prog w base (fun _ => true) held fuel T [c] = some y) : ∃ a n cap, c = .slice a n cap ∧ ∃ d ps, DataW.Trod enc Try.prog w base (fun _ => true) held T (.slice a n cap) d ps := by
  have h2 := h
  obtain ⟨a, len, cap, rfl⟩ : ∃ a len cap, c = .slice a len cap := by
    rcases open_slice hT h2 with ⟨hcs, _⟩ | ⟨x, l, c, _, _, _, _, hcs, _⟩
    · simp only [List.cons.injEq, and_true] at hcs; exact ⟨_, _, _, hcs⟩
    · simp only [List.cons.injEq, and_true] at hcs; exact ⟨_, _, _, hcs⟩
  exact ⟨a, len, cap, rfl, y.1, y.2, fuel, h⟩
set_option maxRecDepth 100000 in
set_option maxHeartbeats 4000000 in
theorem six_ints {fuel : Nat} {cs : List Value} {o : Option (DataW H × List MemPlace)} {k : Nat} {m0 m1 m2 m3 m4 m5 : Value} (h : DataW.trod enc Try.prog w base (fun _ => true) held fuel 25 ((cs.drop k).take (Try.prog.cellsOf 25)) = o) (ho : o.isSome = true) (hc : (cs.drop k).take 6 = [m0, m1, m2, m3, m4, m5]) :
    ∃ m : Nat → Int, (m0 = .int .i64 (m 0) ∧ m1 = .int .i64 (m 1) ∧ m2 = .int .i64 (m 2) ∧ m3 = .int .i64 (m 3) ∧ m4 = .int .i64 (m 4) ∧ m5 = .int .i64 (m 5)) ∧ ∀ n ∈ f6 m, I64 n := by
  obtain ⟨y, rfl⟩ := Option.isSome_iff_exists.1 ho
  rw [show Try.prog.cellsOf 25 = 6 by kernel_rfl, hc] at h
  obtain ⟨xs, n', _, _, _, hxl, hx⟩ := DataW.trod_array Try.underlying25 h
  have hxs : ∀ j, j < 6 → (xs[j]?).isSome = true := fun j hj => by
    rw [List.getElem?_eq_getElem (by omega)]; rfl
  obtain ⟨z0, rfl, w0⟩ := one_int (k := 0 * Try.prog.cellsOf 3) (hx 0 (by decide)) (hxs 0 (by decide)) (by rw [cellsInt]; rfl)
  obtain ⟨z1, rfl, w1⟩ := one_int (k := 1 * Try.prog.cellsOf 3) (hx 1 (by decide)) (hxs 1 (by decide)) (by rw [cellsInt]; rfl)
  obtain ⟨z2, rfl, w2⟩ := one_int (k := 2 * Try.prog.cellsOf 3) (hx 2 (by decide)) (hxs 2 (by decide)) (by rw [cellsInt]; rfl)
  obtain ⟨z3, rfl, w3⟩ := one_int (k := 3 * Try.prog.cellsOf 3) (hx 3 (by decide)) (hxs 3 (by decide)) (by rw [cellsInt]; rfl)
  obtain ⟨z4, rfl, w4⟩ := one_int (k := 4 * Try.prog.cellsOf 3) (hx 4 (by decide)) (hxs 4 (by decide)) (by rw [cellsInt]; rfl)
  obtain ⟨z5, rfl, w5⟩ := one_int (k := 5 * Try.prog.cellsOf 3) (hx 5 (by decide)) (hxs 5 (by decide)) (by rw [cellsInt]; rfl)
  refine ⟨fun i => [z0, z1, z2, z3, z4, z5].getD i 0, ⟨rfl, rfl, rfl, rfl, rfl, rfl⟩, fun n hn => ?_⟩
  have hn : n ∈ [z0, z1, z2, z3, z4, z5] := hn
  simp only [List.mem_cons, List.not_mem_nil, or_false] at hn
  rcases hn with rfl | rfl | rfl | rfl | rfl | rfl <;> assumption
set_option maxRecDepth 100000 in
set_option maxHeartbeats 4000000 in
theorem open_edit {v : Value} {d : DataW H} {ps : List MemPlace} {w0 : World} {r : Reach} {b0 : Nat} (hok : Value.okWide Try.prog w0 r b0 27 v) (h : DataW.Trod enc Try.prog w base (fun _ => true) held 27 v d ps) :
    ∃ x : EdA, v = x.v ∧ x.wf w := by
  obtain ⟨cs, rfl, hsz⟩ : ∃ cs, v = .agg cs ∧ cs.size = Try.prog.cellsOf 27 := by
    simp only [Value.okWide, Try.underlying27] at hok
    obtain ⟨cs, h1, h2, _⟩ := hok
    exact ⟨cs, h1, h2⟩
  have hc19 : Try.prog.cellsOf 27 = 19 := by kernel_rfl
  rw [hc19] at hsz
  obtain ⟨fuel, hf⟩ := h
  obtain ⟨ys, n', hn', hy, hlen, hyl, hj⟩ := DataW.trod_struct Try.underlying27 hf
  obtain ⟨l⟩ := cs
  simp only [Value.cells] at hj
  have hl : l.length = 19 := by simpa using hsz
  have hys : ∀ j, j < 14 → (ys[j]?).isSome = true := fun j hj => by
    rw [List.getElem?_eq_getElem (by rw [hyl]; exact hj)]; rfl
  match l, hl with
  | [c0, c1, c2, c3, c4, c5, c6, c7, c8, c9, cp, cs, m0, m1, m2, m3, m4, m5, cq], _ =>
    obtain ⟨z0, rfl, w0⟩ := one_int (hj 0 _ rfl) (hys 0 (by decide)) rfl
    obtain ⟨z1, rfl, w1⟩ := one_int (hj 1 _ rfl) (hys 1 (by decide)) rfl
    obtain ⟨z2, rfl, w2⟩ := one_int (hj 2 _ rfl) (hys 2 (by decide)) rfl
    obtain ⟨z3, rfl, w3⟩ := one_int (hj 3 _ rfl) (hys 3 (by decide)) rfl
    obtain ⟨z4, rfl, w4⟩ := one_int (hj 4 _ rfl) (hys 4 (by decide)) rfl
    obtain ⟨z5, rfl, w5⟩ := one_int (hj 5 _ rfl) (hys 5 (by decide)) rfl
    obtain ⟨z6, rfl, w6⟩ := one_int (hj 6 _ rfl) (hys 6 (by decide)) rfl
    obtain ⟨z7, rfl, w7⟩ := one_int (hj 7 _ rfl) (hys 7 (by decide)) rfl
    obtain ⟨z8, rfl, w8⟩ := one_int (hj 8 _ rfl) (hys 8 (by decide)) rfl
    obtain ⟨z9, rfl, w9⟩ := one_int (hj 9 _ rfl) (hys 9 (by decide)) rfl
    obtain ⟨yp, hp⟩ := one_val (by kernel_rfl) (hj 10 _ rfl) (hys 10 (by decide)) rfl
    obtain ⟨ys', hs⟩ := one_val (by kernel_rfl) (hj 11 _ rfl) (hys 11 (by decide)) rfl
    obtain ⟨yq, hq⟩ := one_val (by kernel_rfl) (hj 13 _ rfl) (hys 13 (by decide)) rfl
    obtain ⟨m, ⟨rfl, rfl, rfl, rfl, rfl, rfl⟩, wm⟩ := six_ints (hj 12 _ rfl) (hys 12 (by decide)) rfl
    obtain ⟨pa, pn, pc, rfl, _, _, hp⟩ := one_slice Try.underlying22 hp
    obtain ⟨sa, sn, sc, rfl, _, _, hs⟩ := one_slice Try.underlying23 hs
    obtain ⟨qa, qn, qc, rfl, _, _, hq⟩ := one_slice Try.underlying22 hq
    obtain ⟨P, hP, bP⟩ := open_nums Try.underlying22 Try.underlying3 (by kernel_rfl) rfl hp
    obtain ⟨Q, hQ, bQ⟩ := open_nums Try.underlying22 Try.underlying3 (by kernel_rfl) rfl hq
    obtain ⟨S, hS, bS⟩ := open_pts rfl hs
    refine ⟨⟨fun i => [z0, z1, z2, z3, z4, z5, z6, z7, z8, z9].getD i 0, m, pa, pn, pc, sa, sn, sc, qa, qn, qc, P, S, Q⟩, rfl, ⟨fun n hn => ?_, wm, ⟨hP, bP⟩, ⟨hS, bS⟩, ⟨hQ, bQ⟩⟩⟩
    have hn : n ∈ [z0, z1, z2, z3, z4, z5, z6, z7, z8, z9] := hn
    simp only [List.mem_cons, List.not_mem_nil, or_false] at hn
    rcases hn with rfl | rfl | rfl | rfl | rfl | rfl | rfl | rfl | rfl | rfl <;> assumption
end
theorem numR_of {w0 : World} {B : Nat} {E : List Ent} (hB : w0.heap.size ≤ B) {a : Option Addr} {len cap : Nat} {l : List Int} (h : Sl intV w0 a len cap l) : NumR w0 B E a len l :=
  ⟨h.size_eq, fun h0 => by obtain ⟨b, off, hb, _⟩ := h.row 0 (by rw [h.size_eq]; exact h0); exact ⟨b, off, hb⟩, Rds.sl (c := ⟨Try.prog, 0, w0, B⟩) h hB (fun y => rfl)⟩
end Go.Proofs.Ytoobhebbgbhahaa
namespace Go.Proofs.Ytoobhebbgbhahaa
open Go.RowKit
theorem outE_zero {r : Ed × Rd} (h : (outE r).2 ≠ 0) : (outE r).1 = Ed.zero := by
  unfold outE at h ⊢
  by_cases h0 : r.2.endE = 0
  · rw [if_pos h0] at h; exact absurd rfl h
  · rw [if_neg h0]
theorem getE_zero {b : List UInt8} (h : (getE b).2 ≠ 0) : (getE b).1 = Ed.zero := by
  rw [getE_out] at h ⊢
  exact outE_zero h
theorem getE_lens {b : List UInt8} (hb : b.length ≤ 1000000) : (getE b).1.P.length ≤ 1000000 ∧ (getE b).1.S.length ≤ 1000000 ∧ (getE b).1.Q.length ≤ 1000000 := by
  by_cases h : (getE b).2 = 0
  · obtain ⟨_, hw⟩ := getE_was h hb
    exact ⟨hw.Pl, hw.Sl, hw.Ql⟩
  · rw [getE_zero h]
    exact ⟨by decide, by decide, by decide⟩
theorem edC_congr {f f' m m' : Nat → Int} (hf : f10 f = f10 f') (hm : f6 m = f6 m') (pv sv qv : Value) : edC f m pv sv qv = edC f' m' pv sv qv := by
  simp only [f10, f6, List.cons.injEq, and_true] at hf hm
  obtain ⟨h0, h1, h2, h3, h4, h5, h6, h7, h8, h9⟩ := hf
  obtain ⟨k0, k1, k2, k3, k4, k5⟩ := hm
  simp only [edC, h0, h1, h2, h3, h4, h5, h6, h7, h8, h9, k0, k1, k2, k3, k4, k5]
end Go.Proofs.Ytoobhebbgbhahaa
namespace Go.Proofs.Ytoobhebbgbhahaa
/-- A layer, but for its group's layers. -/
structure Ly where
  i : Int
  k : Int
  d : Bool
  o : Int
  e : Int
  w : Int
  h : Int
  P : List Int
  M : List UInt8
  a0 : Int
  a1 : Int
  a2 : Int
  a3 : Int
  a4 : Int
  a5 : Int
  s : Bool
  t : Int
  Q : List Int
/-- Layers one behind the other, each with those within it. -/
inductive Fo
  | nil
  | cons (l : Ly) (k r : Fo)
def fl (b : Bool) : Int := if b then 1 else 0
abbrev Ly.hd (l : Ly) : List Int := [l.i, l.k, fl l.d, l.o, l.e, l.w, l.h]
abbrev Ly.mp (l : Ly) : List Int := [l.a0, l.a1, l.a2, l.a3, l.a4, l.a5]
def Ly.put (l : Ly) : List UInt8 := numsB l.hd ++ (lstB l.P ++ (numB (l.M.length : Int) ++ (l.M ++ (numsB l.mp ++ (numsB [fl l.s, l.t] ++ lstB l.Q)))))
def Fo.len : Fo → Nat
  | .nil => 0
  | .cons _ _ r => r.len + 1
def Fo.body : Fo → List UInt8
  | .nil => []
  | .cons l k r => l.put ++ (numB (k.len : Int) ++ (k.body ++ r.body))
def Fo.put (F : Fo) : List UInt8 := numB (F.len : Int) ++ F.body
def Fo.dep : Fo → Nat
  | .nil => 0
  | .cons _ k r => max (k.dep + 1) r.dep
def Fo.cnt : Fo → Nat
  | .nil => 0
  | .cons _ k r => k.cnt + r.cnt + 1
structure Ly.wf (N : Nat) (l : Ly) : Prop where
  hd : ∀ n ∈ l.hd, I64 n
  P : ∀ n ∈ l.P, I64 n
  mp : ∀ n ∈ l.mp, I64 n
  t : I64 l.t
  Q : ∀ n ∈ l.Q, I64 n
  Pl : l.P.length ≤ N
  Ml : l.M.length ≤ N
  Ql : l.Q.length ≤ N
def Fo.wf (N : Nat) : Fo → Prop
  | .nil => True
  | .cons l k r => l.wf N ∧ k.len ≤ N ∧ k.wf N ∧ r.wf N
def Rd.fail (s : Rd) (k : Nat) : Rd := ⟨s.l, if s.e = 0 then k else s.e⟩
def Rd.flag (s : Rd) : Bool × Rd := (decide (s.num.1 = 1), if s.num.1 ≠ 0 ∧ s.num.1 ≠ 1 then s.num.2.fail 25 else s.num.2)
def Rd.skip (s : Rd) (m : Nat) : Rd := ⟨s.l.drop m, s.e⟩
/-- A layer's numbers up to its pixels: the flag is the third. -/
def Rd.hdr (s : Rd) : Ly × Rd :=
  let r1 := s.num
  let r2 := r1.2.num
  let r3 := r2.2.flag
  let r4 := r3.2.num
  let r5 := r4.2.num
  let r6 := r5.2.num
  let r7 := r6.2.num
  (⟨r1.1, r2.1, r3.1, r4.1, r5.1, r6.1, r7.1, [], [], 0, 0, 0, 0, 0, 0, false, 0, []⟩, r7.2)
def Rd.lyr (s : Rd) : Ly × Rd :=
  let r7 := s.hdr
  let r8 := r7.2.nums
  let r9 := r8.2.size
  let rA := r9.2.skip r9.1
  let rB := Rd.fix 6 rA
  let rC := rB.2.flag
  let rD := rC.2.num
  let rE := rD.2.nums
  (⟨r7.1.i, r7.1.k, r7.1.d, r7.1.o, r7.1.e, r7.1.w, r7.1.h, r8.1, r9.2.l.take r9.1, rB.1.getD 0 0, rB.1.getD 1 0, rB.1.getD 2 0, rB.1.getD 3 0, rB.1.getD 4 0, rB.1.getD 5 0, rC.1, rD.1, rE.1⟩, rE.2)
def Rd.layN (kd : Rd → Fo × Rd) : Nat → Rd → Fo × Rd
  | 0, s => (.nil, s)
  | n + 1, s => if s.e ≠ 0 then (.nil, s) else (.cons s.lyr.1 (kd s.lyr.2).1 (Rd.layN kd n (kd s.lyr.2).2).1, (Rd.layN kd n (kd s.lyr.2).2).2)
def Rd.lay : Nat → Rd → Fo × Rd
  | 0, s => if 0 < s.size.1 then (.nil, s.size.2.fail 31) else (.nil, s.size.2)
  | d + 1, s => Rd.layN (Rd.lay d) s.size.1 s.size.2
structure Dc where
  w : Int
  h : Int
  n : Int
  F : Fo
def Dc.put (D : Dc) : List UInt8 := numsB [D.w, D.h, D.n] ++ D.F.put
def docsB (l : List Dc) : List UInt8 := l.flatMap Dc.put
structure Dc.wf (N : Nat) (D : Dc) : Prop where
  n : ∀ n ∈ [D.w, D.h, D.n], I64 n
  F : D.F.wf N
  l : D.F.len ≤ N
def Rd.doc (s : Rd) : Dc × Rd :=
  let r1 := s.num
  let r2 := r1.2.num
  let r3 := r2.2.num
  let r4 := Rd.lay 64 r3.2
  (⟨r1.1, r2.1, r3.1, r4.1⟩, r4.2)
def Rd.docsP : Nat → Rd → List Dc × Rd
  | 0, s => ([], s)
  | k + 1, s => if s.e ≠ 0 then ([], s) else (s.doc.1 :: (Rd.docsP k s.doc.2).1, (Rd.docsP k s.doc.2).2)
def Rd.docs (s : Rd) : List Dc × Rd := Rd.docsP s.size.1 s.size.2
structure Stt where
  D : Dc
  A : List Dc
  B : List Dc
def Stt.put (S : Stt) : List UInt8 := S.D.put ++ (numB (S.A.length : Int) ++ (docsB S.A ++ (numB (S.B.length : Int) ++ docsB S.B)))
structure Stt.wf (N : Nat) (S : Stt) : Prop where
  D : S.D.wf N
  A : ∀ d ∈ S.A, d.wf N
  B : ∀ d ∈ S.B, d.wf N
  Al : S.A.length ≤ N
  Bl : S.B.length ≤ N
def getSR (b : List UInt8) : Stt × Rd :=
  let r1 := Rd.doc ⟨b, 0⟩
  let r2 := r1.2.docs
  let r3 := r2.2.docs
  (⟨r1.1, r2.1, r3.1⟩, r3.2)

/-! What is left is no longer than what was there -/
theorem getU_len : ∀ (l : List UInt8) (k u : Nat), (getU k u l).2.1.length ≤ l.length
  | [], k, u => by rw [getU]; exact Nat.le_refl _
  | c :: l, k, u => by
    rw [getU]
    have := getU_len l (k + 1) (u + c.toNat % 128 * 2 ^ (7 * k))
    split
    · simp
    · split
      · simp
      · simp only [List.length_cons]; omega
theorem Rd.num_len (s : Rd) : s.num.2.l.length ≤ s.l.length := by
  rw [Rd.num]
  split
  · exact Nat.le_refl _
  · exact getU_len _ _ _
theorem Rd.size_len (s : Rd) : s.size.2.l.length ≤ s.l.length := by
  have := s.num_len
  rw [Rd.size]
  split
  · exact this
  · split
    · exact this
    · split
      · exact this
      · exact this
theorem Rd.numsP_len : ∀ (k : Nat) (s : Rd), (Rd.numsP k s).2.l.length ≤ s.l.length
  | 0, s => Nat.le_refl _
  | k + 1, s => by
    rw [Rd.numsP]
    split
    · exact Nat.le_refl _
    · have := Rd.numsP_len k s.num.2
      have := s.num_len
      dsimp only; omega
theorem Rd.nums_len (s : Rd) : s.nums.2.l.length ≤ s.l.length := by
  rw [Rd.nums]
  have := Rd.numsP_len s.size.1 s.size.2
  have := s.size_len
  omega
theorem Rd.fixL_len : ∀ (k : Nat) (s : Rd), (Rd.fix k s).2.l.length ≤ s.l.length
  | 0, s => by rw [Rd.fix]; exact Nat.le_refl _
  | k + 1, s => by
    rw [Rd.fix]
    have := Rd.fixL_len k s.num.2
    have := s.num_len
    dsimp only; omega
theorem Rd.flag_len (s : Rd) : s.flag.2.l.length ≤ s.l.length := by
  rw [Rd.flag]
  have := s.num_len
  dsimp only
  split
  · exact this
  · exact this
theorem Rd.hdr_len (s : Rd) : s.hdr.2.l.length ≤ s.l.length := by
  unfold Rd.hdr
  dsimp only
  have a1 := s.num_len
  have a2 := s.num.2.num_len
  have a3 := s.num.2.num.2.flag_len
  have a4 := s.num.2.num.2.flag.2.num_len
  have a5 := s.num.2.num.2.flag.2.num.2.num_len
  have a6 := s.num.2.num.2.flag.2.num.2.num.2.num_len
  have a7 := s.num.2.num.2.flag.2.num.2.num.2.num.2.num_len
  omega
theorem Rd.skip_len (s : Rd) (m : Nat) : (s.skip m).l.length ≤ s.l.length := by
  unfold Rd.skip; dsimp only; rw [List.length_drop]; omega
theorem Rd.lyr_len (s : Rd) : s.lyr.2.l.length ≤ s.l.length := by
  unfold Rd.lyr
  dsimp only
  have a1 := s.hdr_len
  have a2 := s.hdr.2.nums_len
  have a3 := s.hdr.2.nums.2.size_len
  have a4 := s.hdr.2.nums.2.size.2.skip_len s.hdr.2.nums.2.size.1
  have a5 := Rd.fixL_len 6 (s.hdr.2.nums.2.size.2.skip s.hdr.2.nums.2.size.1)
  have a6 := (Rd.fix 6 (s.hdr.2.nums.2.size.2.skip s.hdr.2.nums.2.size.1)).2.flag_len
  have a7 := (Rd.fix 6 (s.hdr.2.nums.2.size.2.skip s.hdr.2.nums.2.size.1)).2.flag.2.num_len
  have a8 := (Rd.fix 6 (s.hdr.2.nums.2.size.2.skip s.hdr.2.nums.2.size.1)).2.flag.2.num.2.nums_len
  omega
theorem Rd.layN_len {d : Nat} (ih : ∀ s : Rd, (Rd.lay d s).2.l.length ≤ s.l.length) : ∀ (n : Nat) (s : Rd), (Rd.layN (Rd.lay d) n s).2.l.length ≤ s.l.length
  | 0, s => Nat.le_refl _
  | n + 1, s => by
    rw [Rd.layN]
    split
    · exact Nat.le_refl _
    · have := Rd.layN_len ih n (Rd.lay d s.lyr.2).2
      have := ih s.lyr.2
      have := s.lyr_len
      dsimp only; omega
theorem Rd.lay_len : ∀ (d : Nat) (s : Rd), (Rd.lay d s).2.l.length ≤ s.l.length
  | 0, s => by
    rw [Rd.lay]
    have := s.size_len
    split
    · exact this
    · exact this
  | d + 1, s => by
    rw [Rd.lay]
    have := Rd.layN_len (Rd.lay_len d) s.size.1 s.size.2
    have := s.size_len
    omega

/-! What is written is read -/
theorem Rd.size_put2 {n : Nat} (hn : n ≤ 1000000000) {r : List UInt8} (h : n ≤ r.length) : Rd.size ⟨numB (n : Int) ++ r, 0⟩ = (n, ⟨r, 0⟩) := by
  rw [Rd.size, Rd.num_put ⟨by omega, by omega⟩, if_neg (by simp), if_neg (by dsimp only; omega), if_neg (by dsimp only; omega)]
  simp
theorem Rd.nums_put2 {l : List Int} (hl : l.length ≤ 1000000000) (h : ∀ n ∈ l, I64 n) (r : List UInt8) : Rd.nums ⟨lstB l ++ r, 0⟩ = (l, ⟨r, 0⟩) := by
  rw [Rd.nums]; unfold lstB
  rw [List.append_assoc, Rd.size_put2 hl (by have := length_numsB l; rw [List.length_append]; omega)]
  exact Rd.numsP_put l r h
theorem Rd.flag_put (b : Bool) (r : List UInt8) : Rd.flag ⟨numB (fl b) ++ r, 0⟩ = (b, ⟨r, 0⟩) := by
  rw [Rd.flag, Rd.num_put (by cases b <;> exact ⟨by decide, by decide⟩)]
  cases b <;> rfl
theorem Rd.flag_was {s : Rd} (h : s.flag.2.e = 0) : s.e = 0 ∧ s.l = numB (fl s.flag.1) ++ s.flag.2.l := by
  rw [Rd.flag] at h ⊢
  dsimp only at h ⊢
  by_cases h0 : s.num.1 ≠ 0 ∧ s.num.1 ≠ 1
  · rw [if_pos h0] at h
    unfold Rd.fail at h
    dsimp only at h
    split at h
    · cases h
    · rename_i h1; exact absurd h h1
  · rw [if_neg h0] at h ⊢
    obtain ⟨g1, g2, g3⟩ := Rd.num_was h
    refine ⟨g1, ?_⟩
    rw [show fl (decide (s.num.1 = 1)) = s.num.1 by
      unfold fl
      by_cases h1 : s.num.1 = 1
      · rw [h1]; rfl
      · rw [decide_eq_false h1]; simp; omega]
    exact g2
theorem six_ex {l : List Int} (h : l.length = 6) : [l.getD 0 0, l.getD 1 0, l.getD 2 0, l.getD 3 0, l.getD 4 0, l.getD 5 0] = l := by
  match l, h with
  | [a, b, c, d, e, f], _ => rfl
theorem Rd.hdr_put {l : Ly} (h : ∀ n ∈ l.hd, I64 n) (r : List UInt8) : Rd.hdr ⟨numsB l.hd ++ r, 0⟩ = (⟨l.i, l.k, l.d, l.o, l.e, l.w, l.h, [], [], 0, 0, 0, 0, 0, 0, false, 0, []⟩, ⟨r, 0⟩) := by
  unfold Rd.hdr
  simp only [Ly.hd, numsB_cons, List.append_assoc] at h ⊢
  simp only [List.mem_cons, List.not_mem_nil, or_false, forall_eq_or_imp, forall_eq] at h
  obtain ⟨h1, h2, _, h4, h5, h6, h7⟩ := h
  rw [Rd.num_put h1]; dsimp only
  rw [Rd.num_put h2]; dsimp only
  rw [Rd.flag_put]; dsimp only
  rw [Rd.num_put h4]; dsimp only
  rw [Rd.num_put h5]; dsimp only
  rw [Rd.num_put h6]; dsimp only
  rw [Rd.num_put h7]
  rfl
theorem Rd.hdr_was {s : Rd} (h : s.hdr.2.e = 0) : s.e = 0 ∧ s.l = numsB s.hdr.1.hd ++ s.hdr.2.l ∧ ∀ n ∈ s.hdr.1.hd, I64 n := by
  unfold Rd.hdr at h ⊢
  dsimp only at h ⊢
  obtain ⟨a1, a2, a3⟩ := Rd.num_was h
  obtain ⟨b1, b2, b3⟩ := Rd.num_was a1
  obtain ⟨c1, c2, c3⟩ := Rd.num_was b1
  obtain ⟨d1, d2, d3⟩ := Rd.num_was c1
  obtain ⟨e1, e2⟩ := Rd.flag_was d1
  obtain ⟨f1, f2, f3⟩ := Rd.num_was e1
  obtain ⟨g1, g2, g3⟩ := Rd.num_was f1
  refine ⟨g1, ?_, ?_⟩
  · simp only [Ly.hd, numsB_cons, List.append_assoc]
    rw [show numsB [] = [] from rfl, List.nil_append, ← a2, ← b2, ← c2, ← d2, ← e2, ← f2, ← g2]
  · simp only [Ly.hd, List.mem_cons, List.not_mem_nil, or_false, forall_eq_or_imp, forall_eq]
    exact ⟨g3, f3, by unfold fl I64; split <;> omega, d3, c3, b3, a3⟩
variable {N : Nat}
theorem Rd.lyr_put (hN : N ≤ 1000000000) {l : Ly} (h : l.wf N) (r : List UInt8) : Rd.lyr ⟨l.put ++ r, 0⟩ = (l, ⟨r, 0⟩) := by
  unfold Rd.lyr Ly.put
  dsimp only
  rw [List.append_assoc, Rd.hdr_put h.hd]
  dsimp only
  rw [List.append_assoc, Rd.nums_put2 (Nat.le_trans h.Pl hN) h.P]
  dsimp only
  rw [List.append_assoc, Rd.size_put2 (Nat.le_trans h.Ml hN) (by rw [List.append_assoc, List.length_append]; omega)]
  dsimp only [Rd.skip]
  rw [List.append_assoc, List.drop_left, List.take_left]
  have f6 := Rd.fix_put l.mp (numsB [fl l.s, l.t] ++ (lstB l.Q ++ r)) h.mp
  rw [show l.mp.length = 6 from rfl] at f6
  simp only [List.append_assoc] at f6 ⊢
  rw [f6]
  dsimp only
  rw [numsB_cons, List.append_assoc, Rd.flag_put]
  dsimp only
  rw [numsB_cons, List.append_assoc, Rd.num_put h.t]
  dsimp only
  rw [show numsB [] = [] from rfl, List.nil_append, Rd.nums_put2 (Nat.le_trans h.Ql hN) h.Q]
  rfl
theorem Rd.lyr_was {s : Rd} (h : s.lyr.2.e = 0) (hb : s.l.length ≤ N) : s.e = 0 ∧ s.l = s.lyr.1.put ++ s.lyr.2.l ∧ s.lyr.1.wf N := by
  unfold Rd.lyr at h ⊢
  dsimp only at h ⊢
  obtain ⟨a1, a2, a3, a4⟩ := Rd.nums_was h
  obtain ⟨b1, b2, b3⟩ := Rd.num_was a1
  obtain ⟨c1, c2⟩ := Rd.flag_was b1
  obtain ⟨d1, d2, d3, d4⟩ := Rd.fix_was _ _ c1
  obtain ⟨e1, e2, e3⟩ := Rd.size_was d1
  obtain ⟨f1, f2, f3, f4⟩ := Rd.nums_was e1
  obtain ⟨g1, g2, g3⟩ := Rd.hdr_was f1
  have l2 := congrArg List.length a2
  have l3 := congrArg List.length b2
  have l4 := congrArg List.length c2
  have l5 := congrArg List.length d2
  have l6 := congrArg List.length e2
  have l7 := congrArg List.length f2
  have l8 := congrArg List.length g2
  rw [List.length_append] at l2 l3 l4 l5 l6 l7 l8
  have ls : (s.hdr.2.nums.2.size.2.skip s.hdr.2.nums.2.size.1).l.length ≤ s.hdr.2.nums.2.size.2.l.length := by
    unfold Rd.skip; dsimp only; rw [List.length_drop]; omega
  have hta : s.hdr.2.nums.2.size.2.l = s.hdr.2.nums.2.size.2.l.take s.hdr.2.nums.2.size.1 ++ (s.hdr.2.nums.2.size.2.skip s.hdr.2.nums.2.size.1).l := by
    unfold Rd.skip; dsimp only; rw [List.take_append_drop]
  have htl : (s.hdr.2.nums.2.size.2.l.take s.hdr.2.nums.2.size.1).length = s.hdr.2.nums.2.size.1 := by rw [List.length_take]; omega
  refine ⟨g1, ?_, ?_⟩
  · unfold Ly.put
    dsimp only
    rw [htl]
    simp only [Ly.mp]
    rw [six_ex d4]
    simp only [numsB_cons, List.append_assoc, show numsB [] = [] from rfl, List.nil_append]
    rw [← a2, ← b2, ← c2, ← d2, ← hta, ← e2, ← f2]
    simp only [Ly.hd, numsB_cons, List.append_assoc, show numsB [] = [] from rfl, List.nil_append] at g2
    exact g2
  · refine ⟨g3, f3, ?_, b3, a3, ?_, ?_, ?_⟩
    · dsimp only [Ly.mp]; rw [six_ex d4]; exact d3
    all_goals dsimp only
    · omega
    · rw [htl]; omega
    · omega
theorem length_lyr (l : Ly) : 0 < l.put.length := by
  unfold Ly.put
  rw [numsB_cons]
  have := length_numB l.i
  simp only [List.length_append]; omega
theorem Fo.len_body : ∀ F : Fo, F.len ≤ F.body.length
  | .nil => Nat.le_refl _
  | .cons l k r => by
    have := Fo.len_body r
    have := length_lyr l
    simp only [Fo.len, Fo.body, List.length_append]; omega
theorem Rd.layN_put (hN : N ≤ 1000000000) {d : Nat} (ih : ∀ (F : Fo) (r : List UInt8), F.dep ≤ d → F.wf N → F.len ≤ N → Rd.lay d ⟨F.put ++ r, 0⟩ = (F, ⟨r, 0⟩)) :
    ∀ (F : Fo) (r : List UInt8), F.dep ≤ d + 1 → F.wf N → Rd.layN (Rd.lay d) F.len ⟨F.body ++ r, 0⟩ = (F, ⟨r, 0⟩)
  | .nil, r, _, _ => rfl
  | .cons l k q, r, hd, ⟨h1, h2, h3, h4⟩ => by
    have hd' : max (k.dep + 1) q.dep ≤ d + 1 := hd
    rw [Fo.body, Fo.len, Rd.layN, if_neg (by simp), List.append_assoc, Rd.lyr_put hN h1]
    dsimp only
    have e : (numB (k.len : Int) ++ (k.body ++ q.body)) ++ r = k.put ++ (q.body ++ r) := by unfold Fo.put; simp only [List.append_assoc]
    rw [e, ih k _ (by omega) h3 h2]
    dsimp only
    rw [Rd.layN_put hN ih q r (by omega) h4]
theorem Rd.lay_put (hN : N ≤ 1000000000) : ∀ (d : Nat) (F : Fo) (r : List UInt8), F.dep ≤ d → F.wf N → F.len ≤ N → Rd.lay d ⟨F.put ++ r, 0⟩ = (F, ⟨r, 0⟩)
  | 0, .nil, r, _, _, _ => by
    rw [Rd.lay, show Fo.put .nil ++ r = numB ((0 : Nat) : Int) ++ r by simp [Fo.put, Fo.body, Fo.len], Rd.size_put2 (by decide) (Nat.zero_le _)]
    rfl
  | 0, .cons l k q, r, hd, _, _ => by
    have hd' : max (k.dep + 1) q.dep ≤ 0 := hd
    omega
  | d + 1, F, r, hd, hw, hl => by
    rw [Rd.lay, Fo.put, List.append_assoc, Rd.size_put2 (Nat.le_trans hl hN) (by have := Fo.len_body F; rw [List.length_append]; omega)]
    exact Rd.layN_put hN (Rd.lay_put hN d) F r hd hw
theorem Rd.layN_was {d : Nat} (ih : ∀ s : Rd, (Rd.lay d s).2.e = 0 → s.l.length ≤ N → s.e = 0 ∧ s.l = (Rd.lay d s).1.put ++ (Rd.lay d s).2.l ∧ (Rd.lay d s).1.wf N ∧ (Rd.lay d s).1.len ≤ N ∧ (Rd.lay d s).1.dep ≤ d) :
    ∀ (n : Nat) (s : Rd), (Rd.layN (Rd.lay d) n s).2.e = 0 → s.l.length ≤ N → s.e = 0 ∧ s.l = (Rd.layN (Rd.lay d) n s).1.body ++ (Rd.layN (Rd.lay d) n s).2.l ∧ (Rd.layN (Rd.lay d) n s).1.wf N ∧ (Rd.layN (Rd.lay d) n s).1.len = n ∧ (Rd.layN (Rd.lay d) n s).1.dep ≤ d + 1
  | 0, s, h, _ => ⟨h, rfl, trivial, rfl, Nat.zero_le _⟩
  | n + 1, s, h, hb => by
    by_cases h0 : s.e ≠ 0
    · rw [Rd.layN, if_pos h0] at h; exact absurd h h0
    rw [Rd.layN, if_neg h0] at h ⊢
    dsimp only at h ⊢
    have hl1 := Rd.lay_len d s.lyr.2
    have hl2 := s.lyr_len
    have k0 := (Rd.layN_was ih n _ h (by omega)).1
    obtain ⟨a1, a2, a3, a4, a5⟩ := ih s.lyr.2 k0 (by omega)
    obtain ⟨b1, b2, b3⟩ := Rd.lyr_was a1 hb
    obtain ⟨c1, c2, c3, c4, c5⟩ := Rd.layN_was ih n _ h (by omega)
    refine ⟨b1, ?_, ⟨b3, a4, a3, c3⟩, by rw [Fo.len, c4], by rw [Fo.dep]; omega⟩
    rw [Fo.body, b2]
    rw [a2, c2]
    simp only [Fo.put, List.append_assoc]
theorem Rd.lay_was : ∀ (d : Nat) (s : Rd), (Rd.lay d s).2.e = 0 → s.l.length ≤ N → s.e = 0 ∧ s.l = (Rd.lay d s).1.put ++ (Rd.lay d s).2.l ∧ (Rd.lay d s).1.wf N ∧ (Rd.lay d s).1.len ≤ N ∧ (Rd.lay d s).1.dep ≤ d
  | 0, s, h, hb => by
    rw [Rd.lay] at h ⊢
    by_cases h0 : 0 < s.size.1
    · rw [if_pos h0] at h
      unfold Rd.fail at h
      dsimp only at h
      split at h
      · cases h
      · rename_i h1; exact absurd h h1
    · rw [if_neg h0] at h ⊢
      obtain ⟨g1, g2, g3⟩ := Rd.size_was h
      refine ⟨g1, ?_, trivial, by simp [Fo.len], Nat.le_refl _⟩
      rw [show s.size.1 = 0 by omega] at g2
      simpa [Fo.put, Fo.body, Fo.len] using g2
  | d + 1, s, h, hb => by
    rw [Rd.lay] at h ⊢
    have hl := s.size_len
    obtain ⟨a1, a2, a3, a4, a5⟩ := Rd.layN_was (N := N) (Rd.lay_was d) _ _ h (by omega)
    obtain ⟨g1, g2, g3⟩ := Rd.size_was a1
    refine ⟨g1, ?_, a3, by omega, a5⟩
    rw [Fo.put, a4, List.append_assoc, ← a2]
    exact g2
theorem Fo.put_inj (hN : N ≤ 1000000000) {F G : Fo} (hF : F.wf N) (hG : G.wf N) (lF : F.len ≤ N) (lG : G.len ≤ N) {r q : List UInt8} (h : F.put ++ r = G.put ++ q) : F = G ∧ r = q := by
  have a := Rd.lay_put hN (max F.dep G.dep) F r (by omega) hF lF
  have b := Rd.lay_put hN (max F.dep G.dep) G q (by omega) hG lG
  rw [h, b] at a
  obtain ⟨h1, h2⟩ := Prod.mk.inj a
  exact ⟨h1.symm, (Rd.mk.inj h2).1.symm⟩
theorem Dc.put_inj (hN : N ≤ 1000000000) {D E : Dc} (hD : D.wf N) (hE : E.wf N) {r q : List UInt8} (h : D.put ++ r = E.put ++ q) : D = E ∧ r = q := by
  have a := Rd.fix_put [D.w, D.h, D.n] (D.F.put ++ r) hD.n
  have b := Rd.fix_put [E.w, E.h, E.n] (E.F.put ++ q) hE.n
  have e : numsB [D.w, D.h, D.n] ++ (D.F.put ++ r) = numsB [E.w, E.h, E.n] ++ (E.F.put ++ q) := by
    unfold Dc.put at h
    simpa only [List.append_assoc] using h
  rw [e] at a
  rw [show ([D.w, D.h, D.n] : List Int).length = ([E.w, E.h, E.n] : List Int).length from rfl] at a
  rw [b] at a
  obtain ⟨h1, h2⟩ := Prod.mk.inj a
  obtain ⟨h3, h4⟩ := Fo.put_inj hN hE.F hD.F hE.l hD.l (Rd.mk.inj h2).1
  refine ⟨?_, h4.symm⟩
  obtain ⟨w1, h1', n1, F1⟩ := D
  obtain ⟨w2, h2', n2, F2⟩ := E
  simp only [List.cons.injEq, and_true] at h1
  dsimp only at h1 h3
  rw [h1.1, h1.2.1, h1.2.2, h3]
theorem docs_inj (hN : N ≤ 1000000000) : ∀ {l m : List Dc}, (∀ d ∈ l, d.wf N) → (∀ d ∈ m, d.wf N) → l.length = m.length → ∀ {r q : List UInt8}, docsB l ++ r = docsB m ++ q → l = m ∧ r = q
  | [], [], _, _, _, r, q, h => ⟨rfl, h⟩
  | [], _ :: _, _, _, hl, _, _, _ => by simp at hl
  | _ :: _, [], _, _, hl, _, _, _ => by simp at hl
  | x :: l, y :: m, h1, h2, hl, r, q, h => by
    have h' : x.put ++ (docsB l ++ r) = y.put ++ (docsB m ++ q) := by
      unfold docsB at h ⊢
      simpa only [List.flatMap_cons, List.append_assoc] using h
    obtain ⟨rfl, h3⟩ := Dc.put_inj hN (h1 x (by simp)) (h2 y (by simp)) h'
    obtain ⟨rfl, h4⟩ := docs_inj hN (fun d hd => h1 d (by simp [hd])) (fun d hd => h2 d (by simp [hd])) (by simpa using hl) h3
    exact ⟨rfl, h4⟩
theorem nat_inj (hN : N ≤ 1000000000) {n m : Nat} (hn : n ≤ N) (hm : m ≤ N) {r q : List UInt8} (h : numB (n : Int) ++ r = numB (m : Int) ++ q) : n = m ∧ r = q := by
  have a := Rd.num_put (n := (n : Int)) ⟨by omega, by omega⟩ r
  rw [h, Rd.num_put (n := (m : Int)) ⟨by omega, by omega⟩ q] at a
  obtain ⟨h1, h2⟩ := Prod.mk.inj a
  exact ⟨by omega, (Rd.mk.inj h2).1.symm⟩
theorem Stt.put_inj (hN : N ≤ 1000000000) {S T : Stt} (hS : S.wf N) (hT : T.wf N) (h : S.put = T.put) : S = T := by
  unfold Stt.put at h
  obtain ⟨h1, h⟩ := Dc.put_inj hN hS.D hT.D h
  obtain ⟨h2, h⟩ := nat_inj hN hS.Al hT.Al h
  obtain ⟨h3, h⟩ := docs_inj hN hS.A hT.A h2 h
  obtain ⟨h4, h⟩ := nat_inj hN hS.Bl hT.Bl h
  obtain ⟨h5, _⟩ := docs_inj hN hS.B hT.B h4 (r := []) (q := []) (by simpa using h)
  obtain ⟨D, A, B⟩ := S
  obtain ⟨E, A', B'⟩ := T
  dsimp only at h1 h3 h5
  rw [h1, h3, h5]
theorem Rd.doc_len (s : Rd) : s.doc.2.l.length ≤ s.l.length := by
  unfold Rd.doc
  dsimp only
  have a1 := s.num_len
  have a2 := s.num.2.num_len
  have a3 := s.num.2.num.2.num_len
  have a4 := Rd.lay_len 64 s.num.2.num.2.num.2
  omega
theorem Rd.doc_was {s : Rd} (h : s.doc.2.e = 0) (hb : s.l.length ≤ N) : s.e = 0 ∧ s.l = s.doc.1.put ++ s.doc.2.l ∧ s.doc.1.wf N ∧ s.doc.1.F.dep ≤ 64 := by
  unfold Rd.doc at h ⊢
  dsimp only at h ⊢
  have l1 := s.num_len
  have l2 := s.num.2.num_len
  have l3 := s.num.2.num.2.num_len
  obtain ⟨a1, a2, a3, a4, a5⟩ := Rd.lay_was (N := N) _ _ h (by omega)
  obtain ⟨b1, b2, b3⟩ := Rd.num_was a1
  obtain ⟨c1, c2, c3⟩ := Rd.num_was b1
  obtain ⟨d1, d2, d3⟩ := Rd.num_was c1
  refine ⟨d1, ?_, ⟨?_, a3, a4⟩, a5⟩
  · unfold Dc.put
    dsimp only
    simp only [numsB_cons, List.append_assoc]
    rw [show numsB [] = [] from rfl, List.nil_append, ← a2, ← b2, ← c2]
    exact d2
  · simp only [List.mem_cons, List.not_mem_nil, or_false, forall_eq_or_imp, forall_eq]
    exact ⟨d3, c3, b3⟩
theorem Rd.docsP_len : ∀ (k : Nat) (s : Rd), (Rd.docsP k s).2.l.length ≤ s.l.length
  | 0, s => Nat.le_refl _
  | k + 1, s => by
    rw [Rd.docsP]
    split
    · exact Nat.le_refl _
    · have := Rd.docsP_len k s.doc.2
      have := s.doc_len
      dsimp only; omega
theorem Rd.docsP_was : ∀ (k : Nat) (s : Rd), (Rd.docsP k s).2.e = 0 → s.l.length ≤ N → s.e = 0 ∧ s.l = docsB (Rd.docsP k s).1 ++ (Rd.docsP k s).2.l ∧ (∀ d ∈ (Rd.docsP k s).1, d.wf N ∧ d.F.dep ≤ 64) ∧ (Rd.docsP k s).1.length = k
  | 0, s, h, _ => ⟨h, rfl, by simp [Rd.docsP], rfl⟩
  | k + 1, s, h, hb => by
    by_cases h0 : s.e ≠ 0
    · rw [Rd.docsP, if_pos h0] at h; exact absurd h h0
    rw [Rd.docsP, if_neg h0] at h ⊢
    dsimp only at h ⊢
    have hl := s.doc_len
    obtain ⟨a1, a2, a3, a4⟩ := Rd.docsP_was k _ h (by omega)
    obtain ⟨b1, b2, b3, b4⟩ := Rd.doc_was (N := N) a1 hb
    refine ⟨b1, ?_, ?_, by rw [List.length_cons, a4]⟩
    · show s.l = (s.doc.1.put ++ docsB _) ++ _
      rw [List.append_assoc, ← a2]; exact b2
    · intro d hd
      rcases List.mem_cons.1 hd with rfl | hd
      · exact ⟨b3, b4⟩
      · exact a3 d hd
theorem Rd.docs_len (s : Rd) : s.docs.2.l.length ≤ s.l.length := by
  unfold Rd.docs
  have := Rd.docsP_len s.size.1 s.size.2
  have := s.size_len
  omega
theorem Rd.docs_was {s : Rd} (h : s.docs.2.e = 0) (hb : s.l.length ≤ N) : s.e = 0 ∧ s.l = numB (s.docs.1.length : Int) ++ (docsB s.docs.1 ++ s.docs.2.l) ∧ (∀ d ∈ s.docs.1, d.wf N ∧ d.F.dep ≤ 64) ∧ s.docs.1.length ≤ N := by
  unfold Rd.docs at h ⊢
  have hl := s.size_len
  obtain ⟨a1, a2, a3, a4⟩ := Rd.docsP_was (N := N) _ _ h (by omega)
  obtain ⟨g1, g2, g3⟩ := Rd.size_was a1
  refine ⟨g1, ?_, a3, by omega⟩
  rw [a4, ← a2]
  exact g2
theorem getSR_was {b : List UInt8} (h : (getSR b).2.e = 0) (hb : b.length ≤ N) : b = (getSR b).1.put ++ (getSR b).2.l ∧ (getSR b).1.wf N ∧ ∀ d ∈ (getSR b).1.D :: ((getSR b).1.A ++ (getSR b).1.B), d.F.dep ≤ 64 := by
  unfold getSR at h ⊢
  dsimp only at h ⊢
  have l1 := (Rd.mk b 0).doc_len
  have l2 := (Rd.mk b 0).doc.2.docs_len
  dsimp only at l1
  obtain ⟨a1, a2, a3, a4⟩ := Rd.docs_was (N := N) h (by omega)
  obtain ⟨b1, b2, b3, b4⟩ := Rd.docs_was (N := N) a1 (by omega)
  obtain ⟨c1, c2, c3, c4⟩ := Rd.doc_was (N := N) b1 hb
  refine ⟨?_, ⟨c3, fun d hd => (b3 d hd).1, fun d hd => (a3 d hd).1, b4, a4⟩, ?_⟩
  · unfold Stt.put
    dsimp only
    simp only [List.append_assoc]
    rw [← a2, ← b2]
    exact c2
  · intro d hd
    simp only [List.mem_cons, List.mem_append] at hd
    rcases hd with rfl | hd | hd
    · exact c4
    · exact (b3 d hd).2
    · exact (a3 d hd).2
attribute [irreducible] Rd.lyr Rd.flag Rd.hdr Rd.doc Rd.docs Rd.lay
end Go.Proofs.Ytoobhebbgbhahaa
namespace Go.Proofs.Ytoobhebbgbhahaa
structure Rl where
  t : Int
  l : Ly
def Fo.flat : Fo → Int → List Rl
  | .nil, _ => []
  | .cons l k r, t => ⟨t, l⟩ :: (k.flat l.i ++ r.flat t)
def Fo.ids : Fo → List Int
  | .nil => []
  | .cons l k r => l.i :: (k.ids ++ r.ids)
def Fo.tops : Fo → List Ly
  | .nil => []
  | .cons l _ r => l :: r.tops
theorem Fo.tops_len : ∀ F : Fo, F.tops.length = F.len
  | .nil => rfl
  | .cons _ _ r => by rw [Fo.tops, List.length_cons, r.tops_len]; rfl
theorem Fo.flat_ids : ∀ (F : Fo) (t : Int), (F.flat t).map (fun x => x.l.i) = F.ids
  | .nil, _ => rfl
  | .cons l k r, t => by rw [Fo.flat, Fo.ids, List.map_cons, List.map_append, k.flat_ids, r.flat_ids]
theorem Fo.flat_len : ∀ (F : Fo) (t : Int), (F.flat t).length = F.cnt
  | .nil, _ => rfl
  | .cons l k r, t => by rw [Fo.flat, Fo.cnt, List.length_cons, List.length_append, k.flat_len, r.flat_len]
theorem Fo.len_cnt : ∀ F : Fo, F.len ≤ F.cnt
  | .nil => Nat.le_refl _
  | .cons _ k r => by have := r.len_cnt; rw [Fo.len, Fo.cnt]; omega
theorem Fo.flat_t : ∀ (F : Fo) (t : Int), ∀ x ∈ F.flat t, x.t = t ∨ x.t ∈ F.ids
  | .nil, _, x, h => by cases h
  | .cons l k r, t, x, h => by
    rw [Fo.flat] at h
    rw [Fo.ids]
    simp only [List.mem_cons, List.mem_append] at h ⊢
    rcases h with rfl | h | h
    · exact .inl rfl
    · rcases k.flat_t _ x h with h | h
      · exact .inr (.inl h)
      · exact .inr (.inr (.inl h))
    · rcases r.flat_t _ x h with h | h
      · exact .inl h
      · exact .inr (.inr (.inr h))
/-- Those of one group. -/
def kidsL (L : List Rl) (t : Int) : List Ly := (L.filter fun x => x.t == t).map Rl.l
theorem kidsL_append (L M : List Rl) (t : Int) : kidsL (L ++ M) t = kidsL L t ++ kidsL M t := by unfold kidsL; rw [List.filter_append, List.map_append]
theorem kidsL_none {L : List Rl} {t : Int} (h : ∀ x ∈ L, x.t ≠ t) : kidsL L t = [] := by
  unfold kidsL
  rw [List.filter_eq_nil_iff.2 fun x hx => by simpa using h x hx]
  rfl
theorem kidsL_cons (x : Rl) (L : List Rl) (t : Int) : kidsL (x :: L) t = (if x.t = t then [x.l] else []) ++ kidsL L t := by
  unfold kidsL
  by_cases h : x.t = t
  · simp [h]
  · simp [h]
theorem kidsL_tops : ∀ (F : Fo) (t : Int), t ∉ F.ids → kidsL (F.flat t) t = F.tops
  | .nil, _, _ => rfl
  | .cons l k r, t, h => by
    rw [Fo.ids] at h
    simp only [List.mem_cons, List.mem_append, not_or] at h
    rw [Fo.flat, kidsL_cons, kidsL_append, if_pos rfl, kidsL_none (L := k.flat l.i), kidsL_tops r t h.2.2]
    · rfl
    · intro x hx e
      rcases k.flat_t _ x hx with h1 | h1
      · exact h.1 (by rw [← e, h1])
      · exact h.2.1 (e ▸ h1)
/-- The list tells the groups. -/
def KdA (L : List Rl) : Fo → Prop
  | .nil => True
  | .cons l k r => kidsL L l.i = k.tops ∧ KdA L k ∧ KdA L r
theorem kdA_of : ∀ (F : Fo) (t : Int) (A B : List Rl), F.ids.Nodup → t ∉ F.ids → (∀ x ∈ A, x.t ∉ F.ids) → (∀ x ∈ B, x.t ∉ F.ids) → KdA (A ++ (F.flat t ++ B)) F
  | .nil, _, _, _, _, _, _, _ => trivial
  | .cons l k r, t, A, B, hn, ht, hA, hB => by
    rw [Fo.ids] at hn ht hA hB
    simp only [List.nodup_cons, List.mem_append, not_or, List.nodup_append, List.mem_cons] at hn ht hA hB
    obtain ⟨⟨n1, n2⟩, n3, n4, n5⟩ := hn
    have e1 : A ++ ((Fo.cons l k r).flat t ++ B) = (A ++ [⟨t, l⟩]) ++ (k.flat l.i ++ (r.flat t ++ B)) := by simp [Fo.flat]
    have e2 : A ++ ((Fo.cons l k r).flat t ++ B) = (A ++ ⟨t, l⟩ :: k.flat l.i) ++ (r.flat t ++ B) := by simp [Fo.flat]
    refine ⟨?_, ?_, ?_⟩
    · rw [e1, kidsL_append, kidsL_append, kidsL_append, kidsL_append, kidsL_tops k _ n1]
      have q1 : kidsL [(⟨t, l⟩ : Rl)] l.i = [] := kidsL_none fun x hx => by
        obtain rfl : x = ⟨t, l⟩ := by simpa using hx
        exact ht.1
      have q2 : kidsL (r.flat t) l.i = [] := kidsL_none fun x hx e => by
        rcases r.flat_t _ x hx with h1 | h1
        · exact ht.1 (by rw [← e, h1])
        · exact n2 (e ▸ h1)
      rw [kidsL_none (L := A) fun x hx => (hA x hx).1, kidsL_none (L := B) fun x hx => (hB x hx).1, q1, q2]
      simp
    · rw [e1]
      refine kdA_of k _ _ _ n3 n1 (fun x hx => ?_) (fun x hx => ?_)
      · rcases List.mem_append.1 hx with hx | hx
        · exact (hA x hx).2.1
        · obtain rfl : x = ⟨t, l⟩ := by simpa using hx
          exact ht.2.1
      · rcases List.mem_append.1 hx with hx | hx
        · rcases r.flat_t _ x hx with h1 | h1
          · rw [h1]; exact ht.2.1
          · exact fun h => n5 _ h _ h1 rfl
        · exact (hB x hx).2.1
    · rw [e2]
      refine kdA_of r _ _ _ n4 ht.2.2 (fun x hx => ?_) (fun x hx => (hB x hx).2.2)
      rcases List.mem_append.1 hx with hx | hx
      · exact (hA x hx).2.2
      · rcases List.mem_cons.1 hx with rfl | hx
        · exact ht.2.2
        · rcases k.flat_t _ x hx with h1 | h1
          · rw [h1]; exact n2
          · exact fun h => n5 _ h1 _ h rfl
theorem kd_flat {F : Fo} (hn : F.ids.Nodup) (h0 : (0 : Int) ∉ F.ids) : kidsL (F.flat 0) 0 = F.tops ∧ KdA (F.flat 0) F := by
  refine ⟨kidsL_tops F 0 h0, ?_⟩
  have := kdA_of F 0 [] [] hn h0 (fun x h => by cases h) (fun x h => by cases h)
  simpa using this
/-- How deep a number stands. -/
inductive Up (L : List Rl) : Int → Nat → Prop
  | root : Up L 0 0
  | up {x : Rl} {n : Nat} (hx : x ∈ L) (h0 : x.l.i ≠ 0) (h : Up L x.t n) : Up L x.l.i (n + 1)
theorem up_flat (L : List Rl) : ∀ (F : Fo) (t : Int) (n : Nat), (∀ x ∈ F.flat t, x ∈ L) → (0 : Int) ∉ F.ids → Up L t n → ∀ x ∈ F.flat t, ∃ m, m ≤ n + F.dep ∧ Up L x.l.i m
  | .nil, _, _, _, _, _, x, h => by cases h
  | .cons l k r, t, n, hL, h0, hu, x, hx => by
    rw [Fo.ids] at h0
    simp only [List.mem_cons, List.mem_append, not_or] at h0
    have hd : (Fo.cons l k r).dep = max (k.dep + 1) r.dep := rfl
    have hl : (⟨t, l⟩ : Rl) ∈ L := hL _ (by rw [Fo.flat]; simp)
    have ul : Up L l.i (n + 1) := Up.up (x := ⟨t, l⟩) hl (fun h => h0.1 h.symm) hu
    rw [Fo.flat] at hx
    simp only [List.mem_cons, List.mem_append] at hx
    rcases hx with rfl | hx | hx
    · exact ⟨n + 1, by omega, ul⟩
    · obtain ⟨m, h1, h2⟩ := up_flat L k l.i (n + 1) (fun y hy => hL y (by rw [Fo.flat]; simp [hy])) h0.2.1 ul x hx
      exact ⟨m, by omega, h2⟩
    · obtain ⟨m, h1, h2⟩ := up_flat L r t n (fun y hy => hL y (by rw [Fo.flat]; simp [hy])) h0.2.2 hu x hx
      exact ⟨m, by omega, h2⟩
/-- Where a number stands first. -/
def findL (L : List Rl) (u : Int) : Option Nat := L.findIdx? fun x => x.l.i == u
end Go.Proofs.Ytoobhebbgbhahaa
namespace Go.Proofs.Ytoobhebbgbhahaa
open Go.RowKit
/-- A layer's cells. -/
abbrev lyC (l : Ly) (pv mv qv kv : Value) : List Value := [.int .i64 l.i, .int .i64 l.k, .bool l.d, .int .i64 l.o, .int .i64 l.e, .int .i64 l.w, .int .i64 l.h, pv, mv, .int .i64 l.a0, .int .i64 l.a1, .int .i64 l.a2, .int .i64 l.a3, .int .i64 l.a4, .int .i64 l.a5, .bool l.s, .int .i64 l.t, qv, kv]
/-- The same of the document's. -/
abbrev rlC (t : Int) (l : Ly) (pv mv qv : Value) : List Value := [.int .i64 l.i, .int .i64 l.k, .int .i64 t, .bool l.d, .int .i64 l.o, .int .i64 l.e, .int .i64 l.w, .int .i64 l.h, pv, mv, .int .i64 l.a0, .int .i64 l.a1, .int .i64 l.a2, .int .i64 l.a3, .int .i64 l.a4, .int .i64 l.a5, .bool l.s, .int .i64 l.t, qv]
/-- Cells that are read: so many things of so many cells. -/
structure CsR (w0 : World) (B : Nat) (H : List Ent) (a : Option Addr) (n s : Nat) (C : List Value) : Prop where
  eq : C.length = n * s
  pos : 0 < n → ∃ bb off, a = some ⟨bb, off, none⟩
  rd : Rds w0 B H a C
/-- A layer's pixels, mask and params are read. -/
structure LyR (w0 : World) (B : Nat) (H : List Ent) (l : Ly) (pv mv qv : Value) : Prop where
  P : ∃ a c, pv = .slice a l.P.length c ∧ NumR w0 B H a l.P.length l.P
  M : ∃ a c, mv = .slice a l.M.length c ∧ BytR w0 B H a l.M.length c l.M
  Q : ∃ a c, qv = .slice a l.Q.length c ∧ NumR w0 B H a l.Q.length l.Q
def FoC (w0 : World) (B : Nat) (H : List Ent) : Fo → List Value → Prop
  | .nil, C => C = []
  | .cons l k r, C => ∃ pv mv qv a c K C', C = lyC l pv mv qv (.slice a k.len c) ++ C' ∧ LyR w0 B H l pv mv qv ∧ CsR w0 B H a k.len 19 K ∧ FoC w0 B H k K ∧ FoC w0 B H r C'
def RlC (w0 : World) (B : Nat) (H : List Ent) : List Rl → List Value → Prop
  | [], C => C = []
  | x :: L, C => ∃ pv mv qv C', C = rlC x.t x.l pv mv qv ++ C' ∧ LyR w0 B H x.l pv mv qv ∧ RlC w0 B H L C'
section
variable {w0 : World} {B : Nat} {H H' : List Ent}
theorem CsR.imp {a : Option Addr} {n s : Nat} {C : List Value} (h : CsR w0 B H a n s C) (hi : Imp H' H) : CsR w0 B H' a n s C := ⟨h.eq, h.pos, h.rd.weak fun w hw => hi _ _ _ hw⟩
theorem CsR.own {e n s cap : Nat} {a : Option Addr} {F : List Ent} {C : List Value} (o : Own e s (.slice a n cap) n C F H) (h1 : ∀ u ∈ C, u.oneCell' = true) : CsR w0 B H a n s C :=
  ⟨o.len, fun h => by obtain ⟨g, c, e, _⟩ := o.posn h; cases e; exact ⟨_, _, rfl⟩, o.rds (c := ⟨Try.prog, 0, w0, B⟩) h1⟩
theorem CsR.nil {a : Option Addr} {s : Nat} : CsR w0 B H a 0 s [] := ⟨by simp, fun h => absurd h (by omega), ⟨by simp, fun _ => rfl, by simp⟩⟩
theorem LyR.imp {l : Ly} {pv mv qv : Value} (h : LyR w0 B H l pv mv qv) (hi : Imp H' H) : LyR w0 B H' l pv mv qv := by
  obtain ⟨⟨a, c, e, h1⟩, ⟨a2, c2, e2, h2⟩, ⟨a3, c3, e3, h3⟩⟩ := h
  exact ⟨⟨a, c, e, h1.imp hi⟩, ⟨a2, c2, e2, h2.imp hi⟩, ⟨a3, c3, e3, h3.imp hi⟩⟩
theorem FoC.imp : ∀ {F : Fo} {C : List Value}, FoC w0 B H F C → Imp H' H → FoC w0 B H' F C
  | .nil, _, h, _ => h
  | .cons _ _ _, _, ⟨pv, mv, qv, a, c, K, C', e, h1, h2, h3, h4⟩, hi => ⟨pv, mv, qv, a, c, K, C', e, h1.imp hi, h2.imp hi, h3.imp hi, h4.imp hi⟩
theorem RlC.imp : ∀ {L : List Rl} {C : List Value}, RlC w0 B H L C → Imp H' H → RlC w0 B H' L C
  | [], _, h, _ => h
  | _ :: _, _, ⟨pv, mv, qv, C', e, h1, h2⟩, hi => ⟨pv, mv, qv, C', e, h1.imp hi, h2.imp hi⟩
theorem FoC.len : ∀ {F : Fo} {C : List Value}, FoC w0 B H F C → C.length = F.len * 19
  | .nil, _, h => by cases h; rfl
  | .cons _ _ r, _, ⟨pv, mv, qv, a, c, K, C', e, h1, h2, h3, h4⟩ => by
    have := FoC.len h4
    rw [e, List.length_append, Fo.len]; simp; omega
theorem RlC.len : ∀ {L : List Rl} {C : List Value}, RlC w0 B H L C → C.length = L.length * 19
  | [], _, h => by cases h; rfl
  | _ :: _, _, ⟨pv, mv, qv, C', e, h1, h4⟩ => by
    have := RlC.len h4
    rw [e, List.length_append, List.length_cons]; simp; omega
theorem LyR.one {l : Ly} {pv mv qv : Value} (h : LyR w0 B H l pv mv qv) : pv.oneCell' = true ∧ mv.oneCell' = true ∧ qv.oneCell' = true := by
  obtain ⟨⟨a, c, rfl, h1⟩, ⟨a2, c2, rfl, h2⟩, ⟨a3, c3, rfl, h3⟩⟩ := h
  exact ⟨rfl, rfl, rfl⟩
theorem FoC.one : ∀ {F : Fo} {C : List Value}, FoC w0 B H F C → ∀ u ∈ C, u.oneCell' = true
  | .nil, _, h, u, hu => by cases h; cases hu
  | .cons _ _ _, _, ⟨pv, mv, qv, a, c, K, C', e, h1, h2, h3, h4⟩, u, hu => by
    obtain ⟨o1, o2, o3⟩ := h1.one
    rw [e, List.mem_append] at hu
    rcases hu with hu | hu
    · simp only [lyC, List.mem_cons, List.not_mem_nil, or_false] at hu
      rcases hu with rfl | rfl | rfl | rfl | rfl | rfl | rfl | rfl | rfl | rfl | rfl | rfl | rfl | rfl | rfl | rfl | rfl | rfl | rfl <;> first | rfl | assumption
    · exact FoC.one h4 u hu
theorem RlC.one : ∀ {L : List Rl} {C : List Value}, RlC w0 B H L C → ∀ u ∈ C, u.oneCell' = true
  | [], _, h, u, hu => by cases h; cases hu
  | _ :: _, _, ⟨pv, mv, qv, C', e, h1, h4⟩, u, hu => by
    obtain ⟨o1, o2, o3⟩ := h1.one
    rw [e, List.mem_append] at hu
    rcases hu with hu | hu
    · simp only [rlC, List.mem_cons, List.not_mem_nil, or_false] at hu
      rcases hu with rfl | rfl | rfl | rfl | rfl | rfl | rfl | rfl | rfl | rfl | rfl | rfl | rfl | rfl | rfl | rfl | rfl | rfl | rfl <;> first | rfl | assumption
    · exact RlC.one h4 u hu
/-- One of the list. -/
theorem RlC.at' : ∀ {L : List Rl} {C : List Value} {j : Nat}, RlC w0 B H L C → (hj : j < L.length) → ∃ pv mv qv, (C.drop (j * 19)).take 19 = rlC L[j].t L[j].l pv mv qv ∧ LyR w0 B H L[j].l pv mv qv
  | x :: L, _, 0, ⟨pv, mv, qv, C', e, h1, h4⟩, _ => by
    subst e
    exact ⟨pv, mv, qv, by simp, h1⟩
  | x :: L, _, j + 1, ⟨pv, mv, qv, C', e, h1, h4⟩, hj => by
    subst e
    obtain ⟨pv', mv', qv', h5, h6⟩ := RlC.at' (j := j) h4 (by simpa using hj)
    refine ⟨pv', mv', qv', ?_, h6⟩
    rw [List.getElem_cons_succ, ← h5, List.drop_append, show (j + 1) * 19 - (rlC x.t x.l pv mv qv).length = j * 19 by simp; omega, List.drop_of_length_le (by simp; omega)]
    rfl
theorem RlC.append : ∀ {L M : List Rl} {C D : List Value}, RlC w0 B H L C → RlC w0 B H M D → RlC w0 B H (L ++ M) (C ++ D)
  | [], _, _, _, h, h2 => by cases h; exact h2
  | x :: L, _, _, _, ⟨pv, mv, qv, C', e, h1, h4⟩, h2 => ⟨pv, mv, qv, _, by rw [e, List.append_assoc], h1, RlC.append h4 h2⟩
def Fo.app : Fo → Fo → Fo
  | .nil, G => G
  | .cons l k r, G => .cons l k (r.app G)
theorem Fo.app_len : ∀ F G : Fo, (F.app G).len = F.len + G.len
  | .nil, G => by simp [Fo.app, Fo.len]
  | .cons l k r, G => by rw [Fo.app, Fo.len, Fo.len, Fo.app_len r G]; omega
theorem Fo.app_nil : ∀ F : Fo, F.app .nil = F
  | .nil => rfl
  | .cons l k r => by rw [Fo.app, Fo.app_nil r]
theorem Fo.app_assoc : ∀ F G K : Fo, (F.app G).app K = F.app (G.app K)
  | .nil, _, _ => rfl
  | .cons l k r, G, K => by rw [Fo.app, Fo.app, Fo.app, Fo.app_assoc r G K]
theorem FoC.append : ∀ {F G : Fo} {C D : List Value}, FoC w0 B H F C → FoC w0 B H G D → FoC w0 B H (F.app G) (C ++ D)
  | .nil, _, _, _, h, h2 => by cases h; exact h2
  | .cons _ _ _, _, _, _, ⟨pv, mv, qv, a, c, K, C', e, h1, h2, h3, h4⟩, h5 => ⟨pv, mv, qv, a, c, K, _, by rw [e, List.append_assoc], h1, h2, h3, FoC.append h4 h5⟩
/-- Layers that are read, by the value that tells them. -/
def FoR (w0 : World) (B : Nat) (H : List Ent) (v : Value) (F : Fo) : Prop := ∃ a c C, v = .slice a F.len c ∧ CsR w0 B H a F.len 19 C ∧ FoC w0 B H F C
theorem FoR.imp {v : Value} {F : Fo} (h : FoR w0 B H v F) (hi : Imp H' H) : FoR w0 B H' v F := by
  obtain ⟨a, c, C, e, h1, h2⟩ := h
  exact ⟨a, c, C, e, h1.imp hi, h2.imp hi⟩
def RlR (w0 : World) (B : Nat) (H : List Ent) (v : Value) (L : List Rl) : Prop := ∃ a c C, v = .slice a L.length c ∧ CsR w0 B H a L.length 19 C ∧ RlC w0 B H L C
theorem RlR.imp {v : Value} {L : List Rl} (h : RlR w0 B H v L) (hi : Imp H' H) : RlR w0 B H' v L := by
  obtain ⟨a, c, C, e, h1, h2⟩ := h
  exact ⟨a, c, C, e, h1.imp hi, h2.imp hi⟩
end
theorem drop19 {C C' A : List Value} {j : Nat} (h : C.drop (j * 19) = A ++ C') (hA : A.length = 19) : (C.drop (j * 19)).take 19 = A ∧ C.drop ((j + 1) * 19) = C' := by
  constructor
  · rw [h, ← hA, List.take_left]
  · rw [show (j + 1) * 19 = j * 19 + 19 by omega, ← List.drop_drop, h, ← hA, List.drop_left]
end Go.Proofs.Ytoobhebbgbhahaa
namespace Go.Proofs.Ytoobhebbgbhahaa
open Go.RowKit
theorem Fo.dep_cnt : ∀ F : Fo, F.dep ≤ F.cnt
  | .nil => Nat.le_refl _
  | .cons _ k r => by have := k.dep_cnt; have := r.dep_cnt; rw [Fo.dep, Fo.cnt]; omega
section
variable {w0 : World} {B : Nat} {H R : List Ent} {g : Nat}
set_option maxHeartbeats 8000000
set_option maxRecDepth 100000
theorem tdepth_fn : ∀ (N : Nat) (F : Fo), F.cnt < N → ∀ {v : Value} {H : List Ent}, FoR w0 B H v F → F.cnt ≤ 1000000000 → Fn Try.prog w0 B 67 [v] H (fun u H' => u = .int .i64 (F.dep : Int) ∧ H' = H)
  | 0, F, h, _, _, _, _ => absurd h (by omega)
  | N + 1, F, hN, v, H, hF, hb => by
    obtain ⟨a, c, C, rfl, hC, hFo⟩ := hF
    have hlc := F.len_cnt
    refine fn_intro Try.func67 rfl (by kernel_rfl) rfl ?_
    repeat (first | refine go_ ?_ | refine bx_ (fun _ => ?_))
    refine hc_loopd (fun q fr M => ∃ (G : Fo) (j m : Nat) (D : List Value), j + G.len = F.len ∧ q = G.len ∧ C.drop (j * 19) = D ∧ FoC w0 B H G D ∧ max m G.dep = F.dep ∧ G.cnt ≤ F.cnt ∧ Imp M H ∧ Agr fr [(3, .int .i64 (m : Int)), (6, .slice a F.len c), (7, .int .i64 (F.len : Int)), (8, .int .i64 (j : Int))]) F.len ?_ ?_
    · exact ⟨F, 0, 0, C, by omega, rfl, by simp, hFo, by omega, Nat.le_refl _, Imp.refl _, rfl, rfl, rfl, rfl, trivial⟩
    rintro q fr M ⟨G, j, m, D, hj, rfl, hD, hG, hm, hc, hi, hf⟩
    obtain ⟨base, rfl⟩ := hf.out
    clear hf
    refine HC.imp ?_ hi
    have hdc := F.dep_cnt
    cases G with
    | nil =>
      rw [Fo.dep] at hm
      rw [Fo.len] at hj
      obtain rfl : m = F.dep := by omega
      repeat (first | refine go_ ?_ | refine bx_ (fun _ => ?_))
      exact fin1I rfl rfl ⟨rfl, rfl⟩
    | cons l k r =>
      rw [Fo.dep] at hm
      rw [Fo.len] at hj
      rw [Fo.cnt] at hc
      obtain ⟨pv, mv, qv, ka, kc, K, C', rfl, hl, hK, hk, hr⟩ := hG
      obtain ⟨⟨pa, pc, rfl, _⟩, ⟨ma, mc, rfl, _⟩, ⟨qa, qc, rfl, _⟩⟩ := hl
      obtain ⟨hcell, hnx⟩ := drop19 hD rfl
      obtain ⟨bb, off, rfl⟩ := hC.pos (by omega)
      have ih := fun (M : List Ent) (hi : Imp M H) => tdepth_fn N k (by omega) (FoR.imp ⟨ka, kc, K, rfl, hK, hk⟩ hi : FoR w0 B M (.slice ka k.len kc) k) (by omega)
      have hkd := k.dep_cnt
      repeat (first | refine hl_loadRN (l := C) rfl hC.rd (Imp.refl _) hcell rfl rfl ?_ | refine go1_ ?_ | refine bx_ (fun _ => ?_) | refine hl_callv rfl rfl (ih _ (Imp.drop (Imp.refl _))) ?_)
      refine ⟨r.len, by rw [Fo.len]; omega, _, Imp.drop (Imp.refl _), r, j + 1, max m (k.dep + 1), C', by omega, rfl, hnx, hr, by omega, by omega, Imp.refl _, ?_, rfl, rfl, rfl, trivial⟩
      exact congrArg (Value.int .i64) (by omega)
theorem tcount_fn : ∀ (N : Nat) (F : Fo), F.cnt < N → ∀ {v : Value} {H : List Ent}, FoR w0 B H v F → F.cnt ≤ 1000000000 → Fn Try.prog w0 B 68 [v] H (fun u H' => u = .int .i64 (F.cnt : Int) ∧ H' = H)
  | 0, F, h, _, _, _, _ => absurd h (by omega)
  | N + 1, F, hN, v, H, hF, hb => by
    obtain ⟨a, c, C, rfl, hC, hFo⟩ := hF
    have hlc := F.len_cnt
    refine fn_intro Try.func68 rfl (by kernel_rfl) rfl ?_
    repeat (first | refine go_ ?_ | refine bx_ (fun _ => ?_))
    refine hc_loopd (fun q fr M => ∃ (G : Fo) (j m : Nat) (D : List Value), j + G.len = F.len ∧ q = G.len ∧ C.drop (j * 19) = D ∧ FoC w0 B H G D ∧ m + G.cnt = F.cnt + G.len ∧ G.cnt ≤ F.cnt ∧ Imp M H ∧ Agr fr [(3, .int .i64 (m : Int)), (8, .slice a F.len c), (9, .int .i64 (F.len : Int)), (10, .int .i64 (j : Int))]) F.len ?_ ?_
    · exact ⟨F, 0, F.len, C, by omega, rfl, by simp, hFo, by omega, Nat.le_refl _, Imp.refl _, rfl, rfl, rfl, rfl, trivial⟩
    rintro q fr M ⟨G, j, m, D, hj, rfl, hD, hG, hm, hc, hi, hf⟩
    obtain ⟨base, rfl⟩ := hf.out
    clear hf
    refine HC.imp ?_ hi
    cases G with
    | nil =>
      rw [Fo.cnt, Fo.len] at hm
      rw [Fo.len] at hj
      obtain rfl : m = F.cnt := by omega
      repeat (first | refine go_ ?_ | refine bx_ (fun _ => ?_))
      exact fin1I rfl rfl ⟨rfl, rfl⟩
    | cons l k r =>
      rw [Fo.len] at hj
      rw [Fo.cnt, Fo.len] at hm
      rw [Fo.cnt] at hc
      obtain ⟨pv, mv, qv, ka, kc, K, C', rfl, hl, hK, hk, hr⟩ := hG
      obtain ⟨⟨pa, pc, rfl, _⟩, ⟨ma, mc, rfl, _⟩, ⟨qa, qc, rfl, _⟩⟩ := hl
      obtain ⟨hcell, hnx⟩ := drop19 hD rfl
      obtain ⟨bb, off, rfl⟩ := hC.pos (by omega)
      have hrl := r.len_cnt
      have ih := fun (M : List Ent) (hi : Imp M H) => tcount_fn N k (by omega) (FoR.imp ⟨ka, kc, K, rfl, hK, hk⟩ hi : FoR w0 B M (.slice ka k.len kc) k) (by omega)
      have hkc : k.cnt + m ≤ F.cnt := by omega
      repeat (first | refine hl_loadRN (l := C) rfl hC.rd (Imp.refl _) hcell rfl rfl ?_ | refine go1_ ?_ | refine bx_ (fun _ => ?_) | refine hl_callv rfl rfl (ih _ (Imp.drop (Imp.refl _))) ?_)
      refine ⟨r.len, by rw [Fo.len]; omega, _, Imp.drop (Imp.refl _), r, j + 1, m + k.cnt, C', by omega, rfl, hnx, hr, by omega, by omega, Imp.refl _, ?_, rfl, rfl, rfl, trivial⟩
      exact congrArg (Value.int .i64) (by omega)
end
end Go.Proofs.Ytoobhebbgbhahaa
