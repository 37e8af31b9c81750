/-
  Tokens and their bytes, plain; the bytes' contract. No condition.
-/
import Derived.Test.YtabaagelgfdkeaaTy
import Derived.Test.YtabaagelgfdkeaaL0
namespace Go.Proofs.Ytabaagelgfdkeaa
open Go.RowKit

theorem Row.of_rds {w0 : World} {B : Nat} {E : List Ent} {bb off : Nat} {b : List UInt8} (h : Rds w0 B E (some ⟨bb, off, none⟩) (b.map byteV)) : Row w0 B E bb off b.length .u8 (fun j => ((b.getD j 0).toNat : Int)) :=
  ⟨fun w hw j hj => by
    have := h.cell w hw _ rfl j (byteV b[j]) (by simp [hj])
    rw [Addr.add_lit] at this
    rw [this]
    simp [byteV, hj]⟩
section
variable {c : Cx} {Q : Pst} {fr : Fr} {H F : List Ent} {ops : Array Oper} {rest : List Oper} {dst : Option Nat} {ty : TypeId} {pos : String} {after : Array Edge}
variable {x : Operand} {T : TypeId} {S : List Oper → Fr → List Ent → Prop}
/-- A struct out of what is known to lie there. -/
theorem hl_loadRN [Stp c ops S] {E : List Ent} {l vs : List Value} {bb off j n : Nat} [TAgg c.P T] [TSz c.P T n] (hx : ev fr x = .pointer (some ⟨bb, off + j, none⟩)) (hr : Rds c.w0 c.B E (some ⟨bb, off, none⟩) l) (hi : Imp H E) (hv : (l.drop j).take n = vs) (hn : vs.length = n) (hd : dOk c.n dst = true)
    (h : S rest (updO fr dst (.agg vs.toArray)) H) : S (⟨dst, .load T x, ty, pos, after, none⟩ :: rest) fr H :=
  hl_pure hd _ (fun w hw => by
    have hc := run_loadCells_list (P := c.P) w ⟨bb, off + j, none⟩ vs (fun i v hi2 => by
      rw [Addr.add_lit]
      rw [← hv, List.getElem?_take] at hi2
      split at hi2
      · rw [List.getElem?_drop] at hi2
        have := hr.cell w (hi _ _ _ hw) _ rfl (j + i) v hi2
        rw [Addr.add_lit] at this
        rw [← this, Nat.add_assoc]
      · cases hi2)
    rw [hn] at hc
    simp [execOp, hx, Instr.loadAt, Instr.sureAddr, loadVar, isAgg_agg (T := T), sizeOf_sz (T := T) (n := n), hc]) h
end
theorem flat_part (l : List Tok) (i : Nat) (h : i < l.length) : ((l.flatMap tokV).drop (i * 3)).take 3 = tokV l[i] := by
  induction l generalizing i with
  | nil => simp at h
  | cons x l ih =>
    cases i with
    | zero => simp
    | succ i =>
      rw [List.flatMap_cons, List.drop_append, show (i + 1) * 3 - (tokV x).length = i * 3 by simp; omega, List.drop_of_length_le (by simp; omega)]
      simpa using ih i (by simpa using h)
theorem length_flat (l : List Tok) : (l.flatMap tokV).length = l.length * 3 := by
  induction l with
  | nil => rfl
  | cons x l ih => rw [List.flatMap_cons, List.length_append, ih, List.length_cons]; simp; omega

set_option maxHeartbeats 8000000 in
set_option maxRecDepth 100000 in
theorem bytes_fn {w0 : World} {B : Nat} {H : List Ent} {a : Option Addr} {len cap : Nat} {l : List Tok} (hl : l.length = len) (ha : 0 < len → ∃ bb off, a = some ⟨bb, off, none⟩) (hr : Rds w0 B H a (l.flatMap tokV)) (hx : ∀ x ∈ l, x.wf) (h5 : len ≤ 100000) (most : Int) (hm : -9223372036854775808 ≤ most ∧ most ≤ 9223372036854775807) :
    Fn Try.prog w0 B 10 [.slice a len cap, .int .i64 most] H (fun v H' => ∃ sv, v = .tuple #[sv, .int .i64 (lzB most l []).2] ∧ Own 5 1 sv (lzB most l []).1.length ((lzB most l []).1.map byteV) H H') := by
  refine fn_intro Try.func10 rfl (by kernel_rfl) rfl ?_
  repeat (first | refine go_ ?_ | refine bx_ (fun _ => ?_))
  refine hc_loopd (fun m fr M => ∃ k sv out, k + m = len ∧ out.length ≤ 258 * k ∧ (out.length = 0 ∨ (out.length : Int) ≤ most) ∧ lzB most (l.drop k) out = lzB most l [] ∧ Agr fr [(0, .slice a len cap), (1, .int .i64 most), (6, sv), (10, .slice a len cap), (11, .int .i64 (len : Int)), (12, .int .i64 (k : Int))] ∧ Own 5 1 sv out.length (out.map byteV) H M) len ?_ ?_
  · exact ⟨0, .slice none 0 0, [], by omega, by simp, .inl rfl, by simp, ⟨rfl, rfl, rfl, rfl, rfl, rfl, trivial⟩, Own.nil⟩
  rintro m fr M ⟨k, sv, out, hk, ho1, ho2, hB, hf, o⟩
  obtain ⟨base, rfl⟩ := hf.out
  obtain ⟨sa, sc, rfl, hs1, hs2⟩ := o.form
  by_cases hlt : k < len
  · have hkl : k < l.length := by omega
    obtain ⟨bb, off, rfl⟩ := ha (by omega)
    obtain ⟨⟨hL1, hL2⟩, ⟨hD1, hD2⟩⟩ := hx _ (List.getElem_mem hkl)
    have hdrop : l.drop k = l[k] :: l.drop (k + 1) := (List.getElem_cons_drop ..).symm
    rw [hdrop, lzB] at hB
    obtain ⟨L, D, C, hxe⟩ : ∃ L D C, l[k] = ⟨L, D, C⟩ := ⟨_, _, _, rfl⟩
    rw [hxe] at hL1 hL2 hD1 hD2 hB
    dsimp only at hL1 hL2 hD1 hD2
    have hpart := flat_part l k hkl
    rw [hxe] at hpart
    change _ = [Value.int .i64 L, .int .i64 D, .int .u8 (C.toNat : Int)] at hpart
    by_cases hL0 : L = 0
    · subst hL0
      rw [if_neg (show ¬ Bad out ⟨0, D, C⟩ from fun h => h.1 rfl), show max (0 : Int) 1 = 1 from rfl] at hB
      by_cases hbig : most < (out.length : Int) + 1
      · rw [if_pos hbig] at hB
        rw [← hB]
        repeat (first | refine go_ ?_ | refine bx_ (fun _ => ?_))
        refine hl_loadRN (E := H) rfl hr o.imp hpart rfl rfl ?_
        repeat (first | refine go_ ?_ | refine bx_ (fun _ => ?_))
        exact fin2SI rfl rfl rfl ⟨_, rfl, Own.nil⟩ (Imp.drop o.imp)
      · rw [if_neg hbig, show nextB out ⟨0, D, C⟩ = out ++ [C] from if_pos rfl] at hB
        repeat (first | refine go_ ?_ | refine bx_ (fun _ => ?_))
        refine hl_loadRN (E := H) rfl hr o.imp hpart rfl rfl ?_
        repeat (first | refine go_ ?_ | refine bx_ (fun _ => ?_))
        refine hl_append_own1 rfl rfl ((o.under _).under _) (Rds.ent (n := 1) .here rfl (by simp [Value.oneCell'])) rfl rfl (by decide) (by decide) (by omega) (by omega) rfl (fun gb cap' h1 h2 => HL.keep ?_ (.there .here))
        refine HL.keep ?_ (.there .here)
        repeat (first | refine go_ ?_ | refine bx_ (fun _ => ?_))
        refine hc_rounds 1 ?_
        repeat (first | refine go_ ?_ | refine bx_ (fun _ => ?_))
        refine ⟨m - 1, by omega, _, Imp.refl _, k + 1, .slice (some ⟨gb, 0, none⟩) (out.length + 1) cap', out ++ [C], by omega, by rw [List.length_append, List.length_singleton]; omega, .inr (by rw [List.length_append, List.length_singleton]; omega), hB, ⟨rfl, rfl, rfl, rfl, rfl, rfl, trivial⟩, ?_⟩
        rw [List.length_append, List.length_singleton, List.map_append]
        exact Own.mk h1 h2 (by simp) (List.Perm.refl _)
    by_cases hc1 : L < 3
    · rw [if_pos (show Bad out ⟨L, D, C⟩ from ⟨hL0, .inl hc1⟩)] at hB
      rw [← hB]
      repeat (first | refine go_ ?_ | refine bx_ (fun _ => ?_))
      refine hl_loadRN (E := H) rfl hr o.imp hpart rfl rfl ?_
      repeat (first | refine go_ ?_ | refine bx_ (fun _ => ?_))
      exact fin2SI rfl rfl rfl ⟨_, rfl, Own.nil⟩ (Imp.drop o.imp)
    by_cases hc2 : 258 < L
    · rw [if_pos (show Bad out ⟨L, D, C⟩ from ⟨hL0, .inr (.inl hc2)⟩)] at hB
      rw [← hB]
      repeat (first | refine go_ ?_ | refine bx_ (fun _ => ?_))
      refine hl_loadRN (E := H) rfl hr o.imp hpart rfl rfl ?_
      repeat (first | refine go_ ?_ | refine bx_ (fun _ => ?_))
      exact fin2SI rfl rfl rfl ⟨_, rfl, Own.nil⟩ (Imp.drop o.imp)
    by_cases hc3 : D < 1
    · rw [if_pos (show Bad out ⟨L, D, C⟩ from ⟨hL0, .inr (.inr (.inl hc3))⟩)] at hB
      rw [← hB]
      repeat (first | refine go_ ?_ | refine bx_ (fun _ => ?_))
      refine hl_loadRN (E := H) rfl hr o.imp hpart rfl rfl ?_
      repeat (first | refine go_ ?_ | refine bx_ (fun _ => ?_))
      exact fin2SI rfl rfl rfl ⟨_, rfl, Own.nil⟩ (Imp.drop o.imp)
    by_cases hc4 : 32768 < D
    · rw [if_pos (show Bad out ⟨L, D, C⟩ from ⟨hL0, .inr (.inr (.inr (.inl hc4)))⟩)] at hB
      rw [← hB]
      repeat (first | refine go_ ?_ | refine bx_ (fun _ => ?_))
      refine hl_loadRN (E := H) rfl hr o.imp hpart rfl rfl ?_
      repeat (first | refine go_ ?_ | refine bx_ (fun _ => ?_))
      exact fin2SI rfl rfl rfl ⟨_, rfl, Own.nil⟩ (Imp.drop o.imp)
    by_cases hc5 : (out.length : Int) < D
    · rw [if_pos (show Bad out ⟨L, D, C⟩ from ⟨hL0, .inr (.inr (.inr (.inr hc5)))⟩)] at hB
      rw [← hB]
      repeat (first | refine go_ ?_ | refine bx_ (fun _ => ?_))
      refine hl_loadRN (E := H) rfl hr o.imp hpart rfl rfl ?_
      repeat (first | refine go_ ?_ | refine bx_ (fun _ => ?_))
      exact fin2SI rfl rfl rfl ⟨_, rfl, Own.nil⟩ (Imp.drop o.imp)
    rw [if_neg (show ¬ Bad out ⟨L, D, C⟩ from fun h => by obtain ⟨_, h⟩ := h; dsimp only at h; omega)] at hB
    dsimp only at hB
    obtain ⟨n, rfl⟩ := Int.eq_ofNat_of_zero_le (show 0 ≤ L by omega)
    obtain ⟨d, rfl⟩ := Int.eq_ofNat_of_zero_le (show 0 ≤ D by omega)
    rw [show max (n : Int) 1 = (n : Int) by omega] at hB
    by_cases hbig : most < (out.length : Int) + n
    · rw [if_pos hbig] at hB
      rw [← hB]
      repeat (first | refine go_ ?_ | refine bx_ (fun _ => ?_))
      refine hl_loadRN (E := H) rfl hr o.imp hpart rfl rfl ?_
      repeat (first | refine go_ ?_ | refine bx_ (fun _ => ?_))
      exact fin2SI rfl rfl rfl ⟨_, rfl, Own.nil⟩ (Imp.drop o.imp)
    rw [if_neg hbig, show nextB out ⟨(n : Int), (d : Int), C⟩ = copyN out d n from if_neg hL0] at hB
    repeat (first | refine go_ ?_ | refine bx_ (fun _ => ?_))
    refine hl_loadRN (E := H) rfl hr o.imp hpart rfl rfl ?_
    repeat (first | refine go_ ?_ | refine bx_ (fun _ => ?_))
    rename_i x
    refine hc_loopd (fun m2 fr M2 => ∃ j sv, j + m2 = n ∧ Agr fr [(0, .slice (some ⟨bb, off, none⟩) len cap), (1, .int .i64 most), (6, sv), (8, .pointer (some ⟨x, 0, none⟩)), (10, .slice (some ⟨bb, off, none⟩) len cap), (11, .int .i64 (len : Int)), (12, .int .i64 (k : Int)), (59, .int .i64 (n : Int)), (60, .int .i64 (j : Int))]
      ∧ Own 5 1 sv (out.length + j) ((copyN out d j).map byteV) (⟨x, 27, [.int .i64 (n : Int), .int .i64 (d : Int), .int .u8 (C.toNat : Int)], 3⟩ :: H) M2) n ?_ ?_
    · exact ⟨0, .slice sa out.length sc, by omega, ⟨rfl, rfl, rfl, rfl, rfl, rfl, rfl, rfl, rfl, trivial⟩, o.under _⟩
    clear o hf base hs1 hs2
    rintro m2 fr M2 ⟨j, sv, hj, hf, o⟩
    obtain ⟨base, rfl⟩ := hf.out
    have hlc := length_copyN out d j
    by_cases hjn : j < n
    · obtain ⟨go, co, rfl, hd1, hd2, hd3, hp⟩ := o.posn (by omega)
      refine HC.perm ?_ hp
      have hget : ((copyN out d j).map byteV)[out.length + j - d]? = some (.int .u8 (((copyN out d j).getD (out.length + j - d) 0).toNat : Int)) := by
        have : out.length + j - d < (copyN out d j).length := by omega
        simp [this, byteV]
      have hix : ((out.length + j : Nat) : Int) - (d : Int) = ((out.length + j - d : Nat) : Int) := by omega
      repeat (first | rw [hix] | refine go1_ ?_ | refine bx_ (fun _ => ?_))
      refine hl_append_own1 rfl rfl ((o.perm hp.symm).under _) (Rds.ent (n := 1) .here rfl (by simp [Value.oneCell'])) rfl rfl (by decide) (by decide) (by omega) (by omega) rfl (fun gb cap' h1 h2 => HL.keep ?_ (.there .here))
      repeat (first | refine go_ ?_ | refine bx_ (fun _ => ?_))
      refine ⟨m2 - 1, by omega, _, Imp.refl _, j + 1, .slice (some ⟨gb, 0, none⟩) (out.length + j + 1) cap', by omega, ⟨rfl, rfl, rfl, rfl, rfl, rfl, rfl, rfl, rfl, trivial⟩, ?_⟩
      have e : (copyN out d (j + 1)).map byteV = (copyN out d j).map byteV ++ [.int .u8 (((copyN out d j).getD (out.length + j - d) 0).toNat : Int)] := by
        rw [copyN, List.map_append, hlc]; rfl
      rw [e]
      exact Own.mk h1 h2 (by simp [hlc]) (List.Perm.refl _)
    · obtain rfl : j = n := by omega
      repeat (first | refine go_ ?_ | refine bx_ (fun _ => ?_))
      obtain ⟨sa, sc, rfl, hs1, hs2⟩ := o.form
      obtain ⟨Z, hZ, o'⟩ := o.permE
      refine ⟨m - 1, by omega, Z ++ H, Imp.perm (hZ.trans List.perm_middle) (Imp.drop (Imp.refl _)), k + 1, .slice sa (out.length + j) sc, copyN out d j, by omega, by omega, .inr (by omega), hB, ⟨rfl, rfl, rfl, rfl, rfl, rfl, trivial⟩, ?_⟩
      rw [hlc]
      exact o' H
  · obtain rfl : k = len := by omega
    rw [List.drop_of_length_le (by omega), lzB] at hB
    rw [← hB]
    repeat (first | refine go_ ?_ | refine bx_ (fun _ => ?_))
    exact fin2SI rfl rfl rfl ⟨_, rfl, o⟩
end Go.Proofs.Ytabaagelgfdkeaa
