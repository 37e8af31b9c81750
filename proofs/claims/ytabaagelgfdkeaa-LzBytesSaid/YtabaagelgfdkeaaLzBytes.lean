/-
  LzBytes. No condition.
-/
import Derived.Test.YtabaagelgfdkeaaL2
import Derived.Test.YtabaagelgfdkeaaOpenS
namespace Go.Proofs.Ytabaagelgfdkeaa
open Go.RowKit Go.ChangeShapes Go.WideShapes Go.ChangeAt Go.Deep
theorem rds_toks {w0 : World} {B : Nat} {E : List Ent} (hB : w0.heap.size ≤ B) {a : Option Addr} {len cap : Nat} {l : List Tok} (hl : SlS 3 tokV w0 a len cap l) : Rds w0 B E a (l.flatMap tokV) := by
  have hcell : ∀ (j : Nat) u, (l.flatMap tokV)[j]? = some u → ∃ i, ∃ h : i < l.length, ∃ q, j = i * 3 + q ∧ (tokV l[i])[q]? = some u := by
    intro j u hu
    have hj : j < (l.flatMap tokV).length := (List.getElem?_eq_some_iff.1 hu).1
    rw [length_flat] at hj
    refine ⟨j / 3, by omega, j % 3, by omega, ?_⟩
    rw [← flat_part l (j / 3) (by omega), List.getElem?_take, if_pos (Nat.mod_lt _ (by decide)), List.getElem?_drop, ← hu]
    congr 1; omega
  refine ⟨fun w hw ad ha j u hu => ?_, fun hn => ?_, fun u hu => ?_⟩
  · obtain ⟨i, hi, q, rfl, hq⟩ := hcell j u hu
    obtain ⟨b, off, hb, hc⟩ := hl.row i hi
    rw [ha] at hb; cases hb
    have hc := hc q u hq
    rw [Addr.add_lit, ← hc, show off + (i * 3 + q) = off + i * 3 + q by omega]
    have hblk : b < B := by
      refine Nat.lt_of_lt_of_le ?_ hB
      simp only [World.cell?] at hc
      rcases Nat.lt_or_ge b w0.heap.size with h1 | h1
      · exact h1
      · rw [Array.getElem?_eq_none h1] at hc; cases hc
    exact hw.below.cell (p := ⟨b, off + i * 3 + q, none⟩) hblk
  · have := hl.nil hn
    have h2 := hl.le
    have h3 := hl.size_eq
    have : l = [] := List.eq_nil_of_length_eq_zero (by omega)
    rw [this]; rfl
  · obtain ⟨t, _, ht⟩ := List.mem_flatMap.1 hu
    simp only [List.mem_cons, List.not_mem_nil, or_false] at ht
    rcases ht with rfl | rfl | rfl <;> rfl
theorem open_toks {H : Type} {enc : TypeId × Value → H} {w : World} {base : Nat} {held : Bool} {v : Value} {d : DataW H} {ps : List MemPlace} {a : Option Addr} {len cap : Nat} (hv : v = .slice a len cap)
    (h : DataW.Trod enc Try.prog w base (fun _ => true) held 22 v d ps) : ∃ l : List Tok, SlS 3 tokV w a len cap l ∧ ∀ x ∈ l, x.wf := by
  refine open_structs tokV Tok.wf Try.underlying22 Try.underlying27 (by kernel_rfl) (by kernel_rfl) (by decide) ?_ hv h
  intro vs hl hf
  obtain ⟨x, hx, n0, y0, h0⟩ := hf 0 _ rfl
  obtain ⟨y, hy, n1, y1, h1⟩ := hf 1 _ rfl
  obtain ⟨z, hz, n2, y2, h2⟩ := hf 2 _ rfl
  obtain ⟨i, hi, _, wi⟩ := DataW.trod_int Try.underlying3 h0
  obtain ⟨j, hj, _, wj⟩ := DataW.trod_int Try.underlying3 h1
  obtain ⟨b, hb, _, wb⟩ := DataW.trod_int Try.underlying5 h2
  cases hi; cases hj; cases hb
  have wb := wf_u8 wb
  match vs, hl with
  | [p, q, r], _ =>
    cases hx; cases hy; cases hz
    obtain ⟨n, rfl⟩ := Int.eq_ofNat_of_zero_le (show 0 ≤ b by omega)
    refine ⟨⟨i, j, UInt8.ofNat n⟩, ?_, wf_i64 wi, wf_i64 wj⟩
    have : (UInt8.ofNat n).toNat = n := by rw [UInt8.toNat_ofNat']; omega
    simp only [tokV, this]
end Go.Proofs.Ytabaagelgfdkeaa
namespace Go.Proofs.Ytabaagelgfdkeaa.lzBytes
open Go.RowKit
set_option maxHeartbeats 16000000 in
set_option maxRecDepth 100000 in
theorem law {w0 : World} {B : Nat} {H : List Ent} (hB : w0.heap.size ≤ B) {a : Option Addr} {len cap : Nat} {l : List Tok} (hl : SlS 3 tokV w0 a len cap l) (hx : ∀ x ∈ l, x.wf) (most : Int) (hm : -9223372036854775808 ≤ most ∧ most ≤ 9223372036854775807) :
    Fn Try.prog w0 B 3 [.slice a len cap, .int .i64 most] H (fun u _ => u = .bool true) := by
  have hle := hl.size_eq
  have hlc := hl.le
  have rT : ∀ E, Rds w0 B E a (l.flatMap tokV) := fun E => rds_toks hB hl
  refine fn_intro Try.func3 rfl (by kernel_rfl) rfl ?_
  by_cases h200 : 200 < len
  · repeat (first | refine go_ ?_ | refine bx_ (fun _ => ?_) | refine hl_callv rfl rfl (anchor_fn) ?_)
    exact fin1B rfl rfl rfl
  repeat (first | refine go_ ?_ | refine bx_ (fun _ => ?_) | refine hl_callv rfl rfl (anchor_fn) ?_)
  refine hc_loopd (fun m fr M => ∃ k sv out, k + m = len ∧ out.length ≤ 258 * k ∧ lzB most (l.drop k) out = lzB most l [] ∧ Agr fr [(0, .slice a len cap), (1, .int .i64 most), (5, sv), (6, .int .i64 0), (20, .slice a len cap), (21, .int .i64 (len : Int)), (22, .int .i64 (k : Int))] ∧ Own 5 1 sv out.length (out.map byteV) H M) len ?_ ?_
  · exact ⟨0, .slice none 0 0, [], by omega, by simp, by simp, ⟨rfl, rfl, rfl, rfl, rfl, rfl, rfl, trivial⟩, Own.nil⟩
  rintro m fr M ⟨k, sv, out, hk, ho1, hE, hf, o⟩
  obtain ⟨base, rfl⟩ := hf.out
  obtain ⟨sa, sc, rfl, hs1, hs2⟩ := o.form
  by_cases hlt : k < len
  · have hkl : k < l.length := by omega
    obtain ⟨bb, off, rfl, _⟩ := hl.row k hkl
    obtain ⟨⟨hL1, hL2⟩, ⟨hD1, hD2⟩⟩ := hx _ (List.getElem_mem hkl)
    have hdrop : l.drop k = l[k] :: l.drop (k + 1) := (List.getElem_cons_drop ..).symm
    rw [hdrop, lzB] at hE
    obtain ⟨L, D, C, hxe⟩ : ∃ L D C, l[k] = ⟨L, D, C⟩ := ⟨_, _, _, rfl⟩
    rw [hxe] at hL1 hL2 hD1 hD2 hE
    dsimp only at hL1 hL2 hD1 hD2
    have hpart := flat_part l k hkl
    rw [hxe] at hpart
    change _ = [Value.int .i64 L, .int .i64 D, .int .u8 (C.toNat : Int)] at hpart
    by_cases hL0 : L = 0
    · subst hL0
      rw [if_neg (show ¬ Bad out ⟨0, D, C⟩ from fun h => h.1 rfl), show max (0 : Int) 1 = 1 from rfl] at hE
      by_cases hbig : most < (out.length : Int) + 1
      · rw [if_pos hbig] at hE
        replace hE := hE.symm
        repeat (first | refine go_ ?_ | refine bx_ (fun _ => ?_))
        refine hl_loadRN (E := H) rfl (rT H) o.imp hpart rfl rfl ?_
        repeat (first | refine go_ ?_ | refine bx_ (fun _ => ?_))
        refine HL.imp ?_ (Imp.drop o.imp)
        refine hl_call rfl rfl (bytes_fn hle (fun h0 => by obtain ⟨b, off, e, _⟩ := hl.row 0 (by omega); exact ⟨b, off, e⟩) (rT _) hx (by omega) most hm) (fun v3 M3 o3 => ?_)
        obtain ⟨sv3, rfl, o3⟩ := o3
        rw [hE] at o3 ⊢
        dsimp only at o3 ⊢
        obtain ⟨a3, c3, rfl, _, _⟩ := o3.form
        repeat (first | refine go_ ?_ | refine bx_ (fun _ => ?_))
        exact fin1B rfl rfl rfl
      · rw [if_neg hbig, show nextB out ⟨0, D, C⟩ = out ++ [C] from if_pos rfl] at hE
        repeat (first | refine go_ ?_ | refine bx_ (fun _ => ?_))
        refine hl_loadRN (E := H) rfl (rT H) o.imp hpart rfl rfl ?_
        repeat (first | refine go_ ?_ | refine bx_ (fun _ => ?_))
        refine hc_rounds 2 ?_
        repeat (first | refine go_ ?_ | refine bx_ (fun _ => ?_))
        refine hl_append_own1 rfl rfl ((o.under _).under _) (Rds.ent (n := 1) .here rfl (by simp [Value.oneCell'])) rfl rfl (by decide) (by decide) (by omega) (by omega) rfl (fun gb cap' h1 h2 => HL.keep ?_ (.there .here))
        refine HL.keep ?_ (.there .here)
        repeat (first | refine go_ ?_ | refine bx_ (fun _ => ?_))
        refine ⟨m - 1, by omega, _, Imp.refl _, k + 1, .slice (some ⟨gb, 0, none⟩) (out.length + 1) cap', out ++ [C], by omega, by rw [List.length_append, List.length_singleton]; omega, hE, ⟨rfl, rfl, rfl, rfl, rfl, rfl, rfl, trivial⟩, ?_⟩
        rw [List.length_append, List.length_singleton, List.map_append]
        exact Own.mk h1 h2 (by simp) (List.Perm.refl _)
    by_cases hc1 : L < 3
    · rw [if_pos (show Bad out ⟨L, D, C⟩ from ⟨hL0, .inl hc1⟩)] at hE
      replace hE := hE.symm
      repeat (first | refine go_ ?_ | refine bx_ (fun _ => ?_))
      refine hl_loadRN (E := H) rfl (rT H) o.imp hpart rfl rfl ?_
      repeat (first | refine go_ ?_ | refine bx_ (fun _ => ?_))
      refine HL.imp ?_ (Imp.drop o.imp)
      refine hl_call rfl rfl (bytes_fn hle (fun h0 => by obtain ⟨b, off, e, _⟩ := hl.row 0 (by omega); exact ⟨b, off, e⟩) (rT _) hx (by omega) most hm) (fun v3 M3 o3 => ?_)
      obtain ⟨sv3, rfl, o3⟩ := o3
      rw [hE] at o3 ⊢
      dsimp only at o3 ⊢
      obtain ⟨a3, c3, rfl, _, _⟩ := o3.form
      repeat (first | refine go_ ?_ | refine bx_ (fun _ => ?_))
      exact fin1B rfl rfl rfl
    by_cases hc2 : 258 < L
    · rw [if_pos (show Bad out ⟨L, D, C⟩ from ⟨hL0, .inr (.inl hc2)⟩)] at hE
      replace hE := hE.symm
      repeat (first | refine go_ ?_ | refine bx_ (fun _ => ?_))
      refine hl_loadRN (E := H) rfl (rT H) o.imp hpart rfl rfl ?_
      repeat (first | refine go_ ?_ | refine bx_ (fun _ => ?_))
      refine HL.imp ?_ (Imp.drop o.imp)
      refine hl_call rfl rfl (bytes_fn hle (fun h0 => by obtain ⟨b, off, e, _⟩ := hl.row 0 (by omega); exact ⟨b, off, e⟩) (rT _) hx (by omega) most hm) (fun v3 M3 o3 => ?_)
      obtain ⟨sv3, rfl, o3⟩ := o3
      rw [hE] at o3 ⊢
      dsimp only at o3 ⊢
      obtain ⟨a3, c3, rfl, _, _⟩ := o3.form
      repeat (first | refine go_ ?_ | refine bx_ (fun _ => ?_))
      exact fin1B rfl rfl rfl
    by_cases hc3 : D < 1
    · rw [if_pos (show Bad out ⟨L, D, C⟩ from ⟨hL0, .inr (.inr (.inl hc3))⟩)] at hE
      replace hE := hE.symm
      repeat (first | refine go_ ?_ | refine bx_ (fun _ => ?_))
      refine hl_loadRN (E := H) rfl (rT H) o.imp hpart rfl rfl ?_
      repeat (first | refine go_ ?_ | refine bx_ (fun _ => ?_))
      refine HL.imp ?_ (Imp.drop o.imp)
      refine hl_call rfl rfl (bytes_fn hle (fun h0 => by obtain ⟨b, off, e, _⟩ := hl.row 0 (by omega); exact ⟨b, off, e⟩) (rT _) hx (by omega) most hm) (fun v3 M3 o3 => ?_)
      obtain ⟨sv3, rfl, o3⟩ := o3
      rw [hE] at o3 ⊢
      dsimp only at o3 ⊢
      obtain ⟨a3, c3, rfl, _, _⟩ := o3.form
      repeat (first | refine go_ ?_ | refine bx_ (fun _ => ?_))
      exact fin1B rfl rfl rfl
    by_cases hc4 : 32768 < D
    · rw [if_pos (show Bad out ⟨L, D, C⟩ from ⟨hL0, .inr (.inr (.inr (.inl hc4)))⟩)] at hE
      replace hE := hE.symm
      repeat (first | refine go_ ?_ | refine bx_ (fun _ => ?_))
      refine hl_loadRN (E := H) rfl (rT H) o.imp hpart rfl rfl ?_
      repeat (first | refine go_ ?_ | refine bx_ (fun _ => ?_))
      refine HL.imp ?_ (Imp.drop o.imp)
      refine hl_call rfl rfl (bytes_fn hle (fun h0 => by obtain ⟨b, off, e, _⟩ := hl.row 0 (by omega); exact ⟨b, off, e⟩) (rT _) hx (by omega) most hm) (fun v3 M3 o3 => ?_)
      obtain ⟨sv3, rfl, o3⟩ := o3
      rw [hE] at o3 ⊢
      dsimp only at o3 ⊢
      obtain ⟨a3, c3, rfl, _, _⟩ := o3.form
      repeat (first | refine go_ ?_ | refine bx_ (fun _ => ?_))
      exact fin1B rfl rfl rfl
    by_cases hc5 : (out.length : Int) < D
    · rw [if_pos (show Bad out ⟨L, D, C⟩ from ⟨hL0, .inr (.inr (.inr (.inr hc5)))⟩)] at hE
      replace hE := hE.symm
      repeat (first | refine go_ ?_ | refine bx_ (fun _ => ?_))
      refine hl_loadRN (E := H) rfl (rT H) o.imp hpart rfl rfl ?_
      repeat (first | refine go_ ?_ | refine bx_ (fun _ => ?_))
      refine HL.imp ?_ (Imp.drop o.imp)
      refine hl_call rfl rfl (bytes_fn hle (fun h0 => by obtain ⟨b, off, e, _⟩ := hl.row 0 (by omega); exact ⟨b, off, e⟩) (rT _) hx (by omega) most hm) (fun v3 M3 o3 => ?_)
      obtain ⟨sv3, rfl, o3⟩ := o3
      rw [hE] at o3 ⊢
      dsimp only at o3 ⊢
      obtain ⟨a3, c3, rfl, _, _⟩ := o3.form
      repeat (first | refine go_ ?_ | refine bx_ (fun _ => ?_))
      exact fin1B rfl rfl rfl
    rw [if_neg (show ¬ Bad out ⟨L, D, C⟩ from fun h => by obtain ⟨_, h⟩ := h; dsimp only at h; omega)] at hE
    dsimp only at hE
    obtain ⟨n, rfl⟩ := Int.eq_ofNat_of_zero_le (show 0 ≤ L by omega)
    obtain ⟨d, rfl⟩ := Int.eq_ofNat_of_zero_le (show 0 ≤ D by omega)
    rw [show max (n : Int) 1 = (n : Int) by omega] at hE
    by_cases hbig : most < (out.length : Int) + n
    · rw [if_pos hbig] at hE
      replace hE := hE.symm
      repeat (first | refine go_ ?_ | refine bx_ (fun _ => ?_))
      refine hl_loadRN (E := H) rfl (rT H) o.imp hpart rfl rfl ?_
      repeat (first | refine go_ ?_ | refine bx_ (fun _ => ?_))
      refine HL.imp ?_ (Imp.drop o.imp)
      refine hl_call rfl rfl (bytes_fn hle (fun h0 => by obtain ⟨b, off, e, _⟩ := hl.row 0 (by omega); exact ⟨b, off, e⟩) (rT _) hx (by omega) most hm) (fun v3 M3 o3 => ?_)
      obtain ⟨sv3, rfl, o3⟩ := o3
      rw [hE] at o3 ⊢
      dsimp only at o3 ⊢
      obtain ⟨a3, c3, rfl, _, _⟩ := o3.form
      repeat (first | refine go_ ?_ | refine bx_ (fun _ => ?_))
      exact fin1B rfl rfl rfl
    rw [if_neg hbig, show nextB out ⟨(n : Int), (d : Int), C⟩ = copyN out d n from if_neg hL0] at hE
    repeat (first | refine go_ ?_ | refine bx_ (fun _ => ?_))
    refine hl_loadRN (E := H) rfl (rT H) o.imp hpart rfl rfl ?_
    repeat (first | refine go_ ?_ | refine bx_ (fun _ => ?_))
    rename_i x
    refine hc_loopd (fun m2 fr M2 => ∃ j sv, j + m2 = n ∧ Agr fr [(0, .slice (some ⟨bb, off, none⟩) len cap), (1, .int .i64 most), (5, sv), (6, .int .i64 0), (8, .pointer (some ⟨x, 0, none⟩)), (9, .bool true), (10, .int .i64 (n : Int)), (11, .int .i64 (j : Int)), (20, .slice (some ⟨bb, off, none⟩) len cap), (21, .int .i64 (len : Int)), (22, .int .i64 (k : Int))]
      ∧ Own 5 1 sv (out.length + j) ((copyN out d j).map byteV) (⟨x, 27, [.int .i64 (n : Int), .int .i64 (d : Int), .int .u8 (C.toNat : Int)], 3⟩ :: H) M2) n ?_ ?_
    · refine ⟨0, .slice sa out.length sc, by omega, ⟨rfl, rfl, rfl, rfl, rfl, ?_, rfl, rfl, rfl, rfl, rfl, trivial⟩, o.under _⟩
      exact congrArg Value.bool (by simp [hL0])
    clear o hf base hs1 hs2
    rintro m2 fr M2 ⟨j, sv, hj, hf, o⟩
    obtain ⟨base, rfl⟩ := hf.out
    have hlc := length_copyN out d j
    by_cases hjn : j < n
    · obtain ⟨go, co, rfl, hd1, hd2, hd3, hp⟩ := o.posn (by omega)
      refine HC.perm ?_ hp
      have hget : ((copyN out d j).map byteV)[out.length + j - d]? = some (.int .u8 (((copyN out d j).getD (out.length + j - d) 0).toNat : Int)) := by
        have : out.length + j - d < (copyN out d j).length := by omega
        simp [this, byteV]
      have hix : ((out.length + j : Nat) : Int) - (d : Int) = ((out.length + j - d : Nat) : Int) := by omega
      repeat (first | rw [hix] | refine go1_ ?_ | refine bx_ (fun _ => ?_))
      refine hl_append_own1 rfl rfl ((o.perm hp.symm).under _) (Rds.ent (n := 1) .here rfl (by simp [Value.oneCell'])) rfl rfl (by decide) (by decide) (by omega) (by omega) rfl (fun gb cap' h1 h2 => HL.keep ?_ (.there .here))
      repeat (first | refine go_ ?_ | refine bx_ (fun _ => ?_))
      refine ⟨m2 - 1, by omega, _, Imp.refl _, j + 1, .slice (some ⟨gb, 0, none⟩) (out.length + j + 1) cap', by omega, ⟨rfl, rfl, rfl, rfl, rfl, rfl, rfl, rfl, rfl, rfl, rfl, trivial⟩, ?_⟩
      have e : (copyN out d (j + 1)).map byteV = (copyN out d j).map byteV ++ [.int .u8 (((copyN out d j).getD (out.length + j - d) 0).toNat : Int)] := by
        rw [copyN, List.map_append, hlc]; rfl
      rw [e]
      exact Own.mk h1 h2 (by simp [hlc]) (List.Perm.refl _)
    · obtain rfl : j = n := by omega
      repeat (first | refine go_ ?_ | refine bx_ (fun _ => ?_))
      obtain ⟨sa, sc, rfl, hs1, hs2⟩ := o.form
      obtain ⟨Z, hZ, o'⟩ := o.permE
      refine ⟨m - 1, by omega, Z ++ H, Imp.perm (hZ.trans List.perm_middle) (Imp.drop (Imp.refl _)), k + 1, .slice sa (out.length + j) sc, copyN out d j, by omega, by omega, hE, ⟨rfl, rfl, rfl, rfl, rfl, rfl, rfl, trivial⟩, ?_⟩
      rw [hlc]
      exact o' H
  · obtain rfl : len = k := by omega
    rw [List.drop_of_length_le (by omega), lzB] at hE
    replace hE := hE.symm
    repeat (first | refine go_ ?_ | refine bx_ (fun _ => ?_))
    refine hl_call rfl rfl (bytes_fn hle (fun h0 => by obtain ⟨b, off, e, _⟩ := hl.row 0 (by omega); exact ⟨b, off, e⟩) (rT _) hx (by omega) most hm) (fun v3 M3 o3 => ?_)
    obtain ⟨sv3, rfl, o3⟩ := o3
    rw [hE] at o3 ⊢
    dsimp only at o3 ⊢
    obtain ⟨a3, c3, rfl, _, _⟩ := o3.form
    have r3 : Rds w0 B M3 _ _ := o3.rds (c := ⟨Try.prog, 0, w0, B⟩) (by simp [Value.oneCell', byteV])
    have r0 : Rds w0 B M3 _ _ := (o.rds (c := ⟨Try.prog, 0, w0, B⟩) (by simp [Value.oneCell', byteV])).weak (fun w hw => o3.imp _ _ _ hw)
    repeat (first | refine go_ ?_ | refine bx_ (fun _ => ?_))
    refine hl_convStr rfl r3 rfl ?_
    repeat (first | refine go_ ?_ | refine bx_ (fun _ => ?_))
    refine hl_convStr rfl r0 rfl ?_
    repeat (first | refine go_ ?_ | refine bx_ (fun _ => ?_) | refine hl_strEqT rfl rfl rfl rfl ?_)
    exact fin1B rfl rfl rfl
theorem walk (a : Option Addr) (len cap : Nat) (l : List Tok) (most : Int) (w : World) (hl : SlS 3 tokV w a len cap l) (hx : ∀ x ∈ l, x.wf) (hm : -9223372036854775808 ≤ most ∧ most ≤ 9223372036854775807) :
    Calls Try.prog 3 #[.slice a len cap, .int .i64 most] w fun e w' => e = .returned (.bool true) ∧ Below w.heap.size w w' :=
  calls_of_fn (law (Nat.le_refl _) hl hx most hm) fun _ _ h => h

/-! The step to the statement (written by program). -/
open Go.ChangeShapes Go.WideShapes Go.ChangeAt
set_option maxRecDepth 100000 in
theorem lifted (os : Os) (started : os.Started) (H : Type) (enc : TypeId × Value → H) :
    ReturnsInHanded {} Try.checked os 3 .any (Rows.lzBytesSpec.pre6 enc Try.prog Try.f3 Rows.lzBytesRow.domain false) (Rows.lzBytesSpec.post enc Try.prog Try.f3 false true false false) := by
  refine returnsInHanded_of_change (C := Try.checked) own started (by kernel_rfl) Try.func3
    (ChangeSpec.witness6 (enc := enc) (C := Try.checked) false ⟨#[], #[.slice none 0 0, .int .i64 0], []⟩ 8 (by kernel_rfl) (by kernel_rfl) (by kernel_rfl) (by kernel_rfl)) ?_
  intro W base args ds gs before hval0 hW hcnd _
  have hval : ∀ (j : Nat) t v, Try.f3.params[j]? = some t → args[j]? = some v → Value.okWide Try.prog W .any base t v := hval0
  have hW' := hW
  obtain ⟨p, q, hA0, hV, rfl, hfz, hnd⟩ := hW
  have hA : DataW.TrodAll enc Try.prog W 0 (fun _ => true) true Try.f3.params.toList args.toList ds p := hA0
  rw [Try.params3] at hA hval
  obtain ⟨v0, vs0, d0, ds0, p0, q0, hargs, rfl, rfl, h0, r0⟩ := trodAll_cons hA
  obtain ⟨v1, vs1, d1, ds1, p1, q1, rfl, rfl, rfl, h1, r1⟩ := trodAll_cons r0
  obtain ⟨rfl, rfl, rfl⟩ := trodAll_nil r1
  obtain rfl : args = #[v0, v1] := by cases args; simp_all
  obtain ⟨rfl, rfl⟩ := trodVars_none hV
  have k0 := h0
  have lt0 : ∀ x ∈ p0, x.block < W.heap.size := by obtain ⟨m, hm⟩ := k0; exact DataW.trod_lt m _ _ _ hm
  obtain ⟨a0, len0, cap0, e0⟩ := okWide_slice Try.underlying22 (hval 0 22 v0 rfl rfl)
  obtain ⟨l0, w0, b0⟩ := open_toks e0 k0
  subst e0
  have k1 := h1
  have lt1 : ∀ x ∈ p1, x.block < W.heap.size := by obtain ⟨m, hm⟩ := k1; exact DataW.trod_lt m _ _ _ hm
  obtain ⟨a1, rfl, _, _, w1⟩ := open_int Try.underlying3 (hval 1 3 v1 rfl rfl) h1
  have w1 := wf_i64 w1
  clear hA0 hval0
  refine (walk a0 len0 cap0 l0 a1 W w0 b0 w1).mono fun e W' ⟨he, bel⟩ => ?_
  subst he
  exact ⟨_, rfl, _, _, _, [], _, [], hW', trodAll_mk1 (shut_bool Try.underlying4 _), (trodAll_cons_mk (Below.trod laidOut (by kernel_rfl) (of_decide_eq_true (by kernel_rfl)) k0 bel lt0) (trodAll_cons_mk (Below.trod laidOut (by kernel_rfl) (of_decide_eq_true (by kernel_rfl)) k1 bel lt1) trodAll_mk0)), rfl, bel.frame _, fun h => by cases h⟩

theorem over : Rows.lzBytesRow.holds Try.pinned (OpenSpec.ofChange Rows.lzBytesSpec) :=
  OpenClaim.holds_of_wide 3 Try.f3 rfl rfl rfl rfl rfl rfl rfl ⟨rfl, rfl, rfl, rfl, rfl⟩ rfl rfl rfl rfl rfl (by kernel_rfl) Try.func3 (by kernel_rfl)
    (of_decide_eq_true (by kernel_rfl)) (by unfold Func.isWrapper; first | (rw [if_pos (by decide +kernel)]; kernel_rfl) | (rw [if_neg (by decide +kernel)]; exact ⟨rfl, rfl⟩))
    (fun os started H enc _ => lifted os started H enc)

/-- The statement. -/
theorem proved : Rows.LzBytesSaid := over
#print axioms proved
end Go.Proofs.Ytabaagelgfdkeaa.lzBytes
