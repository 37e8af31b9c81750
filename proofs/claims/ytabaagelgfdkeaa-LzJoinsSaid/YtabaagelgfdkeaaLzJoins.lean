/-
  LzJoins. No condition.
-/
import Derived.Test.YtabaagelgfdkeaaL2
import Derived.Test.YtabaagelgfdkeaaOpen
namespace Go.Proofs.Ytabaagelgfdkeaa.lzJoins
open Go.RowKit
theorem lits (most : Int) (b : List UInt8) (ts : List Tok) (out : List UInt8) (h : (out.length : Int) + b.length ≤ most) : lzB most (b.map litT ++ ts) out = lzB most ts (out ++ b) := by
  induction b generalizing out with
  | nil => simp
  | cons c b ih =>
    simp only [List.length_cons] at h
    rw [List.map_cons, List.cons_append, lzB, if_neg (fun h => h.1 rfl), if_neg (by show ¬ most < (out.length : Int) + max 0 1; omega), show nextB out (litT c) = out ++ [c] from if_pos rfl, ih _ (by rw [List.length_append, List.length_singleton]; omega)]
    simp
theorem copyN_pre (out : List UInt8) (d n i : Nat) (h : i < out.length) : (copyN out d n).getD i 0 = out.getD i 0 := by
  induction n with
  | zero => rfl
  | succ n ih =>
    rw [copyN, List.getD_eq_getElem?_getD, List.getElem?_append_left (by rw [length_copyN]; omega), ← List.getD_eq_getElem?_getD, ih]
theorem copyN_take (out : List UInt8) (d n : Nat) : (copyN out d n).take out.length = out := by
  induction n with
  | zero => simp [copyN]
  | succ n ih => rw [copyN, List.take_append_of_le_length (by rw [length_copyN]; omega), ih]
theorem copyN_lt (out : List UInt8) (d n m i : Nat) (h : i < out.length + n) (hm : n ≤ m) : (copyN out d m).getD i 0 = (copyN out d n).getD i 0 := by
  induction m with
  | zero => obtain rfl : n = 0 := by omega
            rfl
  | succ m ih =>
    by_cases e : n = m + 1
    · rw [e]
    · rw [copyN, List.getD_eq_getElem?_getD, List.getElem?_append_left (by rw [length_copyN]; omega), ← List.getD_eq_getElem?_getD, ih (by omega)]
theorem copyN_get (out : List UInt8) (d : Nat) (hd : 1 ≤ d) (hd2 : d ≤ out.length) (k n : Nat) (h : k < n) : (copyN out d n).getD (out.length + k) 0 = out.getD (out.length - d + k % d) 0 := by
  induction k using Nat.strongRecOn generalizing n with
  | _ k ih =>
    rw [copyN_lt out d (k + 1) n _ (by omega) (by omega), copyN, List.getD_eq_getElem?_getD, List.getElem?_append_right (by rw [length_copyN]; omega), length_copyN, show out.length + k - (out.length + k) = 0 by omega]
    simp only [List.getElem?_cons_zero, Option.getD_some]
    by_cases hk : k < d
    · rw [copyN_pre _ _ _ _ (by omega), Nat.mod_eq_of_lt hk, show out.length + k - d = out.length - d + k by omega]
    · rw [show out.length + k - d = out.length + (k - d) by omega, ih (k - d) (by omega) k (by omega), ← Nat.mod_eq_sub_mod (by omega)]
def toks (l : List UInt8) (n d : Int) (l2 : List UInt8) : List Tok := l.map litT ++ ⟨n, d, 0⟩ :: l2.map litT
set_option maxHeartbeats 16000000 in
set_option maxRecDepth 100000 in
theorem law {w0 : World} {B : Nat} {H : List Ent} (hB : w0.heap.size ≤ B) {a : Option Addr} {len cap : Nat} {l : List UInt8} (hl : Sl byteV w0 a len cap l) (n : Int) (hn : -9223372036854775808 ≤ n ∧ n ≤ 9223372036854775807) (d : Int) (hd : -9223372036854775808 ≤ d ∧ d ≤ 9223372036854775807)
    {a2 : Option Addr} {len2 cap2 : Nat} {l2 : List UInt8} (hl2 : Sl byteV w0 a2 len2 cap2 l2) :
    Fn Try.prog w0 B 7 [.slice a len cap, .int .i64 n, .int .i64 d, .slice a2 len2 cap2] H (fun u _ => u = .bool true) := by
  have e1 := hl.size_eq
  have e2 := hl2.size_eq
  have e3 := hl.le
  have b1 : ∀ E, BArg w0 B E a len l := fun E => BArg.sl hB hl
  have b2 : ∀ E, BArg w0 B E a2 len2 l2 := fun E => BArg.sl hB hl2
  have r1 : ∀ E, Rds w0 B E a (l.map byteV) := fun E => Rds.sl (c := ⟨Try.prog, 0, w0, B⟩) hl hB (by simp [Value.oneCell', byteV])
  have r2 : ∀ E, Rds w0 B E a2 (l2.map byteV) := fun E => Rds.sl (c := ⟨Try.prog, 0, w0, B⟩) hl2 hB (by simp [Value.oneCell', byteV])
  refine fn_intro Try.func7 rfl (by kernel_rfl) rfl ?_
  by_cases h1 : 1000 < len
  · repeat (first | refine go_ ?_ | refine bx_ (fun _ => ?_) | refine hl_callv rfl rfl (anchor_fn) ?_)
    exact fin1B rfl rfl rfl
  by_cases h2 : 1000 < len2
  · repeat (first | refine go_ ?_ | refine bx_ (fun _ => ?_) | refine hl_callv rfl rfl (anchor_fn) ?_)
    exact fin1B rfl rfl rfl
  by_cases h3 : n < 3
  · repeat (first | refine go_ ?_ | refine bx_ (fun _ => ?_) | refine hl_callv rfl rfl (anchor_fn) ?_)
    exact fin1B rfl rfl rfl
  by_cases h4 : 258 < n
  · repeat (first | refine go_ ?_ | refine bx_ (fun _ => ?_) | refine hl_callv rfl rfl (anchor_fn) ?_)
    exact fin1B rfl rfl rfl
  by_cases h5 : d < 1
  · repeat (first | refine go_ ?_ | refine bx_ (fun _ => ?_) | refine hl_callv rfl rfl (anchor_fn) ?_)
    exact fin1B rfl rfl rfl
  obtain ⟨n, rfl⟩ := Int.eq_ofNat_of_zero_le (show 0 ≤ n by omega)
  obtain ⟨d, rfl⟩ := Int.eq_ofNat_of_zero_le (show 0 ≤ d by omega)
  repeat (first | refine go_ ?_ | refine bx_ (fun _ => ?_) | refine hl_callv rfl rfl (anchor_fn) ?_)
  refine hc_loopd (fun m fr M => ∃ k sv, k + m = len ∧ Agr fr [(0, .slice a len cap), (1, .int .i64 (n : Int)), (2, .int .i64 (d : Int)), (3, .slice a2 len2 cap2), (9, sv), (39, .slice a len cap), (40, .int .i64 (len : Int)), (41, .int .i64 (k : Int))] ∧ Own 27 3 sv k (((l.take k).map litT).flatMap tokV) H M) len ?_ ?_
  · exact ⟨0, .slice none 0 0, by omega, ⟨rfl, rfl, rfl, rfl, rfl, rfl, rfl, rfl, trivial⟩, Own.nil⟩
  rintro m fr M ⟨k, sv, hk, hf, o⟩
  obtain ⟨base, rfl⟩ := hf.out
  obtain ⟨sa, sc, rfl, hs1, hs2⟩ := o.form
  by_cases hlt : k < len
  · obtain ⟨bb, off, rfl, hrow⟩ := (b1 M).row (by omega)
    repeat (first | refine go_ ?_ | refine bx_ (fun _ => ?_))
    refine hl_append_own1 rfl rfl (o.under _) (Rds.ent (n := 3) .here rfl (by simp [Value.oneCell'])) rfl rfl (by decide) (by decide) (by omega) (by omega) rfl (fun gb cap' h1 h2 => HL.keep ?_ (.there .here))
    repeat (first | refine go_ ?_ | refine bx_ (fun _ => ?_))
    refine ⟨m - 1, by omega, _, Imp.refl _, k + 1, .slice (some ⟨gb, 0, none⟩) (k + 1) cap', by omega, ⟨rfl, rfl, rfl, rfl, rfl, rfl, rfl, rfl, trivial⟩, ?_⟩
    rw [map_take_succ (by omega), flat_snoc]
    exact Own.mk h1 h2 (by rw [List.length_append, length_flat]; simp; omega) (List.Perm.refl _)
  obtain rfl : len = k := by omega
  rw [List.take_of_length_le (by omega)] at o
  repeat (first | refine go_ ?_ | refine bx_ (fun _ => ?_))
  refine hl_append_own1 rfl rfl (o.under _) (Rds.ent (n := 3) .here rfl (by simp [Value.oneCell'])) rfl rfl (by decide) (by decide) (by omega) (by omega) rfl (fun gb cap' h1 h2 => HL.keep ?_ (.there .here))
  have o0 : Own 27 3 (.slice (some ⟨gb, 0, none⟩) (len + 1) cap') (len + 1) (List.flatMap tokV (List.map litT l) ++ [Value.int .i64 (n : Int), .int .i64 (d : Int), .int .u8 0]) H (⟨gb, 27, (List.flatMap tokV (List.map litT l) ++ [Value.int .i64 (n : Int), .int .i64 (d : Int), .int .u8 0]), cap' * 3⟩ :: H) := Own.mk h1 h2 (by rw [List.length_append, length_flat]; simp; omega) (List.Perm.refl _)
  repeat (first | refine go_ ?_ | refine bx_ (fun _ => ?_))
  refine hc_loopd (fun m fr M => ∃ k sv, k + m = len2 ∧ Agr fr [(0, .slice a len cap), (1, .int .i64 (n : Int)), (2, .int .i64 (d : Int)), (3, .slice a2 len2 cap2), (9, sv), (57, .slice a2 len2 cap2), (58, .int .i64 (len2 : Int)), (59, .int .i64 (k : Int))] ∧ Own 27 3 sv (len + 1 + k) ((toks l n d (l2.take k)).flatMap tokV) H M) len2 ?_ ?_
  · refine ⟨0, .slice (some ⟨gb, 0, none⟩) (len + 1) cap', by omega, ⟨rfl, rfl, rfl, rfl, rfl, rfl, rfl, rfl, trivial⟩, ?_⟩
    have e : (toks l n d (l2.take 0)).flatMap tokV = List.flatMap tokV (List.map litT l) ++ [Value.int .i64 (n : Int), .int .i64 (d : Int), .int .u8 0] := by
      unfold toks; simp
    rw [e]
    exact o0
  clear o0 o hf hs1 hs2 hk base
  rintro m fr M ⟨k, sv, hk, hf, o⟩
  obtain ⟨base, rfl⟩ := hf.out
  obtain ⟨sa, sc, rfl, hs1, hs2⟩ := o.form
  by_cases hlt : k < len2
  · obtain ⟨bb, off, rfl, hrow⟩ := (b2 M).row (by omega)
    repeat (first | refine go_ ?_ | refine bx_ (fun _ => ?_))
    refine hl_append_own1 rfl rfl (o.under _) (Rds.ent (n := 3) .here rfl (by simp [Value.oneCell'])) rfl rfl (by decide) (by decide) (by omega) (by omega) rfl (fun gb cap' h1 h2 => HL.keep ?_ (.there .here))
    repeat (first | refine go_ ?_ | refine bx_ (fun _ => ?_))
    refine ⟨m - 1, by omega, _, Imp.refl _, k + 1, .slice (some ⟨gb, 0, none⟩) (len + 1 + k + 1) cap', by omega, ⟨rfl, rfl, rfl, rfl, rfl, rfl, rfl, rfl, trivial⟩, ?_⟩
    have e : (toks l n d (l2.take (k + 1))).flatMap tokV = (toks l n d (l2.take k)).flatMap tokV ++ tokV (litT (l2.getD k 0)) := by
      unfold toks
      rw [map_take_succ (by omega), ← flat_snoc]
      simp
    rw [e]
    exact Own.mk h1 h2 (by rw [List.length_append, length_flat]; unfold toks; simp; omega) (List.Perm.refl _)
  obtain rfl : len2 = k := by omega
  rw [List.take_of_length_le (by omega)] at o
  have hwf : ∀ x ∈ toks l n d l2, x.wf := by
    intro x hx
    unfold toks at hx
    simp only [List.mem_append, List.mem_cons, List.mem_map] at hx
    rcases hx with ⟨c, _, rfl⟩ | rfl | ⟨c, _, rfl⟩
    · simp [Tok.wf, litT]
    · exact ⟨hn, hd⟩
    · simp [Tok.wf, litT]
  obtain ⟨gt, ct, he, _, _, _, hp⟩ := o.posn (by omega)
  cases he
  repeat (first | refine go_ ?_ | refine bx_ (fun _ => ?_))
  refine hl_call rfl rfl (bytes_fn (l := toks l n d l2) (by unfold toks; simp; omega) (fun _ => ⟨_, _, rfl⟩) (o.rds (c := ⟨Try.prog, 0, w0, B⟩) (by
    intro u hu
    obtain ⟨t, _, ht⟩ := List.mem_flatMap.1 hu
    simp only [List.mem_cons, List.not_mem_nil, or_false] at ht
    rcases ht with rfl | rfl | rfl <;> rfl)) hwf (by omega) 5000 (by decide)) (fun v M3 o3 => ?_)
  obtain ⟨sv3, rfl, o3⟩ := o3
  have hstep : lzB 5000 (toks l n d l2) [] = lzB 5000 (⟨n, d, 0⟩ :: l2.map litT) l := by
    unfold toks
    rw [lits _ _ _ _ (by simp; omega), List.nil_append]
  by_cases hdl : len < d
  · rw [lzB, if_pos (show Bad l ⟨(n : Int), (d : Int), 0⟩ from ⟨by dsimp only; omega, .inr (.inr (.inr (.inr (by dsimp only; omega))))⟩)] at hstep
    rw [hstep] at o3 ⊢
    dsimp only at o3 ⊢
    obtain ⟨a3, c3, rfl, _, _⟩ := o3.form
    repeat (first | refine go_ ?_ | refine bx_ (fun _ => ?_))
    exact fin1B rfl rfl rfl
  rw [lzB, if_neg (show ¬ Bad l ⟨(n : Int), (d : Int), 0⟩ from fun h => by obtain ⟨_, h⟩ := h; dsimp only at h; omega), if_neg (by dsimp only; omega), show nextB l ⟨(n : Int), (d : Int), 0⟩ = copyN l d n from if_neg (by dsimp only; omega)] at hstep
  have hlc := length_copyN l d n
  have h6 := lits 5000 l2 [] (copyN l d n) (by rw [hlc]; omega)
  rw [List.append_nil, lzB] at h6
  rw [h6] at hstep
  rw [hstep] at o3 ⊢
  dsimp only at o3 ⊢
  have hol : (copyN l d n ++ l2).length = len + n + len2 := by rw [List.length_append, hlc]; omega
  rw [hol] at o3
  obtain ⟨g3, c3, rfl, hc1, hc2, _, hp3⟩ := o3.posn (by omega)
  have r3 : Rds w0 B M3 _ _ := o3.rds (c := ⟨Try.prog, 0, w0, B⟩) (by intro u hu; obtain ⟨c, _, rfl⟩ := List.mem_map.1 hu; rfl)
  have r3t : Rds w0 B M3 (some ⟨g3, 0, none⟩) (l.map byteV) := by
    have := r3.take len
    rwa [← List.map_take, List.take_append_of_le_length (by omega), ← e1, copyN_take] at this
  subst e1 e2
  repeat (first | refine go_ ?_ | refine bx_ (fun _ => ?_))
  have hc0 : (some (⟨g3, 0, none⟩ : Addr)) = none → c3 = 0 := fun h => by cases h
  have hdr : (copyN l d n ++ l2).drop (l.length + n) = l2 := by
    rw [← hlc, List.drop_left]
  refine hc_meet (fun fr M => M = M3 ∧ Agr fr [(0, .slice a l.length cap), (1, .int .i64 (n : Int)), (2, .int .i64 (d : Int)), (14, .slice (some ⟨g3, 0, none⟩) (l.length + n + l2.length) c3), (120, .bool false)]) ?_ ?_
  · have hix : ((l.length : Int) + (n : Int)) = ((l.length + n : Nat) : Int) := by omega
    (refine hc_draw (by kernel_rfl) (by kernel_rfl) ?_; repeat (first | rw [hix] | refine gd1_ ?_ | refine hl_sliceTo rfl rfl rfl (by omega) rfl ?_ | refine hl_convStr rfl (r1 _) rfl ?_ | refine hl_convStr rfl r3t rfl ?_ | refine hl_strNeF rfl rfl rfl rfl ?_))
    refine hl_sliceR (kj := .i64) (i := l.length + n) (j := l.length + n + l2.length) (l := (copyN l d n ++ l2).map byteV) rfl r3 (by rw [List.length_map, hol]) (by omega) hc0 rfl rfl (by omega) (by omega) rfl (fun sa hsa hna => ?_)
    rw [Nat.add_sub_cancel_left, ← List.map_drop, hdr, List.take_of_length_le (by simp)] at hsa
    rw [Nat.add_sub_cancel_left]
    repeat (first | refine gd_ ?_ | refine hl_convStr rfl hsa rfl ?_ | refine hl_convStr rfl (r2 _) rfl ?_ | refine hl_strNeF rfl rfl rfl rfl ?_)
    exact ⟨rfl, rfl, rfl, rfl, rfl, rfl, trivial⟩
  rintro fr M ⟨rfl, hf⟩
  obtain ⟨base, rfl⟩ := hf.out
  repeat (first | refine go_ ?_ | refine bx_ (fun _ => ?_))
  obtain ⟨M4, hp4⟩ : ∃ M4 : List Ent, List.Perm M ((⟨g3, 5, (copyN l d n ++ l2).map byteV, c3 * 1⟩ : Ent) :: M4) := ⟨_, hp3⟩
  refine HC.perm ?_ hp4
  refine hc_loop (fun m fr M => ∃ k, k + m = n ∧ Agr fr [(0, .slice a l.length cap), (1, .int .i64 (n : Int)), (2, .int .i64 (d : Int)), (14, .slice (some ⟨g3, 0, none⟩) (l.length + n + l2.length) c3), (16, .int .i64 (k : Int))] ∧ M = ⟨g3, 5, (copyN l d n ++ l2).map byteV, c3 * 1⟩ :: M4) n ?_ ?_
  · exact ⟨0, by omega, ⟨rfl, rfl, rfl, rfl, rfl, trivial⟩, rfl⟩
  clear hf base
  rintro m fr M ⟨k, hk, hf, rfl⟩
  obtain ⟨base, rfl⟩ := hf.out
  by_cases hkn : k < n
  · obtain ⟨bb, off, rfl, hrow⟩ := (b1 (⟨g3, 5, (copyN l d n ++ l2).map byteV, c3 * 1⟩ :: M4)).row (by omega)
    have hkd := Nat.mod_lt k (show 0 < d by omega)
    have hcg := copyN_get l d (by omega) (by omega) k n hkn
    obtain ⟨r, hr⟩ : ∃ r, r = k % d := ⟨_, rfl⟩
    have hkr : (k : Int) % (d : Int) = (r : Int) := by rw [hr]; exact (Int.natCast_emod k d).symm
    rw [← hr] at hkd hcg
    have hix1 : ((l.length : Int) + (k : Int)) = ((l.length + k : Nat) : Int) := by omega
    have hix2 : ((l.length : Int) - (d : Int) + (r : Int)) = ((l.length - d + r : Nat) : Int) := by omega
    have hg2 : (copyN l d n ++ l2).getD (l.length + k) 0 = (copyN l d n).getD (l.length + k) 0 := by
      rw [List.getD_eq_getElem?_getD, List.getElem?_append_left (by omega), ← List.getD_eq_getElem?_getD]
    have hget : ((copyN l d n ++ l2).map byteV)[l.length + k]? = some (.int .u8 (((copyN l d n ++ l2).getD (l.length + k) 0).toNat : Int)) := by
      have : l.length + k < (copyN l d n ++ l2).length := by omega
      rw [List.getElem?_map, List.getElem?_eq_getElem this, List.getD_eq_getElem?_getD, List.getElem?_eq_getElem this]
      rfl
    have heq : (((copyN l d n ++ l2).getD (l.length + k) 0).toNat : Int) = byteF l (l.length - d + r) := by rw [hg2, hcg]
    repeat (first | refine go_ ?_ | refine bx_ (fun _ => ?_))
    (refine hc_draw (by kernel_rfl) (by kernel_rfl) ?_; repeat (first | rw [hkr] | rw [hix1] | rw [hix2] | refine gd1_ ?_))
    repeat (first | refine go_ ?_ | refine bx_ (fun _ => ?_))
    exact ⟨m - 1, by omega, k + 1, by omega, ⟨rfl, rfl, rfl, rfl, rfl, trivial⟩, rfl⟩
  · repeat (first | refine go_ ?_ | refine bx_ (fun _ => ?_))
    exact fin1B rfl rfl rfl
theorem walk (a : Option Addr) (len cap : Nat) (l : List UInt8) (n d : Int) (a2 : Option Addr) (len2 cap2 : Nat) (l2 : List UInt8) (w : World) (hl : Sl byteV w a len cap l) (hn : -9223372036854775808 ≤ n ∧ n ≤ 9223372036854775807) (hd : -9223372036854775808 ≤ d ∧ d ≤ 9223372036854775807) (hl2 : Sl byteV w a2 len2 cap2 l2) :
    Calls Try.prog 7 #[.slice a len cap, .int .i64 n, .int .i64 d, .slice a2 len2 cap2] w fun e w' => e = .returned (.bool true) ∧ Below w.heap.size w w' :=
  calls_of_fn (law (Nat.le_refl _) hl n hn d hd hl2) fun _ _ h => h

/-! The step to the statement (written by program). -/
open Go.ChangeShapes Go.WideShapes Go.ChangeAt
set_option maxRecDepth 100000 in
theorem lifted (os : Os) (started : os.Started) (H : Type) (enc : TypeId × Value → H) :
    ReturnsInHanded {} Try.checked os 7 .any (Rows.lzJoinsSpec.pre6 enc Try.prog Try.f7 Rows.lzJoinsRow.domain false) (Rows.lzJoinsSpec.post enc Try.prog Try.f7 false true false false) := by
  refine returnsInHanded_of_change (C := Try.checked) own started (by kernel_rfl) Try.func7
    (ChangeSpec.witness6 (enc := enc) (C := Try.checked) false ⟨#[], #[.slice none 0 0, .int .i64 0, .int .i64 0, .slice none 0 0], []⟩ 8 (by kernel_rfl) (by kernel_rfl) (by kernel_rfl) (by kernel_rfl)) ?_
  intro W base args ds gs before hval0 hW hcnd _
  have hval : ∀ (j : Nat) t v, Try.f7.params[j]? = some t → args[j]? = some v → Value.okWide Try.prog W .any base t v := hval0
  have hW' := hW
  obtain ⟨p, q, hA0, hV, rfl, hfz, hnd⟩ := hW
  have hA : DataW.TrodAll enc Try.prog W 0 (fun _ => true) true Try.f7.params.toList args.toList ds p := hA0
  rw [Try.params7] at hA hval
  obtain ⟨v0, vs0, d0, ds0, p0, q0, hargs, rfl, rfl, h0, r0⟩ := trodAll_cons hA
  obtain ⟨v1, vs1, d1, ds1, p1, q1, rfl, rfl, rfl, h1, r1⟩ := trodAll_cons r0
  obtain ⟨v2, vs2, d2, ds2, p2, q2, rfl, rfl, rfl, h2, r2⟩ := trodAll_cons r1
  obtain ⟨v3, vs3, d3, ds3, p3, q3, rfl, rfl, rfl, h3, r3⟩ := trodAll_cons r2
  obtain ⟨rfl, rfl, rfl⟩ := trodAll_nil r3
  obtain rfl : args = #[v0, v1, v2, v3] := by cases args; simp_all
  obtain ⟨rfl, rfl⟩ := trodVars_none hV
  have k0 := h0
  have lt0 : ∀ x ∈ p0, x.block < W.heap.size := by obtain ⟨m, hm⟩ := k0; exact DataW.trod_lt m _ _ _ hm
  obtain ⟨a0, len0, cap0, e0⟩ := okWide_slice Try.underlying24 (hval 0 24 v0 rfl rfl)
  obtain ⟨l0, w0⟩ := open_bytes Try.underlying24 Try.underlying5 (by kernel_rfl) e0 k0
  subst e0
  have k1 := h1
  have lt1 : ∀ x ∈ p1, x.block < W.heap.size := by obtain ⟨m, hm⟩ := k1; exact DataW.trod_lt m _ _ _ hm
  obtain ⟨a1, rfl, _, _, w1⟩ := open_int Try.underlying3 (hval 1 3 v1 rfl rfl) h1
  have w1 := wf_i64 w1
  have k2 := h2
  have lt2 : ∀ x ∈ p2, x.block < W.heap.size := by obtain ⟨m, hm⟩ := k2; exact DataW.trod_lt m _ _ _ hm
  obtain ⟨a2, rfl, _, _, w2⟩ := open_int Try.underlying3 (hval 2 3 v2 rfl rfl) h2
  have w2 := wf_i64 w2
  have k3 := h3
  have lt3 : ∀ x ∈ p3, x.block < W.heap.size := by obtain ⟨m, hm⟩ := k3; exact DataW.trod_lt m _ _ _ hm
  obtain ⟨a3, len3, cap3, e3⟩ := okWide_slice Try.underlying24 (hval 3 24 v3 rfl rfl)
  obtain ⟨l3, w3⟩ := open_bytes Try.underlying24 Try.underlying5 (by kernel_rfl) e3 k3
  subst e3
  clear hA0 hval0
  refine (walk a0 len0 cap0 l0 a1 a2 a3 len3 cap3 l3 W w0 w1 w2 w3).mono fun e W' ⟨he, bel⟩ => ?_
  subst he
  exact ⟨_, rfl, _, _, _, [], _, [], hW', trodAll_mk1 (shut_bool Try.underlying4 _), (trodAll_cons_mk (Below.trod laidOut (by kernel_rfl) (of_decide_eq_true (by kernel_rfl)) k0 bel lt0) (trodAll_cons_mk (Below.trod laidOut (by kernel_rfl) (of_decide_eq_true (by kernel_rfl)) k1 bel lt1) (trodAll_cons_mk (Below.trod laidOut (by kernel_rfl) (of_decide_eq_true (by kernel_rfl)) k2 bel lt2) (trodAll_cons_mk (Below.trod laidOut (by kernel_rfl) (of_decide_eq_true (by kernel_rfl)) k3 bel lt3) trodAll_mk0)))), rfl, bel.frame _, fun h => by cases h⟩

theorem over : Rows.lzJoinsRow.holds Try.pinned (OpenSpec.ofChange Rows.lzJoinsSpec) :=
  OpenClaim.holds_of_wide 7 Try.f7 rfl rfl rfl rfl rfl rfl rfl ⟨rfl, rfl, rfl, rfl, rfl⟩ rfl rfl rfl rfl rfl (by kernel_rfl) Try.func7 (by kernel_rfl)
    (of_decide_eq_true (by kernel_rfl)) (by unfold Func.isWrapper; first | (rw [if_pos (by decide +kernel)]; kernel_rfl) | (rw [if_neg (by decide +kernel)]; exact ⟨rfl, rfl⟩))
    (fun os started H enc _ => lifted os started H enc)

/-- The statement. -/
theorem proved : Rows.LzJoinsSaid := over
#print axioms proved
end Go.Proofs.Ytabaagelgfdkeaa.lzJoins
