/-
  BitsReads. No condition.
-/
import Derived.Test.YtbgmakblfnpjkaaB4
import Derived.Test.YtbgmakblfnpjkaaOpenS
namespace Go.Proofs.Ytbgmakblfnpjkaa.bitsReads
open Go.RowKit

theorem and8_1 (u : UInt8) (p : Nat) : bits .and .u8 ((u.toNat : Int) / 2 ^ p) 1 = ((u.toNat.testBit p).toNat : Int) := by
  have h : ∀ q : Fin 256, bits .and .u8 (q.val : Int) 1 = ((q.val % 2 : Nat) : Int) := by decide +kernel
  have hq : u.toNat / 2 ^ p < 256 := Nat.lt_of_le_of_lt (Nat.div_le_self _ _) u.toNat_lt
  have h1 := h ⟨u.toNat / 2 ^ p, hq⟩
  rw [show ((u.toNat : Int) / 2 ^ p) = ((u.toNat / 2 ^ p : Nat) : Int) by simp, h1, testBit_mod]
  have : u.toNat / 2 ^ p % 2 < 2 := Nat.mod_lt _ (by decide)
  generalize u.toNat / 2 ^ p % 2 = q at *
  match q, this with
  | 0, _ => rfl
  | 1, _ => rfl
theorem xor8 (u : UInt8) : ∃ y : UInt8, bits .xor .u8 (u.toNat : Int) 255 = (y.toNat : Int) := by
  have h : ∀ q : Fin 256, bits .xor .u8 (q.val : Int) 255 = (((UInt8.ofNat (255 - q.val)).toNat : Nat) : Int) := by decide +kernel
  exact ⟨_, h ⟨u.toNat, u.toNat_lt⟩⟩
set_option maxHeartbeats 8000000 in
set_option maxRecDepth 100000 in
theorem law {w0 : World} {B : Nat} {H : List Ent} (hB : w0.heap.size ≤ B) {a : Option Addr} {len cap : Nat} {l : List UInt8} (hl : Sl byteV w0 a len cap l)
    {a' : Option Addr} {len' cap' : Nat} {ps : List Int} (hp : Sl intV w0 a' len' cap' ps) (hx : ∀ z ∈ ps, -9223372036854775808 ≤ z ∧ z ≤ 9223372036854775807) (high : Bool) :
    Fn Try.prog w0 B 6 [.slice a len cap, .slice a' len' cap', .bool high] H (fun u _ => u = .bool true) := by
  refine fn_intro Try.func6 rfl (by kernel_rfl) rfl ?_
  have hle := hl.size_eq
  have hcap := hl.small
  have hlc := hl.le
  have hle' := hp.size_eq
  have hcap' := hp.small
  have hlc' := hp.le
  by_cases h300 : 300 < len
  · repeat (first | refine go_ ?_ | refine bx_ (fun _ => ?_) | refine hl_callv rfl rfl (anchor_fn) ?_)
    exact fin1B rfl rfl rfl
  by_cases h301 : 300 < len'
  · repeat (first | refine go_ ?_ | refine bx_ (fun _ => ?_) | refine hl_callv rfl rfl (anchor_fn) ?_)
    exact fin1B rfl rfl rfl
  repeat (first | refine go_ ?_ | refine bx_ (fun _ => ?_) | refine hl_callv rfl rfl (anchor_fn) ?_)
  refine hl_append rfl rfl .here rfl (Rds.sl hl hB (by simp [Value.oneCell'])).under (by simp [hle]) rfl (by decide) (by decide) (by omega) (by omega) rfl (fun g' cap2 h1 h2 => ?_)
  rw [Nat.zero_add]
  change HL _ _ _ _ _ (⟨g', 5, l.map byteV, cap2 * 1⟩ :: H)
  rw [Nat.zero_add] at h1
  repeat (first | refine go_ ?_ | refine bx_ (fun _ => ?_))
  refine hl_call rfl rfl (open_fn hle (by omega) (Rds.ent (n := len) .here (by rw [List.drop_zero, List.take_of_length_le (by simp [hle])]) (by simp [Value.oneCell'])) high) (fun v H3 h3 => ?_)
  obtain ⟨gr, rfl, h3⟩ := h3
  obtain ⟨X, hX, hY⟩ := h3.open
  clear h3
  replace hY := hY H
  refine HL.perm ?_ (hX.trans List.perm_middle)
  repeat (first | refine go_ ?_ | refine bx_ (fun _ => ?_))
  refine hc_loop (fun m fr H3 => ∃ (k : Nat) (c : List UInt8), k + m = len ∧ c.length = len ∧ Agr fr [(0, .slice a len cap), (1, .slice a' len' cap'), (2, .bool high), (7, .slice (some ⟨g', 0, none⟩) len cap2), (8, .pointer (some ⟨gr, 0, none⟩)), (36, .slice (some ⟨g', 0, none⟩) len cap2), (37, .int .i64 (len : Int)), (38, .int .i64 (k : Int))]
    ∧ H3.Perm (⟨g', 5, c.map byteV, cap2 * 1⟩ :: (X ++ H))) len ?_ ?_
  · exact ⟨0, l, by omega, hle, ⟨rfl, rfl, rfl, rfl, rfl, rfl, rfl, rfl, trivial⟩, List.Perm.refl _⟩
  · rintro m fr H3 ⟨k, c, hk, hcl, hf, hpm⟩
    obtain ⟨base, rfl⟩ := hf.out
    refine HC.perm ?_ hpm
    by_cases hlt : k < len
    · repeat (first | refine go_ ?_ | refine bx_ (fun _ => ?_))
      refine hl_load1 (v := byteV (c.getD k 0)) rfl .here (by simp [hcl, hlt]) rfl ?_
      obtain ⟨y, hy⟩ := xor8 (c.getD k 0)
      repeat (first | refine go_ ?_ | refine bx_ (fun _ => ?_))
      rw [hy]
      refine ⟨m - 1, by omega, k + 1, c.set k y, by omega, by simpa using hcl, ⟨rfl, rfl, rfl, rfl, rfl, rfl, rfl, rfl, trivial⟩, ?_⟩
      rw [List.map_set]
    · repeat (first | refine go_ ?_ | refine bx_ (fun _ => ?_))
      refine HC.drop ?_
      repeat (first | refine go_ ?_ | refine bx_ (fun _ => ?_))
      refine hc_loopd (fun m fr H3 => ∃ (k at_ : Nat), k + m = len' ∧ at_ ≤ 8 * len ∧ Agr fr [(0, .slice a len cap), (1, .slice a' len' cap'), (2, .bool high), (8, .pointer (some ⟨gr, 0, none⟩)), (10, .int .i64 (at_ : Int)), (48, .slice a' len' cap'), (49, .int .i64 (len' : Int)), (50, .int .i64 (k : Int))]
        ∧ Rdr gr high l at_ H H3) len' ?_ ?_
      · exact ⟨0, 0, by omega, by omega, ⟨rfl, rfl, rfl, rfl, rfl, rfl, rfl, rfl, trivial⟩, hY⟩
      · clear hY hX hf hpm hk hcl base c X
        rintro m fr H3 ⟨k, t, hk, ht, hf, hr⟩
        obtain ⟨base, rfl⟩ := hf.out
        by_cases hlt : k < len'
        · have hkl : k < ps.length := by omega
          obtain ⟨b, off, rfl, _⟩ := hp.row k hkl
          have hwf := hx _ (List.getElem_mem hkl)
          repeat (first | refine go_ ?_ | refine bx_ (fun _ => ?_))
          refine hl_loadV hp hkl hB rfl rfl ?_
          obtain ⟨n, hn⟩ : ∃ n, ps[k] = n := ⟨_, rfl⟩
          rw [hn] at hwf ⊢
          by_cases hm1 : n = -1
          · repeat (first | refine go_ ?_ | refine bx_ (fun _ => ?_))
            refine hl_call rfl rfl (align_fn hr (by omega) (by omega)) (fun r H5 h5 => ?_)
            repeat (first | refine go_ ?_ | refine bx_ (fun _ => ?_))
            refine ⟨m - 1, by omega, _, Imp.refl _, k + 1, (t + 7) / 8 * 8, by omega, by omega, ⟨rfl, rfl, rfl, rfl, ?_, rfl, rfl, rfl, trivial⟩, h5⟩
            exact congrArg (Value.int .i64) (show ((t : Int) + 7) / 8 * 8 = (((t + 7) / 8 * 8 : Nat) : Int) by omega)
          by_cases hno : n < 0 ∨ 24 < n ∨ 8 * (len : Int) < t + n
          · repeat (first | refine go_ ?_ | refine bx_ (fun _ => ?_))
            refine hl_call rfl rfl (Get_no hr (by omega) (by omega) n hwf (by omega)) (fun r H5 h5 => ?_)
            obtain ⟨rfl, h5⟩ := h5
            by_cases h1 : n < 0
            · repeat (first | refine go_ ?_ | refine bx_ (fun _ => ?_))
              exact ⟨m - 1, by omega, _, Imp.refl _, k + 1, t, by omega, by omega, ⟨rfl, rfl, rfl, rfl, rfl, rfl, rfl, rfl, trivial⟩, h5⟩
            by_cases h2 : 24 < n
            · repeat (first | refine go_ ?_ | refine bx_ (fun _ => ?_))
              exact ⟨m - 1, by omega, _, Imp.refl _, k + 1, t, by omega, by omega, ⟨rfl, rfl, rfl, rfl, rfl, rfl, rfl, rfl, trivial⟩, h5⟩
            repeat (first | refine go_ ?_ | refine bx_ (fun _ => ?_))
            exact ⟨m - 1, by omega, _, Imp.refl _, k + 1, t, by omega, by omega, ⟨rfl, rfl, rfl, rfl, rfl, rfl, rfl, rfl, trivial⟩, h5⟩
          · obtain ⟨q, rfl⟩ := Int.eq_ofNat_of_zero_le (show 0 ≤ n by omega)
            repeat (first | refine go_ ?_ | refine bx_ (fun _ => ?_))
            refine hl_call rfl rfl (Get_yes hr (by omega) q (by omega) (by omega)) (fun r H5 h5 => ?_)
            obtain ⟨rfl, h5⟩ := h5
            repeat (first | refine go_ ?_ | refine bx_ (fun _ => ?_))
            clear hf
            refine hc_loop (fun m2 fr H5 => ∃ j, j + m2 = q ∧ Agr fr [(0, .slice a len cap), (1, .slice (some ⟨b, off, none⟩) len' cap'), (2, .bool high), (8, .pointer (some ⟨gr, 0, none⟩)), (10, .int .i64 (t : Int)), (12, .int .i64 (q : Int)), (13, .int .i64 ((numOf high (bitsAt l high t q) : Nat) : Int)), (14, .bool true), (15, .int .i64 ((numOf high ((bitsAt l high t q).take j) : Nat) : Int)), (16, .int .i64 (j : Int)), (48, .slice (some ⟨b, off, none⟩) len' cap'), (49, .int .i64 (len' : Int)), (50, .int .i64 (k : Int))]
              ∧ Rdr gr high l (t + q) H H5) q ?_ ?_
            · exact ⟨0, by omega, ⟨rfl, rfl, rfl, rfl, rfl, rfl, rfl, rfl, by cases high <;> rfl, rfl, rfl, rfl, rfl, trivial⟩, h5⟩
            · clear h5 H5 hr base
              rintro m2 fr H5 ⟨j, hj, hf, hr⟩
              obtain ⟨base, rfl⟩ := hf.out
              by_cases hjq : j < q
              · obtain ⟨u, hu⟩ : ∃ u, u = t + j := ⟨_, rfl⟩
                have hul : u / 8 < l.length := by omega
                obtain ⟨b0, off0, rfl, _⟩ := hl.row (u / 8) hul
                have h0 : (t : Int) + (j : Int) = (u : Int) := by omega
                have h8 : (u : Int) / 8 = ((u / 8 : Nat) : Int) := by omega
                have hget : l[u / 8] = l.getD (u / 8) 0 := by simp [List.getD_eq_getElem?_getD, hul]
                have hN := numH_lt ((bitsAt l high t q).take j)
                have hL := numL_lt ((bitsAt l high t q).take j)
                have htl : ((bitsAt l high t q).take j).length = j := by rw [List.length_take, length_bitsAt]; omega
                rw [htl] at hN hL
                have h24 : 2 ^ j ≤ 2 ^ 24 := Nat.pow_le_pow_right (by decide) (by omega)
                obtain ⟨x, hx1, hx2⟩ : ∃ x : Nat, x = (bitAt l high (t + j)).toNat ∧ x ≤ 1 := ⟨_, rfl, by cases bitAt l high (t + j) <;> decide⟩
                cases high
                · have hb : bits .and .u8 (((l.getD (u / 8) 0).toNat : Int) / 2 ^ (u % 8)) 1 = (x : Int) := by
                    rw [and8_1, hx1, ← hu]; rfl
                  have hm8 : (u : Int) % 8 = ((u % 8 : Nat) : Int) := by omega
                  have hx3 : x * 2 ^ j ≤ 2 ^ j := by
                    have := Nat.mul_le_mul_right (2 ^ j) hx2
                    omega
                  obtain ⟨s, hs1⟩ : ∃ s, s = x * 2 ^ j := ⟨_, rfl⟩
                  have hs : IntKind.i64.wrap ((x : Int) * 2 ^ j) = (s : Int) := by
                    rw [show ((x : Int) * 2 ^ j) = ((x * 2 ^ j : Nat) : Int) by simp, ← hs1]
                    exact IntWalk.i64_in _ (by omega)
                  have hnl : numOf false ((bitsAt l false t q).take j) = numL ((bitsAt l false t q).take j) := rfl
                  rw [hnl] at hf ⊢
                  repeat (first | rw [h0] | rw [h8] | rw [hm8] | rw [hb] | rw [hs] | refine go1_ ?_ | refine bx_ (fun _ => ?_) | (refine hl_loadV hl hul hB rfl rfl ?_; rw [hget]))
                  refine ⟨m2 - 1, by omega, j + 1, by omega, ⟨rfl, rfl, rfl, rfl, rfl, rfl, rfl, rfl, ?_, rfl, rfl, rfl, rfl, trivial⟩, hr⟩
                  refine congrArg (Value.int .i64) (show ((numL ((bitsAt l false t q).take j) : Nat) : Int) + (s : Int) = ((numOf false ((bitsAt l false t q).take (j + 1)) : Nat) : Int) from ?_)
                  rw [bitsAt_take _ _ _ _ _ hjq]
                  show _ = ((numL ((bitsAt l false t q).take j ++ [bitAt l false (t + j)]) : Nat) : Int)
                  rw [numL_snoc, htl, ← hx1, ← hs1]; omega
                · have hb : bits .and .u8 (((l.getD (u / 8) 0).toNat : Int) / 2 ^ (7 - u % 8)) 1 = (x : Int) := by
                    rw [and8_1, hx1, ← hu]; rfl
                  have hm8 : (7 : Int) - (u : Int) % 8 = ((7 - u % 8 : Nat) : Int) := by omega
                  have hnl : numOf true ((bitsAt l true t q).take j) = numH ((bitsAt l true t q).take j) := rfl
                  rw [hnl] at hf ⊢
                  repeat (first | rw [h0] | rw [h8] | rw [hm8] | rw [hb] | refine go1_ ?_ | refine bx_ (fun _ => ?_) | (refine hl_loadV hl hul hB rfl rfl ?_; rw [hget]))
                  refine ⟨m2 - 1, by omega, j + 1, by omega, ⟨rfl, rfl, rfl, rfl, rfl, rfl, rfl, rfl, ?_, rfl, rfl, rfl, rfl, trivial⟩, hr⟩
                  refine congrArg (Value.int .i64) (show 2 * ((numH ((bitsAt l true t q).take j) : Nat) : Int) + (x : Int) = ((numOf true ((bitsAt l true t q).take (j + 1)) : Nat) : Int) from ?_)
                  rw [bitsAt_take _ _ _ _ _ hjq]
                  show _ = ((numH ((bitsAt l true t q).take j ++ [bitAt l true (t + j)]) : Nat) : Int)
                  rw [numH_snoc, ← hx1]; omega
              · obtain rfl : j = q := by omega
                rw [List.take_of_length_le (show (bitsAt l high t j).length ≤ j by rw [length_bitsAt]; omega)]
                repeat (first | refine go_ ?_ | refine bx_ (fun _ => ?_) | refine hl_callv rfl rfl (at_q hr) ?_ | refine hl_callv rfl rfl (left_q hr (by omega) (by omega)) ?_)
                refine ⟨m - 1, by omega, _, Imp.refl _, k + 1, t + j, by omega, by omega, ⟨rfl, rfl, rfl, rfl, ?_, rfl, rfl, rfl, trivial⟩, hr⟩
                exact congrArg (Value.int .i64) (show (t : Int) + (j : Int) = ((t + j : Nat) : Int) by omega)
        · repeat (first | refine go_ ?_ | refine bx_ (fun _ => ?_) | refine hl_callv rfl rfl (at_q hr) ?_)
          exact fin1B rfl rfl rfl
theorem walk (a : Option Addr) (len cap : Nat) (l : List UInt8) (a' : Option Addr) (len' cap' : Nat) (ps : List Int) (high : Bool) (w : World) (hl : Sl byteV w a len cap l) (hp : Sl intV w a' len' cap' ps) (hx : ∀ z ∈ ps, -9223372036854775808 ≤ z ∧ z ≤ 9223372036854775807) :
    Calls Try.prog 6 #[.slice a len cap, .slice a' len' cap', .bool high] w fun e w' => e = .returned (.bool true) ∧ Below w.heap.size w w' :=
  calls_of_fn (law (Nat.le_refl _) hl hp hx high) fun _ _ h => h

/-! The step to the statement (written by program). -/
open Go.ChangeShapes Go.WideShapes Go.ChangeAt
set_option maxRecDepth 100000 in
theorem lifted (os : Os) (started : os.Started) (H : Type) (enc : TypeId × Value → H) :
    ReturnsInHanded {} Try.checked os 6 .any (Rows.bitsReadsSpec.pre6 enc Try.prog Try.f6 Rows.bitsReadsRow.domain false) (Rows.bitsReadsSpec.post enc Try.prog Try.f6 false true false false) := by
  refine returnsInHanded_of_change (C := Try.checked) own started (by kernel_rfl) Try.func6
    (ChangeSpec.witness6 (enc := enc) (C := Try.checked) false ⟨#[], #[.slice none 0 0, .slice none 0 0, .bool false], []⟩ 8 (by kernel_rfl) (by kernel_rfl) (by kernel_rfl) (by kernel_rfl)) ?_
  intro W base args ds gs before hval0 hW hcnd _
  have hval : ∀ (j : Nat) t v, Try.f6.params[j]? = some t → args[j]? = some v → Value.okWide Try.prog W .any base t v := hval0
  have hW' := hW
  obtain ⟨p, q, hA0, hV, rfl, hfz, hnd⟩ := hW
  have hA : DataW.TrodAll enc Try.prog W 0 (fun _ => true) true Try.f6.params.toList args.toList ds p := hA0
  rw [Try.params6] at hA hval
  obtain ⟨v0, vs0, d0, ds0, p0, q0, hargs, rfl, rfl, h0, r0⟩ := trodAll_cons hA
  obtain ⟨v1, vs1, d1, ds1, p1, q1, rfl, rfl, rfl, h1, r1⟩ := trodAll_cons r0
  obtain ⟨v2, vs2, d2, ds2, p2, q2, rfl, rfl, rfl, h2, r2⟩ := trodAll_cons r1
  obtain ⟨rfl, rfl, rfl⟩ := trodAll_nil r2
  obtain rfl : args = #[v0, v1, v2] := by cases args; simp_all
  obtain ⟨rfl, rfl⟩ := trodVars_none hV
  have k0 := h0
  have lt0 : ∀ x ∈ p0, x.block < W.heap.size := by obtain ⟨m, hm⟩ := k0; exact DataW.trod_lt m _ _ _ hm
  obtain ⟨a0, len0, cap0, e0⟩ := okWide_slice Try.underlying30 (hval 0 30 v0 rfl rfl)
  obtain ⟨l0, w0⟩ := open_bytes Try.underlying30 Try.underlying5 (by kernel_rfl) e0 k0
  subst e0
  have k1 := h1
  have lt1 : ∀ x ∈ p1, x.block < W.heap.size := by obtain ⟨m, hm⟩ := k1; exact DataW.trod_lt m _ _ _ hm
  obtain ⟨a1, len1, cap1, e1⟩ := okWide_slice Try.underlying36 (hval 1 36 v1 rfl rfl)
  obtain ⟨l1, w1, b1⟩ := open_nums Try.underlying36 Try.underlying3 (by kernel_rfl) e1 k1
  subst e1
  have k2 := h2
  have lt2 : ∀ x ∈ p2, x.block < W.heap.size := by obtain ⟨m, hm⟩ := k2; exact DataW.trod_lt m _ _ _ hm
  obtain ⟨a2, rfl, _, _⟩ := open_bool Try.underlying4 (hval 2 4 v2 rfl rfl) h2
  clear hA0 hval0
  refine (walk a0 len0 cap0 l0 a1 len1 cap1 l1 a2 W w0 w1 b1).mono fun e W' ⟨he, bel⟩ => ?_
  subst he
  exact ⟨_, rfl, _, _, _, [], _, [], hW', trodAll_mk1 (shut_bool Try.underlying4 _), (trodAll_cons_mk (Below.trod laidOut (by kernel_rfl) (of_decide_eq_true (by kernel_rfl)) k0 bel lt0) (trodAll_cons_mk (Below.trod laidOut (by kernel_rfl) (of_decide_eq_true (by kernel_rfl)) k1 bel lt1) (trodAll_cons_mk (Below.trod laidOut (by kernel_rfl) (of_decide_eq_true (by kernel_rfl)) k2 bel lt2) trodAll_mk0))), rfl, bel.frame _, fun h => by cases h⟩

theorem over : Rows.bitsReadsRow.holds Try.pinned (OpenSpec.ofChange Rows.bitsReadsSpec) :=
  OpenClaim.holds_of_wide 6 Try.f6 rfl rfl rfl rfl rfl rfl rfl ⟨rfl, rfl, rfl, rfl, rfl⟩ rfl rfl rfl rfl rfl (by kernel_rfl) Try.func6 (by kernel_rfl)
    (of_decide_eq_true (by kernel_rfl)) (by unfold Func.isWrapper; first | (rw [if_pos (by decide +kernel)]; kernel_rfl) | (rw [if_neg (by decide +kernel)]; exact ⟨rfl, rfl⟩))
    (fun os started H enc _ => lifted os started H enc)

/-- The statement. -/
theorem proved : Rows.BitsReadsSaid := over
#print axioms proved
end Go.Proofs.Ytbgmakblfnpjkaa.bitsReads
