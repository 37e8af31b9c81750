/-
  The document's bits, as a list of numbers. No condition.
-/
import Derived.Test.YtbgmakblfnpjkaaB5
import Derived.Test.YtbgmakblfnpjkaaOpenNum
namespace Go.Proofs.Ytbgmakblfnpjkaa
open Go.RowKit
abbrev bitV (b : Bool) : Value := .int .i64 (b.toNat : Int)
theorem and1_bit (v : Int) : bits .and .i64 v 1 = ((decide (v % 2 = 1)).toNat : Int) := by
  rw [and1_64]
  by_cases h : v % 2 = 1
  · rw [decide_eq_true h, h]; rfl
  · rw [decide_eq_false h]; show v % 2 = 0; omega
set_option maxHeartbeats 8000000 in
set_option maxRecDepth 1000000 in
theorem bitsOf_fn {w0 : World} {B : Nat} {H : List Ent} (hB : w0.heap.size ≤ B) {a : Option Addr} {len cap : Nat} {l : List Num} (hl : SlS 3 numV w0 a len cap l) (hx : ∀ x ∈ l, x.wf) (h300 : len ≤ 300) (high : Bool) :
    Fn Try.prog w0 B 15 [.slice a len cap, .bool high] H (fun v H' => Own 3 1 v (bitsOf high [] l).length ((bitsOf high [] l).map bitV) H H') := by
  have hle := hl.size_eq
  have hcap := hl.small
  have hlc := hl.le
  refine fn_intro Try.func15 rfl (by kernel_rfl) rfl ?_
  repeat (first | refine go_ ?_ | refine bx_ (fun _ => ?_))
  refine hc_loopd (fun m fr M => ∃ k sv, k + m = len ∧ Agr fr [(0, .slice a len cap), (1, .bool high), (5, sv), (10, .slice a len cap), (11, .int .i64 (len : Int)), (12, .int .i64 (k : Int))] ∧ Own 3 1 sv (bitsOf high [] (l.take k)).length ((bitsOf high [] (l.take k)).map bitV) H M) len ?_ ?_
  · exact ⟨0, _, by omega, ⟨rfl, rfl, rfl, rfl, rfl, rfl, trivial⟩, Own.nil⟩
  rintro m fr M ⟨k, sv, hk, hf, ho⟩
  obtain ⟨base, rfl⟩ := hf.out
  obtain ⟨sa, sc, rfl, hs1, hs2⟩ := ho.form
  have hLb := length_bitsOf high l k (by omega)
  by_cases hlt : k < len
  · have hkl : k < l.length := by omega
    obtain ⟨b, off, rfl, hrow⟩ := hl.row k hkl
    have hwf := hx _ (List.getElem_mem hkl)
    obtain ⟨v, n, f, hxe⟩ : ∃ v n f, l[k] = ⟨v, n, f⟩ := ⟨_, _, _, rfl⟩
    obtain ⟨hv, hn⟩ := hwf
    rw [hxe] at hv hn
    change -9223372036854775808 ≤ v ∧ v ≤ 9223372036854775807 at hv
    change -9223372036854775808 ≤ n ∧ n ≤ 9223372036854775807 at hn
    have hstep := bitsOf_take high l k hkl
    rw [hxe] at hstep
    obtain ⟨L, hL⟩ : ∃ L, L = bitsOf high [] (l.take k) := ⟨_, rfl⟩
    rw [← hL] at ho hstep hLb hs1 ⊢
    clear hL
    repeat (first | refine go_ ?_ | refine bx_ (fun _ => ?_))
    refine hl_loadE (k := 3) (f := numV) hl hkl hB rfl (by decide) rfl rfl ?_
    rw [hxe]
    change HL _ _ _ _ (updO _ _ (.agg #[.int .i64 v, .int .i64 n, .bool f])) _
    cases f
    · by_cases hright : Right v n
      · rw [show bitMore high L ⟨v, n, false⟩ = L ++ numBits v.toNat n.toNat high from if_pos hright] at hstep
        have hright' := id hright
        obtain ⟨h1, h2, h3, h4⟩ := hright'
        obtain ⟨n, rfl⟩ := Int.eq_ofNat_of_zero_le h1
        obtain ⟨v, rfl⟩ := Int.eq_ofNat_of_zero_le h3
        rw [Int.toNat_natCast, Int.toNat_natCast] at hstep
        repeat (first | refine go_ ?_ | refine bx_ (fun _ => ?_) | refine hl_callv rfl rfl (right_yes v n false hright) ?_)
        rename_i x
        refine hc_loopd (fun m2 fr M2 => ∃ j sv, j + m2 = n ∧ Agr fr [(0, .slice (some ⟨b, off, none⟩) len cap), (1, .bool high), (5, sv), (7, .pointer (some ⟨x, 0, none⟩)), (8, .int .i64 (j : Int)), (10, .slice (some ⟨b, off, none⟩) len cap), (11, .int .i64 (len : Int)), (12, .int .i64 (k : Int))]
          ∧ Own 3 1 sv (L ++ (numBits v n high).take j).length ((L ++ (numBits v n high).take j).map bitV) (⟨x, 27, [.int .i64 (v : Int), .int .i64 (n : Int), .bool false], 3⟩ :: H) M2) n ?_ ?_
        · exact ⟨0, .slice sa L.length sc, by omega, ⟨rfl, rfl, rfl, rfl, rfl, rfl, rfl, rfl, trivial⟩, by simpa using ho.under _⟩
        clear ho hs1 hs2
        rintro m2 fr M2 ⟨j, sv, hj, hf, ho⟩
        obtain ⟨base, rfl⟩ := hf.out
        obtain ⟨sa, sc, rfl, hs1, hs2⟩ := ho.form
        have hnl := length_numBits v n high
        have hbox : ∃ M3, M2.Perm (⟨x, 27, [.int .i64 (v : Int), .int .i64 (n : Int), .bool false], 3⟩ :: M3) := by
          obtain ⟨Z, hZ, _⟩ := ho.permE
          exact ⟨Z ++ H, hZ.trans List.perm_middle⟩
        obtain ⟨M3, hM3⟩ := hbox
        refine HC.perm ?_ hM3
        replace ho := ho.perm hM3.symm
        by_cases hjn : j < n
        · have hT := numBits_take v n j high hjn
          have h63 : v ≤ 16777216 := by
            rw [Int.toNat_natCast, show ((2 : Int) ^ n) = ((2 ^ n : Nat) : Int) by simp] at h4
            have : 2 ^ n ≤ 2 ^ 24 := Nat.pow_le_pow_right (by decide) (by omega)
            omega
          have hbv : ∀ p, bits .and .i64 ((v : Int) / 2 ^ p) 1 = ((v.testBit p).toNat : Int) := fun p => bit_valN v p (by omega)
          have hlen : (L ++ (numBits v n high).take j).length = L.length + j := by simp [hnl]; omega
          have hlen2 : (L ++ (numBits v n high).take (j + 1)).length = L.length + j + 1 := by simp [hnl]; omega
          rw [hlen] at ho ⊢
          cases high
          all_goals
            simp only [if_true, if_false, Bool.false_eq_true] at hT
            clear h4
            repeat (first | rw [show ((n : Int) - 1 - (j : Int)) = ((n - 1 - j : Nat) : Int) from by omega] | rw [hbv] | refine go1_ ?_ | refine bx_ (fun _ => ?_))
            refine hl_append_own1 rfl rfl ((ho.under _)) (Rds.ent (n := 1) .here rfl (by simp [Value.oneCell'])) rfl rfl (by decide) (by decide) (by omega) (by omega) rfl (fun gb cap' h1 h2 => HL.keep ?_ (.there .here))
            repeat (first | refine go_ ?_ | refine bx_ (fun _ => ?_))
            refine ⟨m2 - 1, by omega, _, Imp.refl _, j + 1, .slice (some ⟨gb, 0, none⟩) (L.length + j + 1) cap', by omega, ⟨rfl, rfl, rfl, rfl, rfl, rfl, rfl, rfl, trivial⟩, ?_⟩
            rw [hlen2]
            refine Own.mk (by omega) h2 (by simp [hnl]; omega) ?_
            rw [hT, ← List.append_assoc]
            rw [List.map_append (l₂ := [_])]
            exact List.Perm.refl _
        · obtain rfl : j = n := by omega
          repeat (first | refine go_ ?_ | refine bx_ (fun _ => ?_))
          have hlenE : (L ++ numBits v j high).length = (L ++ (numBits v j high).take j).length := by rw [List.take_of_length_le (by omega)]
          rw [List.take_of_length_le (by omega)] at ho
          rw [← hstep] at ho
          obtain ⟨M4, hi4, ho4⟩ := (ho.permF (F' := ⟨x, 27, [.int .i64 (v : Int), .int .i64 (j : Int), .bool false], 3⟩ :: H) (List.Perm.refl _)).shed
          exact ⟨m - 1, by omega, M4, hi4, k + 1, .slice sa (bitsOf high [] (List.take (k + 1) l)).length sc, by omega, ⟨rfl, rfl, by rw [hstep, hlenE]; rfl, rfl, rfl, rfl, trivial⟩, ho4⟩
      · rw [show bitMore high L ⟨v, n, false⟩ = L from if_neg hright] at hstep
        repeat (first | refine go_ ?_ | refine bx_ (fun _ => ?_) | refine hl_callv rfl rfl (right_no v n false hright) ?_)
        exact ⟨m - 1, by omega, _, Imp.drop (Imp.refl _), k + 1, .slice sa L.length sc, by omega, ⟨rfl, rfl, rfl, rfl, rfl, rfl, trivial⟩, by rw [hstep]; exact ho⟩
    · rw [show bitMore high L ⟨v, n, true⟩ = L ++ fillBits L.length (decide (v % 2 = 1)) from rfl] at hstep
      repeat (first | refine go_ ?_ | refine bx_ (fun _ => ?_))
      rename_i x
      refine hc_loopd (fun m2 fr M2 => ∃ j sv, j + m2 = (8 - L.length % 8) % 8 ∧ Agr fr [(0, .slice (some ⟨b, off, none⟩) len cap), (1, .bool high), (5, sv), (7, .pointer (some ⟨x, 0, none⟩)), (10, .slice (some ⟨b, off, none⟩) len cap), (11, .int .i64 (len : Int)), (12, .int .i64 (k : Int))]
          ∧ Own 3 1 sv (L ++ List.replicate j (decide (v % 2 = 1))).length ((L ++ List.replicate j (decide (v % 2 = 1))).map bitV) (⟨x, 27, [.int .i64 v, .int .i64 n, .bool true], 3⟩ :: H) M2) ((8 - L.length % 8) % 8) ?_ ?_
      · exact ⟨0, .slice sa L.length sc, by omega, ⟨rfl, rfl, rfl, rfl, rfl, rfl, rfl, trivial⟩, by simpa using ho.under _⟩
      clear ho hs1 hs2
      rintro m2 fr M2 ⟨j, sv, hj, hf, ho⟩
      obtain ⟨base, rfl⟩ := hf.out
      obtain ⟨sa, sc, rfl, hs1, hs2⟩ := ho.form
      have hbox : ∃ M3, M2.Perm (⟨x, 27, [.int .i64 v, .int .i64 n, .bool true], 3⟩ :: M3) := by
        obtain ⟨Z, hZ, _⟩ := ho.permE
        exact ⟨Z ++ H, hZ.trans List.perm_middle⟩
      obtain ⟨M3, hM3⟩ := hbox
      refine HC.perm ?_ hM3
      replace ho := ho.perm hM3.symm
      have hlen : (L ++ List.replicate j (decide (v % 2 = 1))).length = L.length + j := by simp
      have hlen2 : (L ++ List.replicate (j + 1) (decide (v % 2 = 1))).length = L.length + j + 1 := by simp; omega
      have hT : L ++ List.replicate (j + 1) (decide (v % 2 = 1)) = (L ++ List.replicate j (decide (v % 2 = 1))) ++ [decide (v % 2 = 1)] := by rw [List.replicate_succ', List.append_assoc]
      by_cases hm2 : m2 = 0
      · obtain rfl : j = (8 - L.length % 8) % 8 := by omega
        have hmod : (L.length + (8 - L.length % 8) % 8) % 8 = 0 := by omega
        rw [hlen]
        repeat (first | refine go_ ?_ | refine bx_ (fun _ => ?_))
        rw [show L ++ List.replicate ((8 - L.length % 8) % 8) (decide (v % 2 = 1)) = L ++ fillBits L.length (decide (v % 2 = 1)) from rfl, ← hstep] at ho
        obtain ⟨M4, hi4, ho4⟩ := ho.shed
        refine ⟨m - 1, by omega, M4, hi4, k + 1, .slice sa (L.length + (8 - L.length % 8) % 8) sc, by omega, ⟨rfl, rfl, rfl, rfl, rfl, rfl, trivial⟩, ?_⟩
        rw [← hlen, show L ++ List.replicate ((8 - L.length % 8) % 8) (decide (v % 2 = 1)) = L ++ fillBits L.length (decide (v % 2 = 1)) from rfl, ← hstep]
        exact ho4
      · have hmod : (L.length + j) % 8 ≠ 0 := by omega
        rw [hlen] at ho ⊢
        repeat (first | rw [and1_bit] | refine go1_ ?_ | refine bx_ (fun _ => ?_))
        refine hl_append_own1 rfl rfl ((ho.under _)) (Rds.ent (n := 1) .here rfl (by simp [Value.oneCell'])) rfl rfl (by decide) (by decide) (by omega) (by omega) rfl (fun gb cap' h1 h2 => HL.keep ?_ (.there .here))
        repeat (first | refine go_ ?_ | refine bx_ (fun _ => ?_))
        refine ⟨m2 - 1, by omega, _, Imp.refl _, j + 1, .slice (some ⟨gb, 0, none⟩) (L.length + j + 1) cap', by omega, ⟨rfl, rfl, rfl, rfl, rfl, rfl, rfl, trivial⟩, ?_⟩
        rw [hlen2]
        refine Own.mk (by omega) h2 (by simp; omega) ?_
        have eT : (L ++ List.replicate (j + 1) (decide (v % 2 = 1))).map bitV = (L ++ List.replicate j (decide (v % 2 = 1))).map bitV ++ [bitV (decide (v % 2 = 1))] := by rw [hT, List.map_append]; rfl
        rw [eT]
        exact List.Perm.refl _
  · obtain rfl : k = len := by omega
    repeat (first | refine go_ ?_ | refine bx_ (fun _ => ?_))
    rw [List.take_of_length_le (by omega)] at ho
    refine fin1S rfl rfl ?_
    rw [List.take_of_length_le (by omega)]
    exact ho
end Go.Proofs.Ytbgmakblfnpjkaa
