/-
  The finder's contracts. No condition.
-/
import Derived.Test.YtabaagelgfdkeaaL2
import Derived.Test.YtabaagelgfdkeaaLP
namespace Go.Proofs.Ytabaagelgfdkeaa
open Go.RowKit
theorem Row.shift {w0 : World} {B : Nat} {E : List Ent} {b off n : Nat} {k : IntKind} {f : Nat → Int} (h : Row w0 B E b off n k f) (p : Nat) : Row w0 B E b (off + p) (n - p) k (fun j => f (p + j)) :=
  ⟨fun w hw j hj => by rw [Nat.add_assoc]; exact h.cell w hw (p + j) (by omega)⟩
theorem byteF_bd (b : List UInt8) (i : Nat) : 0 ≤ byteF b i ∧ byteF b i ≤ 255 := by
  have := (b.getD i 0).toNat_lt
  unfold byteF; omega
def firstF (b : List UInt8) (p : Nat) : Nat → Int := fun h => (prevH b h p : Int)
def aheadF (b : List UInt8) (p : Nat) : Nat → Int := fun i => if i < p ∧ i + 3 ≤ b.length then (prevH b (hsh b i) i : Int) else 0
abbrev Fd (gf g1 g2 : Nat) (a : Option Addr) (n cap : Nat) (b : List UInt8) (p : Nat) (R : List Ent) : List Ent :=
  ⟨gf, 38, [.slice a n cap, .slice (some ⟨g1, 0, none⟩) 4096 4096, .slice (some ⟨g2, 0, none⟩) n n], 3⟩ :: ⟨g1, 3, tab 4096 (firstF b p), 4096 * 1⟩ :: ⟨g2, 3, tab n (aheadF b p), n * 1⟩ :: R
section
variable {w0 : World} {B : Nat} {H R : List Ent} {bb off n cap : Nat} {b : List UInt8}
theorem hash_fn (hr : Row w0 B H bb off n .u8 (byteF b)) (p c : Nat) (hp : p + 3 ≤ n) :
    Fn Try.prog w0 B 15 [.slice (some ⟨bb, off + p, none⟩) (n - p) c] H (fun v H' => v = .int .i64 (hsh b p : Int) ∧ H' = H) := by
  refine fn_intro Try.func15 rfl (by kernel_rfl) rfl ?_
  have hs := hr.shift p
  have b0 := byteF_bd b (p + 0)
  have b1 := byteF_bd b (p + 1)
  have b2 := byteF_bd b (p + 2)
  repeat (first | refine go_ ?_ | refine bx_ (fun _ => ?_))
  (refine hc_draw (by kernel_rfl) (by kernel_rfl) ?_; repeat (first | refine gd_ ?_))
  repeat (first | refine go_ ?_ | refine bx_ (fun _ => ?_))
  exact fin1I rfl rfl ⟨congrArg (Value.int .i64) (hsh_int b p), rfl⟩

set_option maxHeartbeats 8000000 in
set_option maxRecDepth 100000 in
theorem best_fn {gf g1 g2 p : Nat} (hl : b.length = n) (hr : Row w0 B R bb off n .u8 (byteF b)) (hp : p < n) (hn : n ≤ 100000) (hcap : n ≤ cap) (eff : Nat) (he : 1 ≤ eff) (he2 : eff ≤ 64) :
    Fn Try.prog w0 B 13 [.pointer (some ⟨gf, 0, none⟩), .int .i64 (p : Int), .int .i64 (eff : Int)] (Fd gf g1 g2 (some ⟨bb, off, none⟩) n cap b p R) (fun v H' => v = .tuple #[.int .i64 ((best b eff p).1 : Int), .int .i64 ((best b eff p).2 : Int)] ∧ H' = Fd gf g1 g2 (some ⟨bb, off, none⟩) n cap b p R) := by
  refine fn_intro Try.func13 rfl (by kernel_rfl) rfl ?_
  by_cases h3 : n < p + 3
  · have e : best b eff p = (0, 0) := by unfold best; rw [if_pos (by omega)]
    rw [e]
    repeat (first | refine go_ ?_ | refine bx_ (fun _ => ?_))
    exact fin2II rfl rfl rfl ⟨rfl, rfl⟩
  have e : best b eff p = bestF b p eff (p + 1) (prevH b (hsh b p) p) 0 0 0 := by unfold best; rw [if_neg (by omega)]
  have hpl := prevH_le b (hsh b p) p
  have hps := prevH_spec b (hsh b p) p
  have hlt := hsh_lt b p
  have hhash : ∀ (H : List Ent), Imp H R → Fn Try.prog w0 B 15 [.slice (some ⟨bb, off + p, none⟩) (n - p) (cap - p)] H (fun v H' => v = .int .i64 (hsh b p : Int) ∧ H' = H) := fun H hi => hash_fn (hr.imp hi) p _ (by omega)
  repeat (first | refine go_ ?_ | refine bx_ (fun _ => ?_))
  (refine hc_draw (by kernel_rfl) (by kernel_rfl) ?_; repeat (first | refine gd_ ?_))
  refine hl_slice (kj := .i64) (i := p) (j := n) rfl rfl rfl (by omega) (by omega) rfl (fun off' ho => ?_)
  have ho := ho (by omega)
  rw [Nat.mul_one] at ho
  subst ho
  repeat (first | refine gd_ ?_ | refine hd_call rfl rfl (hhash _ (Imp.drop (Imp.drop (Imp.drop (Imp.refl _))))) ?_)
  rw [e]
  obtain ⟨X, hX⟩ : ∃ X, X = bestF b p eff (p + 1) (prevH b (hsh b p) p) 0 0 0 := ⟨_, rfl⟩
  rw [← hX]
  repeat (first | refine go_ ?_ | refine bx_ (fun _ => ?_))
  refine hc_loop (fun m fr M => ∃ c t L D f, m = c ∧ c ≤ p ∧ c < f ∧ t + c ≤ p ∧ L ≤ 258 ∧ D ≤ 32768 ∧ (0 < c → c - 1 + 3 ≤ n) ∧ bestF b p eff f c t L D = X ∧ Agr fr [(0, .pointer (some ⟨gf, 0, none⟩)), (1, .int .i64 (p : Int)), (2, .int .i64 (eff : Int)), (6, .int .i64 (L : Int)), (7, .int .i64 (D : Int)), (8, .int .i64 (t : Int)), (9, .int .i64 (c : Int))] ∧ M = Fd gf g1 g2 (some ⟨bb, off, none⟩) n cap b p R) (prevH b (hsh b p) p) ?_ ?_
  · exact ⟨prevH b (hsh b p) p, 0, 0, 0, p + 1, rfl, hpl, by omega, by omega, by omega, by omega, fun h => by have := (hps h).1; omega, hX.symm, ⟨rfl, rfl, rfl, rfl, rfl, rfl, rfl, trivial⟩, rfl⟩
  clear hX e
  rintro m fr M ⟨c, t, L, D, f, rfl, hcp, hcf, htc, hL, hD, hc3, hB, hf, rfl⟩
  obtain ⟨base, rfl⟩ := hf.out
  obtain ⟨f, rfl⟩ : ∃ f', f = f' + 1 := ⟨f - 1, by omega⟩
  rw [bestF] at hB
  by_cases hc0 : m = 0
  · subst hc0
    rw [if_neg (by omega)] at hB
    rw [← hB]
    repeat (first | refine go_ ?_ | refine bx_ (fun _ => ?_))
    exact fin2II rfl rfl rfl ⟨rfl, rfl⟩
  have hc1 : (m : Int) - 1 = ((m - 1 : Nat) : Int) := by omega
  have hcd : (p : Int) - ((m - 1 : Nat) : Int) = ((p - (m - 1) : Nat) : Int) := by omega
  by_cases hw : 32768 < p - (m - 1)
  · rw [if_neg (by omega)] at hB
    rw [← hB]
    repeat (first | rw [hc1] | rw [hcd] | refine go1_ ?_ | refine bx_ (fun _ => ?_))
    exact fin2II rfl rfl rfl ⟨rfl, rfl⟩
  rw [if_pos (by omega)] at hB
  have hc3 := hc3 (by omega)
  obtain ⟨q, hq⟩ : ∃ q, q = m - 1 := ⟨_, rfl⟩
  rw [← hq] at hc1 hcd hB hw hc3
  obtain ⟨K, hK⟩ : ∃ K, K = comm b q p := ⟨_, rfl⟩
  have hK0 : commF b q p 258 0 = K := hK.symm
  rw [← hK] at hB
  have hK258 : K ≤ 258 := by rw [hK]; exact (comm_spec b q p).1
  clear hK
  repeat (first | rw [hc1] | rw [hcd] | refine go1_ ?_ | refine bx_ (fun _ => ?_))
  refine HC.mono (Q := fun e fr M => e = .exit 2 ∧ Agr fr [(0, .pointer (some ⟨gf, 0, none⟩)), (1, .int .i64 (p : Int)), (2, .int .i64 (eff : Int)), (6, .int .i64 (L : Int)), (7, .int .i64 (D : Int)), (8, .int .i64 (t : Int)), (9, .int .i64 (m : Int)), (10, .int .i64 (K : Int))] ∧ M = Fd gf g1 g2 (some ⟨bb, off, none⟩) n cap b p R) ?_ ?_
  · refine hc_loop (fun m2 fr M => ∃ k, k + m2 = 258 ∧ commF b q p m2 k = K ∧ Agr fr [(0, .pointer (some ⟨gf, 0, none⟩)), (1, .int .i64 (p : Int)), (2, .int .i64 (eff : Int)), (6, .int .i64 (L : Int)), (7, .int .i64 (D : Int)), (8, .int .i64 (t : Int)), (9, .int .i64 (m : Int)), (10, .int .i64 (k : Int))] ∧ M = Fd gf g1 g2 (some ⟨bb, off, none⟩) n cap b p R) 258 ?_ ?_
    · exact ⟨0, by omega, hK0, ⟨rfl, rfl, rfl, rfl, rfl, rfl, rfl, rfl, trivial⟩, rfl⟩
    clear hf base hK0
    rintro m2 fr M ⟨k, hk, hK, hf, rfl⟩
    obtain ⟨base, rfl⟩ := hf.out
    have hqk : ((q : Int) + (k : Int)) = ((q + k : Nat) : Int) := by omega
    have hpk : ((p : Int) + (k : Int)) = ((p + k : Nat) : Int) := by omega
    by_cases hgo : k < 258 ∧ p + k < b.length ∧ b.getD (q + k) 0 = b.getD (p + k) 0
    · obtain ⟨m2, rfl⟩ : ∃ m', m2 = m' + 1 := ⟨m2 - 1, by omega⟩
      rw [commF, if_pos hgo] at hK
      obtain ⟨hg1, hg2, hg3⟩ := hgo
      have heq : byteF b (q + k) = byteF b (p + k) := by unfold byteF; rw [hg3]
      clear hB
      repeat (first | refine go_ ?_ | refine bx_ (fun _ => ?_))
      (refine hc_draw (by kernel_rfl) (by kernel_rfl) ?_; repeat (first | rw [hc1] | rw [hqk] | rw [hpk] | refine gd1_ ?_))
      repeat (first | refine go_ ?_ | refine bx_ (fun _ => ?_))
      exact ⟨m2, by omega, k + 1, by omega, hK, ⟨rfl, rfl, rfl, rfl, rfl, rfl, rfl, rfl, trivial⟩, rfl⟩
    have hKk : K = k := by
      rw [← hK]
      cases m2 with
      | zero => rfl
      | succ m2 => rw [commF, if_neg hgo]
    subst hKk
    have hstop : K = 258 ∨ (K < 258 ∧ n ≤ p + K) ∨ (K < 258 ∧ p + K < n ∧ byteF b (q + K) ≠ byteF b (p + K)) := by
      rcases Nat.lt_or_ge K 258 with h1 | h1
      · right
        rcases Nat.lt_or_ge (p + K) n with h2 | h2
        · right
          refine ⟨h1, h2, fun h => hgo ⟨h1, by omega, ?_⟩⟩
          unfold byteF at h
          exact UInt8.toNat_inj.1 (by omega)
        · exact .inl ⟨h1, h2⟩
      · exact .inl (by omega)
    clear hgo hK hB
    rcases hstop with h1 | ⟨h1, h2⟩ | ⟨h1, h2, h3⟩
    all_goals
      repeat (first | refine go_ ?_ | refine bx_ (fun _ => ?_))
      (refine hc_draw (by kernel_rfl) (by kernel_rfl) ?_; repeat (first | rw [hc1] | rw [hqk] | rw [hpk] | refine gd1_ ?_))
      repeat (first | refine go_ ?_ | refine bx_ (fun _ => ?_))
      exact ⟨rfl, ⟨rfl, rfl, rfl, rfl, rfl, rfl, rfl, rfl, trivial⟩, rfl⟩
  clear hf base hK0
  rintro e fr M ⟨rfl, hf, rfl⟩
  obtain ⟨base, rfl⟩ := hf.out
  have hah : aheadF b p q = (prevH b (hsh b q) q : Int) := by unfold aheadF; rw [if_pos ⟨by omega, by omega⟩]
  have hpq := prevH_le b (hsh b q) q
  have hps2 : 0 < prevH b (hsh b q) q → prevH b (hsh b q) q - 1 + 3 ≤ n := fun h => by have := (prevH_spec b (hsh b q) q h).1; omega
  by_cases hA : 3 ≤ K ∧ L < K
  · have hpick : pickL L D K (p - q) = (K, p - q) := if_pos hA
    rw [hpick] at hB
    dsimp only at hB
    obtain ⟨hA1, hA2⟩ := hA
    by_cases hS : K = 258 ∨ 8 * eff ≤ t + 1
    · rw [if_pos (by omega)] at hB
      rw [← hB]
      clear hB
      by_cases hk8 : K = 258
      all_goals
        repeat (first | rw [hc1] | rw [hcd] | refine go1_ ?_ | refine bx_ (fun _ => ?_))
        exact fin2II rfl rfl rfl ⟨rfl, rfl⟩
    · rw [if_neg (by omega)] at hB
      repeat (first | rw [hc1] | rw [hcd] | rw [hah] | refine go1_ ?_ | refine bx_ (fun _ => ?_))
      exact ⟨prevH b (hsh b q) q, by omega, prevH b (hsh b q) q, t + 1, K, p - q, f, rfl, by omega, by omega, by omega, by omega, by omega, hps2, hB, ⟨rfl, rfl, rfl, rfl, rfl, rfl, rfl, trivial⟩, rfl⟩
  · have hpick : pickL L D K (p - q) = (L, D) := if_neg hA
    rw [hpick] at hB
    dsimp only at hB
    have hA' : K < 3 ∨ (3 ≤ K ∧ K ≤ L) := by omega
    clear hA
    by_cases hS : L = 258 ∨ (0 < L ∧ 8 * eff ≤ t + 1)
    · rw [if_pos hS] at hB
      rw [← hB]
      clear hB
      rcases hA' with hA | ⟨hA, hA2⟩
      all_goals
        by_cases hk8 : L = 258
        all_goals
          repeat (first | rw [hc1] | rw [hcd] | refine go1_ ?_ | refine bx_ (fun _ => ?_))
          exact fin2II rfl rfl rfl ⟨rfl, rfl⟩
    · rw [if_neg hS] at hB
      rcases hA' with hA | ⟨hA, hA2⟩
      all_goals
        by_cases hs1 : 0 < L
        all_goals
          try (exfalso; omega)
        all_goals
          repeat (first | rw [hc1] | rw [hcd] | rw [hah] | refine go1_ ?_ | refine bx_ (fun _ => ?_))
          exact ⟨prevH b (hsh b q) q, by omega, prevH b (hsh b q) q, t + 1, L, D, f, rfl, by omega, by omega, by omega, by omega, by omega, hps2, hB, ⟨rfl, rfl, rfl, rfl, rfl, rfl, rfl, trivial⟩, rfl⟩

theorem aheadF_same (p : Nat) (h : b.length < p + 3) : tab n (aheadF b (p + 1)) = tab n (aheadF b p) := tab_congr fun k _ => by
  unfold aheadF
  by_cases hk : k < p ∧ k + 3 ≤ b.length
  · rw [if_pos hk, if_pos (by omega)]
  · rw [if_neg hk, if_neg (by omega)]
theorem firstF_same (p : Nat) (h : b.length < p + 3) : tab 4096 (firstF b (p + 1)) = tab 4096 (firstF b p) := tab_congr fun k _ => by
  unfold firstF
  rw [prevH, if_neg (by omega)]
theorem aheadF_next (p : Nat) (h : p + 3 ≤ b.length) : (tab n (aheadF b p)).set p (.int .i64 (firstF b p (hsh b p))) = tab n (aheadF b (p + 1)) := tab_set fun j _ => by
  unfold aheadF firstF
  by_cases hj : j = p
  · subst hj; rw [if_pos rfl, if_pos (by omega)]
  · rw [if_neg hj]
    by_cases hk : j < p ∧ j + 3 ≤ b.length
    · rw [if_pos hk, if_pos (by omega)]
    · rw [if_neg hk, if_neg (by omega)]
theorem firstF_next (p : Nat) (h : p + 3 ≤ b.length) : (tab 4096 (firstF b p)).set (hsh b p) (.int .i64 ((p : Int) + 1)) = tab 4096 (firstF b (p + 1)) := tab_set fun j _ => by
  unfold firstF
  rw [prevH]
  by_cases hj : hsh b p = j
  · rw [if_pos ⟨h, hj⟩, if_pos hj.symm]; rfl
  · rw [if_neg (fun h => hj h.2), if_neg (fun h => hj h.symm)]
set_option maxHeartbeats 4000000 in
set_option maxRecDepth 100000 in
theorem add_fn {gf g1 g2 p : Nat} (hl : b.length = n) (hr : Row w0 B R bb off n .u8 (byteF b)) (hp : p < n) (hn : n ≤ 100000) (hcap : n ≤ cap) :
    Fn Try.prog w0 B 14 [.pointer (some ⟨gf, 0, none⟩), .int .i64 (p : Int)] (Fd gf g1 g2 (some ⟨bb, off, none⟩) n cap b p R) (fun _ H' => H' = Fd gf g1 g2 (some ⟨bb, off, none⟩) n cap b (p + 1) R) := by
  refine fn_intro Try.func14 rfl (by kernel_rfl) rfl ?_
  by_cases h3 : n < p + 3
  · repeat (first | refine go_ ?_ | refine bx_ (fun _ => ?_))
    refine fin0 rfl ?_
    unfold Fd
    rw [aheadF_same p (by omega), firstF_same p (by omega)]
  have hlt := hsh_lt b p
  have hhash : ∀ (H : List Ent), Imp H R → Fn Try.prog w0 B 15 [.slice (some ⟨bb, off + p, none⟩) (n - p) (cap - p)] H (fun v H' => v = .int .i64 (hsh b p : Int) ∧ H' = H) := fun H hi => hash_fn (hr.imp hi) p _ (by omega)
  repeat (first | refine go_ ?_ | refine bx_ (fun _ => ?_))
  refine hl_slice (kj := .i64) (i := p) (j := n) rfl rfl rfl (by omega) (by omega) rfl (fun off' ho => ?_)
  have ho := ho (by omega)
  rw [Nat.mul_one] at ho
  subst ho
  repeat (first | refine go_ ?_ | refine bx_ (fun _ => ?_) | refine hl_callv rfl rfl (hhash _ (Imp.drop (Imp.drop (Imp.drop (Imp.refl _))))) ?_)
  refine hc_meet (fun fr M => M = ⟨g1, 3, (tab 4096 (firstF b p)).set (hsh b p) (.int .i64 ((p : Int) + 1)), 4096 * 1⟩ :: ⟨g2, 3, (tab n (aheadF b p)).set p (.int .i64 (firstF b p (hsh b p))), n * 1⟩ :: ⟨gf, 38, [.slice (some ⟨bb, off, none⟩) n cap, .slice (some ⟨g1, 0, none⟩) 4096 4096, .slice (some ⟨g2, 0, none⟩) n n], 3⟩ :: R) ?_ ?_
  · refine hc_drawA (⟨gf, 38, [.slice (some ⟨bb, off, none⟩) n cap, .slice (some ⟨g1, 0, none⟩) 4096 4096, .slice (some ⟨g2, 0, none⟩) n n], 3⟩ :: R) (by kernel_rfl) ?_
    refine ha_quiet [0, 1, 2, 3, 4, 5, 6, 7, 8, 9, 10, 11, 12, 13, 14, 15, 17, 18] (by rfl) (by kernel_rfl) ?_
    repeat (first | refine gd_ ?_)
    refine ha_fork1 16 (by rfl) (by kernel_rfl) (by rfl) (by first | exact Imp.refl _ | exact Imp.drop (Imp.refl _) | exact Imp.drop (Imp.drop (Imp.refl _)) | exact Imp.drop (Imp.drop (Imp.drop (Imp.refl _))) | exact Imp.drop (Imp.drop (Imp.drop (Imp.drop (Imp.refl _)))) | exact Imp.drop (Imp.drop (Imp.drop (Imp.drop (Imp.drop (Imp.refl _))))) | exact Imp.drop (Imp.drop (Imp.drop (Imp.drop (Imp.drop (Imp.drop (Imp.refl _)))))) | exact Imp.drop (Imp.drop (Imp.drop (Imp.drop (Imp.drop (Imp.drop (Imp.drop (Imp.refl _))))))) | exact Imp.drop (Imp.drop (Imp.drop (Imp.drop (Imp.drop (Imp.drop (Imp.drop (Imp.drop (Imp.refl _)))))))) | assumption | exact Imp.drop2 (Imp.refl _) | exact Imp.drop2 (Imp.drop2 (Imp.refl _)) | exact Imp.drop (Imp.drop2 (Imp.refl _))) ?_
    · skip
      repeat (first | refine op_ ?_ | refine bx_ (fun _ => ?_))
      refine ha_quiet [19] (by rfl) (by kernel_rfl) ?_
      repeat (first | refine gd_ ?_)
      refine ha_fork1 20 (by rfl) (by kernel_rfl) (by rfl) (by first | exact Imp.refl _ | exact Imp.drop (Imp.refl _) | exact Imp.drop (Imp.drop (Imp.refl _)) | exact Imp.drop (Imp.drop (Imp.drop (Imp.refl _))) | exact Imp.drop (Imp.drop (Imp.drop (Imp.drop (Imp.refl _)))) | exact Imp.drop (Imp.drop (Imp.drop (Imp.drop (Imp.drop (Imp.refl _))))) | exact Imp.drop (Imp.drop (Imp.drop (Imp.drop (Imp.drop (Imp.drop (Imp.refl _)))))) | exact Imp.drop (Imp.drop (Imp.drop (Imp.drop (Imp.drop (Imp.drop (Imp.drop (Imp.refl _))))))) | exact Imp.drop (Imp.drop (Imp.drop (Imp.drop (Imp.drop (Imp.drop (Imp.drop (Imp.drop (Imp.refl _)))))))) | assumption | exact Imp.drop2 (Imp.refl _) | exact Imp.drop2 (Imp.drop2 (Imp.refl _)) | exact Imp.drop (Imp.drop2 (Imp.refl _))) ?_
      · skip
        repeat (first | refine op_ ?_ | refine bx_ (fun _ => ?_))
        refine ha_quiet [21] (by rfl) (by kernel_rfl) ?_
        repeat (first | refine gd_ ?_)
        refine ha_fork1 22 (by rfl) (by kernel_rfl) (by rfl) (by first | exact Imp.refl _ | exact Imp.drop (Imp.refl _) | exact Imp.drop (Imp.drop (Imp.refl _)) | exact Imp.drop (Imp.drop (Imp.drop (Imp.refl _))) | exact Imp.drop (Imp.drop (Imp.drop (Imp.drop (Imp.refl _)))) | exact Imp.drop (Imp.drop (Imp.drop (Imp.drop (Imp.drop (Imp.refl _))))) | exact Imp.drop (Imp.drop (Imp.drop (Imp.drop (Imp.drop (Imp.drop (Imp.refl _)))))) | exact Imp.drop (Imp.drop (Imp.drop (Imp.drop (Imp.drop (Imp.drop (Imp.drop (Imp.refl _))))))) | exact Imp.drop (Imp.drop (Imp.drop (Imp.drop (Imp.drop (Imp.drop (Imp.drop (Imp.drop (Imp.refl _)))))))) | assumption | exact Imp.drop2 (Imp.refl _) | exact Imp.drop2 (Imp.drop2 (Imp.refl _)) | exact Imp.drop (Imp.drop2 (Imp.refl _))) ?_
        · skip
          repeat (first | refine op_ ?_ | refine bx_ (fun _ => ?_))
          refine ha_end (by rfl) (by kernel_rfl) (by first | exact Imp.refl _ | exact Imp.drop (Imp.refl _) | exact Imp.drop (Imp.drop (Imp.refl _)) | exact Imp.drop (Imp.drop (Imp.drop (Imp.refl _))) | exact Imp.drop (Imp.drop (Imp.drop (Imp.drop (Imp.refl _)))) | exact Imp.drop (Imp.drop (Imp.drop (Imp.drop (Imp.drop (Imp.refl _))))) | exact Imp.drop (Imp.drop (Imp.drop (Imp.drop (Imp.drop (Imp.drop (Imp.refl _)))))) | exact Imp.drop (Imp.drop (Imp.drop (Imp.drop (Imp.drop (Imp.drop (Imp.drop (Imp.refl _))))))) | exact Imp.drop (Imp.drop (Imp.drop (Imp.drop (Imp.drop (Imp.drop (Imp.drop (Imp.drop (Imp.refl _)))))))) | assumption | exact Imp.drop2 (Imp.refl _) | exact Imp.drop2 (Imp.drop2 (Imp.refl _)) | exact Imp.drop (Imp.drop2 (Imp.refl _))) ?_
          rfl
  rintro fr M rfl
  repeat (first | refine go_ ?_ | refine bx_ (fun _ => ?_))
  rw [aheadF_next p (by omega), firstF_next p (by omega)]
  refine fin0 rfl rfl (Imp.perm (H1 := Fd gf g1 g2 (some ⟨bb, off, none⟩) n cap b (p + 1) R) ?_ (Imp.refl _))
  exact List.perm_middle (l₁ := [_, _]) (l₂ := R)
end
end Go.Proofs.Ytabaagelgfdkeaa
