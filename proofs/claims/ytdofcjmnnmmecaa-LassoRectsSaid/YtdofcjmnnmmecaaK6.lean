/-
  Lasso: the area, the reference's list, Shape. No condition.
-/
import Derived.Test.YtdofcjmnnmmecaaK5
namespace Go.Proofs.Ytdofcjmnnmmecaa
open Go.RowKit
def sumR (f : Nat → Int) : Nat → Int
  | 0 => 0
  | k + 1 => sumR f k + f k
def crA (p q : Pt) : Int := p.x * q.y - p.y * q.x
def areaI (l : List Pt) : Int := sumR (fun i => crA (nth l (prv l.length i)) (nth l i)) l.length
theorem sumR_bd (f : Nat → Int) : ∀ k, (∀ i, i < k → -4398046511104 ≤ f i ∧ f i ≤ 4398046511104) → -(4398046511104 * (k : Int)) ≤ sumR f k ∧ sumR f k ≤ 4398046511104 * (k : Int)
  | 0, _ => by simp [sumR]
  | k + 1, h => by
    have h1 := sumR_bd f k fun i hi => h i (by omega)
    have h2 := h k (by omega)
    rw [sumR]
    omega
theorem crA_bd {p q : Pt} (hp : p.right) (hq : q.right) : -4398046511104 ≤ crA p q ∧ crA p q ≤ 4398046511104 := by
  obtain ⟨⟨⟨h1, h2⟩, h3⟩, h4⟩ := hp
  obtain ⟨⟨⟨h5, h6⟩, h7⟩, h8⟩ := hq
  have m1 := mul_bd2 (a := p.x) (b := q.y) (M := 1048576) (N := 1048576) (by omega) (by omega)
  have m2 := mul_bd2 (a := p.y) (b := q.x) (M := 1048576) (N := 1048576) (by omega) (by omega)
  unfold crA
  omega
theorem PtR.zero {w0 : World} {B : Nat} {H : List Ent} : PtR w0 B H none 0 [] := ⟨rfl, fun h => absurd h (by decide), ⟨fun _ _ _ h => (by cases h), fun _ => rfl, fun _ h => (by cases h)⟩⟩
theorem okS_right {l m : List Pt} (h : okS l m = true) : (∀ p ∈ l, p.right) ∧ (∀ p ∈ m, p.right) ∧ 3 ≤ l.length ∧ l.length ≤ 256 := by
  rw [okS, Bool.and_eq_true, Bool.and_eq_true, List.all_eq_true, List.all_eq_true] at h
  obtain ⟨h1, h2, h3⟩ := h
  have h1 := of_decide_eq_true h1
  exact ⟨fun p hp => of_decide_eq_true (h2 p hp), fun p hp => of_decide_eq_true (h3 p hp), h1.1, h1.2⟩

set_option maxHeartbeats 8000000
set_option maxRecDepth 100000
theorem area_fn {w0 : World} {B : Nat} {H : List Ent} {a : Option Addr} {len cap : Nat} {l : List Pt} (hl : PtR w0 B H a len l) (h5 : len ≤ 9223372036854775806) :
    Fn Try.prog w0 B 19 [.slice a len cap] H (fun v H' => v = .tuple #[.int .i64 (if okS l [] then areaI l else 0), .int .i64 (errV (okS l []))] ∧ H' = H) := by
  refine fn_intro Try.func19 rfl (by kernel_rfl) rfl ?_
  have e1 := hl.eq
  repeat (first | refine go_ ?_ | refine bx_ (fun _ => ?_))
  refine hl_callv rfl rfl (check_fn hl PtR.zero h5 (by decide)) ?_
  cases hok : okS l [] with
  | false =>
    rw [show errV false = 31 from rfl]
    repeat (first | refine go_ ?_ | refine bx_ (fun _ => ?_))
    exact fin2II rfl rfl rfl ⟨rfl, rfl⟩
  | true =>
  obtain ⟨hr, _, h3, h256⟩ := okS_right hok
  rw [show errV true = 0 from rfl]
  obtain ⟨bb, off, rfl⟩ := hl.pos (by omega)
  have hp0 := hl.at' (k := len - 1) (by omega)
  have hix : ((len : Int) - 1) = ((len - 1 : Nat) : Int) := by omega
  repeat (first | rw [hix] | refine go1_ ?_ | refine bx_ (fun _ => ?_) | refine hl_moveX rfl rfl ?_ | refine hl_moveZ rfl rfl ?_ | refine hl_assignX rfl rfl ?_ | refine hl_assignZ rfl rfl ?_ | refine hl_toFlt rfl rfl ?_ | refine hl_complex rfl rfl rfl ?_ | refine hl_real rfl rfl ?_ | refine hl_imag rfl rfl ?_ | refine hl_fneg rfl rfl ?_ | refine hl_ofFlt rfl (by assumption) (by omega) (by omega) rfl ?_ | refine hl_fadd rfl rfl (by assumption) rfl ?_ | refine hl_cadd rfl rfl (by assumption) (by assumption) rfl ?_ | refine hl_csub rfl rfl (by assumption) (by assumption) rfl ?_ | refine hl_cmul rfl rfl (by assumption) rfl ?_ | refine hl_fgtrT rfl rfl (by assumption) (by assumption) (by omega) rfl ?_ | refine hl_fgtrF rfl rfl (by assumption) (by assumption) (by omega) rfl ?_)
  refine hl_loadRN (E := H) rfl hl.rd (Imp.refl _) hp0 rfl rfl ?_
  repeat (first | refine go_ ?_ | refine bx_ (fun _ => ?_) | refine hl_moveX rfl rfl ?_ | refine hl_moveZ rfl rfl ?_ | refine hl_assignX rfl rfl ?_ | refine hl_assignZ rfl rfl ?_ | refine hl_toFlt rfl rfl ?_ | refine hl_complex rfl rfl rfl ?_ | refine hl_real rfl rfl ?_ | refine hl_imag rfl rfl ?_ | refine hl_fneg rfl rfl ?_ | refine hl_ofFlt rfl (by assumption) (by omega) (by omega) rfl ?_ | refine hl_fadd rfl rfl (by assumption) rfl ?_ | refine hl_cadd rfl rfl (by assumption) (by assumption) rfl ?_ | refine hl_csub rfl rfl (by assumption) (by assumption) rfl ?_ | refine hl_cmul rfl rfl (by assumption) rfl ?_ | refine hl_fgtrT rfl rfl (by assumption) (by assumption) (by omega) rfl ?_ | refine hl_fgtrF rfl rfl (by assumption) (by assumption) (by omega) rfl ?_)
  rename_i g9
  refine hc_loopd (fun q fr M => ∃ k z, k + q = len ∧ Rp z (sumR (fun i => crA (nth l (prv len i)) (nth l i)) k) ∧ Agr fr [(0, .slice (some ⟨bb, off, none⟩) len cap), (5, .float .f64 z), (6, .pointer (some ⟨g9, 0, none⟩)), (20, .slice (some ⟨bb, off, none⟩) len cap), (21, .int .i64 (len : Int)), (22, .int .i64 (k : Int))]
    ∧ M = (⟨g9, 34, [.int .i64 (nth l (prv len k)).x, .int .i64 (nth l (prv len k)).y], 2⟩ :: H)) len ?_ ?_
  · exact ⟨0, 0, by omega, rp_zero, ⟨rfl, rfl, rfl, rfl, rfl, rfl, trivial⟩, rfl⟩
  rintro q fr M ⟨k, z, hk, hz, hf, rfl⟩
  obtain ⟨base, rfl⟩ := hf.out
  have hmem : ∀ i, i < len → (nth l i).right := fun i hi => hr _ (nth_mem (by omega))
  have hmem2 : ∀ i, i < len → (nth l (prv len i)).right := fun i hi => hr _ (nth_mem (by unfold prv; split <;> omega))
  have hbd := sumR_bd (fun i => crA (nth l (prv len i)) (nth l i)) k fun i hi => crA_bd (hmem2 i (by omega)) (hmem i (by omega))
  obtain ⟨s, hs⟩ : ∃ s, s = sumR (fun i => crA (nth l (prv len i)) (nth l i)) k := ⟨_, rfl⟩
  rw [← hs] at hz hbd
  by_cases hlt : k < len
  · have hpart := hl.at' hlt
    have ra := hmem2 k hlt
    have rb := hmem k hlt
    have hstep : sumR (fun i => crA (nth l (prv len i)) (nth l i)) (k + 1) = s + crA (nth l (prv len k)) (nth l k) := by rw [sumR, ← hs]
    have hprv : nth l (prv len (k + 1)) = nth l k := by simp [prv]
    obtain ⟨a, ha⟩ : ∃ a, a = nth l (prv len k) := ⟨_, rfl⟩
    obtain ⟨b, hb⟩ : ∃ b, b = nth l k := ⟨_, rfl⟩
    rw [← hb] at hpart rb hstep hprv
    rw [← ha] at ra hstep ⊢
    have hcb := crA_bd ra rb
    obtain ⟨xa, ya⟩ := rp_pt ra
    obtain ⟨xb, yb⟩ := rp_pt rb
    have ra' := ra
    have rb' := rb
    obtain ⟨⟨⟨b1, b2⟩, b3⟩, b4⟩ := ra'
    obtain ⟨⟨⟨b5, b6⟩, b7⟩, b8⟩ := rb'
    obtain ⟨c1, c2⟩ := rp_cross xa ya xb yb (by omega) (by omega) (by omega) (by omega)
    have c2 : Rp _ (crA a b) := c2
    obtain ⟨d1, d2⟩ := rp_add hz c2 (sm_of (by omega) (by omega))
    repeat (first | refine go_ ?_ | refine bx_ (fun _ => ?_) | refine hl_moveX rfl rfl ?_ | refine hl_moveZ rfl rfl ?_ | refine hl_assignX rfl rfl ?_ | refine hl_assignZ rfl rfl ?_ | refine hl_toFlt rfl rfl ?_ | refine hl_complex rfl rfl rfl ?_ | refine hl_real rfl rfl ?_ | refine hl_imag rfl rfl ?_ | refine hl_fneg rfl rfl ?_ | refine hl_ofFlt rfl (by assumption) (by omega) (by omega) rfl ?_ | refine hl_fadd rfl rfl (by assumption) rfl ?_ | refine hl_cadd rfl rfl (by assumption) (by assumption) rfl ?_ | refine hl_csub rfl rfl (by assumption) (by assumption) rfl ?_ | refine hl_cmul rfl rfl (by assumption) rfl ?_ | refine hl_fgtrT rfl rfl (by assumption) (by assumption) (by omega) rfl ?_ | refine hl_fgtrF rfl rfl (by assumption) (by assumption) (by omega) rfl ?_)
    refine hl_loadRN (E := H) rfl hl.rd (Imp.drop (Imp.refl _)) hpart rfl rfl ?_
    repeat (first | refine go_ ?_ | refine bx_ (fun _ => ?_) | refine hl_moveX rfl rfl ?_ | refine hl_moveZ rfl rfl ?_ | refine hl_assignX rfl rfl ?_ | refine hl_assignZ rfl rfl ?_ | refine hl_toFlt rfl rfl ?_ | refine hl_complex rfl rfl rfl ?_ | refine hl_real rfl rfl ?_ | refine hl_imag rfl rfl ?_ | refine hl_fneg rfl rfl ?_ | refine hl_ofFlt rfl (by assumption) (by omega) (by omega) rfl ?_ | refine hl_fadd rfl rfl (by assumption) rfl ?_ | refine hl_cadd rfl rfl (by assumption) (by assumption) rfl ?_ | refine hl_csub rfl rfl (by assumption) (by assumption) rfl ?_ | refine hl_cmul rfl rfl (by assumption) rfl ?_ | refine hl_fgtrT rfl rfl (by assumption) (by assumption) (by omega) rfl ?_ | refine hl_fgtrF rfl rfl (by assumption) (by assumption) (by omega) rfl ?_)
    (refine hc_draw (by kernel_rfl) (by kernel_rfl) ?_; repeat (first | refine gd_ ?_ | refine hd_call rfl rfl (number_fn a) ?_ | refine hd_call rfl rfl (number_fn b) ?_ | refine hd_call rfl rfl (cross_fn c1) ?_ | refine hl_moveX rfl rfl ?_ | refine hl_moveZ rfl rfl ?_ | refine hl_assignX rfl rfl ?_ | refine hl_assignZ rfl rfl ?_ | refine hl_toFlt rfl rfl ?_ | refine hl_complex rfl rfl rfl ?_ | refine hl_real rfl rfl ?_ | refine hl_imag rfl rfl ?_ | refine hl_fneg rfl rfl ?_ | refine hl_ofFlt rfl (by assumption) (by omega) (by omega) rfl ?_ | refine hl_fadd rfl rfl (by assumption) rfl ?_ | refine hl_cadd rfl rfl (by assumption) (by assumption) rfl ?_ | refine hl_csub rfl rfl (by assumption) (by assumption) rfl ?_ | refine hl_cmul rfl rfl (by assumption) rfl ?_ | refine hl_fgtrT rfl rfl (by assumption) (by assumption) (by omega) rfl ?_ | refine hl_fgtrF rfl rfl (by assumption) (by assumption) (by omega) rfl ?_))
    repeat (first | refine go_ ?_ | refine bx_ (fun _ => ?_) | refine hl_moveX rfl rfl ?_ | refine hl_moveZ rfl rfl ?_ | refine hl_assignX rfl rfl ?_ | refine hl_assignZ rfl rfl ?_ | refine hl_toFlt rfl rfl ?_ | refine hl_complex rfl rfl rfl ?_ | refine hl_real rfl rfl ?_ | refine hl_imag rfl rfl ?_ | refine hl_fneg rfl rfl ?_ | refine hl_ofFlt rfl (by assumption) (by omega) (by omega) rfl ?_ | refine hl_fadd rfl rfl (by assumption) rfl ?_ | refine hl_cadd rfl rfl (by assumption) (by assumption) rfl ?_ | refine hl_csub rfl rfl (by assumption) (by assumption) rfl ?_ | refine hl_cmul rfl rfl (by assumption) rfl ?_ | refine hl_fgtrT rfl rfl (by assumption) (by assumption) (by omega) rfl ?_ | refine hl_fgtrF rfl rfl (by assumption) (by assumption) (by omega) rfl ?_)
    exact ⟨q - 1, by omega, (⟨g9, 34, [.int .i64 b.x, .int .i64 b.y], 2⟩ :: H), by first | exact Imp.drop (Imp.refl _) | exact Imp.drop2 (Imp.refl _), k + 1, _, by omega, by rw [hstep]; exact d2, ⟨rfl, rfl, rfl, rfl, rfl, rfl, trivial⟩, by rw [hprv]⟩
  · obtain rfl : k = len := by omega
    repeat (first | refine go_ ?_ | refine bx_ (fun _ => ?_) | refine hl_moveX rfl rfl ?_ | refine hl_moveZ rfl rfl ?_ | refine hl_assignX rfl rfl ?_ | refine hl_assignZ rfl rfl ?_ | refine hl_toFlt rfl rfl ?_ | refine hl_complex rfl rfl rfl ?_ | refine hl_real rfl rfl ?_ | refine hl_imag rfl rfl ?_ | refine hl_fneg rfl rfl ?_ | refine hl_ofFlt rfl (by assumption) (by omega) (by omega) rfl ?_ | refine hl_fadd rfl rfl (by assumption) rfl ?_ | refine hl_cadd rfl rfl (by assumption) (by assumption) rfl ?_ | refine hl_csub rfl rfl (by assumption) (by assumption) rfl ?_ | refine hl_cmul rfl rfl (by assumption) rfl ?_ | refine hl_fgtrT rfl rfl (by assumption) (by assumption) (by omega) rfl ?_ | refine hl_fgtrF rfl rfl (by assumption) (by assumption) (by omega) rfl ?_)
    exact fin2II rfl rfl rfl ⟨by rw [hs, if_pos rfl, areaI, e1], rfl⟩
theorem lwithin_fn {w0 : World} {B : Nat} {H : List Ent} {a : Option Addr} {len cap : Nat} {l : List Pt} {x y : Int} (hl : PtR w0 B H a len l) (h5 : len ≤ 9223372036854775806) :
    Fn Try.prog w0 B 12 [.slice a len cap, .int .i64 x, .int .i64 y] H (fun v H' => v = .tuple #[.bool (okS l [⟨x, y⟩] && inW l x y), .int .i64 (errV (okS l [⟨x, y⟩]))] ∧ H' = H) := by
  refine fn_intro Try.func12 rfl (by kernel_rfl) rfl ?_
  have e1 := hl.eq
  repeat (first | refine go_ ?_ | refine bx_ (fun _ => ?_))
  rename_i g
  refine hl_callv rfl rfl (check_fn (hl.imp (Imp.drop (Imp.refl _))) (m := [⟨x, y⟩]) ⟨rfl, fun _ => ⟨_, _, rfl⟩, Rds.ent (n := 2) .here rfl (by simp [Value.oneCell'])⟩ h5 (by decide)) ?_
  cases hok : okS l [⟨x, y⟩] with
  | false =>
    rw [show errV false = 31 from rfl]
    repeat (first | refine go_ ?_ | refine bx_ (fun _ => ?_))
    exact fin2BI rfl rfl rfl ⟨rfl, rfl⟩
  | true =>
  obtain ⟨hr, hr2, h3, h256⟩ := okS_right hok
  have hxy := hr2 ⟨x, y⟩ (by simp)
  obtain ⟨⟨⟨b1, b2⟩, b3⟩, b4⟩ := hxy
  rw [show errV true = 0 from rfl]
  repeat (first | refine go_ ?_ | refine bx_ (fun _ => ?_) | refine hl_callv rfl rfl (within_fn (hl.imp (Imp.drop (Imp.refl _))) h5 (by omega) hr ⟨⟨b1, b2⟩, b3, b4⟩) ?_)
  exact fin2BI rfl rfl rfl ⟨rfl, rfl⟩
theorem shape_fn {w0 : World} {B : Nat} {H : List Ent} {a : Option Addr} {len cap : Nat} {l : List Pt} (hl : PtR w0 B H a len l) (h5 : len ≤ 9223372036854775806) :
    Fn Try.prog w0 B 14 [.slice a len cap] H (fun v H' => v = .bool (okS l []) ∧ H' = H) := by
  refine fn_intro Try.func14 rfl (by kernel_rfl) rfl ?_
  have e1 := hl.eq
  repeat (first | refine go_ ?_ | refine bx_ (fun _ => ?_))
  refine hc_loopd (fun q fr M => ∃ k, k + q = len ∧ (∀ i (hi : i < l.length), i < k → (l[i]).right) ∧ Agr fr [(0, .slice a len cap), (3, .int .i64 (k : Int))] ∧ M = H) len ?_ ?_
  · exact ⟨0, by omega, fun i _ h => absurd h (by omega), ⟨rfl, rfl, trivial⟩, rfl⟩
  rintro q fr M ⟨k, hk, hall, hf, rfl⟩
  obtain ⟨base, rfl⟩ := hf.out
  by_cases hlt : k < len
  · obtain ⟨bb, off, rfl⟩ := hl.pos (by omega)
    obtain ⟨px, py, hkl, hxe, hpart⟩ := hl.part hlt
    by_cases hr : (l[k]).right
    all_goals
      have hR := hr
      rw [hxe] at hr
      repeat (first | refine go_ ?_ | refine bx_ (fun _ => ?_))
      refine hl_loadRN (E := M) rfl hl.rd (Imp.refl _) hpart rfl rfl ?_
      repeat (first | refine go_ ?_ | refine bx_ (fun _ => ?_))
      refine hl_callv rfl rfl (rright_fn ⟨px, py⟩) ?_
      first | rw [decide_eq_true hr] | rw [decide_eq_false hr]
      repeat (first | refine go_ ?_ | refine bx_ (fun _ => ?_))
    · refine ⟨q - 1, by omega, _, Imp.refl _, k + 1, by omega, fun i hi2 h9 => ?_, ⟨rfl, rfl, trivial⟩, rfl⟩
      by_cases h8 : i < k
      · exact hall i hi2 h8
      · obtain rfl : i = k := by omega
        exact hR
    · exact fin1B rfl rfl ⟨by rw [okS_no1 hkl hR], rfl⟩
  · obtain rfl : k = len := by omega
    have ha : ∀ p ∈ l, p.right := fun p hp => by obtain ⟨i, hi2, rfl⟩ := List.getElem_of_mem hp; exact hall i hi2 (by omega)
    by_cases h1 : 3 ≤ k
    · by_cases h2 : k ≤ 256
      · repeat (first | refine go_ ?_ | refine bx_ (fun _ => ?_))
        exact fin1B rfl rfl ⟨by rw [okS_yes (decide_eq_true (by omega)) ha (by simp)], rfl⟩
      · repeat (first | refine go_ ?_ | refine bx_ (fun _ => ?_))
        exact fin1B rfl rfl ⟨by rw [okS, decide_eq_false (by omega)]; rfl, rfl⟩
    · repeat (first | refine go_ ?_ | refine bx_ (fun _ => ?_))
      exact fin1B rfl rfl ⟨by rw [okS, decide_eq_false (by omega)]; rfl, rfl⟩
end Go.Proofs.Ytdofcjmnnmmecaa
