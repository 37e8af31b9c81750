/-
  Lasso: within's contract. No condition.
-/
import Derived.Test.YtdofcjmnnmmecaaK4
namespace Go.Proofs.Ytdofcjmnnmmecaa
open Go.RowKit
#print axioms met_dn
set_option maxHeartbeats 8000000
set_option maxRecDepth 100000
theorem within_fn {w0 : World} {B : Nat} {H : List Ent} {a : Option Addr} {len cap : Nat} {l : List Pt} {x y : Int} (hl : PtR w0 B H a len l) (h5 : len ≤ 9223372036854775806) (h0 : 0 < len) (hr : ∀ p ∈ l, p.right) (hn : Near x y) :
    Fn Try.prog w0 B 24 [.slice a len cap, .int .i64 x, .int .i64 y] H (fun v H' => v = .bool (inW l x y) ∧ H' = H) := by
  refine fn_intro Try.func24 rfl (by kernel_rfl) rfl ?_
  have e1 := hl.eq
  obtain ⟨bb, off, rfl⟩ := hl.pos h0
  have hn' := hn
  obtain ⟨⟨h9, h10⟩, ⟨h11, h12⟩⟩ := hn'
  have hp0 := hl.at' (k := len - 1) (by omega)
  have hix : ((len : Int) - 1) = ((len - 1 : Nat) : Int) := by omega
  repeat (first | rw [hix] | refine go1_ ?_ | refine bx_ (fun _ => ?_) | refine hl_moveX rfl rfl ?_ | refine hl_moveZ rfl rfl ?_ | refine hl_assignX rfl rfl ?_ | refine hl_assignZ rfl rfl ?_ | refine hl_toFlt rfl rfl ?_ | refine hl_complex rfl rfl rfl ?_ | refine hl_real rfl rfl ?_ | refine hl_imag rfl rfl ?_ | refine hl_fneg rfl rfl ?_ | refine hl_ofFlt rfl (by assumption) (by omega) (by omega) rfl ?_ | refine hl_fadd rfl rfl (by assumption) rfl ?_ | refine hl_cadd rfl rfl (by assumption) (by assumption) rfl ?_ | refine hl_csub rfl rfl (by assumption) (by assumption) rfl ?_ | refine hl_cmul rfl rfl (by assumption) rfl ?_ | refine hl_fgtrT rfl rfl (by assumption) (by assumption) (by omega) rfl ?_ | refine hl_fgtrF rfl rfl (by assumption) (by assumption) (by omega) rfl ?_)
  refine hl_loadRN (E := H) rfl hl.rd (Imp.refl _) hp0 rfl rfl ?_
  repeat (first | refine go_ ?_ | refine bx_ (fun _ => ?_) | refine hl_moveX rfl rfl ?_ | refine hl_moveZ rfl rfl ?_ | refine hl_assignX rfl rfl ?_ | refine hl_assignZ rfl rfl ?_ | refine hl_toFlt rfl rfl ?_ | refine hl_complex rfl rfl rfl ?_ | refine hl_real rfl rfl ?_ | refine hl_imag rfl rfl ?_ | refine hl_fneg rfl rfl ?_ | refine hl_ofFlt rfl (by assumption) (by omega) (by omega) rfl ?_ | refine hl_fadd rfl rfl (by assumption) rfl ?_ | refine hl_cadd rfl rfl (by assumption) (by assumption) rfl ?_ | refine hl_csub rfl rfl (by assumption) (by assumption) rfl ?_ | refine hl_cmul rfl rfl (by assumption) rfl ?_ | refine hl_fgtrT rfl rfl (by assumption) (by assumption) (by omega) rfl ?_ | refine hl_fgtrF rfl rfl (by assumption) (by assumption) (by omega) rfl ?_)
  rename_i g9
  refine hc_loopd (fun q fr M => ∃ k, k + q = len ∧ Agr fr [(0, .slice (some ⟨bb, off, none⟩) len cap), (1, .int .i64 x), (2, .int .i64 y), (7, .complex .f64 (fi (2 * x + 1)) (fi (2 * y + 1))), (8, .bool (oddR (fun i => metB (nth l (prv len i)) (nth l i) x y) k)), (9, .pointer (some ⟨g9, 0, none⟩)), (31, .slice (some ⟨bb, off, none⟩) len cap), (32, .int .i64 (len : Int)), (33, .int .i64 (k : Int))]
    ∧ M = (⟨g9, 34, [.int .i64 (nth l (prv len k)).x, .int .i64 (nth l (prv len k)).y], 2⟩ :: H)) len ?_ ?_
  · exact ⟨0, by omega, ⟨rfl, rfl, rfl, rfl, rfl, rfl, rfl, rfl, rfl, trivial⟩, rfl⟩
  rintro q fr M ⟨k, hk, hf, rfl⟩
  obtain ⟨base, rfl⟩ := hf.out
  obtain ⟨odd, hodd⟩ : ∃ o, o = oddR (fun i => metB (nth l (prv len i)) (nth l i) x y) k := ⟨_, rfl⟩
  rw [← hodd] at hf ⊢
  by_cases hlt : k < len
  · have hpart := hl.at' hlt
    obtain ⟨a, ha⟩ : ∃ a, a = nth l (prv len k) := ⟨_, rfl⟩
    obtain ⟨b, hb⟩ : ∃ b, b = nth l k := ⟨_, rfl⟩
    have hprv : nth l (prv len (k + 1)) = b := by rw [hb]; simp [prv]
    have hpl : prv len k < l.length := by unfold prv; split <;> omega
    have ra : a.right := by rw [ha]; exact hr _ (nth_mem hpl)
    have rb : b.right := by rw [hb]; exact hr _ (nth_mem (by omega))
    rw [← hb] at hpart
    rw [← ha]
    obtain ⟨ma, xa, ya⟩ := dbl ra
    obtain ⟨mb, xb, yb⟩ := dbl rb
    have hstep : oddR (fun i => metB (nth l (prv len i)) (nth l i) x y) (k + 1) = xor odd (metB a b x y) := by rw [oddR, ← hodd, ← ha, ← hb]
    repeat (first | refine go_ ?_ | refine bx_ (fun _ => ?_) | refine hl_moveX rfl rfl ?_ | refine hl_moveZ rfl rfl ?_ | refine hl_assignX rfl rfl ?_ | refine hl_assignZ rfl rfl ?_ | refine hl_toFlt rfl rfl ?_ | refine hl_complex rfl rfl rfl ?_ | refine hl_real rfl rfl ?_ | refine hl_imag rfl rfl ?_ | refine hl_fneg rfl rfl ?_ | refine hl_ofFlt rfl (by assumption) (by omega) (by omega) rfl ?_ | refine hl_fadd rfl rfl (by assumption) rfl ?_ | refine hl_cadd rfl rfl (by assumption) (by assumption) rfl ?_ | refine hl_csub rfl rfl (by assumption) (by assumption) rfl ?_ | refine hl_cmul rfl rfl (by assumption) rfl ?_ | refine hl_fgtrT rfl rfl (by assumption) (by assumption) (by omega) rfl ?_ | refine hl_fgtrF rfl rfl (by assumption) (by assumption) (by omega) rfl ?_)
    refine hl_loadRN (E := H) rfl hl.rd (Imp.drop (Imp.refl _)) hpart rfl rfl ?_
    repeat (first | refine go_ ?_ | refine bx_ (fun _ => ?_) | refine hl_moveX rfl rfl ?_ | refine hl_moveZ rfl rfl ?_ | refine hl_assignX rfl rfl ?_ | refine hl_assignZ rfl rfl ?_ | refine hl_toFlt rfl rfl ?_ | refine hl_complex rfl rfl rfl ?_ | refine hl_real rfl rfl ?_ | refine hl_imag rfl rfl ?_ | refine hl_fneg rfl rfl ?_ | refine hl_ofFlt rfl (by assumption) (by omega) (by omega) rfl ?_ | refine hl_fadd rfl rfl (by assumption) rfl ?_ | refine hl_cadd rfl rfl (by assumption) (by assumption) rfl ?_ | refine hl_csub rfl rfl (by assumption) (by assumption) rfl ?_ | refine hl_cmul rfl rfl (by assumption) rfl ?_ | refine hl_fgtrT rfl rfl (by assumption) (by assumption) (by omega) rfl ?_ | refine hl_fgtrF rfl rfl (by assumption) (by assumption) (by omega) rfl ?_)
    (refine hc_draw (by kernel_rfl) (by kernel_rfl) ?_; repeat (first | refine gd_ ?_ | refine hd_call rfl rfl (number_fn a) ?_ | refine hd_call rfl rfl (number_fn b) ?_ | refine hl_dbl a rfl rfl ra rfl ?_ | refine hl_dbl b rfl rfl rb rfl ?_ | refine hl_moveX rfl rfl ?_ | refine hl_moveZ rfl rfl ?_ | refine hl_assignX rfl rfl ?_ | refine hl_assignZ rfl rfl ?_ | refine hl_toFlt rfl rfl ?_ | refine hl_complex rfl rfl rfl ?_ | refine hl_real rfl rfl ?_ | refine hl_imag rfl rfl ?_ | refine hl_fneg rfl rfl ?_ | refine hl_ofFlt rfl (by assumption) (by omega) (by omega) rfl ?_ | refine hl_fadd rfl rfl (by assumption) rfl ?_ | refine hl_cadd rfl rfl (by assumption) (by assumption) rfl ?_ | refine hl_csub rfl rfl (by assumption) (by assumption) rfl ?_ | refine hl_cmul rfl rfl (by assumption) rfl ?_ | refine hl_fgtrT rfl rfl (by assumption) (by assumption) (by omega) rfl ?_ | refine hl_fgtrF rfl rfl (by assumption) (by assumption) (by omega) rfl ?_))
    have rx := rp_fi (2 * x + 1) (sm_of (by omega) (by omega))
    have ry := rp_fi (2 * y + 1) (sm_of (by omega) (by omega))
    have rz := rp_zero
    by_cases u : 2 * a.y > 2 * y + 1 <;> by_cases v : 2 * b.y > 2 * y + 1
    · rw [met_eq (iff_of_true u v)] at hstep
      repeat (first | refine go_ ?_ | refine bx_ (fun _ => ?_) | refine hl_moveX rfl rfl ?_ | refine hl_moveZ rfl rfl ?_ | refine hl_assignX rfl rfl ?_ | refine hl_assignZ rfl rfl ?_ | refine hl_toFlt rfl rfl ?_ | refine hl_complex rfl rfl rfl ?_ | refine hl_real rfl rfl ?_ | refine hl_imag rfl rfl ?_ | refine hl_fneg rfl rfl ?_ | refine hl_ofFlt rfl (by assumption) (by omega) (by omega) rfl ?_ | refine hl_fadd rfl rfl (by assumption) rfl ?_ | refine hl_cadd rfl rfl (by assumption) (by assumption) rfl ?_ | refine hl_csub rfl rfl (by assumption) (by assumption) rfl ?_ | refine hl_cmul rfl rfl (by assumption) rfl ?_ | refine hl_fgtrT rfl rfl (by assumption) (by assumption) (by omega) rfl ?_ | refine hl_fgtrF rfl rfl (by assumption) (by assumption) (by omega) rfl ?_)
      exact ⟨q - 1, by omega, (⟨g9, 34, [.int .i64 b.x, .int .i64 b.y], 2⟩ :: H), by first | exact Imp.drop (Imp.refl _) | exact Imp.drop2 (Imp.refl _), k + 1, by omega, ⟨rfl, rfl, rfl, rfl, Eq.trans (b := .bool odd) rfl (by rw [hstep]; cases odd <;> rfl), rfl, rfl, rfl, rfl, trivial⟩, by rw [hprv]⟩
    · obtain ⟨s1, s2, s3, s4, s5, s6⟩ := crs ra rb hn
      by_cases hz : crI a b x y > 0
      · rw [met_dn u v, decide_eq_true hz] at hstep
        repeat (first | refine go_ ?_ | refine bx_ (fun _ => ?_) | refine hl_callv rfl rfl (cross_fn s5) ?_ | refine hl_moveX rfl rfl ?_ | refine hl_moveZ rfl rfl ?_ | refine hl_assignX rfl rfl ?_ | refine hl_assignZ rfl rfl ?_ | refine hl_toFlt rfl rfl ?_ | refine hl_complex rfl rfl rfl ?_ | refine hl_real rfl rfl ?_ | refine hl_imag rfl rfl ?_ | refine hl_fneg rfl rfl ?_ | refine hl_ofFlt rfl (by assumption) (by omega) (by omega) rfl ?_ | refine hl_fadd rfl rfl (by assumption) rfl ?_ | refine hl_cadd rfl rfl (by assumption) (by assumption) rfl ?_ | refine hl_csub rfl rfl (by assumption) (by assumption) rfl ?_ | refine hl_cmul rfl rfl (by assumption) rfl ?_ | refine hl_fgtrT rfl rfl (by assumption) (by assumption) (by omega) rfl ?_ | refine hl_fgtrF rfl rfl (by assumption) (by assumption) (by omega) rfl ?_)
        exact ⟨q - 1, by omega, (⟨g9, 34, [.int .i64 b.x, .int .i64 b.y], 2⟩ :: H), by first | exact Imp.drop (Imp.refl _) | exact Imp.drop2 (Imp.refl _), k + 1, by omega, ⟨rfl, rfl, rfl, rfl, Eq.trans (b := .bool (!odd)) rfl (by rw [hstep]; cases odd <;> rfl), rfl, rfl, rfl, rfl, trivial⟩, by rw [hprv]⟩
      · rw [met_dn u v, decide_eq_false hz] at hstep
        repeat (first | refine go_ ?_ | refine bx_ (fun _ => ?_) | refine hl_callv rfl rfl (cross_fn s5) ?_ | refine hl_moveX rfl rfl ?_ | refine hl_moveZ rfl rfl ?_ | refine hl_assignX rfl rfl ?_ | refine hl_assignZ rfl rfl ?_ | refine hl_toFlt rfl rfl ?_ | refine hl_complex rfl rfl rfl ?_ | refine hl_real rfl rfl ?_ | refine hl_imag rfl rfl ?_ | refine hl_fneg rfl rfl ?_ | refine hl_ofFlt rfl (by assumption) (by omega) (by omega) rfl ?_ | refine hl_fadd rfl rfl (by assumption) rfl ?_ | refine hl_cadd rfl rfl (by assumption) (by assumption) rfl ?_ | refine hl_csub rfl rfl (by assumption) (by assumption) rfl ?_ | refine hl_cmul rfl rfl (by assumption) rfl ?_ | refine hl_fgtrT rfl rfl (by assumption) (by assumption) (by omega) rfl ?_ | refine hl_fgtrF rfl rfl (by assumption) (by assumption) (by omega) rfl ?_)
        exact ⟨q - 1, by omega, (⟨g9, 34, [.int .i64 b.x, .int .i64 b.y], 2⟩ :: H), by first | exact Imp.drop (Imp.refl _) | exact Imp.drop2 (Imp.refl _), k + 1, by omega, ⟨rfl, rfl, rfl, rfl, Eq.trans (b := .bool odd) rfl (by rw [hstep]; cases odd <;> rfl), rfl, rfl, rfl, rfl, trivial⟩, by rw [hprv]⟩
    · obtain ⟨s1, s2, s3, s4, s5, s6⟩ := crs rb ra hn
      by_cases hz : crI b a x y > 0
      · rw [met_up u v, decide_eq_true hz] at hstep
        repeat (first | refine go_ ?_ | refine bx_ (fun _ => ?_) | refine hl_callv rfl rfl (cross_fn s5) ?_ | refine hl_moveX rfl rfl ?_ | refine hl_moveZ rfl rfl ?_ | refine hl_assignX rfl rfl ?_ | refine hl_assignZ rfl rfl ?_ | refine hl_toFlt rfl rfl ?_ | refine hl_complex rfl rfl rfl ?_ | refine hl_real rfl rfl ?_ | refine hl_imag rfl rfl ?_ | refine hl_fneg rfl rfl ?_ | refine hl_ofFlt rfl (by assumption) (by omega) (by omega) rfl ?_ | refine hl_fadd rfl rfl (by assumption) rfl ?_ | refine hl_cadd rfl rfl (by assumption) (by assumption) rfl ?_ | refine hl_csub rfl rfl (by assumption) (by assumption) rfl ?_ | refine hl_cmul rfl rfl (by assumption) rfl ?_ | refine hl_fgtrT rfl rfl (by assumption) (by assumption) (by omega) rfl ?_ | refine hl_fgtrF rfl rfl (by assumption) (by assumption) (by omega) rfl ?_)
        exact ⟨q - 1, by omega, (⟨g9, 34, [.int .i64 b.x, .int .i64 b.y], 2⟩ :: H), by first | exact Imp.drop (Imp.refl _) | exact Imp.drop2 (Imp.refl _), k + 1, by omega, ⟨rfl, rfl, rfl, rfl, Eq.trans (b := .bool (!odd)) rfl (by rw [hstep]; cases odd <;> rfl), rfl, rfl, rfl, rfl, trivial⟩, by rw [hprv]⟩
      · rw [met_up u v, decide_eq_false hz] at hstep
        repeat (first | refine go_ ?_ | refine bx_ (fun _ => ?_) | refine hl_callv rfl rfl (cross_fn s5) ?_ | refine hl_moveX rfl rfl ?_ | refine hl_moveZ rfl rfl ?_ | refine hl_assignX rfl rfl ?_ | refine hl_assignZ rfl rfl ?_ | refine hl_toFlt rfl rfl ?_ | refine hl_complex rfl rfl rfl ?_ | refine hl_real rfl rfl ?_ | refine hl_imag rfl rfl ?_ | refine hl_fneg rfl rfl ?_ | refine hl_ofFlt rfl (by assumption) (by omega) (by omega) rfl ?_ | refine hl_fadd rfl rfl (by assumption) rfl ?_ | refine hl_cadd rfl rfl (by assumption) (by assumption) rfl ?_ | refine hl_csub rfl rfl (by assumption) (by assumption) rfl ?_ | refine hl_cmul rfl rfl (by assumption) rfl ?_ | refine hl_fgtrT rfl rfl (by assumption) (by assumption) (by omega) rfl ?_ | refine hl_fgtrF rfl rfl (by assumption) (by assumption) (by omega) rfl ?_)
        exact ⟨q - 1, by omega, (⟨g9, 34, [.int .i64 b.x, .int .i64 b.y], 2⟩ :: H), by first | exact Imp.drop (Imp.refl _) | exact Imp.drop2 (Imp.refl _), k + 1, by omega, ⟨rfl, rfl, rfl, rfl, Eq.trans (b := .bool odd) rfl (by rw [hstep]; cases odd <;> rfl), rfl, rfl, rfl, rfl, trivial⟩, by rw [hprv]⟩
    · rw [met_eq (iff_of_false u v)] at hstep
      repeat (first | refine go_ ?_ | refine bx_ (fun _ => ?_) | refine hl_moveX rfl rfl ?_ | refine hl_moveZ rfl rfl ?_ | refine hl_assignX rfl rfl ?_ | refine hl_assignZ rfl rfl ?_ | refine hl_toFlt rfl rfl ?_ | refine hl_complex rfl rfl rfl ?_ | refine hl_real rfl rfl ?_ | refine hl_imag rfl rfl ?_ | refine hl_fneg rfl rfl ?_ | refine hl_ofFlt rfl (by assumption) (by omega) (by omega) rfl ?_ | refine hl_fadd rfl rfl (by assumption) rfl ?_ | refine hl_cadd rfl rfl (by assumption) (by assumption) rfl ?_ | refine hl_csub rfl rfl (by assumption) (by assumption) rfl ?_ | refine hl_cmul rfl rfl (by assumption) rfl ?_ | refine hl_fgtrT rfl rfl (by assumption) (by assumption) (by omega) rfl ?_ | refine hl_fgtrF rfl rfl (by assumption) (by assumption) (by omega) rfl ?_)
      exact ⟨q - 1, by omega, (⟨g9, 34, [.int .i64 b.x, .int .i64 b.y], 2⟩ :: H), by first | exact Imp.drop (Imp.refl _) | exact Imp.drop2 (Imp.refl _), k + 1, by omega, ⟨rfl, rfl, rfl, rfl, Eq.trans (b := .bool odd) rfl (by rw [hstep]; cases odd <;> rfl), rfl, rfl, rfl, rfl, trivial⟩, by rw [hprv]⟩
  · obtain rfl : k = len := by omega
    repeat (first | refine go_ ?_ | refine bx_ (fun _ => ?_))
    exact fin1B rfl rfl ⟨by rw [hodd, ← inP_eq, inP, e1], rfl⟩
end Go.Proofs.Ytdofcjmnnmmecaa
