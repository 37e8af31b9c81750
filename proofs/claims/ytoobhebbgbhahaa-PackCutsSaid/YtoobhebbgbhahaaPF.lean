/-
  Edits of the one and the other kind, compared. No condition.
-/
import Derived.Test.YtoobhebbgbhahaaPE
import Derived.Test.YtoobhebbgbhahaaHq
namespace Go.Proofs.Ytoobhebbgbhahaa
open Go.RowKit
instance : TIntS Try.prog 86 2 := ⟨by kernel_rfl, by kernel_rfl⟩
section
variable {w0 : World} {B : Nat} {H R R0 : List Ent} {g : Nat}
set_option maxHeartbeats 16000000
set_option maxRecDepth 100000
theorem medit_fn {f m : Nat → Int} {pa sa qa : Option Addr} {pn pc sn sc qn qc : Nat} {S : List Pt} (hS : PtR w0 B H sa sn S) (hsn : sn ≤ 1000000) :
    Fn Try.prog w0 B 14 [.agg (edC f m (.slice pa pn pc) (.slice sa sn sc) (.slice qa qn qc)).toArray] H (fun v H' => ∃ a' c' Xs, v = .agg (edC f m (.slice pa pn pc) (.slice a' sn c') (.slice qa qn qc)).toArray ∧ H' = Xs ++ H ∧ ∀ F, Own 86 2 (.slice a' sn c') sn (S.flatMap ptV) F (Xs ++ F)) := by
  have eS := hS.eq
  refine fn_intro Try.func14 rfl (by kernel_rfl) rfl ?_
  repeat (first | refine hl_loadN (i := 12) (n := 6) (vs := [.int .i64 (m 0), .int .i64 (m 1), .int .i64 (m 2), .int .i64 (m 3), .int .i64 (m 4), .int .i64 (m 5)]) rfl (by first | exact .here | exact (.there .here) | exact (.there (.there .here)) | exact (.there (.there (.there .here))) | exact (.there (.there (.there (.there .here)))) | exact (.there (.there (.there (.there (.there .here))))) | exact (.there (.there (.there (.there (.there (.there .here)))))) | exact (.there (.there (.there (.there (.there (.there (.there .here))))))) | exact (.there (.there (.there (.there (.there (.there (.there (.there .here))))))))) rfl rfl rfl ?_ | refine go1_ ?_ | refine bx_ (fun _ => ?_))
  rename_i gE g2 g3
  obtain ⟨T, hT⟩ : ∃ T, T = ⟨g2, 39, edC (fun _ => 0) (fun _ => 0) (.slice none 0 0) (.slice none 0 0) (.slice none 0 0), 19⟩ :: ⟨gE, 27, edC f m (.slice pa pn pc) (.slice sa sn sc) (.slice qa qn qc), 19⟩ :: H := ⟨_, rfl⟩
  refine HC.perm (H' := ⟨g3, 39, edC f m (.slice pa pn pc) (.slice none 0 0) (.slice qa qn qc), 19⟩ :: T) ?_ (by rw [hT]; exact List.Perm.refl _)
  have iT : Imp T H := by rw [hT]; exact Imp.drop (Imp.drop (Imp.refl _))
  refine hc_loopd (fun q fr M => ∃ k sv Xs, k + q = sn ∧ (∀ F, Own 86 2 sv k ((S.take k).flatMap ptV) F (Xs ++ F)) ∧ Imp M (⟨g3, 39, edC f m (.slice pa pn pc) sv (.slice qa qn qc), 19⟩ :: (Xs ++ T)) ∧ Agr fr [(2, .pointer (some ⟨g2, 0, none⟩)), (3, .pointer (some ⟨g3, 0, none⟩)), (34, .slice sa sn sc), (35, .int .i64 (sn : Int)), (36, .int .i64 (k : Int))]) sn ?_ ?_
  · exact ⟨0, _, [], by omega, fun F => Own.nil, Imp.refl _, rfl, rfl, rfl, rfl, rfl, trivial⟩
  rintro q fr M ⟨k, sv, Xs, hk, ho, hi, hf⟩
  obtain ⟨base, rfl⟩ := hf.out
  clear hf
  refine HC.imp ?_ hi
  obtain ⟨av, cv, rfl, _, _⟩ := (ho []).form
  by_cases hlt : k < sn
  · obtain ⟨bb, off, rfl⟩ := hS.pos (by omega)
    obtain ⟨hkS, hcell⟩ := hS.at' hlt
    have hst : (S.take (k + 1)).flatMap ptV = (S.take k).flatMap ptV ++ ptV S[k] := by
      rw [List.take_succ_eq_append_getElem hkS, List.flatMap_append]
      simp
    generalize hpp : S[k] = p at *
    repeat (first | refine hl_loadRN (l := S.flatMap ptV) rfl hS.rd (Imp.drop ((Imp.tail Xs _).trans iT)) hcell rfl rfl ?_ | refine go1_ ?_ | refine bx_ (fun _ => ?_))
    rename_i gp gb
    refine hl_append_own (F := ⟨gb, 86, [.int .i64 p.x, .int .i64 p.y], 1 * 2⟩ :: ⟨gp, 78, [.int .i64 p.x, .int .i64 p.y], 2⟩ :: ⟨g3, 39, edC f m (.slice pa pn pc) (.slice av k cv) (.slice qa qn qc), 19⟩ :: T) rfl rfl ((((ho _).under _).under _).under _) (Rds.ent (n := 2) (l := [.int .i64 p.x, .int .i64 p.y]) .here rfl (by simp [Value.oneCell'])) rfl rfl (by decide) (by omega) (by omega) rfl (fun v8 M8 o8 => ?_)
    obtain ⟨a8, c8, rfl, _, _⟩ := o8.form
    obtain ⟨Z, hZ, ho8⟩ := o8.permE
    refine HL.perm ?_ (hZ.trans (app_swap Z [_, _, _] _))
    repeat (first | refine go_ ?_ | refine bx_ (fun _ => ?_))
    refine ⟨q - 1, by omega, _, Imp.refl _, k + 1, .slice a8 (k + 1) c8, Z, by omega, fun F => by rw [hst]; exact ho8 F, ?_, rfl, rfl, rfl, rfl, rfl, trivial⟩
    exact Imp.perm (List.Perm.refl _) (Imp.sub (List.Sublist.cons_cons _ ((List.sublist_cons_self _ _).trans (List.sublist_cons_self _ _))))
  · obtain rfl : sn = k := by omega
    rw [show S.take sn = S by rw [← eS]; exact List.take_length] at ho
    rw [hT]
    refine HC.perm (H' := ⟨g2, 39, edC (fun _ => 0) (fun _ => 0) (.slice none 0 0) (.slice none 0 0) (.slice none 0 0), 19⟩ :: ⟨g3, 39, edC f m (.slice pa pn pc) (.slice av sn cv) (.slice qa qn qc), 19⟩ :: (Xs ++ (⟨gE, 27, edC f m (.slice pa pn pc) (.slice sa sn sc) (.slice qa qn qc), 19⟩ :: H))) ?_ (Take.there (Take.app Xs .here)).perm
    repeat (first | refine go_ ?_ | refine bx_ (fun _ => ?_))
    exact finC (n := 19) rfl rfl .here rfl ⟨av, cv, Xs, rfl, rfl, ho⟩ (Imp.drop (Imp.drop (Imp.sub (List.Sublist.append (List.Sublist.refl _) (List.sublist_cons_self _ _)))))
theorem isame_fn {a a2 : Option Addr} {n n2 c c2 : Nat} {l m : List Int} (hl : NumR w0 B H a n l) (hm : NumR w0 B H a2 n2 m) (he : l = m) (hs : n ≤ 9223372036854775806) :
    Fn Try.prog w0 B 34 [.slice a n c, .slice a2 n2 c2] H (fun v H' => v = .bool true ∧ H' = H) := by
  subst he
  have e1 := hl.eq
  have e2 := hm.eq
  obtain rfl : n = n2 := by omega
  refine fn_intro Try.func34 rfl (by kernel_rfl) rfl ?_
  repeat (first | refine go_ ?_ | refine bx_ (fun _ => ?_))
  refine hc_loopd (fun q fr M => ∃ k, k + q = n ∧ Agr fr [(1, .slice a2 n c2), (12, .slice a n c), (13, .int .i64 (n : Int)), (14, .int .i64 (k : Int))] ∧ M = H) n ?_ ?_
  · exact ⟨0, by omega, ⟨rfl, rfl, rfl, rfl, trivial⟩, rfl⟩
  rintro q fr M ⟨k, hk, hf, rfl⟩
  obtain ⟨base, rfl⟩ := hf.out
  clear hf
  by_cases hlt : k < n
  · obtain ⟨b1, o1, rfl⟩ := hl.pos (by omega)
    obtain ⟨b2, o2, rfl⟩ := hm.pos (by omega)
    have k1 : k < l.length := by omega
    have c1 : (l.map iV)[k]? = some (.int .i64 l[k]) := by simp [k1]
    generalize l[k] = z at *
    repeat (first | refine hl_loadRd rfl hl.rd (Imp.refl _) c1 rfl ?_ | refine hl_loadRd rfl hm.rd (Imp.refl _) c1 rfl ?_ | refine go1_ ?_ | refine bx_ (fun _ => ?_))
    exact ⟨q - 1, by omega, _, Imp.refl _, k + 1, by omega, ⟨rfl, rfl, rfl, rfl, trivial⟩, rfl⟩
  · repeat (first | refine go_ ?_ | refine bx_ (fun _ => ?_))
    exact fin1B rfl rfl ⟨rfl, rfl⟩
end
end Go.Proofs.Ytoobhebbgbhahaa
