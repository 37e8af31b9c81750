/-
  Alike edits are found alike. No condition.
-/
import Derived.Test.YtoobhebbgbhahaaPF
namespace Go.Proofs.Ytoobhebbgbhahaa
open Go.RowKit
theorem PtR.own {w0 : World} {B : Nat} {e n cap : Nat} {a : Option Addr} {F H : List Ent} {l : List Pt} (o : Own e 2 (.slice a n cap) n (l.flatMap ptV) F H) : PtR w0 B H a n l :=
  ⟨by have := o.len; rw [length_pts] at this; omega, fun h => by obtain ⟨g, c, e, _⟩ := o.posn h; cases e; exact ⟨_, _, rfl⟩, o.rds (c := ⟨Try.prog, 0, w0, B⟩) (one_pts l)⟩
theorem NumR.own {w0 : World} {B : Nat} {e n cap : Nat} {a : Option Addr} {F H : List Ent} {l : List Int} (o : Own e 1 (.slice a n cap) n (l.map iV) F H) : NumR w0 B H a n l :=
  ⟨by have := o.len; rw [List.length_map] at this; omega, fun h => by obtain ⟨g, c, e, _⟩ := o.posn h; cases e; exact ⟨_, _, rfl⟩, o.rds (c := ⟨Try.prog, 0, w0, B⟩) (fun u hu => by obtain ⟨x, _, rfl⟩ := List.mem_map.1 hu; rfl)⟩
section
variable {w0 : World} {B : Nat} {H R R0 : List Ent} {g : Nat}
set_option maxHeartbeats 16000000
set_option maxRecDepth 100000
theorem like_fn {f m : Nat → Int} {pa sa qa pb sb qb : Option Addr} {pn pc sn sc qn qc pn' pc' sn' sc' qn' qc' : Nat} {P Q : List Int} {S : List Pt} (hP : NumR w0 B H pa pn P) (hP' : NumR w0 B H pb pn' P) (hS : PtR w0 B H sa sn S) (hS' : PtR w0 B H sb sn' S) (hQ : NumR w0 B H qa qn Q) (hQ' : NumR w0 B H qb qn' Q)
    (hl1 : P.length ≤ 1000000) (hl2 : S.length ≤ 1000000) (hl3 : Q.length ≤ 1000000) :
    Fn Try.prog w0 B 15 [.agg (edC f m (.slice pa pn pc) (.slice sa sn sc) (.slice qa qn qc)).toArray, .agg (edC f m (.slice pb pn' pc') (.slice sb sn' sc') (.slice qb qn' qc')).toArray] H (fun v H' => v = .bool true ∧ H' = H) := by
  have eP := hP.eq
  have eP' := hP'.eq
  have eS := hS.eq
  have eS' := hS'.eq
  have eQ := hQ.eq
  have eQ' := hQ'.eq
  obtain rfl : pn = pn' := by omega
  obtain rfl : sn = sn' := by omega
  obtain rfl : qn = qn' := by omega
  refine fn_intro Try.func15 rfl (by kernel_rfl) rfl ?_
  repeat (first | refine go_ ?_ | refine bx_ (fun _ => ?_))
  rename_i ga gb
  refine hl_call rfl rfl (medit_fn (hS.imp (Imp.drop (Imp.drop (Imp.refl _)))) (by omega)) (fun v M o => ?_)
  obtain ⟨a1, c1, Xs, rfl, rfl, ho⟩ := o
  obtain ⟨T, hT⟩ : ∃ T, T = ⟨gb, 39, edC f m (.slice pb pn pc') (.slice sb sn sc') (.slice qb qn qc'), 19⟩ :: ⟨ga, 27, edC f m (.slice pa pn pc) (.slice sa sn sc) (.slice qa qn qc), 19⟩ :: H := ⟨_, rfl⟩
  refine HL.perm (H' := Xs ++ T) ?_ (by rw [hT]; exact List.Perm.refl _)
  have iT : Imp T H := by rw [hT]; exact Imp.drop (Imp.drop (Imp.refl _))
  have iX : Imp (Xs ++ T) H := (Imp.tail Xs _).trans iT
  have hX : PtR w0 B (Xs ++ T) a1 sn S := PtR.own (ho T)
  have tb : ∃ F, Take (Xs ++ T) ⟨gb, 39, edC f m (.slice pb pn pc') (.slice sb sn sc') (.slice qb qn qc'), 19⟩ F := ⟨_, Take.app Xs (by rw [hT]; exact .here)⟩
  obtain ⟨F, tb⟩ := tb
  generalize Xs ++ T = M at *
  have S1 := fun (M' : List Ent) (i : Imp M' M) => isame_fn (c := pc) (c2 := pc') ((hP.imp iX).imp i) ((hP'.imp iX).imp i) rfl (by omega)
  have S2 := fun (M' : List Ent) (i : Imp M' M) => isame_fn (c := qc) (c2 := qc') ((hQ.imp iX).imp i) ((hQ'.imp iX).imp i) rfl (by omega)
  repeat (first | refine hl_load1 rfl (.there tb) rfl rfl ?_ | refine hl_loadN (i := 12) (n := 6) (vs := (f6 m).map intV) rfl .here rfl rfl rfl ?_ | refine hl_loadN (i := 12) (n := 6) (vs := (f6 m).map intV) rfl (.there tb) rfl rfl rfl ?_ | refine hl_neArrF (l := f6 m) (m := f6 m) rfl rfl rfl rfl rfl ?_ | refine go1_ ?_ | refine bx_ (fun _ => ?_) | refine hl_callv rfl rfl (S1 _ (Imp.drop (Imp.refl _))) ?_ | refine hl_callv rfl rfl (S2 _ (Imp.drop (Imp.refl _))) ?_)
  rename_i g5
  refine HC.imp (H' := M) ?_ (Imp.drop (Imp.refl _))
  refine hc_loopd (fun q fr M1 => ∃ k, k + q = sn ∧ Agr fr [(3, .pointer (some ⟨gb, 0, none⟩)), (111, .slice a1 sn c1), (112, .int .i64 (sn : Int)), (113, .int .i64 (k : Int))] ∧ M1 = M) sn ?_ ?_
  · exact ⟨0, by omega, ⟨rfl, rfl, rfl, rfl, trivial⟩, rfl⟩
  rintro q fr M1 ⟨k, hk, hf, rfl⟩
  obtain ⟨base, rfl⟩ := hf.out
  clear hf
  by_cases hlt : k < sn
  rotate_left
  · repeat (first | refine go_ ?_ | refine bx_ (fun _ => ?_))
    exact fin1B rfl rfl ⟨rfl, rfl⟩ iX
  obtain ⟨b1, o1, rfl⟩ := hX.pos (by omega)
  obtain ⟨b2, o2, rfl⟩ := hS'.pos (by omega)
  obtain ⟨hkS, hcell⟩ := hX.at' hlt
  have hcell2 := flat_pt S k hkS
  generalize hpp : S[k] = p at *
  have hin : ∀ u ∈ [Value.int .i64 p.x, Value.int .i64 p.y], ∃ k a, u = Value.int k a := fun u hu => by
    simp only [List.mem_cons, List.not_mem_nil, or_false] at hu
    rcases hu with rfl | rfl
    · exact ⟨_, _, rfl⟩
    · exact ⟨_, _, rfl⟩
  repeat (first | refine hl_loadRN (l := S.flatMap ptV) rfl hX.rd (Imp.refl _) hcell rfl rfl ?_ | refine go1_ ?_ | refine bx_ (fun _ => ?_))
  (refine hc_draw (by kernel_rfl) (by kernel_rfl) ?_; repeat (first | refine hl_load1 rfl (.there tb) rfl rfl ?_ | refine hl_loadRN (l := S.flatMap ptV) rfl hS'.rd (Imp.drop iX) hcell2 rfl rfl ?_ | refine hl_neAggF (xs := [.int .i64 p.x, .int .i64 p.y]) rfl rfl hin rfl rfl ?_ | refine gd1_ ?_))
  repeat (first | refine go_ ?_ | refine bx_ (fun _ => ?_))
  exact ⟨q - 1, by omega, M1, Imp.drop (Imp.refl _), k + 1, by omega, ⟨rfl, rfl, rfl, rfl, trivial⟩, rfl⟩
end
end Go.Proofs.Ytoobhebbgbhahaa
