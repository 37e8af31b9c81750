/-
  Pictures seen through maps: the ways it can end; a picture as an argument. No condition.
-/
import Derived.Test.YtbgdligfdfhbkaaA8
import Derived.Test.YtbgdligfdfhbkaaOpenArr
import Derived.Deep.Strs
namespace Go.Proofs.Ytbgdligfdfhbkaa
open Go.RowKit Go.ChangeShapes Go.WideShapes Go.ChangeAt Go.Deep

section
variable {H : Type} {enc : TypeId × Value → H} {w : World} {base : Nat} {held : Bool}
theorem open_pic {v : Value} {d : DataW H} {ps : List MemPlace} {w0 : World} {r : Reach} {b0 : Nat} (hok : Value.okWide Try.prog w0 r b0 34 v) (h : DataW.Trod enc Try.prog w base (fun _ => true) held 34 v d ps) :
    ∃ W Hh a len cap l, v = picV W Hh a len cap ∧ (-9223372036854775808 ≤ W ∧ W ≤ 9223372036854775807) ∧ (-9223372036854775808 ≤ Hh ∧ Hh ≤ 9223372036854775807) ∧ Sl intV w a len cap l ∧ ∀ z ∈ l, -9223372036854775808 ≤ z ∧ z ≤ 9223372036854775807 := by
  obtain ⟨cs, rfl, hsz⟩ : ∃ cs, v = .agg cs ∧ cs.size = Try.prog.cellsOf 34 := by
    simp only [Value.okWide, Try.underlying34] at hok
    obtain ⟨cs, h1, h2, _⟩ := hok
    exact ⟨cs, h1, h2⟩
  have hc3 : Try.prog.cellsOf 34 = 3 := by kernel_rfl
  obtain ⟨fuel, hf⟩ := h
  obtain ⟨y0, y1, y2, n, _, hl, h0, h1, h2⟩ := trod_struct3 Try.underlying34 hf
  obtain ⟨l⟩ := cs
  simp only [Value.cells] at hl h0 h1 h2
  rw [hc3] at hl
  match l, hl with
  | [p, q, s], _ =>
    obtain ⟨W, hW, _, wW⟩ := DataW.trod_int Try.underlying3 h0
    obtain ⟨Hh, hH, _, wH⟩ := DataW.trod_int Try.underlying3 h1
    have e0 : ([p, q, s].drop 0).take (Try.prog.cellsOf 3) = [p] := by rw [show Try.prog.cellsOf 3 = 1 by kernel_rfl]; rfl
    have e1 : ([p, q, s].drop 1).take (Try.prog.cellsOf 3) = [q] := by rw [show Try.prog.cellsOf 3 = 1 by kernel_rfl]; rfl
    have e2 : ([p, q, s].drop 2).take (Try.prog.cellsOf 32) = [s] := by rw [show Try.prog.cellsOf 32 = 1 by kernel_rfl]; rfl
    have hp : p = .int .i64 W := by have := e0.symm.trans hW; simpa using this
    have hq : q = .int .i64 Hh := by have := e1.symm.trans hH; simpa using this
    have h2' : DataW.trod enc Try.prog w base (fun _ => true) held n 32 [s] = some y2 := by rw [← e2]; exact h2
    obtain ⟨a, len, cap, hs⟩ : ∃ a len cap, s = .slice a len cap := by
      rcases open_slice Try.underlying32 h2' with ⟨hcs, _⟩ | ⟨x, l, c, _, _, _, _, hcs, _⟩
      · simp only [List.cons.injEq, and_true] at hcs; exact ⟨_, _, _, hcs⟩
      · simp only [List.cons.injEq, and_true] at hcs; exact ⟨_, _, _, hcs⟩
    obtain ⟨zs, hz, hb⟩ := open_nums (H := H) (enc := enc) (P := Try.prog) (w := w) (base := base) (held := held) (v := s) (d := y2.1) (ps := y2.2) Try.underlying32 Try.underlying3 (by kernel_rfl) hs ⟨n, by rw [show s.cells.toList = [s] by rw [hs]; rfl]; exact h2'⟩
    subst hp hq hs
    exact ⟨W, Hh, a, len, cap, zs, rfl, wf_i64 wW, wf_i64 wH, hz, hb⟩
end

section
variable {w0 : World} {B : Nat} {M F : List Ent}
theorem nums_par (hB : w0.heap.size ≤ B) {a : Option Addr} {len cap : Nat} {l : List Int} (h : Sl intV w0 a len cap l) (hx : ∀ x ∈ l, -9223372036854775808 ≤ x ∧ x ≤ 9223372036854775807) (hs : len ≤ 10000000) : Nums w0 B M a len (fun j => l.getD j 0) :=
  ⟨fun h0 => by obtain ⟨b, off, e, p⟩ := h.prm (fun _ => rfl) hB h0; exact ⟨b, off, e, p.row⟩, fun i hi => by
    have hl := h.size_eq
    show -9223372036854775808 ≤ l.getD i 0 ∧ l.getD i 0 ≤ 9223372036854775807
    rw [List.getD_eq_getElem?_getD, List.getElem?_eq_getElem (by omega)]
    exact hx _ (List.getElem_mem _), hs⟩
theorem nums_own {g n k : Nat} {f : Nat → Int} (t : Take M ⟨g, 3, tab n f, k⟩ F) (hb : ∀ i, i < n → -9223372036854775808 ≤ f i ∧ f i ≤ 9223372036854775807) (hs : n ≤ 10000000) : Nums w0 B M (some ⟨g, 0, none⟩) n f :=
  ⟨fun _ => ⟨g, 0, rfl, Row.own t⟩, hb, hs⟩
theorem nums_zero {a : Option Addr} {f : Nat → Int} : Nums w0 B M a 0 f := ⟨fun h => absurd h (by omega), fun i hi => absurd hi (by omega), by omega⟩
theorem plain_fn (W H : Int) (a : Option Addr) (n cap : Nat) : Fn Try.prog w0 B 17 [picV W H a n cap] M (fun r M' => r = picV W H a n cap ∧ M' = M) := by
  refine fn_intro Try.func17 rfl (by kernel_rfl) rfl ?_
  unfold picV
  repeat (first | refine go_ ?_ | refine bx_ (fun _ => ?_))
  exact finC rfl rfl .here rfl ⟨rfl, rfl⟩
set_option maxHeartbeats 8000000 in
theorem same_fn {a b : Option Addr} {n ca cb : Nat} {f g : Nat → Int} (ha : Nums w0 B M a n f) (hb : Nums w0 B M b n g) (hfg : ∀ i, i < n → f i = g i) : Fn Try.prog w0 B 18 [.slice a n ca, .slice b n cb] M (fun r M' => r = .bool true ∧ M' = M) := by
  have hn := ha.small
  refine fn_intro Try.func18 rfl (by kernel_rfl) rfl ?_
  repeat (first | refine go_ ?_ | refine bx_ (fun _ => ?_))
  refine hc_loop (fun z fr X => ∃ k, k + z = n ∧ Agr fr [(1, .slice b n cb), (12, .slice a n ca), (13, .int .i64 (n : Int)), (14, .int .i64 (k : Int))] ∧ X = M) n ?_ ?_
  · exact ⟨0, by omega, ⟨rfl, rfl, rfl, rfl, trivial⟩, rfl⟩
  rintro z fr X ⟨k, hk, hf, rfl⟩
  obtain ⟨base, rfl⟩ := hf.out
  clear hf
  by_cases hlt : k < n
  · obtain ⟨b1, o1, rfl, r1⟩ := ha.row (by omega)
    obtain ⟨b2, o2, rfl, r2⟩ := hb.row (by omega)
    have := hfg k hlt
    repeat (first | refine go_ ?_ | refine bx_ (fun _ => ?_))
    exact ⟨z - 1, by omega, k + 1, by omega, ⟨rfl, rfl, rfl, rfl, trivial⟩, rfl⟩
  · repeat (first | refine go_ ?_ | refine bx_ (fun _ => ?_))
    exact fin1B rfl rfl ⟨rfl, rfl⟩

/-! The ways seeing can end -/
section
variable {P : Program} {fid : Nat} {args : List Value} {m : Nat → Int} {W H w h : Int} {n : Nat} {f : Nat → Int} {sm : Bool}
theorem see_err (hf : Fn P w0 B fid args M (fun r M' => SeeR m W H n f w h sm M r M')) (hE : seeE m W H n f w h ≠ 0) :
    Fn P w0 B fid args M (fun u H' => u = .tuple #[.agg [.int .i64 0, .int .i64 0, .slice none 0 0].toArray, .int .i64 (seeE m W H n f w h)] ∧ H' = M) :=
  hf.mono fun r M' hr => by
    rcases hr with ⟨_, h1, h2⟩ | ⟨h1, _⟩
    · exact ⟨h1, h2⟩
    · exact absurd h1 hE
theorem see_zero (hf : Fn P w0 B fid args M (fun r M' => SeeR m W H n f w h sm M r M')) (hE : seeE m W H n f w h = 0) (hN : (w * h).toNat = 0) :
    Fn P w0 B fid args M (fun u H' => (∃ a c, u = .tuple #[.agg [.int .i64 w, .int .i64 h, .slice a 0 c].toArray, .int .i64 0]) ∧ H' = M) :=
  ⟨hf.fn, fun w1 hw => (hf.run w1 hw).mono fun e w' ⟨v, H', a, b, d⟩ => by
    rcases d with ⟨h1, _⟩ | ⟨_, sl, ho, hv⟩
    · exact absurd hE h1
    · rw [hN] at ho
      obtain ⟨a2, c2, rfl, _, _⟩ := ho.form
      exact ⟨v, M, a, ho.hp b, ⟨a2, c2, hv⟩, rfl⟩⟩
theorem see_pos (hf : Fn P w0 B fid args M (fun r M' => SeeR m W H n f w h sm M r M')) (hE : seeE m W H n f w h = 0) {N : Nat} (hN : (w * h).toNat = N) (h0 : 0 < N) :
    Fn P w0 B fid args M (fun u H' => ∃ g c, u = .tuple #[.agg [.int .i64 w, .int .i64 h, .slice (some ⟨g, 0, none⟩) N c].toArray, .int .i64 0] ∧ H' = ⟨g, 3, tab N (seenZ m W H f w sm), c * 1⟩ :: M) :=
  ⟨hf.fn, fun w1 hw => (hf.run w1 hw).mono fun e w' ⟨v, H', a, b, d⟩ => by
    rcases d with ⟨h1, _⟩ | ⟨_, sl, ho, hv⟩
    · exact absurd hE h1
    · rw [hN] at ho
      obtain ⟨g, c, rfl, _, _, _, hp⟩ := ho.posn h0
      exact ⟨v, _, a, b.perm hp, g, c, hv, rfl⟩⟩
end
theorem seen_bd {m : Nat → Int} {W H w h : Int} {n : Nat} {f : Nat → Int} {sm : Bool} {a : Option Addr} (p : Nums w0 B M a n f) (hE : seeE m W H n f w h = 0) (i : Nat) : 0 ≤ seenZ m W H f w sm i ∧ seenZ m W H f w sm i < 4294967296 := by
  have hR : PicR W H n f := by
    unfold seeE at hE
    split at hE
    · omega
    · split at hE
      · omega
      · split at hE
        · omega
        · rename_i h; exact Classical.not_not.1 h
  have hp := p.pic hR
  unfold seenZ seeZ
  cases sm
  · simp only [Bool.false_eq_true, if_false]
    exact pixAt_bd hp _ _
  · simp only [if_true]
    unfold smZ sm4 smq
    have b1 := part_bd (pixAt W.toNat H.toNat f (smI (plU (backR m).1 ((i : Int) % w) ((i : Int) / w))) (smI (plV (backR m).1 ((i : Int) % w) ((i : Int) / w))))
    have b2 := part_bd (pixAt W.toNat H.toNat f (smI (plU (backR m).1 ((i : Int) % w) ((i : Int) / w)) + 1) (smI (plV (backR m).1 ((i : Int) % w) ((i : Int) / w))))
    have b3 := part_bd (pixAt W.toNat H.toNat f (smI (plU (backR m).1 ((i : Int) % w) ((i : Int) / w))) (smI (plV (backR m).1 ((i : Int) % w) ((i : Int) / w)) + 1))
    have b4 := part_bd (pixAt W.toNat H.toNat f (smI (plU (backR m).1 ((i : Int) % w) ((i : Int) / w)) + 1) (smI (plV (backR m).1 ((i : Int) % w) ((i : Int) / w)) + 1))
    have hs := smS_by (plU (backR m).1 ((i : Int) % w) ((i : Int) / w))
    have ht := smS_by (plV (backR m).1 ((i : Int) % w) ((i : Int) / w))
    have m0 := mix_by b1.1 b2.1 b3.1 b4.1 hs ht
    have m1 := mix_by b1.2.1 b2.2.1 b3.2.1 b4.2.1 hs ht
    have m2 := mix_by b1.2.2.1 b2.2.2.1 b3.2.2.1 b4.2.2.1 hs ht
    have m3 := mix_by b1.2.2.2 b2.2.2.2 b3.2.2.2 b4.2.2.2 hs ht
    unfold By at m0 m1 m2 m3
    unfold joinZ
    omega
end
end Go.Proofs.Ytbgdligfdfhbkaa
