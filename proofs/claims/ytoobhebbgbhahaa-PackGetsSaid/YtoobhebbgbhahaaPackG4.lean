/-
  The program's right documents, as the walk goes: plain. No condition.
-/
import Derived.Test.YtoobhebbgbhahaaPackG3
namespace Go.Proofs.Ytoobhebbgbhahaa
structure La1 (w h n : Int) (l : Ly) (k : Fo) (S : Nat) : Prop where
  q : LaQ w h n l
  b : S.testBit l.i.toNat = false
  g : l.k ≠ 1 → k.len = 0
def Fo.nx : Fo → Nat → Nat
  | .nil, S => S
  | .cons l k r, S => r.nx (k.nx (S ||| 1 <<< l.i.toNat))
def Fo.okS (w h n : Int) : Fo → Nat → Prop
  | .nil, _ => True
  | .cons l k r, S => La1 w h n l k S ∧ k.okS w h n (S ||| 1 <<< l.i.toNat) ∧ r.okS w h n (k.nx (S ||| 1 <<< l.i.toNat))
def Fo.kdG : Fo → Prop
  | .nil => True
  | .cons l k r => (l.k ≠ 1 → k.len = 0) ∧ k.kdG ∧ r.kdG
theorem Fo.nx_bit : ∀ (F : Fo) (S a : Nat), (F.nx S).testBit a = true ↔ S.testBit a = true ∨ ∃ i ∈ F.ids, i.toNat = a
  | .nil, S, a => by rw [Fo.nx, Fo.ids]; exact ⟨.inl, fun h => h.elim id fun ⟨_, h, _⟩ => by cases h⟩
  | .cons l k r, S, a => by
    rw [Fo.nx, r.nx_bit, k.nx_bit, bit_put, Fo.ids]
    constructor
    · rintro (((h | h) | ⟨i, h, e⟩) | ⟨i, h, e⟩)
      · exact .inl h
      · exact .inr ⟨l.i, by simp, h.symm⟩
      · exact .inr ⟨i, by simp [h], e⟩
      · exact .inr ⟨i, by simp [h], e⟩
    · rintro (h | ⟨i, h, e⟩)
      · exact .inl (.inl (.inl h))
      · simp only [List.mem_cons, List.mem_append] at h
        rcases h with rfl | h | h
        · exact .inl (.inl (.inr e.symm))
        · exact .inl (.inr ⟨i, h, e⟩)
        · exact .inr ⟨i, h, e⟩
theorem Fo.ids_of {F : Fo} {t i : Int} (h : i ∈ F.ids) : ∃ x ∈ F.flat t, x.l.i = i := by
  rw [← F.flat_ids t] at h
  obtain ⟨x, h1, h2⟩ := List.mem_map.1 h
  exact ⟨x, h1, h2⟩
theorem Fo.okS_iff (w h n : Int) : ∀ (F : Fo) (S : Nat) (t : Int), F.okS w h n S ↔ (∀ x ∈ F.flat t, LaQ w h n x.l) ∧ F.kdG ∧ F.ids.Nodup ∧ ∀ i ∈ F.ids, S.testBit i.toNat = false
  | .nil, S, t => by
    simp [Fo.okS, Fo.flat, Fo.kdG, Fo.ids]
  | .cons l k r, S, t => by
    rw [Fo.okS, k.okS_iff w h n _ l.i, r.okS_iff w h n _ t, Fo.flat, Fo.kdG, Fo.ids]
    have bf : ∀ {b : Bool}, b = false ↔ ¬ b = true := fun {b} => by cases b <;> simp
    constructor
    · rintro ⟨⟨h1, h2, h3⟩, ⟨k1, k2, k3, k4⟩, r1, r2, r3, r4⟩
      refine ⟨fun x hx => ?_, ⟨h3, k2, r2⟩, ?_, ?_⟩
      · simp only [List.mem_cons, List.mem_append] at hx
        rcases hx with rfl | hx | hx
        · exact h1
        · exact k1 x hx
        · exact r1 x hx
      · refine List.nodup_cons.2 ⟨fun hm => ?_, List.nodup_append.2 ⟨k3, r3, fun a ha b hb e => ?_⟩⟩
        · rcases List.mem_append.1 hm with hm | hm
          · have := bf.1 (k4 _ hm)
            rw [bit_put] at this
            exact this (.inr rfl)
          · have := bf.1 (r4 _ hm)
            rw [Fo.nx_bit, bit_put] at this
            exact this (.inl (.inr rfl))
        · subst e
          have := bf.1 (r4 _ hb)
          rw [Fo.nx_bit] at this
          exact this (.inr ⟨a, ha, rfl⟩)
      · intro i hi
        simp only [List.mem_cons, List.mem_append] at hi
        rcases hi with rfl | hi | hi
        · exact h2
        · have := bf.1 (k4 _ hi)
          rw [bit_put] at this
          exact bf.2 fun e => this (.inl e)
        · have := bf.1 (r4 _ hi)
          rw [Fo.nx_bit, bit_put] at this
          exact bf.2 fun e => this (.inl (.inl e))
    · rintro ⟨h1, ⟨h2, h3, h4⟩, h5, h6⟩
      have hl := h1 ⟨t, l⟩ (by simp)
      have hk : ∀ x ∈ k.flat l.i, LaQ w h n x.l := fun x hx => h1 x (by simp [hx])
      have hr : ∀ x ∈ r.flat t, LaQ w h n x.l := fun x hx => h1 x (by simp [hx])
      have pk : ∀ i ∈ k.ids, 1 ≤ i := fun i hi => by obtain ⟨x, hx, e⟩ := Fo.ids_of (t := l.i) hi; have := (hk x hx).i.1; omega
      have pr : ∀ i ∈ r.ids, 1 ≤ i := fun i hi => by obtain ⟨x, hx, e⟩ := Fo.ids_of (t := t) hi; have := (hr x hx).i.1; omega
      have pl := hl.i.1
      obtain ⟨n1, n2⟩ := List.nodup_cons.1 h5
      obtain ⟨n3, n4, n5⟩ := List.nodup_append.1 n2
      simp only [List.mem_append, not_or] at n1
      dsimp only at hl pl
      refine ⟨⟨hl, h6 _ (by simp), h2⟩, ⟨hk, h3, n3, fun i hi => bf.2 fun e => ?_⟩, hr, h4, n4, fun i hi => bf.2 fun e => ?_⟩
      · rw [bit_put] at e
        rcases e with e | e
        · exact bf.1 (h6 i (by simp [hi])) e
        · have := pk i hi
          obtain rfl : i = l.i := by omega
          exact n1.1 hi
      · rw [Fo.nx_bit, bit_put] at e
        have hp := pr i hi
        rcases e with (e | e) | ⟨j, hj, e⟩
        · exact bf.1 (h6 i (by simp [hi])) e
        · obtain rfl : i = l.i := by omega
          exact n1.2 hi
        · have := pk j hj
          obtain rfl : i = j := by omega
          exact n5 i hj i hi rfl
theorem Fo.kdG_up : ∀ (F : Fo) (t : Int), F.kdG → ∀ x ∈ F.flat t, x.t = t ∨ ∃ y ∈ F.flat t, y.l.i = x.t ∧ y.l.k = 1
  | .nil, _, _, x, h => by cases h
  | .cons l k r, t, ⟨h1, h2, h3⟩, x, hx => by
    rw [Fo.flat] at hx ⊢
    simp only [List.mem_cons, List.mem_append] at hx
    rcases hx with rfl | hx | hx
    · exact .inl rfl
    · refine .inr ?_
      rcases Fo.kdG_up k _ h2 x hx with e | ⟨y, hy, e⟩
      · refine ⟨⟨t, l⟩, by simp, e.symm, ?_⟩
        by_cases hk : l.k = 1
        · exact hk
        · have := h1 hk
          cases k with
          | nil => cases hx
          | cons _ _ _ => simp [Fo.len] at this
      · exact ⟨y, by simp [hy], e⟩
    · rcases Fo.kdG_up r _ h3 x hx with e | ⟨y, hy, e⟩
      · exact .inl e
      · exact .inr ⟨y, by simp [hy], e⟩
theorem Fo.kdG_of {G : List Rl} (hg : ∀ x ∈ G, x.t ≠ 0 → ∀ y ∈ G, y.l.i = x.t → y.l.k = 1) : ∀ (F : Fo) (t : Int), (∀ x ∈ F.flat t, x ∈ G) → (0 : Int) ∉ F.ids → F.kdG
  | .nil, _, _, _ => trivial
  | .cons l k r, t, h, hz => by
    rw [Fo.flat] at h
    rw [Fo.ids] at hz
    simp only [List.mem_cons, List.mem_append, not_or] at hz
    refine ⟨fun hk => ?_, Fo.kdG_of hg k l.i (fun x hx => h x (by simp [hx])) hz.2.1, Fo.kdG_of hg r t (fun x hx => h x (by simp [hx])) hz.2.2⟩
    cases k with
    | nil => rfl
    | cons l2 k2 r2 => exact absurd (hg ⟨l.i, l2⟩ (h _ (by simp [Fo.flat])) (fun e => hz.1 e.symm) ⟨t, l⟩ (h _ (by simp)) rfl) hk
theorem rt_iff (D : Dc) : RtQ D ↔ SzQ D.w D.h ∧ 1 ≤ D.n ∧ D.F.cnt ≤ 4096 ∧ D.F.okS D.w D.h D.n 0 := by
  rw [Fo.okS_iff _ _ _ D.F 0 0]
  constructor
  · rintro ⟨nd, z, ⟨sz, n1, l1, a, g⟩⟩
    exact ⟨sz, n1, by rw [← D.F.flat_len 0]; exact l1, a, Fo.kdG_of g D.F 0 (fun _ h => h) z, nd, fun i _ => by simp⟩
  · rintro ⟨sz, n1, l1, a, g, nd, _⟩
    have hp : ∀ i ∈ D.F.ids, 1 ≤ i := fun i hi => by obtain ⟨x, hx, e⟩ := Fo.ids_of (t := 0) hi; have := (a x hx).i.1; omega
    refine ⟨nd, fun h => by have := hp _ h; omega, sz, n1, by rw [D.F.flat_len 0]; exact l1, a, fun x hx ht y hy e => ?_⟩
    rcases Fo.kdG_up D.F 0 g x hx with h | ⟨z, hz, h1, h2⟩
    · exact absurd h ht
    · have hn : ((D.F.flat 0).map fun x => x.l.i).Nodup := by rw [D.F.flat_ids 0]; exact nd
      obtain ⟨i, hi, rfl⟩ := List.getElem_of_mem hy
      obtain ⟨j, hj, rfl⟩ := List.getElem_of_mem hz
      have := nd_get hn hj hi (by rw [h1, e])
      subst this
      exact h2
end Go.Proofs.Ytoobhebbgbhahaa
namespace Go.Proofs.Ytoobhebbgbhahaa
open Go.RowKit
section
variable {w0 : World} {B : Nat} {H R R0 : List Ent} {g : Nat}
set_option maxHeartbeats 16000000
set_option maxRecDepth 100000
theorem npixel_fn (v : Int) (hv : v < 9223372036854775808) : Fn Try.prog w0 B 73 [.int .i64 v] H (fun r H' => r = .bool (!decide (PixQ v)) ∧ H' = H) := by
  refine fn_intro Try.func73 rfl (by kernel_rfl) rfl ?_
  have cp := fun H => tpixel_fn (w0 := w0) (B := B) (H := H) v hv
  by_cases h : PixQ v
  · rw [show decide (PixQ v) = true from decide_eq_true h] at cp ⊢
    repeat (first | refine go_ ?_ | refine bx_ (fun _ => ?_) | refine hl_callv rfl rfl (cp _) ?_)
    exact fin1B rfl rfl ⟨rfl, rfl⟩
  · rw [show decide (PixQ v) = false from decide_eq_false h] at cp ⊢
    repeat (first | refine go_ ?_ | refine bx_ (fun _ => ?_) | refine hl_callv rfl rfl (cp _) ?_)
    exact fin1B rfl rfl ⟨rfl, rfl⟩
theorem pixIdx_fn {a : Option Addr} {n c : Nat} {l : List Int} (hN : NumR w0 B H a n l) (hI : ∀ x ∈ l, I64 x) (hs : n ≤ 1000000) :
    Fn Try.prog w0 B 85 [.slice a n c, .func (.func 73) #[] #[]] H (fun v H' => (∃ z : Int, v = .int .i64 z ∧ ((0 ≤ z ∧ ¬ ∀ x ∈ l, PixQ x) ∨ (z < 0 ∧ ∀ x ∈ l, PixQ x))) ∧ H' = H) := by
  have hlen := hN.eq
  refine fn_intro Try.func85 rfl (by kernel_rfl) rfl ?_
  repeat (first | refine go_ ?_ | refine bx_ (fun _ => ?_))
  refine hc_loopd (fun q fr M => ∃ j : Nat, j + q = n ∧ (∀ i, (h : i < l.length) → i < j → PixQ l[i]) ∧ Imp M H ∧ Agr fr [(0, .slice a n c), (1, .func (.func 73) #[] #[]), (7, .int .i64 (n : Int)), (8, .int .i64 (j : Int))]) n ?_ ?_
  · exact ⟨0, by omega, fun i h h2 => absurd h2 (by omega), Imp.refl _, rfl, rfl, rfl, rfl, trivial⟩
  rintro q fr M ⟨j, hj, hall, him, hf⟩
  obtain ⟨base, rfl⟩ := hf.out
  clear hf
  refine HC.imp ?_ him
  by_cases hlt : j < n
  · obtain ⟨pb, po, rfl⟩ := hN.pos (by omega)
    have hlt2 : j < l.length := by omega
    have c1 : (l.map iV)[j]? = some (.int .i64 l[j]) := by simp [hlt2]
    have hv := (hI l[j] (List.getElem_mem _))
    have cp := fun H => npixel_fn (w0 := w0) (B := B) (H := H) l[j] (by unfold I64 at hv; omega)
    repeat (first | refine hl_moveF rfl rfl ?_ | refine hl_loadRd rfl hN.rd (Imp.refl _) c1 rfl ?_ | refine go1_ ?_ | refine bx_ (fun _ => ?_))
    refine hl_callc (caps := []) rfl rfl rfl (cp _) (fun v M h => ?_)
    obtain ⟨rfl, rfl⟩ := h
    by_cases hpx : PixQ l[j]
    · rw [decide_eq_true hpx]
      repeat (first | refine go_ ?_ | refine bx_ (fun _ => ?_))
      refine ⟨q - 1, by omega, _, Imp.refl _, j + 1, by omega, fun i h h2 => ?_, Imp.refl _, rfl, rfl, rfl, rfl, trivial⟩
      by_cases e : i = j
      · subst e; exact hpx
      · exact hall i h (by omega)
    · rw [decide_eq_false hpx]
      repeat (first | refine go_ ?_ | refine bx_ (fun _ => ?_))
      exact fin1I rfl rfl ⟨⟨_, rfl, .inl ⟨by omega, fun q => hpx (q _ (List.getElem_mem _))⟩⟩, rfl⟩
  · obtain rfl : j = n := by omega
    repeat (first | refine go_ ?_ | refine bx_ (fun _ => ?_))
    refine fin1I rfl rfl ⟨⟨_, rfl, .inr ⟨by decide, fun x hx => ?_⟩⟩, rfl⟩
    obtain ⟨i, hi, rfl⟩ := List.getElem_of_mem hx
    exact hall i hi (by omega)
theorem pixAny_fn {a : Option Addr} {n c : Nat} {l : List Int} (hN : NumR w0 B H a n l) (hI : ∀ x ∈ l, I64 x) (hs : n ≤ 1000000) (b : Bool) (hb : b = true ↔ ∀ x ∈ l, PixQ x) :
    Fn Try.prog w0 B 72 [.slice a n c, .func (.func 73) #[] #[]] H (fun v H' => v = .bool (!b) ∧ H' = H) := by
  refine fn_intro Try.func72 rfl (by kernel_rfl) rfl ?_
  have cp := fun (M : List Ent) (hi : Imp M H) => pixIdx_fn (c := c) (hN.imp hi) hI hs
  repeat (first | refine hl_moveF rfl rfl ?_ | refine go1_ ?_ | refine bx_ (fun _ => ?_))
  refine hl_call rfl rfl (cp _ (Imp.refl _)) (fun v M h => ?_)
  obtain ⟨⟨z, rfl, ⟨h1, h2⟩ | ⟨h1, h2⟩⟩, rfl⟩ := h
  · obtain rfl : b = false := by cases b; rfl; exact absurd (hb.1 rfl) h2
    repeat (first | refine go_ ?_ | refine bx_ (fun _ => ?_))
    exact fin1B rfl rfl ⟨rfl, rfl⟩
  · obtain rfl : b = true := hb.2 h2
    repeat (first | refine go_ ?_ | refine bx_ (fun _ => ?_))
    exact fin1B rfl rfl ⟨rfl, rfl⟩
end
end Go.Proofs.Ytoobhebbgbhahaa
namespace Go.Proofs.Ytoobhebbgbhahaa
open Go.RowKit
def Fo.all (P : Ly → Fo → Prop) : Fo → Prop
  | .nil => True
  | .cons l k r => P l k ∧ r.all P
def Fo.okL (w h n : Int) (l : Ly) (k : Fo) (S : Nat) : Prop := La1 w h n l k S ∧ k.okS w h n (S ||| 1 <<< l.i.toNat)
def Fo.nxL (l : Ly) (k : Fo) (S : Nat) : Nat := k.nx (S ||| 1 <<< l.i.toNat)
/-- The numbers that were met. -/
abbrev mb (g S : Nat) : Ent := ⟨g, mapTag, [], S⟩
/-- What a function tells of a layer and of those within it. -/
def Cl (w0 : World) (B : Nat) (w h n : Int) (f : FuncId) (caps : List Value) (gm : Nat) (R : List Ent) (l : Ly) (k : Fo) : Prop :=
  ∀ (pv mv qv : Value) (ka : Option Addr) (kc S : Nat), LyR w0 B R l pv mv qv → FoR w0 B R (.slice ka k.len kc) k →
    Fn Try.prog w0 B f ([.agg (lyC l pv mv qv (.slice ka k.len kc)).toArray] ++ caps) (mb gm S :: R) (fun v H' => ∃ (b : Bool) (S' : Nat), v = .bool (!b) ∧ H' = mb gm S' :: R ∧ (b = true ↔ Fo.okL w h n l k S) ∧ (b = true → S' = Fo.nxL l k S))
section
variable {w0 : World} {B : Nat} {H R R0 : List Ent} {g gm : Nat}
set_option maxHeartbeats 16000000
set_option maxRecDepth 100000
theorem lyIdx_fn {w h n : Int} {f : FuncId} {caps : List Value} {F : Fo} {S0 : Nat} {v : Value} (hF : FoR w0 B R v F) (hc : F.cnt ≤ 1000000000) (hall : F.all (Cl w0 B w h n f caps gm R)) :
    Fn Try.prog w0 B 69 [v, .func (.func f) #[] caps.toArray] (mb gm S0 :: R)
      (fun v H' => ∃ (z : Int) (S' : Nat), v = .int .i64 z ∧ H' = mb gm S' :: R ∧ ((0 ≤ z ∧ ¬ F.okS w h n S0) ∨ (z < 0 ∧ F.okS w h n S0 ∧ S' = F.nx S0))) := by
  obtain ⟨a, c, C, rfl, hC, hFo⟩ := hF
  have hlc := F.len_cnt
  have iR : ∀ S, Imp (mb gm S :: R) R := fun S => Imp.drop (Imp.refl _)
  refine fn_intro Try.func69 rfl (by kernel_rfl) rfl ?_
  repeat (first | refine go_ ?_ | refine bx_ (fun _ => ?_))
  refine hc_loop (fun q fr M => ∃ (G : Fo) (j S : Nat) (D : List Value), j + G.len = F.len ∧ q = G.len ∧ C.drop (j * 19) = D ∧ FoC w0 B R G D ∧ G.all (Cl w0 B w h n f caps gm R) ∧ (F.okS w h n S0 ↔ G.okS w h n S) ∧ F.nx S0 = G.nx S ∧ M = mb gm S :: R ∧ Agr fr [(0, .slice a F.len c), (1, .func (.func f) #[] caps.toArray), (7, .int .i64 (F.len : Int)), (8, .int .i64 (j : Int))]) F.len ?_ ?_
  · exact ⟨F, 0, S0, C, by omega, rfl, by simp, hFo, hall, Iff.rfl, rfl, rfl, rfl, rfl, rfl, rfl, trivial⟩
  rintro q fr M ⟨G, j, S, D, hj, rfl, hD, hG, hal, hok, hnx, rfl, hf⟩
  obtain ⟨base, rfl⟩ := hf.out
  clear hf
  cases G with
  | nil =>
    rw [Fo.len] at hj
    obtain rfl : j = F.len := by omega
    repeat (first | refine go_ ?_ | refine bx_ (fun _ => ?_))
    exact fin1I rfl rfl ⟨_, S, rfl, rfl, .inr ⟨by decide, hok.2 trivial, hnx.symm⟩⟩
  | cons l k r =>
    rw [Fo.len] at hj
    obtain ⟨hl0, hal⟩ := hal
    obtain ⟨pv, mv, qv, ka, kc, K, C', rfl, hl, hK, hk, hr⟩ := hG
    obtain ⟨hcell, hnx2⟩ := drop19 hD rfl
    obtain ⟨bb, off, rfl⟩ := hC.pos (by omega)
    have cc := hl0 pv mv qv ka kc S hl ⟨ka, kc, K, rfl, hK, hk⟩
    obtain ⟨⟨pa, pc, rfl, _⟩, ⟨ma, mc, rfl, _⟩, ⟨qa, qc, rfl, _⟩⟩ := hl
    have e1 : (Fo.cons l k r).okS w h n S ↔ Fo.okL w h n l k S ∧ r.okS w h n (Fo.nxL l k S) := ⟨fun ⟨h1, h2, h3⟩ => ⟨⟨h1, h2⟩, h3⟩, fun ⟨⟨h1, h2⟩, h3⟩ => ⟨h1, h2, h3⟩⟩
    rw [e1] at hok
    repeat (first | refine hl_moveF rfl rfl ?_ | refine hl_loadRN (l := C) rfl hC.rd (iR S) hcell rfl rfl ?_ | refine go1_ ?_ | refine bx_ (fun _ => ?_))
    refine hl_callc rfl rfl rfl cc (fun v M h => ?_)
    obtain ⟨b, S', rfl, rfl, hb, hS⟩ := h
    cases b with
    | true =>
      obtain rfl := hS rfl
      have hb := hb.1 rfl
      repeat (first | refine go_ ?_ | refine bx_ (fun _ => ?_))
      exact ⟨r.len, by rw [Fo.len]; omega, r, j + 1, Fo.nxL l k S, C', by omega, rfl, hnx2, hr, hal, hok.trans ⟨fun h => h.2, fun h => ⟨hb, h⟩⟩, hnx, rfl, rfl, rfl, rfl, rfl, trivial⟩
    | false =>
      have hb : ¬ Fo.okL w h n l k S := fun h => by have := hb.2 h; cases this
      repeat (first | refine go_ ?_ | refine bx_ (fun _ => ?_))
      exact fin1I rfl rfl ⟨_, S', rfl, rfl, .inl ⟨by omega, fun h => hb (hok.1 h).1⟩⟩
theorem lyAny_fn {w h n : Int} {f : FuncId} {caps : List Value} {F : Fo} {S0 : Nat} {v : Value} (hF : FoR w0 B R v F) (hc : F.cnt ≤ 1000000000) (hall : F.all (Cl w0 B w h n f caps gm R)) :
    Fn Try.prog w0 B 56 [v, .func (.func f) #[] caps.toArray] (mb gm S0 :: R)
      (fun v H' => ∃ (b : Bool) (S' : Nat), v = .bool (!b) ∧ H' = mb gm S' :: R ∧ (b = true ↔ F.okS w h n S0) ∧ (b = true → S' = F.nx S0)) := by
  have cp := lyIdx_fn (S0 := S0) hF hc hall
  obtain ⟨a, c, C, rfl, hC, hFo⟩ := hF
  refine fn_intro Try.func56 rfl (by kernel_rfl) rfl ?_
  repeat (first | refine hl_moveF rfl rfl ?_ | refine go1_ ?_ | refine bx_ (fun _ => ?_))
  refine hl_call rfl rfl cp (fun v M h => ?_)
  obtain ⟨z, S', rfl, rfl, ⟨h1, h2⟩ | ⟨h1, h2, h3⟩⟩ := h
  · repeat (first | refine go_ ?_ | refine bx_ (fun _ => ?_))
    exact fin1B rfl rfl ⟨false, S', rfl, rfl, ⟨fun h => (by cases h), fun h => absurd h h2⟩, fun h => (by cases h)⟩
  · repeat (first | refine go_ ?_ | refine bx_ (fun _ => ?_))
    exact fin1B rfl rfl ⟨true, S', rfl, rfl, ⟨fun _ => h2, fun _ => rfl⟩, fun _ => h3⟩
end
end Go.Proofs.Ytoobhebbgbhahaa
namespace Go.Proofs.Ytoobhebbgbhahaa
open Go.RowKit
instance : TOne Try.prog 113 := ⟨by kernel_rfl⟩
instance : TSz Try.prog 113 1 := ⟨by kernel_rfl⟩
instance : TZero Try.prog 113 (.map none) := ⟨by kernel_rfl⟩
theorem mapT : Try.prog.underlying 113 = some (.map 3 4) := by kernel_rfl
theorem mapK : Try.prog.underlying 3 = some (.int .i64) := by kernel_rfl
section
variable {c : Cx} {Q : Pst} {fr : Fr} {H F : List Ent} {ops : Array Oper} {rest : List Oper} {dst : Option Nat} {ty : TypeId} {pos : String} {after : Array Edge}
variable {x y z : Operand} {T T' : TypeId} {g k j : Nat} {C : List Value} {S : List Oper → Fr → List Ent → Prop}
theorem hl_boxM {a : Option Nat} (hx : ev fr x = .map a) (hd : dOk c.n dst = true) (h : ∀ g, HL c ops Q rest (updO fr dst (.pointer (some ⟨g, 0, none⟩))) (⟨g, T, [.map a], 1⟩ :: H)) (hT9 : T ≠ mapTag := by first | assumption | decide) : HL c ops Q (⟨dst, .box T x, ty, pos, after, none⟩ :: rest) fr H := hl_box hx rfl hd h hT9
theorem hl_storeM {a : Option Nat} [TSz c.P T 1] (hx : ev fr x = .pointer (some ⟨g, j, none⟩)) (hy : ev fr y = .map a) (ht : Take H ⟨g, T', C, k⟩ F) (hi : j < C.length) (hd : dOk c.n dst = true) (h : HL c ops Q rest (updO fr dst undef) (⟨g, T', C.set j (.map a), k⟩ :: F)) : HL c ops Q (⟨dst, .store T x y, ty, pos, after, none⟩ :: rest) fr H := hl_store1 hx hy rfl ht hi hd h
theorem hl_lookupE [Stp c ops S] {kt et : TypeId} {a : Int} {b : Bool} (hT : c.P.underlying T = some (.map kt et)) (hkt : c.P.underlying kt = some (.int .i64)) [TZero c.P et (.bool false)] (hx : ev fr x = .map (some g)) (hy : ev fr y = .int .i64 a) (ht : Take H ⟨g, mapTag, [], k⟩ F) (ha : 0 ≤ a) (hb : k.testBit a.toNat = b) (hd : dOk c.n dst = true)
    (h : S rest (updO fr dst (.bool b)) H) : S (⟨dst, .lookup T x y false, ty, pos, after, none⟩ :: rest) fr H := hl_lookupI hT hkt hx hy ha ht hd (by rw [hb]; exact h)
end
abbrev dC (w h n : Int) (dv : Value) : List Value := [.int .i64 w, .int .i64 h, .int .i64 n, dv]
abbrev docE (g : Nat) (w h n : Int) (dv : Value) : Ent := ⟨g, 52, [.int .i64 w, .int .i64 h, .int .i64 n, dv], 4⟩
abbrev mpE (g gm : Nat) : Ent := ⟨g, 113, [.map (some gm)], 1⟩
abbrev lyE (g : Nat) (l : Ly) (pv mv qv kv : Value) : Ent := ⟨g, 116, [.int .i64 l.i, .int .i64 l.k, .bool l.d, .int .i64 l.o, .int .i64 l.e, .int .i64 l.w, .int .i64 l.h, pv, mv, .int .i64 l.a0, .int .i64 l.a1, .int .i64 l.a2, .int .i64 l.a3, .int .i64 l.a4, .int .i64 l.a5, .bool l.s, .int .i64 l.t, qv, kv], 19⟩
/-- What right tells of a layer and of those within it. -/
def Rc (w0 : World) (B : Nat) (w h n : Int) (dv : Value) (gm : Nat) (R : List Ent) (l : Ly) (k : Fo) : Prop :=
  ∀ (pv mv qv : Value) (ka : Option Addr) (kc S : Nat), LyR w0 B R l pv mv qv → FoR w0 B R (.slice ka k.len kc) k →
    Fn Try.prog w0 B 58 [.agg (lyC l pv mv qv (.slice ka k.len kc)).toArray, .agg (dC w h n dv).toArray, .map (some gm)] (mb gm S :: R) (fun v H' => ∃ (b : Bool) (S' : Nat), v = .bool b ∧ H' = mb gm S' :: R ∧ (b = true ↔ Fo.okL w h n l k S) ∧ (b = true → S' = Fo.nxL l k S))
theorem Fo.all_of {P : Ly → Fo → Prop} : ∀ (F : Fo) (N : Nat), F.wf N → (∀ l k, l.wf N → k.wf N → k.cnt < F.cnt → P l k) → F.all P
  | .nil, _, _, _ => trivial
  | .cons l k r, N, ⟨h1, _, h2, h3⟩, h => ⟨h l k h1 h2 (by rw [Fo.cnt]; omega), Fo.all_of r N h3 fun l' k' a b e => h l' k' a b (by rw [Fo.cnt]; omega)⟩
theorem rt_no {w h n : Int} {l : Ly} {k : Fo} {S gm : Nat} {R : List Ent} (hh : ¬ Fo.okL w h n l k S) (S' : Nat) :
    ∃ (b : Bool) (S'' : Nat), Value.bool false = .bool b ∧ mb gm S' :: R = mb gm S'' :: R ∧ (b = true ↔ Fo.okL w h n l k S) ∧ (b = true → S'' = Fo.nxL l k S) :=
  ⟨false, S', rfl, rfl, ⟨fun h => (by cases h), fun q => absurd q hh⟩, fun h => (by cases h)⟩
section
variable {w0 : World} {B : Nat} {H R R0 : List Ent} {g gm : Nat}
set_option maxHeartbeats 32000000
set_option maxRecDepth 100000
theorem cl_of {w h n : Int} {da : Option Addr} {dl dc g4 g5 : Nat} {l : Ly} {k : Fo} (hh : ∀ R', Imp R' R → Rc w0 B w h n (.slice da dl dc) gm R' l k) :
    Cl w0 B w h n 76 [.pointer (some ⟨g4, 0, none⟩), .pointer (some ⟨g5, 0, none⟩)] gm (docE g4 w h n (.slice da dl dc) :: mpE g5 gm :: R) l k := by
  intro pv mv qv ka kc S hl hk
  have hl0 := hl
  obtain ⟨⟨pa, pc, rfl, nP⟩, ⟨ma, mc, rfl, nM⟩, ⟨qa, qc, rfl, nQ⟩⟩ := hl
  refine fn_intro Try.func76 rfl (by kernel_rfl) rfl ?_
  repeat (first | refine go_ ?_ | refine bx_ (fun _ => ?_))
  refine HL.perm (H' := mb gm S :: _ :: docE g4 w h n (.slice da dl dc) :: mpE g5 gm :: R) ?_ (List.Perm.swap _ _ _)
  refine hl_call rfl rfl (hh _ (Imp.drop (Imp.drop (Imp.drop (Imp.refl _)))) _ _ _ ka kc S (hl0.imp (Imp.drop (Imp.refl _))) (hk.imp (Imp.drop (Imp.refl _)))) (fun v M o => ?_)
  obtain ⟨b, S', rfl, rfl, hb, hS⟩ := o
  repeat (first | refine go_ ?_ | refine bx_ (fun _ => ?_))
  exact fin1B rfl rfl ⟨b, S', rfl, rfl, hb, hS⟩ (Imp.drop2 (Imp.refl _))
theorem cl1_of {w h n : Int} {da : Option Addr} {dl dc g4 g5 : Nat} {l : Ly} {k : Fo} (hh : ∀ R', Imp R' R → Rc w0 B w h n (.slice da dl dc) gm R' l k) :
    Cl w0 B w h n 57 [.pointer (some ⟨g4, 0, none⟩), .pointer (some ⟨g5, 0, none⟩)] gm (docE g4 w h n (.slice da dl dc) :: mpE g5 gm :: R) l k := by
  intro pv mv qv ka kc S hl hk
  have hl0 := hl
  obtain ⟨⟨pa, pc, rfl, nP⟩, ⟨ma, mc, rfl, nM⟩, ⟨qa, qc, rfl, nQ⟩⟩ := hl
  refine fn_intro Try.func57 rfl (by kernel_rfl) rfl ?_
  repeat (first | refine go_ ?_ | refine bx_ (fun _ => ?_))
  refine HL.perm (H' := mb gm S :: _ :: docE g4 w h n (.slice da dl dc) :: mpE g5 gm :: R) ?_ (List.Perm.swap _ _ _)
  refine hl_call rfl rfl (hh _ (Imp.drop (Imp.drop (Imp.drop (Imp.refl _)))) _ _ _ ka kc S (hl0.imp (Imp.drop (Imp.refl _))) (hk.imp (Imp.drop (Imp.refl _)))) (fun v M o => ?_)
  obtain ⟨b, S', rfl, rfl, hb, hS⟩ := o
  repeat (first | refine go_ ?_ | refine bx_ (fun _ => ?_))
  exact fin1B rfl rfl ⟨b, S', rfl, rfl, hb, hS⟩ (Imp.drop2 (Imp.refl _))
end
end Go.Proofs.Ytoobhebbgbhahaa
namespace Go.Proofs.Ytoobhebbgbhahaa
open Go.RowKit
structure LaB (w h n : Int) (l : Ly) (S : Nat) : Prop where
  i : 1 ≤ l.i ∧ l.i < n
  b : S.testBit l.i.toNat = false
  k : 0 ≤ l.k ∧ l.k ≤ 2
  o : 0 ≤ l.o ∧ l.o ≤ 255
  e : 0 ≤ l.e ∧ l.e ≤ 11
  m : l.M.length = 0 ∨ (l.M.length : Int) = w * h
structure LaD (l : Ly) (k : Fo) : Prop where
  n0 : l.k ≠ 0 → l.w = 0 ∧ l.h = 0 ∧ l.P = [] ∧ l.mp = [65536, 0, 0, 65536, 0, 0] ∧ l.s = false
  n2 : l.k ≠ 2 → l.t = 2 ∧ l.Q = []
  g : l.k ≠ 1 → k.len = 0
  k2 : l.k = 2 → l.e = 0
theorem bool_of (P : Prop) : ∃ b : Bool, b = true ↔ P := by
  by_cases h : P
  · exact ⟨true, fun _ => h, fun _ => rfl⟩
  · exact ⟨false, fun q => (by cases q), fun q => absurd q h⟩
section
variable {w0 : World} {B : Nat} {H R R0 : List Ent} {g gm : Nat}
set_option maxHeartbeats 32000000
set_option maxRecDepth 100000
theorem right_core {w h n : Int} {da : Option Addr} {dl dc : Nat} {l : Ly} {k : Fo} (hw : l.wf 1000000) (hsz : SzQ w h) (hkc : k.cnt ≤ 1000000)
    (ih : ∀ g4 g5 R', Imp R' R → k.all (Cl w0 B w h n 76 [.pointer (some ⟨g4, 0, none⟩), .pointer (some ⟨g5, 0, none⟩)] gm (docE g4 w h n (.slice da dl dc) :: mpE g5 gm :: R'))) :
    Rc w0 B w h n (.slice da dl dc) gm R l k := by
  intro pv mv qv ka kc S hl hk
  have hl0 := hl
  obtain ⟨⟨pa, pc, rfl, nP⟩, ⟨ma, mc, rfl, nM⟩, ⟨qa, qc, rfl, nQ⟩⟩ := hl
  obtain ⟨wh, wP, wm, wt, wQ, lP, lM, lQ⟩ := hw
  have hsm := sm_mf wm
  have hpar := par_of (c := qc) nQ wQ lQ
  have hp := prod_bd hsz.1 hsz.2.1 hsz.2.2.1 hsz.2.2.2.1
  have hlc := k.len_cnt
  refine fn_intro Try.func58 rfl (by kernel_rfl) rfl ?_
  repeat (first | refine go_ ?_ | refine bx_ (fun _ => ?_))
  rename_i g3 g4
  refine hl_boxM rfl rfl (fun g5 => ?_)
  refine HL.perm (H' := mpE g5 gm :: docE g4 w h n (.slice da dl dc) :: lyE g3 l (.slice pa l.P.length pc) (.slice ma l.M.length mc) (.slice qa l.Q.length qc) (.slice ka k.len kc) :: mb gm S :: R) ?_ (List.Perm.refl _)
  repeat (first | refine op_ ?_ | refine bx_ (fun _ => ?_))
  obtain ⟨b1, hb1⟩ := bool_of (¬ LaB w h n l S)
  refine hc_seq ?_
  refine hc_seq ?_
  refine hc_meet (fun fr M => Agr fr [(3, .pointer (some ⟨g3, 0, none⟩)), (4, .pointer (some ⟨g4, 0, none⟩)), (5, .pointer (some ⟨g5, 0, none⟩)), (77, .bool b1)] ∧ M = mpE g5 gm :: docE g4 w h n (.slice da dl dc) :: lyE g3 l (.slice pa l.P.length pc) (.slice ma l.M.length mc) (.slice qa l.Q.length qc) (.slice ka k.len kc) :: mb gm S :: R) ?_ ?_
  · by_cases q1 : l.i < 1
    · obtain rfl : b1 = true := hb1.2 (fun q => by have := q.i; omega)
      repeat (first | refine hl_lookupE mapT mapK rfl rfl (.there (.there (.there .here))) (by omega) hbit rfl ?_ | refine go1_ ?_ | refine bx_ (fun _ => ?_))
      exact ⟨⟨rfl, rfl, rfl, rfl, trivial⟩, rfl⟩
    by_cases q2 : n ≤ l.i
    · obtain rfl : b1 = true := hb1.2 (fun q => by have := q.i; omega)
      repeat (first | refine hl_lookupE mapT mapK rfl rfl (.there (.there (.there .here))) (by omega) hbit rfl ?_ | refine go1_ ?_ | refine bx_ (fun _ => ?_))
      exact ⟨⟨rfl, rfl, rfl, rfl, trivial⟩, rfl⟩
    by_cases hbit : S.testBit l.i.toNat = true
    · obtain rfl : b1 = true := hb1.2 (fun q => by have := q.b; rw [hbit] at this; cases this)
      repeat (first | refine hl_lookupE mapT mapK rfl rfl (.there (.there (.there .here))) (by omega) hbit rfl ?_ | refine go1_ ?_ | refine bx_ (fun _ => ?_))
      exact ⟨⟨rfl, rfl, rfl, rfl, trivial⟩, rfl⟩
    replace hbit : S.testBit l.i.toNat = false := by simpa using hbit
    by_cases q4 : l.k < 0
    · obtain rfl : b1 = true := hb1.2 (fun q => by have := q.k; omega)
      repeat (first | refine hl_lookupE mapT mapK rfl rfl (.there (.there (.there .here))) (by omega) hbit rfl ?_ | refine go1_ ?_ | refine bx_ (fun _ => ?_))
      exact ⟨⟨rfl, rfl, rfl, rfl, trivial⟩, rfl⟩
    by_cases q5 : 2 < l.k
    · obtain rfl : b1 = true := hb1.2 (fun q => by have := q.k; omega)
      repeat (first | refine hl_lookupE mapT mapK rfl rfl (.there (.there (.there .here))) (by omega) hbit rfl ?_ | refine go1_ ?_ | refine bx_ (fun _ => ?_))
      exact ⟨⟨rfl, rfl, rfl, rfl, trivial⟩, rfl⟩
    by_cases q6 : l.o < 0
    · obtain rfl : b1 = true := hb1.2 (fun q => by have := q.o; omega)
      repeat (first | refine hl_lookupE mapT mapK rfl rfl (.there (.there (.there .here))) (by omega) hbit rfl ?_ | refine go1_ ?_ | refine bx_ (fun _ => ?_))
      exact ⟨⟨rfl, rfl, rfl, rfl, trivial⟩, rfl⟩
    by_cases q7 : 255 < l.o
    · obtain rfl : b1 = true := hb1.2 (fun q => by have := q.o; omega)
      repeat (first | refine hl_lookupE mapT mapK rfl rfl (.there (.there (.there .here))) (by omega) hbit rfl ?_ | refine go1_ ?_ | refine bx_ (fun _ => ?_))
      exact ⟨⟨rfl, rfl, rfl, rfl, trivial⟩, rfl⟩
    by_cases q8 : l.e < 0
    · obtain rfl : b1 = true := hb1.2 (fun q => by have := q.e; omega)
      repeat (first | refine hl_lookupE mapT mapK rfl rfl (.there (.there (.there .here))) (by omega) hbit rfl ?_ | refine go1_ ?_ | refine bx_ (fun _ => ?_))
      exact ⟨⟨rfl, rfl, rfl, rfl, trivial⟩, rfl⟩
    by_cases q9 : 11 < l.e
    · obtain rfl : b1 = true := hb1.2 (fun q => by have := q.e; omega)
      repeat (first | refine hl_lookupE mapT mapK rfl rfl (.there (.there (.there .here))) (by omega) hbit rfl ?_ | refine go1_ ?_ | refine bx_ (fun _ => ?_))
      exact ⟨⟨rfl, rfl, rfl, rfl, trivial⟩, rfl⟩
    by_cases q10 : l.M.length = 0
    · obtain rfl : b1 = false := by cases b1 with
        | false => rfl
        | true => exact absurd ⟨by omega, hbit, by omega, by omega, by omega, by omega⟩ (hb1.1 rfl)
      repeat (first | refine hl_lookupE mapT mapK rfl rfl (.there (.there (.there .here))) (by omega) hbit rfl ?_ | refine go1_ ?_ | refine bx_ (fun _ => ?_))
      exact ⟨⟨rfl, rfl, rfl, rfl, trivial⟩, rfl⟩
    by_cases q11 : (l.M.length : Int) = w * h
    · obtain rfl : b1 = false := by cases b1 with
        | false => rfl
        | true => exact absurd ⟨by omega, hbit, by omega, by omega, by omega, by omega⟩ (hb1.1 rfl)
      repeat (first | refine hl_lookupE mapT mapK rfl rfl (.there (.there (.there .here))) (by omega) hbit rfl ?_ | refine go1_ ?_ | refine bx_ (fun _ => ?_))
      exact ⟨⟨rfl, rfl, rfl, rfl, trivial⟩, rfl⟩
    obtain rfl : b1 = true := hb1.2 (fun q => by have := q.m; omega)
    repeat (first | refine hl_lookupE mapT mapK rfl rfl (.there (.there (.there .here))) (by omega) hbit rfl ?_ | refine go1_ ?_ | refine bx_ (fun _ => ?_))
    exact ⟨⟨rfl, rfl, rfl, rfl, trivial⟩, rfl⟩
  rintro fr M ⟨hf, rfl⟩
  obtain ⟨base, rfl⟩ := hf.out
  clear hf
  cases b1 with
  | true =>
    have hn := hb1.1 rfl
    repeat (first | refine go_ ?_ | refine bx_ (fun _ => ?_))
    refine fin1B rfl rfl (H2 := mb gm S :: R) ?_ ?_
    rotate_left
    · exact Imp.drop (Imp.drop (Imp.drop (Imp.refl _)))
    exact rt_no (fun q => hn ⟨q.1.q.i, q.1.b, q.1.q.k, q.1.q.o, q.1.q.e, q.1.q.m⟩) S
  | false =>
  have hB : LaB w h n l S := Classical.byContradiction fun q => by cases hb1.2 q
  clear hb1
  obtain ⟨hi, hbit, hkk, ho, hee, hm⟩ := hB
  repeat (first | refine go_ ?_ | refine bx_ (fun _ => ?_))
  refine hl_mapPutI mapT mapK rfl rfl (by omega) rfl (.there (.there (.there .here))) rfl ?_
  obtain ⟨S1, hS1⟩ : ∃ S1, S1 = S ||| 1 <<< l.i.toNat := ⟨_, rfl⟩
  rw [← hS1]
  refine HL.perm (H' := mpE g5 gm :: docE g4 w h n (.slice da dl dc) :: lyE g3 l (.slice pa l.P.length pc) (.slice ma l.M.length mc) (.slice qa l.Q.length qc) (.slice ka k.len kc) :: mb gm S1 :: R) ?_ (List.perm_middle (a := mb gm S1) (l₁ := [mpE g5 gm, docE g4 w h n (.slice da dl dc), lyE g3 l (.slice pa l.P.length pc) (.slice ma l.M.length mc) (.slice qa l.Q.length qc) (.slice ka k.len kc)]) (l₂ := R)).symm
  have iR : Imp (mpE g5 gm :: docE g4 w h n (.slice da dl dc) :: lyE g3 l (.slice pa l.P.length pc) (.slice ma l.M.length mc) (.slice qa l.Q.length qc) (.slice ka k.len kc) :: mb gm S1 :: R) R := Imp.drop (Imp.drop (Imp.drop (Imp.drop (Imp.refl _))))
  have iM : Imp (mpE g5 gm :: docE g4 w h n (.slice da dl dc) :: lyE g3 l (.slice pa l.P.length pc) (.slice ma l.M.length mc) (.slice qa l.Q.length qc) (.slice ka k.len kc) :: mb gm S1 :: R) (mb gm S1 :: R) := Imp.drop (Imp.drop (Imp.drop (Imp.refl _)))
  obtain ⟨b2, hb2⟩ := bool_of (¬ LaD l k)
  have co := fun H => one_fn (w0 := w0) (B := B) (H := H)
  repeat (first | refine go_ ?_ | refine bx_ (fun _ => ?_))
  refine hc_meet (fun fr M => Agr fr [(3, .pointer (some ⟨g3, 0, none⟩)), (4, .pointer (some ⟨g4, 0, none⟩)), (5, .pointer (some ⟨g5, 0, none⟩)), (146, .bool b2)] ∧ M = mpE g5 gm :: docE g4 w h n (.slice da dl dc) :: lyE g3 l (.slice pa l.P.length pc) (.slice ma l.M.length mc) (.slice qa l.Q.length qc) (.slice ka k.len kc) :: mb gm S1 :: R) ?_ ?_
  · by_cases k0 : l.k ≠ 0
    · have k0' : ¬ l.k = 0 := k0
      by_cases h1 : l.w ≠ 0
      · obtain rfl : b2 = true := hb2.2 (fun q => h1 (q.n0 k0).1)
        (refine hc_draw (by kernel_rfl) (by kernel_rfl) ?_; repeat (first | refine hl_loadN (i := 9) (n := 6) (vs := l.mp.map intV) rfl (.there (.there .here)) rfl rfl rfl ?_ | refine gd1_ ?_ | refine hd_call rfl rfl (co _) ?_))
        try refine thn_norm ?_
        exact ⟨⟨rfl, rfl, rfl, rfl, trivial⟩, rfl⟩
      by_cases h2 : l.h ≠ 0
      · obtain rfl : b2 = true := hb2.2 (fun q => h2 (q.n0 k0).2.1)
        (refine hc_draw (by kernel_rfl) (by kernel_rfl) ?_; repeat (first | refine hl_loadN (i := 9) (n := 6) (vs := l.mp.map intV) rfl (.there (.there .here)) rfl rfl rfl ?_ | refine gd1_ ?_ | refine hd_call rfl rfl (co _) ?_))
        try refine thn_norm ?_
        exact ⟨⟨rfl, rfl, rfl, rfl, trivial⟩, rfl⟩
      by_cases h3 : l.P.length ≠ 0
      · obtain rfl : b2 = true := hb2.2 (fun q => h3 (by rw [(q.n0 k0).2.2.1]; rfl))
        (refine hc_draw (by kernel_rfl) (by kernel_rfl) ?_; repeat (first | refine hl_loadN (i := 9) (n := 6) (vs := l.mp.map intV) rfl (.there (.there .here)) rfl rfl rfl ?_ | refine gd1_ ?_ | refine hd_call rfl rfl (co _) ?_))
        try refine thn_norm ?_
        exact ⟨⟨rfl, rfl, rfl, rfl, trivial⟩, rfl⟩
      by_cases hmp : l.mp ≠ [65536, 0, 0, 65536, 0, 0]
      · obtain rfl : b2 = true := hb2.2 (fun q => hmp (q.n0 k0).2.2.2.1)
        (refine hc_draw (by kernel_rfl) (by kernel_rfl) ?_; repeat (first | refine hl_loadN (i := 9) (n := 6) (vs := l.mp.map intV) rfl (.there (.there .here)) rfl rfl rfl ?_ | refine hl_neArrT (l := l.mp) (m := [65536, 0, 0, 65536, 0, 0]) rfl rfl rfl rfl hmp rfl ?_ | refine gd1_ ?_ | refine hd_call rfl rfl (co _) ?_))
        try refine thn_norm ?_
        exact ⟨⟨rfl, rfl, rfl, rfl, trivial⟩, rfl⟩
      replace hmp := Classical.not_not.1 hmp
      by_cases h5 : l.s = true
      · have bs := h5
        obtain rfl : b2 = true := hb2.2 (fun q => by rw [(q.n0 k0).2.2.2.2] at h5; cases h5)
        (refine hc_draw (by kernel_rfl) (by kernel_rfl) ?_; repeat (first | refine hl_loadN (i := 9) (n := 6) (vs := l.mp.map intV) rfl (.there (.there .here)) rfl rfl rfl ?_ | refine hl_neArrF (l := l.mp) (m := [65536, 0, 0, 65536, 0, 0]) rfl rfl rfl hmp rfl ?_ | rw [bs] | refine gd1_ ?_ | refine hd_call rfl rfl (co _) ?_))
        try refine thn_norm ?_
        exact ⟨⟨rfl, rfl, rfl, rfl, trivial⟩, rfl⟩
      replace h5 : l.s = false := by simpa using h5
      have hP0 : l.P = [] := List.length_eq_zero_iff.1 (by omega)
      by_cases k2 : l.k ≠ 2
      · skip
        by_cases g1 : l.t ≠ 2
        · obtain rfl : b2 = true := hb2.2 (fun q => g1 (q.n2 k2).1)
          (refine hc_draw (by kernel_rfl) (by kernel_rfl) ?_; repeat (first | refine hl_loadN (i := 9) (n := 6) (vs := l.mp.map intV) rfl (.there (.there .here)) rfl rfl rfl ?_ | refine hl_neArrF (l := l.mp) (m := [65536, 0, 0, 65536, 0, 0]) rfl rfl rfl hmp rfl ?_ | rw [h5] | refine gd1_ ?_ | refine hd_call rfl rfl (co _) ?_))
          try refine thn_norm ?_
          exact ⟨⟨rfl, rfl, rfl, rfl, trivial⟩, rfl⟩
        by_cases g2 : l.Q.length ≠ 0
        · obtain rfl : b2 = true := hb2.2 (fun q => g2 (by rw [(q.n2 k2).2]; rfl))
          (refine hc_draw (by kernel_rfl) (by kernel_rfl) ?_; repeat (first | refine hl_loadN (i := 9) (n := 6) (vs := l.mp.map intV) rfl (.there (.there .here)) rfl rfl rfl ?_ | refine hl_neArrF (l := l.mp) (m := [65536, 0, 0, 65536, 0, 0]) rfl rfl rfl hmp rfl ?_ | rw [h5] | refine gd1_ ?_ | refine hd_call rfl rfl (co _) ?_))
          try refine thn_norm ?_
          exact ⟨⟨rfl, rfl, rfl, rfl, trivial⟩, rfl⟩
        have hQ0 : l.Q = [] := List.length_eq_zero_iff.1 (by omega)
        obtain rfl : b2 = false := by cases b2 with
          | false => rfl
          | true => exact absurd ⟨fun _ => ⟨by omega, by omega, hP0, hmp, h5⟩, fun _ => ⟨by omega, hQ0⟩, fun h => by omega, fun h => absurd h k2⟩ (hb2.1 rfl)
        (refine hc_draw (by kernel_rfl) (by kernel_rfl) ?_; repeat (first | refine hl_loadN (i := 9) (n := 6) (vs := l.mp.map intV) rfl (.there (.there .here)) rfl rfl rfl ?_ | refine hl_neArrF (l := l.mp) (m := [65536, 0, 0, 65536, 0, 0]) rfl rfl rfl hmp rfl ?_ | rw [h5] | refine gd1_ ?_ | refine hd_call rfl rfl (co _) ?_))
        try refine thn_norm ?_
        exact ⟨⟨rfl, rfl, rfl, rfl, trivial⟩, rfl⟩
      · have k2' : l.k = 2 := by omega
        by_cases g3 : k.len ≠ 0
        · obtain rfl : b2 = true := hb2.2 (fun q => g3 (q.g (by omega)))
          (refine hc_draw (by kernel_rfl) (by kernel_rfl) ?_; repeat (first | refine hl_loadN (i := 9) (n := 6) (vs := l.mp.map intV) rfl (.there (.there .here)) rfl rfl rfl ?_ | refine hl_neArrF (l := l.mp) (m := [65536, 0, 0, 65536, 0, 0]) rfl rfl rfl hmp rfl ?_ | rw [h5] | refine gd1_ ?_ | refine hd_call rfl rfl (co _) ?_))
          try refine thn_norm ?_
          exact ⟨⟨rfl, rfl, rfl, rfl, trivial⟩, rfl⟩
        by_cases e1 : l.e ≠ 0
        · obtain rfl : b2 = true := hb2.2 (fun q => e1 (q.k2 (by omega)))
          (refine hc_draw (by kernel_rfl) (by kernel_rfl) ?_; repeat (first | refine hl_loadN (i := 9) (n := 6) (vs := l.mp.map intV) rfl (.there (.there .here)) rfl rfl rfl ?_ | refine hl_neArrF (l := l.mp) (m := [65536, 0, 0, 65536, 0, 0]) rfl rfl rfl hmp rfl ?_ | rw [h5] | refine gd1_ ?_ | refine hd_call rfl rfl (co _) ?_))
          try refine thn_norm ?_
          exact ⟨⟨rfl, rfl, rfl, rfl, trivial⟩, rfl⟩
        obtain rfl : b2 = false := by cases b2 with
          | false => rfl
          | true => exact absurd ⟨fun _ => ⟨by omega, by omega, hP0, hmp, h5⟩, fun h => absurd k2' h, fun _ => by omega, fun _ => by omega⟩ (hb2.1 rfl)
        (refine hc_draw (by kernel_rfl) (by kernel_rfl) ?_; repeat (first | refine hl_loadN (i := 9) (n := 6) (vs := l.mp.map intV) rfl (.there (.there .here)) rfl rfl rfl ?_ | refine hl_neArrF (l := l.mp) (m := [65536, 0, 0, 65536, 0, 0]) rfl rfl rfl hmp rfl ?_ | rw [h5] | refine gd1_ ?_ | refine hd_call rfl rfl (co _) ?_))
        try refine thn_norm ?_
        exact ⟨⟨rfl, rfl, rfl, rfl, trivial⟩, rfl⟩
    replace k0 : l.k = 0 := by omega
    have k2 : l.k ≠ 2 := by omega
    by_cases g1 : l.t ≠ 2
    · obtain rfl : b2 = true := hb2.2 (fun q => g1 (q.n2 k2).1)
      (refine hc_draw (by kernel_rfl) (by kernel_rfl) ?_; repeat (first | refine hl_loadN (i := 9) (n := 6) (vs := l.mp.map intV) rfl (.there (.there .here)) rfl rfl rfl ?_ | refine gd1_ ?_ | refine hd_call rfl rfl (co _) ?_))
      try refine thn_norm ?_
      exact ⟨⟨rfl, rfl, rfl, rfl, trivial⟩, rfl⟩
    by_cases g2 : l.Q.length ≠ 0
    · obtain rfl : b2 = true := hb2.2 (fun q => g2 (by rw [(q.n2 k2).2]; rfl))
      (refine hc_draw (by kernel_rfl) (by kernel_rfl) ?_; repeat (first | refine hl_loadN (i := 9) (n := 6) (vs := l.mp.map intV) rfl (.there (.there .here)) rfl rfl rfl ?_ | refine gd1_ ?_ | refine hd_call rfl rfl (co _) ?_))
      try refine thn_norm ?_
      exact ⟨⟨rfl, rfl, rfl, rfl, trivial⟩, rfl⟩
    have hQ0 : l.Q = [] := List.length_eq_zero_iff.1 (by omega)
    by_cases g3 : k.len ≠ 0
    · obtain rfl : b2 = true := hb2.2 (fun q => g3 (q.g (by omega)))
      (refine hc_draw (by kernel_rfl) (by kernel_rfl) ?_; repeat (first | refine hl_loadN (i := 9) (n := 6) (vs := l.mp.map intV) rfl (.there (.there .here)) rfl rfl rfl ?_ | refine gd1_ ?_ | refine hd_call rfl rfl (co _) ?_))
      try refine thn_norm ?_
      exact ⟨⟨rfl, rfl, rfl, rfl, trivial⟩, rfl⟩
    obtain rfl : b2 = false := by cases b2 with
      | false => rfl
      | true => exact absurd ⟨fun h => absurd k0 h, fun _ => ⟨by omega, hQ0⟩, fun _ => by omega, fun h => absurd h k2⟩ (hb2.1 rfl)
    (refine hc_draw (by kernel_rfl) (by kernel_rfl) ?_; repeat (first | refine hl_loadN (i := 9) (n := 6) (vs := l.mp.map intV) rfl (.there (.there .here)) rfl rfl rfl ?_ | refine gd1_ ?_ | refine hd_call rfl rfl (co _) ?_))
    try refine thn_norm ?_
    exact ⟨⟨rfl, rfl, rfl, rfl, trivial⟩, rfl⟩
  rintro fr M ⟨hf, rfl⟩
  obtain ⟨base, rfl⟩ := hf.out
  clear hf
  cases b2 with
  | true =>
    have hn := hb2.1 rfl
    repeat (first | refine go_ ?_ | refine bx_ (fun _ => ?_))
    refine fin1B rfl rfl (H2 := mb gm S1 :: R) ?_ ?_
    rotate_left
    · exact iM
    exact rt_no (fun q => hn ⟨q.1.q.p.n0, q.1.q.p.n2, q.1.g, q.1.q.p.k2⟩) S1
  | false =>
  have hD : LaD l k := Classical.byContradiction fun q => by cases hb2.2 q
  clear hb2
  iterate 9 (refine go1_ ?_)
  have hmv : Value.agg (l.mp.map intV).toArray = mapV l.mf := rfl
  have cb := fun H => back_fn (w0 := w0) (B := B) (H := H) l.mf hsm
  rw [← hmv] at cb
  obtain ⟨M2, hM2⟩ : ∃ M2, M2 = mpE g5 gm :: docE g4 w h n (.slice da dl dc) :: lyE g3 l (.slice pa l.P.length pc) (.slice ma l.M.length mc) (.slice qa l.Q.length qc) (.slice ka k.len kc) :: mb gm S1 :: R := ⟨_, rfl⟩
  have tl : Take M2 (lyE g3 l (.slice pa l.P.length pc) (.slice ma l.M.length mc) (.slice qa l.Q.length qc) (.slice ka k.len kc)) (mpE g5 gm :: docE g4 w h n (.slice da dl dc) :: mb gm S1 :: R) := by rw [hM2]; exact .there (.there .here)
  rw [← hM2] at iR iM
  refine HC.perm (H' := M2) ?_ (by rw [hM2])
  refine hc_meet (fun fr M => (l.k = 0 → (backR l.mf).2 = 0 ∧ SzQ l.w l.h ∧ (l.P.length : Int) = l.w * l.h ∧ ∀ v ∈ l.P, PixQ v) ∧ Imp M M2 ∧ Agr fr [(3, .pointer (some ⟨g3, 0, none⟩)), (4, .pointer (some ⟨g4, 0, none⟩)), (5, .pointer (some ⟨g5, 0, none⟩))]) ?_ ?_
  · by_cases k0 : l.k = 0
    rotate_left
    · rw [show decide (l.k = 0) = false from decide_eq_false k0]
      repeat (first | refine go_ ?_ | refine bx_ (fun _ => ?_))
      exact ⟨fun h => absurd h k0, Imp.refl _, rfl, rfl, rfl, trivial⟩
    rw [show decide (l.k = 0) = true from decide_eq_true k0]
    repeat (first | refine hl_load1 rfl tl rfl rfl ?_ | refine go1_ ?_ | refine bx_ (fun _ => ?_))
    refine hl_call rfl rfl (tnew_fn l.w l.h) (fun v M o => ?_)
    obtain ⟨x1, x2, x3, rfl, rfl⟩ := o
    by_cases hz : ¬ SzQ l.w l.h
    · rw [if_neg hz]
      repeat (first | refine hl_load1 rfl (.there tl) rfl rfl ?_ | refine go1_ ?_ | refine bx_ (fun _ => ?_))
      refine fin1B rfl rfl (H2 := mb gm S1 :: R) ?_ ?_
      rotate_left
      · exact Imp.drop iM
      exact rt_no (fun q => hz (q.1.q.p.k0 k0).2.1) S1
    replace hz : SzQ l.w l.h := Classical.not_not.1 hz
    rw [if_pos hz]
    have hp2 := prod_bd hz.1 hz.2.1 hz.2.2.1 hz.2.2.2.1
    by_cases hpl : (l.P.length : Int) ≠ l.w * l.h
    · repeat (first | refine hl_load1 rfl (.there tl) rfl rfl ?_ | refine go1_ ?_ | refine bx_ (fun _ => ?_))
      refine fin1B rfl rfl (H2 := mb gm S1 :: R) ?_ ?_
      rotate_left
      · exact Imp.drop iM
      exact rt_no (fun q => hpl (q.1.q.p.k0 k0).2.2.1) S1
    replace hpl : (l.P.length : Int) = l.w * l.h := Classical.not_not.1 hpl
    by_cases hbk : (backR l.mf).2 ≠ 0
    · repeat (first | refine hl_load1 rfl (.there tl) rfl rfl ?_ | refine hl_loadN (i := 9) (n := 6) (vs := l.mp.map intV) rfl (.there tl) rfl rfl rfl ?_ | refine go1_ ?_ | refine bx_ (fun _ => ?_) | refine hl_callv rfl rfl (cb _) ?_)
      refine fin1B rfl rfl (H2 := mb gm S1 :: R) ?_ ?_
      rotate_left
      · exact Imp.drop (Imp.drop iM)
      exact rt_no (fun q => hbk (q.1.q.p.k0 k0).1) S1
    replace hbk : (backR l.mf).2 = 0 := Classical.not_not.1 hbk
    rw [hbk] at cb
    repeat (first | refine hl_load1 rfl (.there tl) rfl rfl ?_ | refine hl_load1 rfl (.there (.there tl)) rfl rfl ?_ | refine hl_loadN (i := 9) (n := 6) (vs := l.mp.map intV) rfl (.there tl) rfl rfl rfl ?_ | refine go1_ ?_ | refine bx_ (fun _ => ?_) | refine hl_callv rfl rfl (cb _) ?_)
    obtain ⟨bp, hbp⟩ := bool_of (∀ x ∈ l.P, PixQ x)
    refine hl_call rfl rfl (pixAny_fn (c := pc) (nP.imp (Imp.drop (Imp.drop iR))) wP (by omega) bp hbp) (fun v M o => ?_)
    obtain ⟨rfl, rfl⟩ := o
    cases bp with
    | true =>
      repeat (first | refine go_ ?_ | refine bx_ (fun _ => ?_))
      exact ⟨fun _ => ⟨hbk, hz, hpl, hbp.1 rfl⟩, Imp.drop (Imp.drop (Imp.refl _)), rfl, rfl, rfl, trivial⟩
    | false =>
      repeat (first | refine go_ ?_ | refine bx_ (fun _ => ?_))
      refine fin1B rfl rfl (H2 := mb gm S1 :: R) ?_ ?_
      rotate_left
      · exact Imp.drop (Imp.drop iM)
      exact rt_no (fun q => by cases hbp.2 (q.1.q.p.k0 k0).2.2.2) S1
  clear base
  rintro fr M ⟨hk0, him, hf⟩
  obtain ⟨base, rfl⟩ := hf.out
  clear hf
  refine thn_norm ?_
  refine HC.imp ?_ him
  clear him M
  repeat (first | refine hl_load1 rfl tl rfl rfl ?_ | refine go1_ ?_ | refine bx_ (fun _ => ?_))
  refine hl_call rfl rfl (Tb.table_fn l.t (hpar.imp iR)) (fun v M o => ?_)
  obtain ⟨hT, gt, rfl, rfl⟩ | ⟨hT, rfl, rfl⟩ := o
  rotate_left
  · repeat (first | refine go_ ?_ | refine bx_ (fun _ => ?_))
    refine fin1B rfl rfl (H2 := mb gm S1 :: R) ?_ ?_
    rotate_left
    · exact iM
    exact rt_no (fun q => hT q.1.q.p.tb) S1
  refine HL.imp ?_ (Imp.drop (Imp.refl _))
  repeat (first | refine hl_load1 rfl tl rfl rfl ?_ | refine go1_ ?_ | refine bx_ (fun _ => ?_))
  refine hc_loopd (fun q fr M => ∃ j : Nat, j + q = l.M.length ∧ (∀ i, (h : i < l.M.length) → i < j → l.M[i].toNat = 0 ∨ l.M[i].toNat = 255) ∧ Imp M M2 ∧ Agr fr [(3, .pointer (some ⟨g3, 0, none⟩)), (4, .pointer (some ⟨g4, 0, none⟩)), (5, .pointer (some ⟨g5, 0, none⟩)), (195, .slice ma l.M.length mc), (196, .int .i64 (l.M.length : Int)), (197, .int .i64 (j : Int))]) l.M.length ?_ ?_
  · exact ⟨0, by omega, fun i h h2 => absurd h2 (by omega), Imp.refl _, rfl, rfl, rfl, rfl, rfl, rfl, trivial⟩
  clear base
  rintro q fr M ⟨j, hj, hall, him, hf⟩
  obtain ⟨base, rfl⟩ := hf.out
  clear hf
  refine HC.imp ?_ him
  clear him M
  by_cases hlt : j < l.M.length
  · obtain ⟨mbb, mo, rfl⟩ := nM.pos (by omega)
    have c1 := nM.cell hlt
    have h256 := l.M[j].toNat_lt
    have hmn : ∀ i, (h : i < l.M.length) → i < j + 1 → (l.M[j].toNat = 0 ∨ l.M[j].toNat = 255) → l.M[i].toNat = 0 ∨ l.M[i].toNat = 255 := fun i h h2 h3 => by
      by_cases e : i = j
      · subst e; exact h3
      · exact hall i h (by omega)
    have hbad : ¬ (l.M[j].toNat = 0 ∨ l.M[j].toNat = 255) → ¬ Fo.okL w h n l k S := fun hh q => hh (q.1.q.c _ (List.getElem_mem hlt))
    generalize l.M[j].toNat = z at *
    by_cases z0 : z = 0
    · repeat (first | refine hl_loadRd (j := j) rfl nM.rd iR c1 rfl ?_ | refine go1_ ?_ | refine bx_ (fun _ => ?_))
      exact ⟨q - 1, by omega, _, Imp.refl _, j + 1, by omega, fun i h h2 => hmn i h h2 (.inl z0), Imp.refl _, rfl, rfl, rfl, rfl, rfl, rfl, trivial⟩
    by_cases z1 : z = 255
    · repeat (first | refine hl_loadRd (j := j) rfl nM.rd iR c1 rfl ?_ | refine go1_ ?_ | refine bx_ (fun _ => ?_))
      exact ⟨q - 1, by omega, _, Imp.refl _, j + 1, by omega, fun i h h2 => hmn i h h2 (.inr z1), Imp.refl _, rfl, rfl, rfl, rfl, rfl, rfl, trivial⟩
    repeat (first | refine hl_loadRd (j := j) rfl nM.rd iR c1 rfl ?_ | refine go1_ ?_ | refine bx_ (fun _ => ?_))
    refine fin1B rfl rfl (H2 := mb gm S1 :: R) ?_ ?_
    rotate_left
    · exact iM
    exact rt_no (hbad (by omega)) S1
  obtain rfl : j = l.M.length := by omega
  have hMall : ∀ c ∈ l.M, c.toNat = 0 ∨ c.toNat = 255 := fun c hc => by
    obtain ⟨i, hi, rfl⟩ := List.getElem_of_mem hc
    exact hall i hi hi
  have hla : LaQ w h n l := ⟨hi, hkk, ho, hee, ⟨hD.n0, hD.n2, hD.k2, hk0, hT⟩, hm, hMall⟩
  have aa := fun S0 => lyAny_fn (S0 := S0) (hk.imp (Imp.drop (Imp.drop (Imp.drop (Imp.refl _)))) : FoR w0 B (docE g4 w h n (.slice da dl dc) :: mpE g5 gm :: lyE g3 l (.slice pa l.P.length pc) (.slice ma l.M.length mc) (.slice qa l.Q.length qc) (.slice ka k.len kc) :: R) (.slice ka k.len kc) k) (by omega) (ih g4 g5 (lyE g3 l (.slice pa l.P.length pc) (.slice ma l.M.length mc) (.slice qa l.Q.length qc) (.slice ka k.len kc) :: R) (Imp.drop (Imp.refl _)))
  repeat (first | refine hl_load1 rfl tl rfl rfl ?_ | refine go1_ ?_ | refine bx_ (fun _ => ?_))
  refine hl_makeFunc (caps := [.pointer (some ⟨g4, 0, none⟩), .pointer (some ⟨g5, 0, none⟩)]) rfl rfl ?_
  refine HL.perm (H' := mb gm S1 :: docE g4 w h n (.slice da dl dc) :: mpE g5 gm :: lyE g3 l (.slice pa l.P.length pc) (.slice ma l.M.length mc) (.slice qa l.Q.length qc) (.slice ka k.len kc) :: R) ?_ (by rw [hM2]; exact (List.perm_middle (a := mb gm S1) (l₁ := [mpE g5 gm, docE g4 w h n (.slice da dl dc), lyE g3 l (.slice pa l.P.length pc) (.slice ma l.M.length mc) (.slice qa l.Q.length qc) (.slice ka k.len kc)]) (l₂ := R)).trans (List.Perm.cons _ (List.Perm.swap _ _ _)))
  refine hl_call rfl rfl (aa S1) (fun v M o => ?_)
  obtain ⟨b, S', rfl, rfl, hb, hS⟩ := o
  have hfin : ∀ b' : Bool, b' = b → (b' = true ↔ Fo.okL w h n l k S) ∧ (b' = true → S' = Fo.nxL l k S) := fun b' e => by
    subst e
    exact ⟨⟨fun h => ⟨⟨hla, hbit, hD.g⟩, by rw [← hS1]; exact hb.1 h⟩, fun h => hb.2 (by rw [hS1]; exact h.2)⟩, fun h => by rw [hS h, hS1]; rfl⟩
  cases b with
  | true =>
    repeat (first | refine go_ ?_ | refine bx_ (fun _ => ?_))
    exact fin1B rfl rfl ⟨true, S', rfl, rfl, hfin true rfl⟩ (Imp.drop2 (Imp.drop2 (Imp.drop2 (Imp.refl _))))
  | false =>
    repeat (first | refine go_ ?_ | refine bx_ (fun _ => ?_))
    exact fin1B rfl rfl ⟨false, S', rfl, rfl, hfin false rfl⟩ (Imp.drop2 (Imp.drop2 (Imp.drop2 (Imp.refl _))))
end
end Go.Proofs.Ytoobhebbgbhahaa
namespace Go.Proofs.Ytoobhebbgbhahaa
open Go.RowKit
def Stt.zero : Stt := ⟨⟨0, 0, 0, .nil⟩, [], []⟩
abbrev Stt.all (S : Stt) : List Dc := S.D :: (S.A ++ S.B)
open Classical in
/-- What is read, and its first error. -/
noncomputable def getS (l : List UInt8) : Stt × Nat :=
  if (getSR l).2.endE ≠ 0 then (Stt.zero, (getSR l).2.endE) else if ∀ D ∈ (getSR l).1.all, RtQ D then ((getSR l).1, 0) else (Stt.zero, 22)
/-- What a reader needs to know of what is read. -/
def SmS (l : List UInt8) : Prop := (getSR l).2.endE = 0 → ∀ D ∈ (getSR l).1.all, D.F.dep ≤ 64 ∧ D.F.wf 1000000 ∧ D.F.cnt ≤ 1000000
section
variable {w0 : World} {B : Nat} {H R R0 : List Ent} {g : Nat}
set_option maxHeartbeats 16000000
set_option maxRecDepth 100000
def GsR (w0 : World) (B : Nat) (H : List Ent) (l : List UInt8) (v : Value) (H' : List Ent) : Prop :=
  ∃ lv av bv X, v = .tuple #[.agg (stC (getS l).1 lv av bv).toArray, .int .i64 ((getS l).2 : Int)] ∧ Imp H' (X ++ H) ∧ RstR w0 B (X ++ H) (getS l).1 lv av bv
theorem RstR.zero : RstR w0 B H Stt.zero (.slice none 0 0) (.slice none 0 0) (.slice none 0 0) :=
  ⟨⟨none, 0, [], rfl, CsR.nil, rfl⟩, ⟨none, 0, [], rfl, CsR.nil, rfl⟩, ⟨none, 0, [], rfl, CsR.nil, rfl⟩⟩
theorem ex_b (P : Prop) : ∃ b : Bool, b = true ↔ P := by
  by_cases h : P
  · exact ⟨true, fun _ => h, fun _ => rfl⟩
  · exact ⟨false, fun h => (by cases h), fun h' => absurd h' h⟩
theorem docsP_le : ∀ (k : Nat) (s : Rd), (Rd.docsP k s).1.length ≤ k
  | 0, _ => Nat.le_refl _
  | k + 1, s => by
    rw [Rd.docsP]
    split
    · simp
    · have := docsP_le k s.doc.2
      simp only [List.length_cons]; omega
theorem RdsC.at' : ∀ {L : List Dc} {C : List Value} {j : Nat}, RdsC w0 B H L C → (hj : j < L.length) → ∃ lv, (C.drop (j * 4)).take 4 = dcC L[j] lv ∧ RlR w0 B H lv (L[j].F.flat 0)
  | D :: L, _, 0, ⟨lv, C', e, h1, h4⟩, _ => by
    subst e
    exact ⟨lv, by simp, h1⟩
  | D :: L, _, j + 1, ⟨lv, C', e, h1, h4⟩, hj => by
    subst e
    obtain ⟨lv', h5, h6⟩ := RdsC.at' (j := j) h4 (by simpa using hj)
    refine ⟨lv', ?_, h6⟩
    rw [List.getElem_cons_succ, ← h5, List.drop_append, show (j + 1) * 4 - (dcC D lv).length = j * 4 by simp; omega, List.drop_of_length_le (by simp; omega)]
    rfl
theorem rgetState_fn {a : Option Addr} {n c : Nat} {l : List UInt8} (hb : BytR w0 B H a n c l) (hn : n ≤ 1000000000) (hsm : SmS l) :
    Fn Try.prog w0 B 23 [.slice a n c] H (GsR w0 B H l) := by
  have hbe := hb.eq
  have hSR : getSR l = getSR l := rfl
  conv at hSR => rhs; unfold getSR
  dsimp only at hSR
  refine fn_intro Try.func23 rfl (by kernel_rfl) rfl ?_
  repeat (first | refine go_ ?_ | refine bx_ (fun _ => ?_))
  rename_i g2 gi g5
  refine HL.perm (H' := RfB gi a n c 0 (Rd.mk l 0).e :: ⟨g5, 61, [.int .i64 0, .int .i64 0, .int .i64 0, .slice none 0 0, .slice none 0 0, .slice none 0 0], 6⟩ :: ⟨g2, 61, [.int .i64 0, .int .i64 0, .int .i64 0, .slice none 0 0, .slice none 0 0, .slice none 0 0], 6⟩ :: H) ?_ (List.Perm.swap _ _ _)
  refine hl_call rfl rfl (rrdoc_fn (s := ⟨l, 0⟩) hb (Imp.drop (Imp.drop (Imp.refl _))) (by simp) (by omega) hn) (fun v M o => ?_)
  obtain ⟨p1, XD, da, dn, dc, himD, hsD, hpD, rfl, hRD⟩ := o
  generalize (Rd.mk l 0).doc = sD at *
  refine HL.imp ?_ himD
  refine HL.perm ?_ (List.Perm.cons _ (app_swap XD [_, _] H))
  repeat (first | refine go_ ?_ | refine bx_ (fun _ => ?_))
  refine hl_storeN (i := 0) (n := 4) rfl rfl rfl (by simp [dcC, Value.oneCell']) (.there .here) (by simp) rfl ?_
  refine HL.perm (H' := RfB gi a n c p1 sD.2.e :: ⟨g5, 61, [.int .i64 sD.1.w, .int .i64 sD.1.h, .int .i64 sD.1.n, .slice da dn dc, .slice none 0 0, .slice none 0 0], 6⟩ :: ⟨g2, 61, [.int .i64 0, .int .i64 0, .int .i64 0, .slice none 0 0, .slice none 0 0, .slice none 0 0], 6⟩ :: (XD ++ H)) ?_ (List.Perm.swap _ _ _)
  have iXD : Imp (XD ++ H) H := Imp.tail XD H
  repeat (first | refine go_ ?_ | refine bx_ (fun _ => ?_))
  refine hl_call rfl rfl (rrsize_fn hb (Imp.drop (Imp.drop iXD)) hsD hpD) (fun v M hv => ?_)
  obtain ⟨pA, rfl, rfl, hsA, hpA⟩ := hv
  rw [Rd.docs] at hSR
  have hKA := sD.2.size_le.2
  have hlD := congrArg List.length hsD
  rw [List.length_drop] at hlD
  have hweA : sD.2.size.2.e = 0 → sD.2.e = 0 := fun h => (Rd.size_was h).1
  generalize sD.2.size = sK at *
  obtain ⟨GA, hGA⟩ : ∃ G, G = Rd.docsP sK.1 sK.2 := ⟨_, rfl⟩
  rw [← hGA] at hSR
  repeat (first | refine op_ ?_ | refine bx_ (fun _ => ?_))
  refine hc_seq ?_
  refine hc_seq ?_
  refine hc_region ?_
  repeat (first | refine op_ ?_ | refine bx_ (fun _ => ?_))
  refine hc_meet (fun fr M => ∃ (j p : Nat) (s : Rd) (L1 : List Dc) (sa : Option Addr) (sc : Nat) (C1 : List Value) (Xl Xs : List Ent), GA.2 = s ∧ (s.e = 0 → RdsC w0 B Xs L1 C1 ∧ L1.length = j ∧ L1 = GA.1) ∧ (∀ u ∈ C1, u.oneCell' = true) ∧ (∀ F, Own 58 4 (.slice sa j sc) j C1 F (Xl ++ F)) ∧ (s.l = l.drop p ∧ p ≤ n) ∧ Imp M (RfB gi a n c p s.e :: ⟨g5, 61, [.int .i64 sD.1.w, .int .i64 sD.1.h, .int .i64 sD.1.n, .slice da dn dc, .slice sa j sc, .slice none 0 0], 6⟩ :: ⟨g2, 61, [.int .i64 0, .int .i64 0, .int .i64 0, .slice none 0 0, .slice none 0 0, .slice none 0 0], 6⟩ :: (Xl ++ (Xs ++ (XD ++ H)))) ∧ Agr fr [(0, .slice a n c), (2, .pointer (some ⟨g2, 0, none⟩)), (4, .pointer (some ⟨gi, 0, none⟩)), (5, .pointer (some ⟨g5, 0, none⟩))]) ?_ ?_
  · repeat (first | refine go_ ?_ | refine bx_ (fun _ => ?_))
    refine hc_loopd (fun q fr M => ∃ (j p : Nat) (s : Rd) (L1 : List Dc) (sa : Option Addr) (sc : Nat) (C1 : List Value) (Xl Xs : List Ent), j + q = sK.1 ∧ (Rd.docsP q s).2 = GA.2 ∧ (s.e = 0 → RdsC w0 B Xs L1 C1 ∧ L1.length = j ∧ L1 ++ (Rd.docsP q s).1 = GA.1) ∧ (∀ u ∈ C1, u.oneCell' = true) ∧ (∀ F, Own 58 4 (.slice sa j sc) j C1 F (Xl ++ F)) ∧ (s.l = l.drop p ∧ p ≤ n) ∧ Imp M (RfB gi a n c p s.e :: ⟨g5, 61, [.int .i64 sD.1.w, .int .i64 sD.1.h, .int .i64 sD.1.n, .slice da dn dc, .slice sa j sc, .slice none 0 0], 6⟩ :: ⟨g2, 61, [.int .i64 0, .int .i64 0, .int .i64 0, .slice none 0 0, .slice none 0 0, .slice none 0 0], 6⟩ :: (Xl ++ (Xs ++ (XD ++ H)))) ∧ Agr fr [(0, .slice a n c), (2, .pointer (some ⟨g2, 0, none⟩)), (4, .pointer (some ⟨gi, 0, none⟩)), (5, .pointer (some ⟨g5, 0, none⟩)), (6, .int .i64 (sK.1 : Int)), (7, .int .i64 (j : Int))]) sK.1 ?_ ?_
    · exact ⟨0, pA, sK.2, [], none, 0, [], [], [], by omega, by rw [hGA], fun _ => ⟨rfl, rfl, by rw [hGA]; rfl⟩, by simp, fun F => Own.nil, ⟨hsA, hpA⟩, Imp.refl _, rfl, rfl, rfl, rfl, rfl, rfl, trivial⟩
    rintro q fr M ⟨j, p, s, L1, sa, sc, C1, Xl, Xs, hj, h2, h1, hone, ho, ⟨hs, hp⟩, him, hf⟩
    obtain ⟨base, rfl⟩ := hf.out
    clear hf
    refine HC.imp ?_ him
    clear him M
    have iTT : Imp (Xl ++ (Xs ++ (XD ++ H))) H := (Imp.tail Xl _).trans ((Imp.tail Xs _).trans iXD)
    by_cases hgo : q ≠ 0 ∧ s.e = 0
    · obtain ⟨hq, h0⟩ := hgo
      obtain ⟨q, rfl⟩ : ∃ q', q = q' + 1 := ⟨q - 1, by omega⟩
      rw [Rd.docsP, if_neg (by simp [h0])] at h2 h1
      dsimp only at h2 h1
      obtain ⟨f1, f2, f3⟩ := h1 h0
      clear h1
      have hln := s.doc_len
      have hsl := congrArg List.length hs
      rw [List.length_drop] at hsl
      repeat (first | refine go_ ?_ | refine bx_ (fun _ => ?_))
      refine hc_meet (fun fr M => ∃ (p2 : Nat) (sa' : Option Addr) (sc' : Nat) (C2 : List Value) (Z Xs' : List Ent), (s.doc.2.l = l.drop p2 ∧ p2 ≤ n) ∧ (s.doc.2.e = 0 → RdsC w0 B Xs' (L1 ++ [s.doc.1]) C2) ∧ (∀ u ∈ C2, u.oneCell' = true) ∧ (∀ F, Own 58 4 (.slice sa' (j + 1) sc') (j + 1) C2 F (Z ++ F)) ∧ Imp M (RfB gi a n c p2 s.doc.2.e :: ⟨g5, 61, [.int .i64 sD.1.w, .int .i64 sD.1.h, .int .i64 sD.1.n, .slice da dn dc, (.slice sa' (j + 1) sc'), .slice none 0 0], 6⟩ :: ⟨g2, 61, [.int .i64 0, .int .i64 0, .int .i64 0, .slice none 0 0, .slice none 0 0, .slice none 0 0], 6⟩ :: (Z ++ (Xs' ++ (XD ++ H)))) ∧ Agr fr [(0, .slice a n c), (2, .pointer (some ⟨g2, 0, none⟩)), (4, .pointer (some ⟨gi, 0, none⟩)), (5, .pointer (some ⟨g5, 0, none⟩)), (6, .int .i64 (sK.1 : Int)), (7, .int .i64 (j : Int))]) ?_ ?_
      · have cd := rrdoc_fn (g := gi) (s := s) (R := ⟨g5, 61, [.int .i64 sD.1.w, .int .i64 sD.1.h, .int .i64 sD.1.n, .slice da dn dc, .slice sa j sc, .slice none 0 0], 6⟩ :: ⟨g2, 61, [.int .i64 0, .int .i64 0, .int .i64 0, .slice none 0 0, .slice none 0 0, .slice none 0 0], 6⟩ :: (Xl ++ (Xs ++ (XD ++ H)))) hb (Imp.drop (Imp.drop iTT)) hs hp hn
        generalize s.doc = sN at *
        refine hc_drawA [] (by kernel_rfl) ?_
        refine ha_quiet [0, 2] (by rfl) (by kernel_rfl) ?_
        repeat (first | refine gd_ ?_)
        refine ha_fork2 1 3 (by rfl) (by kernel_rfl) (by rfl) (by rfl) (by first | exact Imp.refl _ | exact Imp.drop (Imp.refl _) | exact Imp.drop (Imp.drop (Imp.refl _)) | exact Imp.drop (Imp.drop (Imp.drop (Imp.refl _))) | exact Imp.drop (Imp.drop (Imp.drop (Imp.drop (Imp.refl _)))) | exact Imp.drop (Imp.drop (Imp.drop (Imp.drop (Imp.drop (Imp.refl _))))) | exact Imp.drop (Imp.drop (Imp.drop (Imp.drop (Imp.drop (Imp.drop (Imp.refl _)))))) | exact Imp.drop (Imp.drop (Imp.drop (Imp.drop (Imp.drop (Imp.drop (Imp.drop (Imp.refl _))))))) | exact Imp.drop (Imp.drop (Imp.drop (Imp.drop (Imp.drop (Imp.drop (Imp.drop (Imp.drop (Imp.refl _)))))))) | assumption | exact Imp.drop (by assumption) | exact Imp.drop (Imp.drop (by assumption)) | exact imp_nil _ | exact Imp.drop2 (Imp.refl _) | exact Imp.drop2 (Imp.drop2 (Imp.refl _)) | exact Imp.drop (Imp.drop2 (Imp.refl _))) ?_ ?_
        · skip
          repeat (first | refine op_ ?_ | refine bx_ (fun _ => ?_))
          refine ha_fork1 3 (by rfl) (by kernel_rfl) (by rfl) (by first | exact Imp.refl _ | exact Imp.drop (Imp.refl _) | exact Imp.drop (Imp.drop (Imp.refl _)) | exact Imp.drop (Imp.drop (Imp.drop (Imp.refl _))) | exact Imp.drop (Imp.drop (Imp.drop (Imp.drop (Imp.refl _)))) | exact Imp.drop (Imp.drop (Imp.drop (Imp.drop (Imp.drop (Imp.refl _))))) | exact Imp.drop (Imp.drop (Imp.drop (Imp.drop (Imp.drop (Imp.drop (Imp.refl _)))))) | exact Imp.drop (Imp.drop (Imp.drop (Imp.drop (Imp.drop (Imp.drop (Imp.drop (Imp.refl _))))))) | exact Imp.drop (Imp.drop (Imp.drop (Imp.drop (Imp.drop (Imp.drop (Imp.drop (Imp.drop (Imp.refl _)))))))) | assumption | exact Imp.drop (by assumption) | exact Imp.drop (Imp.drop (by assumption)) | exact imp_nil _ | exact Imp.drop2 (Imp.refl _) | exact Imp.drop2 (Imp.drop2 (Imp.refl _)) | exact Imp.drop (Imp.drop2 (Imp.refl _))) ?_
          · skip
            refine hl_call rfl rfl cd (fun v M o => ?_)
            obtain ⟨p2, X2, ra, rm, rc, him2, hs2, hp2, rfl, hR2⟩ := o
            refine HL.imp ?_ him2
            refine HL.perm ?_ (List.Perm.cons _ (app_swap X2 [_, _] _))
            repeat (first | refine op_ ?_ | refine bx_ (fun _ => ?_))
            refine ha_fork1 4 (by rfl) (by kernel_rfl) (by rfl) (by first | exact Imp.refl _ | exact Imp.drop (Imp.refl _) | exact Imp.drop (Imp.drop (Imp.refl _)) | exact Imp.drop (Imp.drop (Imp.drop (Imp.refl _))) | exact Imp.drop (Imp.drop (Imp.drop (Imp.drop (Imp.refl _)))) | exact Imp.drop (Imp.drop (Imp.drop (Imp.drop (Imp.drop (Imp.refl _))))) | exact Imp.drop (Imp.drop (Imp.drop (Imp.drop (Imp.drop (Imp.drop (Imp.refl _)))))) | exact Imp.drop (Imp.drop (Imp.drop (Imp.drop (Imp.drop (Imp.drop (Imp.drop (Imp.refl _))))))) | exact Imp.drop (Imp.drop (Imp.drop (Imp.drop (Imp.drop (Imp.drop (Imp.drop (Imp.drop (Imp.refl _)))))))) | assumption | exact Imp.drop (by assumption) | exact Imp.drop (Imp.drop (by assumption)) | exact imp_nil _ | exact Imp.drop2 (Imp.refl _) | exact Imp.drop2 (Imp.drop2 (Imp.refl _)) | exact Imp.drop (Imp.drop2 (Imp.refl _))) ?_
            · skip
              refine bx_ (fun gb => ?_)
              repeat (first | refine op_ ?_ | refine bx_ (fun _ => ?_))
              refine ha_fork1 5 (by rfl) (by kernel_rfl) (by rfl) (by first | exact Imp.refl _ | exact Imp.drop (Imp.refl _) | exact Imp.drop (Imp.drop (Imp.refl _)) | exact Imp.drop (Imp.drop (Imp.drop (Imp.refl _))) | exact Imp.drop (Imp.drop (Imp.drop (Imp.drop (Imp.refl _)))) | exact Imp.drop (Imp.drop (Imp.drop (Imp.drop (Imp.drop (Imp.refl _))))) | exact Imp.drop (Imp.drop (Imp.drop (Imp.drop (Imp.drop (Imp.drop (Imp.refl _)))))) | exact Imp.drop (Imp.drop (Imp.drop (Imp.drop (Imp.drop (Imp.drop (Imp.drop (Imp.refl _))))))) | exact Imp.drop (Imp.drop (Imp.drop (Imp.drop (Imp.drop (Imp.drop (Imp.drop (Imp.drop (Imp.refl _)))))))) | assumption | exact Imp.drop (by assumption) | exact Imp.drop (Imp.drop (by assumption)) | exact imp_nil _ | exact Imp.drop2 (Imp.refl _) | exact Imp.drop2 (Imp.drop2 (Imp.refl _)) | exact Imp.drop (Imp.drop2 (Imp.refl _))) ?_
              · skip
                have hq1 : ∀ x y z t : Ent, (x :: y :: z :: t :: (X2 ++ (Xl ++ (Xs ++ (XD ++ H))))).Perm (Xl ++ (x :: y :: z :: t :: (X2 ++ (Xs ++ (XD ++ H))))) := fun x y z t => by simpa only [List.append_assoc, List.cons_append, List.nil_append] using app_swap ([x, y, z, t] ++ X2) Xl (Xs ++ (XD ++ H))
                have hq2 : ∀ (Z : List Ent) (x y z t : Ent), (Z ++ (x :: y :: z :: t :: (X2 ++ (Xs ++ (XD ++ H))))).Perm (x :: y :: z :: t :: (Z ++ ((X2 ++ Xs) ++ (XD ++ H)))) := fun Z x y z t => by simpa only [List.append_assoc, List.cons_append, List.nil_append] using app_swap Z [x, y, z, t] (X2 ++ (Xs ++ (XD ++ H)))
                refine HL.perm ?_ (hq1 _ _ _ _)
                refine hl_append_own (e := 58) (sz := 4) rfl rfl (ho _) (Rds.ent (i := 0) (n := 4) (l := dcC sN.1 (.slice ra rm rc)) (Take.app Xl .here) rfl (by simp [dcC, Value.oneCell'])) rfl rfl (by decide) (by omega) (by omega) rfl (fun v5 M5 o5 => ?_)
                obtain ⟨a5', c5', rfl, _, _⟩ := o5.form
                obtain ⟨Z, hZ, hoZ⟩ := o5.permE
                refine HL.perm ?_ (hZ.trans (hq2 Z _ _ _ _))
                have hone2 : ∀ u ∈ C1 ++ dcC sN.1 (.slice ra rm rc), u.oneCell' = true := fun u hu => by
                  rcases List.mem_append.1 hu with hu | hu
                  · exact hone u hu
                  · simp only [dcC, List.mem_cons, List.not_mem_nil, or_false] at hu
                    rcases hu with rfl | rfl | rfl | rfl <;> rfl
                repeat (first | refine op_ ?_ | refine bx_ (fun _ => ?_))
                refine ha_quiet [6] (by rfl) (by kernel_rfl) ?_
                repeat (first | refine gd_ ?_)
                refine ha_fork1 7 (by rfl) (by kernel_rfl) (by rfl) (by first | exact Imp.refl _ | exact Imp.drop (Imp.refl _) | exact Imp.drop (Imp.drop (Imp.refl _)) | exact Imp.drop (Imp.drop (Imp.drop (Imp.refl _))) | exact Imp.drop (Imp.drop (Imp.drop (Imp.drop (Imp.refl _)))) | exact Imp.drop (Imp.drop (Imp.drop (Imp.drop (Imp.drop (Imp.refl _))))) | exact Imp.drop (Imp.drop (Imp.drop (Imp.drop (Imp.drop (Imp.drop (Imp.refl _)))))) | exact Imp.drop (Imp.drop (Imp.drop (Imp.drop (Imp.drop (Imp.drop (Imp.drop (Imp.refl _))))))) | exact Imp.drop (Imp.drop (Imp.drop (Imp.drop (Imp.drop (Imp.drop (Imp.drop (Imp.drop (Imp.refl _)))))))) | assumption | exact Imp.drop (by assumption) | exact Imp.drop (Imp.drop (by assumption)) | exact imp_nil _ | exact Imp.drop2 (Imp.refl _) | exact Imp.drop2 (Imp.drop2 (Imp.refl _)) | exact Imp.drop (Imp.drop2 (Imp.refl _))) ?_
                · skip
                  repeat (first | refine op_ ?_ | refine bx_ (fun _ => ?_))
                  refine ha_end (by rfl) (by kernel_rfl) (by first | exact Imp.refl _ | exact Imp.drop (Imp.refl _) | exact Imp.drop (Imp.drop (Imp.refl _)) | exact Imp.drop (Imp.drop (Imp.drop (Imp.refl _))) | exact Imp.drop (Imp.drop (Imp.drop (Imp.drop (Imp.refl _)))) | exact Imp.drop (Imp.drop (Imp.drop (Imp.drop (Imp.drop (Imp.refl _))))) | exact Imp.drop (Imp.drop (Imp.drop (Imp.drop (Imp.drop (Imp.drop (Imp.refl _)))))) | exact Imp.drop (Imp.drop (Imp.drop (Imp.drop (Imp.drop (Imp.drop (Imp.drop (Imp.refl _))))))) | exact Imp.drop (Imp.drop (Imp.drop (Imp.drop (Imp.drop (Imp.drop (Imp.drop (Imp.drop (Imp.refl _)))))))) | assumption | exact Imp.drop (by assumption) | exact Imp.drop (Imp.drop (by assumption)) | exact imp_nil _ | exact Imp.drop2 (Imp.refl _) | exact Imp.drop2 (Imp.drop2 (Imp.refl _)) | exact Imp.drop (Imp.drop2 (Imp.refl _))) ?_
                  exact ⟨p2, a5', c5', _, Z, X2 ++ Xs, ⟨hs2, hp2⟩, fun he => RdsC.append (f1.imp (Imp.tail X2 Xs)) ⟨.slice ra rm rc, [], rfl, (hR2 he).imp (Imp.sub (List.sublist_append_left _ _)), rfl⟩, hone2, hoZ, Imp.drop2 (Imp.perm (List.Perm.swap _ _ _) (Imp.refl _)), rfl, rfl, rfl, rfl, rfl, rfl, trivial⟩
        · skip
          refine hl_call rfl rfl cd (fun v M o => ?_)
          obtain ⟨p2, X2, ra, rm, rc, him2, hs2, hp2, rfl, hR2⟩ := o
          refine HL.imp ?_ him2
          refine HL.perm ?_ (List.Perm.cons _ (app_swap X2 [_, _] _))
          repeat (first | refine op_ ?_ | refine bx_ (fun _ => ?_))
          refine ha_fork2 1 4 (by rfl) (by kernel_rfl) (by rfl) (by rfl) (by first | exact Imp.refl _ | exact Imp.drop (Imp.refl _) | exact Imp.drop (Imp.drop (Imp.refl _)) | exact Imp.drop (Imp.drop (Imp.drop (Imp.refl _))) | exact Imp.drop (Imp.drop (Imp.drop (Imp.drop (Imp.refl _)))) | exact Imp.drop (Imp.drop (Imp.drop (Imp.drop (Imp.drop (Imp.refl _))))) | exact Imp.drop (Imp.drop (Imp.drop (Imp.drop (Imp.drop (Imp.drop (Imp.refl _)))))) | exact Imp.drop (Imp.drop (Imp.drop (Imp.drop (Imp.drop (Imp.drop (Imp.drop (Imp.refl _))))))) | exact Imp.drop (Imp.drop (Imp.drop (Imp.drop (Imp.drop (Imp.drop (Imp.drop (Imp.drop (Imp.refl _)))))))) | assumption | exact Imp.drop (by assumption) | exact Imp.drop (Imp.drop (by assumption)) | exact imp_nil _ | exact Imp.drop2 (Imp.refl _) | exact Imp.drop2 (Imp.drop2 (Imp.refl _)) | exact Imp.drop (Imp.drop2 (Imp.refl _))) ?_ ?_
          · skip
            repeat (first | refine op_ ?_ | refine bx_ (fun _ => ?_))
            refine ha_fork1 4 (by rfl) (by kernel_rfl) (by rfl) (by first | exact Imp.refl _ | exact Imp.drop (Imp.refl _) | exact Imp.drop (Imp.drop (Imp.refl _)) | exact Imp.drop (Imp.drop (Imp.drop (Imp.refl _))) | exact Imp.drop (Imp.drop (Imp.drop (Imp.drop (Imp.refl _)))) | exact Imp.drop (Imp.drop (Imp.drop (Imp.drop (Imp.drop (Imp.refl _))))) | exact Imp.drop (Imp.drop (Imp.drop (Imp.drop (Imp.drop (Imp.drop (Imp.refl _)))))) | exact Imp.drop (Imp.drop (Imp.drop (Imp.drop (Imp.drop (Imp.drop (Imp.drop (Imp.refl _))))))) | exact Imp.drop (Imp.drop (Imp.drop (Imp.drop (Imp.drop (Imp.drop (Imp.drop (Imp.drop (Imp.refl _)))))))) | assumption | exact Imp.drop (by assumption) | exact Imp.drop (Imp.drop (by assumption)) | exact imp_nil _ | exact Imp.drop2 (Imp.refl _) | exact Imp.drop2 (Imp.drop2 (Imp.refl _)) | exact Imp.drop (Imp.drop2 (Imp.refl _))) ?_
            · skip
              refine bx_ (fun gb => ?_)
              repeat (first | refine op_ ?_ | refine bx_ (fun _ => ?_))
              refine ha_fork1 5 (by rfl) (by kernel_rfl) (by rfl) (by first | exact Imp.refl _ | exact Imp.drop (Imp.refl _) | exact Imp.drop (Imp.drop (Imp.refl _)) | exact Imp.drop (Imp.drop (Imp.drop (Imp.refl _))) | exact Imp.drop (Imp.drop (Imp.drop (Imp.drop (Imp.refl _)))) | exact Imp.drop (Imp.drop (Imp.drop (Imp.drop (Imp.drop (Imp.refl _))))) | exact Imp.drop (Imp.drop (Imp.drop (Imp.drop (Imp.drop (Imp.drop (Imp.refl _)))))) | exact Imp.drop (Imp.drop (Imp.drop (Imp.drop (Imp.drop (Imp.drop (Imp.drop (Imp.refl _))))))) | exact Imp.drop (Imp.drop (Imp.drop (Imp.drop (Imp.drop (Imp.drop (Imp.drop (Imp.drop (Imp.refl _)))))))) | assumption | exact Imp.drop (by assumption) | exact Imp.drop (Imp.drop (by assumption)) | exact imp_nil _ | exact Imp.drop2 (Imp.refl _) | exact Imp.drop2 (Imp.drop2 (Imp.refl _)) | exact Imp.drop (Imp.drop2 (Imp.refl _))) ?_
              · skip
                have hq1 : ∀ x y z t : Ent, (x :: y :: z :: t :: (X2 ++ (Xl ++ (Xs ++ (XD ++ H))))).Perm (Xl ++ (x :: y :: z :: t :: (X2 ++ (Xs ++ (XD ++ H))))) := fun x y z t => by simpa only [List.append_assoc, List.cons_append, List.nil_append] using app_swap ([x, y, z, t] ++ X2) Xl (Xs ++ (XD ++ H))
                have hq2 : ∀ (Z : List Ent) (x y z t : Ent), (Z ++ (x :: y :: z :: t :: (X2 ++ (Xs ++ (XD ++ H))))).Perm (x :: y :: z :: t :: (Z ++ ((X2 ++ Xs) ++ (XD ++ H)))) := fun Z x y z t => by simpa only [List.append_assoc, List.cons_append, List.nil_append] using app_swap Z [x, y, z, t] (X2 ++ (Xs ++ (XD ++ H)))
                refine HL.perm ?_ (hq1 _ _ _ _)
                refine hl_append_own (e := 58) (sz := 4) rfl rfl (ho _) (Rds.ent (i := 0) (n := 4) (l := dcC sN.1 (.slice ra rm rc)) (Take.app Xl .here) rfl (by simp [dcC, Value.oneCell'])) rfl rfl (by decide) (by omega) (by omega) rfl (fun v5 M5 o5 => ?_)
                obtain ⟨a5', c5', rfl, _, _⟩ := o5.form
                obtain ⟨Z, hZ, hoZ⟩ := o5.permE
                refine HL.perm ?_ (hZ.trans (hq2 Z _ _ _ _))
                have hone2 : ∀ u ∈ C1 ++ dcC sN.1 (.slice ra rm rc), u.oneCell' = true := fun u hu => by
                  rcases List.mem_append.1 hu with hu | hu
                  · exact hone u hu
                  · simp only [dcC, List.mem_cons, List.not_mem_nil, or_false] at hu
                    rcases hu with rfl | rfl | rfl | rfl <;> rfl
                repeat (first | refine op_ ?_ | refine bx_ (fun _ => ?_))
                refine ha_quiet [6] (by rfl) (by kernel_rfl) ?_
                repeat (first | refine gd_ ?_)
                refine ha_fork1 7 (by rfl) (by kernel_rfl) (by rfl) (by first | exact Imp.refl _ | exact Imp.drop (Imp.refl _) | exact Imp.drop (Imp.drop (Imp.refl _)) | exact Imp.drop (Imp.drop (Imp.drop (Imp.refl _))) | exact Imp.drop (Imp.drop (Imp.drop (Imp.drop (Imp.refl _)))) | exact Imp.drop (Imp.drop (Imp.drop (Imp.drop (Imp.drop (Imp.refl _))))) | exact Imp.drop (Imp.drop (Imp.drop (Imp.drop (Imp.drop (Imp.drop (Imp.refl _)))))) | exact Imp.drop (Imp.drop (Imp.drop (Imp.drop (Imp.drop (Imp.drop (Imp.drop (Imp.refl _))))))) | exact Imp.drop (Imp.drop (Imp.drop (Imp.drop (Imp.drop (Imp.drop (Imp.drop (Imp.drop (Imp.refl _)))))))) | assumption | exact Imp.drop (by assumption) | exact Imp.drop (Imp.drop (by assumption)) | exact imp_nil _ | exact Imp.drop2 (Imp.refl _) | exact Imp.drop2 (Imp.drop2 (Imp.refl _)) | exact Imp.drop (Imp.drop2 (Imp.refl _))) ?_
                · skip
                  repeat (first | refine op_ ?_ | refine bx_ (fun _ => ?_))
                  refine ha_end (by rfl) (by kernel_rfl) (by first | exact Imp.refl _ | exact Imp.drop (Imp.refl _) | exact Imp.drop (Imp.drop (Imp.refl _)) | exact Imp.drop (Imp.drop (Imp.drop (Imp.refl _))) | exact Imp.drop (Imp.drop (Imp.drop (Imp.drop (Imp.refl _)))) | exact Imp.drop (Imp.drop (Imp.drop (Imp.drop (Imp.drop (Imp.refl _))))) | exact Imp.drop (Imp.drop (Imp.drop (Imp.drop (Imp.drop (Imp.drop (Imp.refl _)))))) | exact Imp.drop (Imp.drop (Imp.drop (Imp.drop (Imp.drop (Imp.drop (Imp.drop (Imp.refl _))))))) | exact Imp.drop (Imp.drop (Imp.drop (Imp.drop (Imp.drop (Imp.drop (Imp.drop (Imp.drop (Imp.refl _)))))))) | assumption | exact Imp.drop (by assumption) | exact Imp.drop (Imp.drop (by assumption)) | exact imp_nil _ | exact Imp.drop2 (Imp.refl _) | exact Imp.drop2 (Imp.drop2 (Imp.refl _)) | exact Imp.drop (Imp.drop2 (Imp.refl _))) ?_
                  exact ⟨p2, a5', c5', _, Z, X2 ++ Xs, ⟨hs2, hp2⟩, fun he => RdsC.append (f1.imp (Imp.tail X2 Xs)) ⟨.slice ra rm rc, [], rfl, (hR2 he).imp (Imp.sub (List.sublist_append_left _ _)), rfl⟩, hone2, hoZ, Imp.drop2 (Imp.perm (List.Perm.swap _ _ _) (Imp.refl _)), rfl, rfl, rfl, rfl, rfl, rfl, trivial⟩
          · skip
            refine bx_ (fun gb => ?_)
            repeat (first | refine op_ ?_ | refine bx_ (fun _ => ?_))
            refine ha_fork1 1 (by rfl) (by kernel_rfl) (by rfl) (by first | exact Imp.refl _ | exact Imp.drop (Imp.refl _) | exact Imp.drop (Imp.drop (Imp.refl _)) | exact Imp.drop (Imp.drop (Imp.drop (Imp.refl _))) | exact Imp.drop (Imp.drop (Imp.drop (Imp.drop (Imp.refl _)))) | exact Imp.drop (Imp.drop (Imp.drop (Imp.drop (Imp.drop (Imp.refl _))))) | exact Imp.drop (Imp.drop (Imp.drop (Imp.drop (Imp.drop (Imp.drop (Imp.refl _)))))) | exact Imp.drop (Imp.drop (Imp.drop (Imp.drop (Imp.drop (Imp.drop (Imp.drop (Imp.refl _))))))) | exact Imp.drop (Imp.drop (Imp.drop (Imp.drop (Imp.drop (Imp.drop (Imp.drop (Imp.drop (Imp.refl _)))))))) | assumption | exact Imp.drop (by assumption) | exact Imp.drop (Imp.drop (by assumption)) | exact imp_nil _ | exact Imp.drop2 (Imp.refl _) | exact Imp.drop2 (Imp.drop2 (Imp.refl _)) | exact Imp.drop (Imp.drop2 (Imp.refl _))) ?_
            · skip
              repeat (first | refine op_ ?_ | refine bx_ (fun _ => ?_))
              refine ha_fork1 5 (by rfl) (by kernel_rfl) (by rfl) (by first | exact Imp.refl _ | exact Imp.drop (Imp.refl _) | exact Imp.drop (Imp.drop (Imp.refl _)) | exact Imp.drop (Imp.drop (Imp.drop (Imp.refl _))) | exact Imp.drop (Imp.drop (Imp.drop (Imp.drop (Imp.refl _)))) | exact Imp.drop (Imp.drop (Imp.drop (Imp.drop (Imp.drop (Imp.refl _))))) | exact Imp.drop (Imp.drop (Imp.drop (Imp.drop (Imp.drop (Imp.drop (Imp.refl _)))))) | exact Imp.drop (Imp.drop (Imp.drop (Imp.drop (Imp.drop (Imp.drop (Imp.drop (Imp.refl _))))))) | exact Imp.drop (Imp.drop (Imp.drop (Imp.drop (Imp.drop (Imp.drop (Imp.drop (Imp.drop (Imp.refl _)))))))) | assumption | exact Imp.drop (by assumption) | exact Imp.drop (Imp.drop (by assumption)) | exact imp_nil _ | exact Imp.drop2 (Imp.refl _) | exact Imp.drop2 (Imp.drop2 (Imp.refl _)) | exact Imp.drop (Imp.drop2 (Imp.refl _))) ?_
              · skip
                have hq1 : ∀ x y z t : Ent, (x :: y :: z :: t :: (X2 ++ (Xl ++ (Xs ++ (XD ++ H))))).Perm (Xl ++ (x :: y :: z :: t :: (X2 ++ (Xs ++ (XD ++ H))))) := fun x y z t => by simpa only [List.append_assoc, List.cons_append, List.nil_append] using app_swap ([x, y, z, t] ++ X2) Xl (Xs ++ (XD ++ H))
                have hq2 : ∀ (Z : List Ent) (x y z t : Ent), (Z ++ (x :: y :: z :: t :: (X2 ++ (Xs ++ (XD ++ H))))).Perm (x :: y :: z :: t :: (Z ++ ((X2 ++ Xs) ++ (XD ++ H)))) := fun Z x y z t => by simpa only [List.append_assoc, List.cons_append, List.nil_append] using app_swap Z [x, y, z, t] (X2 ++ (Xs ++ (XD ++ H)))
                refine HL.perm ?_ (hq1 _ _ _ _)
                refine hl_append_own (e := 58) (sz := 4) rfl rfl (ho _) (Rds.ent (i := 0) (n := 4) (l := dcC sN.1 (.slice ra rm rc)) (Take.app Xl .here) rfl (by simp [dcC, Value.oneCell'])) rfl rfl (by decide) (by omega) (by omega) rfl (fun v5 M5 o5 => ?_)
                obtain ⟨a5', c5', rfl, _, _⟩ := o5.form
                obtain ⟨Z, hZ, hoZ⟩ := o5.permE
                refine HL.perm ?_ (hZ.trans (hq2 Z _ _ _ _))
                have hone2 : ∀ u ∈ C1 ++ dcC sN.1 (.slice ra rm rc), u.oneCell' = true := fun u hu => by
                  rcases List.mem_append.1 hu with hu | hu
                  · exact hone u hu
                  · simp only [dcC, List.mem_cons, List.not_mem_nil, or_false] at hu
                    rcases hu with rfl | rfl | rfl | rfl <;> rfl
                repeat (first | refine op_ ?_ | refine bx_ (fun _ => ?_))
                refine ha_quiet [6] (by rfl) (by kernel_rfl) ?_
                repeat (first | refine gd_ ?_)
                refine ha_fork1 7 (by rfl) (by kernel_rfl) (by rfl) (by first | exact Imp.refl _ | exact Imp.drop (Imp.refl _) | exact Imp.drop (Imp.drop (Imp.refl _)) | exact Imp.drop (Imp.drop (Imp.drop (Imp.refl _))) | exact Imp.drop (Imp.drop (Imp.drop (Imp.drop (Imp.refl _)))) | exact Imp.drop (Imp.drop (Imp.drop (Imp.drop (Imp.drop (Imp.refl _))))) | exact Imp.drop (Imp.drop (Imp.drop (Imp.drop (Imp.drop (Imp.drop (Imp.refl _)))))) | exact Imp.drop (Imp.drop (Imp.drop (Imp.drop (Imp.drop (Imp.drop (Imp.drop (Imp.refl _))))))) | exact Imp.drop (Imp.drop (Imp.drop (Imp.drop (Imp.drop (Imp.drop (Imp.drop (Imp.drop (Imp.refl _)))))))) | assumption | exact Imp.drop (by assumption) | exact Imp.drop (Imp.drop (by assumption)) | exact imp_nil _ | exact Imp.drop2 (Imp.refl _) | exact Imp.drop2 (Imp.drop2 (Imp.refl _)) | exact Imp.drop (Imp.drop2 (Imp.refl _))) ?_
                · skip
                  repeat (first | refine op_ ?_ | refine bx_ (fun _ => ?_))
                  refine ha_end (by rfl) (by kernel_rfl) (by first | exact Imp.refl _ | exact Imp.drop (Imp.refl _) | exact Imp.drop (Imp.drop (Imp.refl _)) | exact Imp.drop (Imp.drop (Imp.drop (Imp.refl _))) | exact Imp.drop (Imp.drop (Imp.drop (Imp.drop (Imp.refl _)))) | exact Imp.drop (Imp.drop (Imp.drop (Imp.drop (Imp.drop (Imp.refl _))))) | exact Imp.drop (Imp.drop (Imp.drop (Imp.drop (Imp.drop (Imp.drop (Imp.refl _)))))) | exact Imp.drop (Imp.drop (Imp.drop (Imp.drop (Imp.drop (Imp.drop (Imp.drop (Imp.refl _))))))) | exact Imp.drop (Imp.drop (Imp.drop (Imp.drop (Imp.drop (Imp.drop (Imp.drop (Imp.drop (Imp.refl _)))))))) | assumption | exact Imp.drop (by assumption) | exact Imp.drop (Imp.drop (by assumption)) | exact imp_nil _ | exact Imp.drop2 (Imp.refl _) | exact Imp.drop2 (Imp.drop2 (Imp.refl _)) | exact Imp.drop (Imp.drop2 (Imp.refl _))) ?_
                  exact ⟨p2, a5', c5', _, Z, X2 ++ Xs, ⟨hs2, hp2⟩, fun he => RdsC.append (f1.imp (Imp.tail X2 Xs)) ⟨.slice ra rm rc, [], rfl, (hR2 he).imp (Imp.sub (List.sublist_append_left _ _)), rfl⟩, hone2, hoZ, Imp.drop2 (Imp.perm (List.Perm.swap _ _ _) (Imp.refl _)), rfl, rfl, rfl, rfl, rfl, rfl, trivial⟩
      rintro fr M ⟨p2, sa', sc', C2, Z, Xs', ⟨hs2, hp2⟩, hR2, hone2, hoZ, him2, hf⟩
      obtain ⟨base, rfl⟩ := hf.out
      clear hf
      refine HC.imp ?_ him2
      repeat (first | refine go_ ?_ | refine bx_ (fun _ => ?_))
      exact ⟨q, by omega, _, Imp.refl _, j + 1, p2, s.doc.2, L1 ++ [s.doc.1], sa', sc', C2, Z, Xs', by omega, h2, fun he => ⟨hR2 he, by simp [f2], by rw [List.append_assoc]; exact f3⟩, hone2, hoZ, ⟨hs2, hp2⟩, Imp.refl _, rfl, rfl, rfl, rfl, rfl, rfl, trivial⟩
    have hend : Rd.docsP q s = ([], s) := by
      cases q with
      | zero => rfl
      | succ q => rw [Rd.docsP, if_pos (fun h => hgo ⟨by omega, h⟩)]
    rw [hend] at h2 h1
    dsimp only at h2 h1
    rw [List.append_nil] at h1
    by_cases hq0 : q = 0
    · repeat (first | refine go_ ?_ | refine bx_ (fun _ => ?_))
      exact ⟨j, p, s, L1, sa, sc, C1, Xl, Xs, h2.symm, h1, hone, ho, ⟨hs, hp⟩, Imp.refl _, rfl, rfl, rfl, rfl, trivial⟩
    · have h0 : ¬ s.e = 0 := fun h => hgo ⟨hq0, h⟩
      repeat (first | refine go_ ?_ | refine bx_ (fun _ => ?_))
      exact ⟨j, p, s, L1, sa, sc, C1, Xl, Xs, h2.symm, h1, hone, ho, ⟨hs, hp⟩, Imp.refl _, rfl, rfl, rfl, rfl, trivial⟩
  rintro fr M ⟨jA, pB, sB, LA, sa0, sc0, CA, XA, XAs, hGA2, hA1, honeA, hoA, ⟨hsB, hpB⟩, him, hf⟩
  obtain ⟨base, rfl⟩ := hf.out
  clear hf
  refine HC.imp ?_ him
  clear him M
  obtain ⟨T2, hT2⟩ : ∃ T2, T2 = XA ++ (XAs ++ (XD ++ H)) := ⟨_, rfl⟩
  have iT2 : Imp T2 H := by rw [hT2]; exact (Imp.tail XA _).trans ((Imp.tail XAs _).trans iXD)
  rw [← hT2]
  have hweB : sB.e = 0 → sK.2.e = 0 := fun h => by
    have h' : (Rd.docsP sK.1 sK.2).2.e = 0 := by rw [← hGA, hGA2]; exact h
    by_cases hk : sK.1 = 0
    · rw [hk] at h'; exact h'
    · obtain ⟨k', hk'⟩ : ∃ k', sK.1 = k' + 1 := ⟨sK.1 - 1, by omega⟩
      rw [hk', Rd.docsP] at h'
      by_cases h0 : sK.2.e ≠ 0
      · rw [if_pos h0] at h'; exact absurd h' h0
      · exact Classical.not_not.1 h0
  repeat (first | refine go_ ?_ | refine bx_ (fun _ => ?_))
  refine hl_call rfl rfl (rrsize_fn hb (Imp.drop (Imp.drop iT2)) hsB hpB) (fun v M hv => ?_)
  obtain ⟨pC, rfl, rfl, hsC, hpC⟩ := hv
  rw [hGA2, Rd.docs] at hSR
  have hKC := sB.size_le.2
  have hlB := congrArg List.length hsB
  rw [List.length_drop] at hlB
  have hweC : sB.size.2.e = 0 → sB.e = 0 := fun h => (Rd.size_was h).1
  generalize sB.size = sL at *
  obtain ⟨GB, hGB⟩ : ∃ G, G = Rd.docsP sL.1 sL.2 := ⟨_, rfl⟩
  rw [← hGB] at hSR
  repeat (first | refine op_ ?_ | refine bx_ (fun _ => ?_))
  refine hc_seq ?_
  refine hc_seq ?_
  refine hc_region ?_
  repeat (first | refine op_ ?_ | refine bx_ (fun _ => ?_))
  refine hc_meet (fun fr M => ∃ (j p : Nat) (s : Rd) (L1 : List Dc) (sa : Option Addr) (sc : Nat) (C1 : List Value) (Xl Xs : List Ent), GB.2 = s ∧ (s.e = 0 → RdsC w0 B Xs L1 C1 ∧ L1.length = j ∧ L1 = GB.1) ∧ (∀ u ∈ C1, u.oneCell' = true) ∧ (∀ F, Own 58 4 (.slice sa j sc) j C1 F (Xl ++ F)) ∧ (s.l = l.drop p ∧ p ≤ n) ∧ Imp M (RfB gi a n c p s.e :: ⟨g5, 61, [.int .i64 sD.1.w, .int .i64 sD.1.h, .int .i64 sD.1.n, .slice da dn dc, .slice sa0 jA sc0, .slice sa j sc], 6⟩ :: ⟨g2, 61, [.int .i64 0, .int .i64 0, .int .i64 0, .slice none 0 0, .slice none 0 0, .slice none 0 0], 6⟩ :: (Xl ++ (Xs ++ T2))) ∧ Agr fr [(0, .slice a n c), (2, .pointer (some ⟨g2, 0, none⟩)), (4, .pointer (some ⟨gi, 0, none⟩)), (5, .pointer (some ⟨g5, 0, none⟩))]) ?_ ?_
  · repeat (first | refine go_ ?_ | refine bx_ (fun _ => ?_))
    refine hc_loopd (fun q fr M => ∃ (j p : Nat) (s : Rd) (L1 : List Dc) (sa : Option Addr) (sc : Nat) (C1 : List Value) (Xl Xs : List Ent), j + q = sL.1 ∧ (Rd.docsP q s).2 = GB.2 ∧ (s.e = 0 → RdsC w0 B Xs L1 C1 ∧ L1.length = j ∧ L1 ++ (Rd.docsP q s).1 = GB.1) ∧ (∀ u ∈ C1, u.oneCell' = true) ∧ (∀ F, Own 58 4 (.slice sa j sc) j C1 F (Xl ++ F)) ∧ (s.l = l.drop p ∧ p ≤ n) ∧ Imp M (RfB gi a n c p s.e :: ⟨g5, 61, [.int .i64 sD.1.w, .int .i64 sD.1.h, .int .i64 sD.1.n, .slice da dn dc, .slice sa0 jA sc0, .slice sa j sc], 6⟩ :: ⟨g2, 61, [.int .i64 0, .int .i64 0, .int .i64 0, .slice none 0 0, .slice none 0 0, .slice none 0 0], 6⟩ :: (Xl ++ (Xs ++ T2))) ∧ Agr fr [(0, .slice a n c), (2, .pointer (some ⟨g2, 0, none⟩)), (4, .pointer (some ⟨gi, 0, none⟩)), (5, .pointer (some ⟨g5, 0, none⟩)), (8, .int .i64 (sL.1 : Int)), (9, .int .i64 (j : Int))]) sL.1 ?_ ?_
    · exact ⟨0, pC, sL.2, [], none, 0, [], [], [], by omega, by rw [hGB], fun _ => ⟨rfl, rfl, by rw [hGB]; rfl⟩, by simp, fun F => Own.nil, ⟨hsC, hpC⟩, Imp.refl _, rfl, rfl, rfl, rfl, rfl, rfl, trivial⟩
    rintro q fr M ⟨j, p, s, L1, sa, sc, C1, Xl, Xs, hj, h2, h1, hone, ho, ⟨hs, hp⟩, him, hf⟩
    obtain ⟨base, rfl⟩ := hf.out
    clear hf
    refine HC.imp ?_ him
    clear him M
    have iTT : Imp (Xl ++ (Xs ++ T2)) H := (Imp.tail Xl _).trans ((Imp.tail Xs _).trans iT2)
    by_cases hgo : q ≠ 0 ∧ s.e = 0
    · obtain ⟨hq, h0⟩ := hgo
      obtain ⟨q, rfl⟩ : ∃ q', q = q' + 1 := ⟨q - 1, by omega⟩
      rw [Rd.docsP, if_neg (by simp [h0])] at h2 h1
      dsimp only at h2 h1
      obtain ⟨f1, f2, f3⟩ := h1 h0
      clear h1
      have hln := s.doc_len
      have hsl := congrArg List.length hs
      rw [List.length_drop] at hsl
      repeat (first | refine go_ ?_ | refine bx_ (fun _ => ?_))
      refine hc_meet (fun fr M => ∃ (p2 : Nat) (sa' : Option Addr) (sc' : Nat) (C2 : List Value) (Z Xs' : List Ent), (s.doc.2.l = l.drop p2 ∧ p2 ≤ n) ∧ (s.doc.2.e = 0 → RdsC w0 B Xs' (L1 ++ [s.doc.1]) C2) ∧ (∀ u ∈ C2, u.oneCell' = true) ∧ (∀ F, Own 58 4 (.slice sa' (j + 1) sc') (j + 1) C2 F (Z ++ F)) ∧ Imp M (RfB gi a n c p2 s.doc.2.e :: ⟨g5, 61, [.int .i64 sD.1.w, .int .i64 sD.1.h, .int .i64 sD.1.n, .slice da dn dc, .slice sa0 jA sc0, (.slice sa' (j + 1) sc')], 6⟩ :: ⟨g2, 61, [.int .i64 0, .int .i64 0, .int .i64 0, .slice none 0 0, .slice none 0 0, .slice none 0 0], 6⟩ :: (Z ++ (Xs' ++ T2))) ∧ Agr fr [(0, .slice a n c), (2, .pointer (some ⟨g2, 0, none⟩)), (4, .pointer (some ⟨gi, 0, none⟩)), (5, .pointer (some ⟨g5, 0, none⟩)), (8, .int .i64 (sL.1 : Int)), (9, .int .i64 (j : Int))]) ?_ ?_
      · have cd := rrdoc_fn (g := gi) (s := s) (R := ⟨g5, 61, [.int .i64 sD.1.w, .int .i64 sD.1.h, .int .i64 sD.1.n, .slice da dn dc, .slice sa0 jA sc0, .slice sa j sc], 6⟩ :: ⟨g2, 61, [.int .i64 0, .int .i64 0, .int .i64 0, .slice none 0 0, .slice none 0 0, .slice none 0 0], 6⟩ :: (Xl ++ (Xs ++ T2))) hb (Imp.drop (Imp.drop iTT)) hs hp hn
        generalize s.doc = sN at *
        refine hc_drawA [] (by kernel_rfl) ?_
        refine ha_quiet [0, 2] (by rfl) (by kernel_rfl) ?_
        repeat (first | refine gd_ ?_)
        refine ha_fork2 1 3 (by rfl) (by kernel_rfl) (by rfl) (by rfl) (by first | exact Imp.refl _ | exact Imp.drop (Imp.refl _) | exact Imp.drop (Imp.drop (Imp.refl _)) | exact Imp.drop (Imp.drop (Imp.drop (Imp.refl _))) | exact Imp.drop (Imp.drop (Imp.drop (Imp.drop (Imp.refl _)))) | exact Imp.drop (Imp.drop (Imp.drop (Imp.drop (Imp.drop (Imp.refl _))))) | exact Imp.drop (Imp.drop (Imp.drop (Imp.drop (Imp.drop (Imp.drop (Imp.refl _)))))) | exact Imp.drop (Imp.drop (Imp.drop (Imp.drop (Imp.drop (Imp.drop (Imp.drop (Imp.refl _))))))) | exact Imp.drop (Imp.drop (Imp.drop (Imp.drop (Imp.drop (Imp.drop (Imp.drop (Imp.drop (Imp.refl _)))))))) | assumption | exact Imp.drop (by assumption) | exact Imp.drop (Imp.drop (by assumption)) | exact imp_nil _ | exact Imp.drop2 (Imp.refl _) | exact Imp.drop2 (Imp.drop2 (Imp.refl _)) | exact Imp.drop (Imp.drop2 (Imp.refl _))) ?_ ?_
        · skip
          repeat (first | refine op_ ?_ | refine bx_ (fun _ => ?_))
          refine ha_fork1 3 (by rfl) (by kernel_rfl) (by rfl) (by first | exact Imp.refl _ | exact Imp.drop (Imp.refl _) | exact Imp.drop (Imp.drop (Imp.refl _)) | exact Imp.drop (Imp.drop (Imp.drop (Imp.refl _))) | exact Imp.drop (Imp.drop (Imp.drop (Imp.drop (Imp.refl _)))) | exact Imp.drop (Imp.drop (Imp.drop (Imp.drop (Imp.drop (Imp.refl _))))) | exact Imp.drop (Imp.drop (Imp.drop (Imp.drop (Imp.drop (Imp.drop (Imp.refl _)))))) | exact Imp.drop (Imp.drop (Imp.drop (Imp.drop (Imp.drop (Imp.drop (Imp.drop (Imp.refl _))))))) | exact Imp.drop (Imp.drop (Imp.drop (Imp.drop (Imp.drop (Imp.drop (Imp.drop (Imp.drop (Imp.refl _)))))))) | assumption | exact Imp.drop (by assumption) | exact Imp.drop (Imp.drop (by assumption)) | exact imp_nil _ | exact Imp.drop2 (Imp.refl _) | exact Imp.drop2 (Imp.drop2 (Imp.refl _)) | exact Imp.drop (Imp.drop2 (Imp.refl _))) ?_
          · skip
            refine hl_call rfl rfl cd (fun v M o => ?_)
            obtain ⟨p2, X2, ra, rm, rc, him2, hs2, hp2, rfl, hR2⟩ := o
            refine HL.imp ?_ him2
            refine HL.perm ?_ (List.Perm.cons _ (app_swap X2 [_, _] _))
            repeat (first | refine op_ ?_ | refine bx_ (fun _ => ?_))
            refine ha_fork1 4 (by rfl) (by kernel_rfl) (by rfl) (by first | exact Imp.refl _ | exact Imp.drop (Imp.refl _) | exact Imp.drop (Imp.drop (Imp.refl _)) | exact Imp.drop (Imp.drop (Imp.drop (Imp.refl _))) | exact Imp.drop (Imp.drop (Imp.drop (Imp.drop (Imp.refl _)))) | exact Imp.drop (Imp.drop (Imp.drop (Imp.drop (Imp.drop (Imp.refl _))))) | exact Imp.drop (Imp.drop (Imp.drop (Imp.drop (Imp.drop (Imp.drop (Imp.refl _)))))) | exact Imp.drop (Imp.drop (Imp.drop (Imp.drop (Imp.drop (Imp.drop (Imp.drop (Imp.refl _))))))) | exact Imp.drop (Imp.drop (Imp.drop (Imp.drop (Imp.drop (Imp.drop (Imp.drop (Imp.drop (Imp.refl _)))))))) | assumption | exact Imp.drop (by assumption) | exact Imp.drop (Imp.drop (by assumption)) | exact imp_nil _ | exact Imp.drop2 (Imp.refl _) | exact Imp.drop2 (Imp.drop2 (Imp.refl _)) | exact Imp.drop (Imp.drop2 (Imp.refl _))) ?_
            · skip
              refine bx_ (fun gb => ?_)
              repeat (first | refine op_ ?_ | refine bx_ (fun _ => ?_))
              refine ha_fork1 5 (by rfl) (by kernel_rfl) (by rfl) (by first | exact Imp.refl _ | exact Imp.drop (Imp.refl _) | exact Imp.drop (Imp.drop (Imp.refl _)) | exact Imp.drop (Imp.drop (Imp.drop (Imp.refl _))) | exact Imp.drop (Imp.drop (Imp.drop (Imp.drop (Imp.refl _)))) | exact Imp.drop (Imp.drop (Imp.drop (Imp.drop (Imp.drop (Imp.refl _))))) | exact Imp.drop (Imp.drop (Imp.drop (Imp.drop (Imp.drop (Imp.drop (Imp.refl _)))))) | exact Imp.drop (Imp.drop (Imp.drop (Imp.drop (Imp.drop (Imp.drop (Imp.drop (Imp.refl _))))))) | exact Imp.drop (Imp.drop (Imp.drop (Imp.drop (Imp.drop (Imp.drop (Imp.drop (Imp.drop (Imp.refl _)))))))) | assumption | exact Imp.drop (by assumption) | exact Imp.drop (Imp.drop (by assumption)) | exact imp_nil _ | exact Imp.drop2 (Imp.refl _) | exact Imp.drop2 (Imp.drop2 (Imp.refl _)) | exact Imp.drop (Imp.drop2 (Imp.refl _))) ?_
              · skip
                have hq1 : ∀ x y z t : Ent, (x :: y :: z :: t :: (X2 ++ (Xl ++ (Xs ++ T2)))).Perm (Xl ++ (x :: y :: z :: t :: (X2 ++ (Xs ++ T2)))) := fun x y z t => by simpa only [List.append_assoc, List.cons_append, List.nil_append] using app_swap ([x, y, z, t] ++ X2) Xl (Xs ++ T2)
                have hq2 : ∀ (Z : List Ent) (x y z t : Ent), (Z ++ (x :: y :: z :: t :: (X2 ++ (Xs ++ T2)))).Perm (x :: y :: z :: t :: (Z ++ ((X2 ++ Xs) ++ T2))) := fun Z x y z t => by simpa only [List.append_assoc, List.cons_append, List.nil_append] using app_swap Z [x, y, z, t] (X2 ++ (Xs ++ T2))
                refine HL.perm ?_ (hq1 _ _ _ _)
                refine hl_append_own (e := 58) (sz := 4) rfl rfl (ho _) (Rds.ent (i := 0) (n := 4) (l := dcC sN.1 (.slice ra rm rc)) (Take.app Xl .here) rfl (by simp [dcC, Value.oneCell'])) rfl rfl (by decide) (by omega) (by omega) rfl (fun v5 M5 o5 => ?_)
                obtain ⟨a5', c5', rfl, _, _⟩ := o5.form
                obtain ⟨Z, hZ, hoZ⟩ := o5.permE
                refine HL.perm ?_ (hZ.trans (hq2 Z _ _ _ _))
                have hone2 : ∀ u ∈ C1 ++ dcC sN.1 (.slice ra rm rc), u.oneCell' = true := fun u hu => by
                  rcases List.mem_append.1 hu with hu | hu
                  · exact hone u hu
                  · simp only [dcC, List.mem_cons, List.not_mem_nil, or_false] at hu
                    rcases hu with rfl | rfl | rfl | rfl <;> rfl
                repeat (first | refine op_ ?_ | refine bx_ (fun _ => ?_))
                refine ha_quiet [6] (by rfl) (by kernel_rfl) ?_
                repeat (first | refine gd_ ?_)
                refine ha_fork1 7 (by rfl) (by kernel_rfl) (by rfl) (by first | exact Imp.refl _ | exact Imp.drop (Imp.refl _) | exact Imp.drop (Imp.drop (Imp.refl _)) | exact Imp.drop (Imp.drop (Imp.drop (Imp.refl _))) | exact Imp.drop (Imp.drop (Imp.drop (Imp.drop (Imp.refl _)))) | exact Imp.drop (Imp.drop (Imp.drop (Imp.drop (Imp.drop (Imp.refl _))))) | exact Imp.drop (Imp.drop (Imp.drop (Imp.drop (Imp.drop (Imp.drop (Imp.refl _)))))) | exact Imp.drop (Imp.drop (Imp.drop (Imp.drop (Imp.drop (Imp.drop (Imp.drop (Imp.refl _))))))) | exact Imp.drop (Imp.drop (Imp.drop (Imp.drop (Imp.drop (Imp.drop (Imp.drop (Imp.drop (Imp.refl _)))))))) | assumption | exact Imp.drop (by assumption) | exact Imp.drop (Imp.drop (by assumption)) | exact imp_nil _ | exact Imp.drop2 (Imp.refl _) | exact Imp.drop2 (Imp.drop2 (Imp.refl _)) | exact Imp.drop (Imp.drop2 (Imp.refl _))) ?_
                · skip
                  repeat (first | refine op_ ?_ | refine bx_ (fun _ => ?_))
                  refine ha_end (by rfl) (by kernel_rfl) (by first | exact Imp.refl _ | exact Imp.drop (Imp.refl _) | exact Imp.drop (Imp.drop (Imp.refl _)) | exact Imp.drop (Imp.drop (Imp.drop (Imp.refl _))) | exact Imp.drop (Imp.drop (Imp.drop (Imp.drop (Imp.refl _)))) | exact Imp.drop (Imp.drop (Imp.drop (Imp.drop (Imp.drop (Imp.refl _))))) | exact Imp.drop (Imp.drop (Imp.drop (Imp.drop (Imp.drop (Imp.drop (Imp.refl _)))))) | exact Imp.drop (Imp.drop (Imp.drop (Imp.drop (Imp.drop (Imp.drop (Imp.drop (Imp.refl _))))))) | exact Imp.drop (Imp.drop (Imp.drop (Imp.drop (Imp.drop (Imp.drop (Imp.drop (Imp.drop (Imp.refl _)))))))) | assumption | exact Imp.drop (by assumption) | exact Imp.drop (Imp.drop (by assumption)) | exact imp_nil _ | exact Imp.drop2 (Imp.refl _) | exact Imp.drop2 (Imp.drop2 (Imp.refl _)) | exact Imp.drop (Imp.drop2 (Imp.refl _))) ?_
                  exact ⟨p2, a5', c5', _, Z, X2 ++ Xs, ⟨hs2, hp2⟩, fun he => RdsC.append (f1.imp (Imp.tail X2 Xs)) ⟨.slice ra rm rc, [], rfl, (hR2 he).imp (Imp.sub (List.sublist_append_left _ _)), rfl⟩, hone2, hoZ, Imp.drop2 (Imp.perm (List.Perm.swap _ _ _) (Imp.refl _)), rfl, rfl, rfl, rfl, rfl, rfl, trivial⟩
        · skip
          refine hl_call rfl rfl cd (fun v M o => ?_)
          obtain ⟨p2, X2, ra, rm, rc, him2, hs2, hp2, rfl, hR2⟩ := o
          refine HL.imp ?_ him2
          refine HL.perm ?_ (List.Perm.cons _ (app_swap X2 [_, _] _))
          repeat (first | refine op_ ?_ | refine bx_ (fun _ => ?_))
          refine ha_fork2 1 4 (by rfl) (by kernel_rfl) (by rfl) (by rfl) (by first | exact Imp.refl _ | exact Imp.drop (Imp.refl _) | exact Imp.drop (Imp.drop (Imp.refl _)) | exact Imp.drop (Imp.drop (Imp.drop (Imp.refl _))) | exact Imp.drop (Imp.drop (Imp.drop (Imp.drop (Imp.refl _)))) | exact Imp.drop (Imp.drop (Imp.drop (Imp.drop (Imp.drop (Imp.refl _))))) | exact Imp.drop (Imp.drop (Imp.drop (Imp.drop (Imp.drop (Imp.drop (Imp.refl _)))))) | exact Imp.drop (Imp.drop (Imp.drop (Imp.drop (Imp.drop (Imp.drop (Imp.drop (Imp.refl _))))))) | exact Imp.drop (Imp.drop (Imp.drop (Imp.drop (Imp.drop (Imp.drop (Imp.drop (Imp.drop (Imp.refl _)))))))) | assumption | exact Imp.drop (by assumption) | exact Imp.drop (Imp.drop (by assumption)) | exact imp_nil _ | exact Imp.drop2 (Imp.refl _) | exact Imp.drop2 (Imp.drop2 (Imp.refl _)) | exact Imp.drop (Imp.drop2 (Imp.refl _))) ?_ ?_
          · skip
            repeat (first | refine op_ ?_ | refine bx_ (fun _ => ?_))
            refine ha_fork1 4 (by rfl) (by kernel_rfl) (by rfl) (by first | exact Imp.refl _ | exact Imp.drop (Imp.refl _) | exact Imp.drop (Imp.drop (Imp.refl _)) | exact Imp.drop (Imp.drop (Imp.drop (Imp.refl _))) | exact Imp.drop (Imp.drop (Imp.drop (Imp.drop (Imp.refl _)))) | exact Imp.drop (Imp.drop (Imp.drop (Imp.drop (Imp.drop (Imp.refl _))))) | exact Imp.drop (Imp.drop (Imp.drop (Imp.drop (Imp.drop (Imp.drop (Imp.refl _)))))) | exact Imp.drop (Imp.drop (Imp.drop (Imp.drop (Imp.drop (Imp.drop (Imp.drop (Imp.refl _))))))) | exact Imp.drop (Imp.drop (Imp.drop (Imp.drop (Imp.drop (Imp.drop (Imp.drop (Imp.drop (Imp.refl _)))))))) | assumption | exact Imp.drop (by assumption) | exact Imp.drop (Imp.drop (by assumption)) | exact imp_nil _ | exact Imp.drop2 (Imp.refl _) | exact Imp.drop2 (Imp.drop2 (Imp.refl _)) | exact Imp.drop (Imp.drop2 (Imp.refl _))) ?_
            · skip
              refine bx_ (fun gb => ?_)
              repeat (first | refine op_ ?_ | refine bx_ (fun _ => ?_))
              refine ha_fork1 5 (by rfl) (by kernel_rfl) (by rfl) (by first | exact Imp.refl _ | exact Imp.drop (Imp.refl _) | exact Imp.drop (Imp.drop (Imp.refl _)) | exact Imp.drop (Imp.drop (Imp.drop (Imp.refl _))) | exact Imp.drop (Imp.drop (Imp.drop (Imp.drop (Imp.refl _)))) | exact Imp.drop (Imp.drop (Imp.drop (Imp.drop (Imp.drop (Imp.refl _))))) | exact Imp.drop (Imp.drop (Imp.drop (Imp.drop (Imp.drop (Imp.drop (Imp.refl _)))))) | exact Imp.drop (Imp.drop (Imp.drop (Imp.drop (Imp.drop (Imp.drop (Imp.drop (Imp.refl _))))))) | exact Imp.drop (Imp.drop (Imp.drop (Imp.drop (Imp.drop (Imp.drop (Imp.drop (Imp.drop (Imp.refl _)))))))) | assumption | exact Imp.drop (by assumption) | exact Imp.drop (Imp.drop (by assumption)) | exact imp_nil _ | exact Imp.drop2 (Imp.refl _) | exact Imp.drop2 (Imp.drop2 (Imp.refl _)) | exact Imp.drop (Imp.drop2 (Imp.refl _))) ?_
              · skip
                have hq1 : ∀ x y z t : Ent, (x :: y :: z :: t :: (X2 ++ (Xl ++ (Xs ++ T2)))).Perm (Xl ++ (x :: y :: z :: t :: (X2 ++ (Xs ++ T2)))) := fun x y z t => by simpa only [List.append_assoc, List.cons_append, List.nil_append] using app_swap ([x, y, z, t] ++ X2) Xl (Xs ++ T2)
                have hq2 : ∀ (Z : List Ent) (x y z t : Ent), (Z ++ (x :: y :: z :: t :: (X2 ++ (Xs ++ T2)))).Perm (x :: y :: z :: t :: (Z ++ ((X2 ++ Xs) ++ T2))) := fun Z x y z t => by simpa only [List.append_assoc, List.cons_append, List.nil_append] using app_swap Z [x, y, z, t] (X2 ++ (Xs ++ T2))
                refine HL.perm ?_ (hq1 _ _ _ _)
                refine hl_append_own (e := 58) (sz := 4) rfl rfl (ho _) (Rds.ent (i := 0) (n := 4) (l := dcC sN.1 (.slice ra rm rc)) (Take.app Xl .here) rfl (by simp [dcC, Value.oneCell'])) rfl rfl (by decide) (by omega) (by omega) rfl (fun v5 M5 o5 => ?_)
                obtain ⟨a5', c5', rfl, _, _⟩ := o5.form
                obtain ⟨Z, hZ, hoZ⟩ := o5.permE
                refine HL.perm ?_ (hZ.trans (hq2 Z _ _ _ _))
                have hone2 : ∀ u ∈ C1 ++ dcC sN.1 (.slice ra rm rc), u.oneCell' = true := fun u hu => by
                  rcases List.mem_append.1 hu with hu | hu
                  · exact hone u hu
                  · simp only [dcC, List.mem_cons, List.not_mem_nil, or_false] at hu
                    rcases hu with rfl | rfl | rfl | rfl <;> rfl
                repeat (first | refine op_ ?_ | refine bx_ (fun _ => ?_))
                refine ha_quiet [6] (by rfl) (by kernel_rfl) ?_
                repeat (first | refine gd_ ?_)
                refine ha_fork1 7 (by rfl) (by kernel_rfl) (by rfl) (by first | exact Imp.refl _ | exact Imp.drop (Imp.refl _) | exact Imp.drop (Imp.drop (Imp.refl _)) | exact Imp.drop (Imp.drop (Imp.drop (Imp.refl _))) | exact Imp.drop (Imp.drop (Imp.drop (Imp.drop (Imp.refl _)))) | exact Imp.drop (Imp.drop (Imp.drop (Imp.drop (Imp.drop (Imp.refl _))))) | exact Imp.drop (Imp.drop (Imp.drop (Imp.drop (Imp.drop (Imp.drop (Imp.refl _)))))) | exact Imp.drop (Imp.drop (Imp.drop (Imp.drop (Imp.drop (Imp.drop (Imp.drop (Imp.refl _))))))) | exact Imp.drop (Imp.drop (Imp.drop (Imp.drop (Imp.drop (Imp.drop (Imp.drop (Imp.drop (Imp.refl _)))))))) | assumption | exact Imp.drop (by assumption) | exact Imp.drop (Imp.drop (by assumption)) | exact imp_nil _ | exact Imp.drop2 (Imp.refl _) | exact Imp.drop2 (Imp.drop2 (Imp.refl _)) | exact Imp.drop (Imp.drop2 (Imp.refl _))) ?_
                · skip
                  repeat (first | refine op_ ?_ | refine bx_ (fun _ => ?_))
                  refine ha_end (by rfl) (by kernel_rfl) (by first | exact Imp.refl _ | exact Imp.drop (Imp.refl _) | exact Imp.drop (Imp.drop (Imp.refl _)) | exact Imp.drop (Imp.drop (Imp.drop (Imp.refl _))) | exact Imp.drop (Imp.drop (Imp.drop (Imp.drop (Imp.refl _)))) | exact Imp.drop (Imp.drop (Imp.drop (Imp.drop (Imp.drop (Imp.refl _))))) | exact Imp.drop (Imp.drop (Imp.drop (Imp.drop (Imp.drop (Imp.drop (Imp.refl _)))))) | exact Imp.drop (Imp.drop (Imp.drop (Imp.drop (Imp.drop (Imp.drop (Imp.drop (Imp.refl _))))))) | exact Imp.drop (Imp.drop (Imp.drop (Imp.drop (Imp.drop (Imp.drop (Imp.drop (Imp.drop (Imp.refl _)))))))) | assumption | exact Imp.drop (by assumption) | exact Imp.drop (Imp.drop (by assumption)) | exact imp_nil _ | exact Imp.drop2 (Imp.refl _) | exact Imp.drop2 (Imp.drop2 (Imp.refl _)) | exact Imp.drop (Imp.drop2 (Imp.refl _))) ?_
                  exact ⟨p2, a5', c5', _, Z, X2 ++ Xs, ⟨hs2, hp2⟩, fun he => RdsC.append (f1.imp (Imp.tail X2 Xs)) ⟨.slice ra rm rc, [], rfl, (hR2 he).imp (Imp.sub (List.sublist_append_left _ _)), rfl⟩, hone2, hoZ, Imp.drop2 (Imp.perm (List.Perm.swap _ _ _) (Imp.refl _)), rfl, rfl, rfl, rfl, rfl, rfl, trivial⟩
          · skip
            refine bx_ (fun gb => ?_)
            repeat (first | refine op_ ?_ | refine bx_ (fun _ => ?_))
            refine ha_fork1 1 (by rfl) (by kernel_rfl) (by rfl) (by first | exact Imp.refl _ | exact Imp.drop (Imp.refl _) | exact Imp.drop (Imp.drop (Imp.refl _)) | exact Imp.drop (Imp.drop (Imp.drop (Imp.refl _))) | exact Imp.drop (Imp.drop (Imp.drop (Imp.drop (Imp.refl _)))) | exact Imp.drop (Imp.drop (Imp.drop (Imp.drop (Imp.drop (Imp.refl _))))) | exact Imp.drop (Imp.drop (Imp.drop (Imp.drop (Imp.drop (Imp.drop (Imp.refl _)))))) | exact Imp.drop (Imp.drop (Imp.drop (Imp.drop (Imp.drop (Imp.drop (Imp.drop (Imp.refl _))))))) | exact Imp.drop (Imp.drop (Imp.drop (Imp.drop (Imp.drop (Imp.drop (Imp.drop (Imp.drop (Imp.refl _)))))))) | assumption | exact Imp.drop (by assumption) | exact Imp.drop (Imp.drop (by assumption)) | exact imp_nil _ | exact Imp.drop2 (Imp.refl _) | exact Imp.drop2 (Imp.drop2 (Imp.refl _)) | exact Imp.drop (Imp.drop2 (Imp.refl _))) ?_
            · skip
              repeat (first | refine op_ ?_ | refine bx_ (fun _ => ?_))
              refine ha_fork1 5 (by rfl) (by kernel_rfl) (by rfl) (by first | exact Imp.refl _ | exact Imp.drop (Imp.refl _) | exact Imp.drop (Imp.drop (Imp.refl _)) | exact Imp.drop (Imp.drop (Imp.drop (Imp.refl _))) | exact Imp.drop (Imp.drop (Imp.drop (Imp.drop (Imp.refl _)))) | exact Imp.drop (Imp.drop (Imp.drop (Imp.drop (Imp.drop (Imp.refl _))))) | exact Imp.drop (Imp.drop (Imp.drop (Imp.drop (Imp.drop (Imp.drop (Imp.refl _)))))) | exact Imp.drop (Imp.drop (Imp.drop (Imp.drop (Imp.drop (Imp.drop (Imp.drop (Imp.refl _))))))) | exact Imp.drop (Imp.drop (Imp.drop (Imp.drop (Imp.drop (Imp.drop (Imp.drop (Imp.drop (Imp.refl _)))))))) | assumption | exact Imp.drop (by assumption) | exact Imp.drop (Imp.drop (by assumption)) | exact imp_nil _ | exact Imp.drop2 (Imp.refl _) | exact Imp.drop2 (Imp.drop2 (Imp.refl _)) | exact Imp.drop (Imp.drop2 (Imp.refl _))) ?_
              · skip
                have hq1 : ∀ x y z t : Ent, (x :: y :: z :: t :: (X2 ++ (Xl ++ (Xs ++ T2)))).Perm (Xl ++ (x :: y :: z :: t :: (X2 ++ (Xs ++ T2)))) := fun x y z t => by simpa only [List.append_assoc, List.cons_append, List.nil_append] using app_swap ([x, y, z, t] ++ X2) Xl (Xs ++ T2)
                have hq2 : ∀ (Z : List Ent) (x y z t : Ent), (Z ++ (x :: y :: z :: t :: (X2 ++ (Xs ++ T2)))).Perm (x :: y :: z :: t :: (Z ++ ((X2 ++ Xs) ++ T2))) := fun Z x y z t => by simpa only [List.append_assoc, List.cons_append, List.nil_append] using app_swap Z [x, y, z, t] (X2 ++ (Xs ++ T2))
                refine HL.perm ?_ (hq1 _ _ _ _)
                refine hl_append_own (e := 58) (sz := 4) rfl rfl (ho _) (Rds.ent (i := 0) (n := 4) (l := dcC sN.1 (.slice ra rm rc)) (Take.app Xl .here) rfl (by simp [dcC, Value.oneCell'])) rfl rfl (by decide) (by omega) (by omega) rfl (fun v5 M5 o5 => ?_)
                obtain ⟨a5', c5', rfl, _, _⟩ := o5.form
                obtain ⟨Z, hZ, hoZ⟩ := o5.permE
                refine HL.perm ?_ (hZ.trans (hq2 Z _ _ _ _))
                have hone2 : ∀ u ∈ C1 ++ dcC sN.1 (.slice ra rm rc), u.oneCell' = true := fun u hu => by
                  rcases List.mem_append.1 hu with hu | hu
                  · exact hone u hu
                  · simp only [dcC, List.mem_cons, List.not_mem_nil, or_false] at hu
                    rcases hu with rfl | rfl | rfl | rfl <;> rfl
                repeat (first | refine op_ ?_ | refine bx_ (fun _ => ?_))
                refine ha_quiet [6] (by rfl) (by kernel_rfl) ?_
                repeat (first | refine gd_ ?_)
                refine ha_fork1 7 (by rfl) (by kernel_rfl) (by rfl) (by first | exact Imp.refl _ | exact Imp.drop (Imp.refl _) | exact Imp.drop (Imp.drop (Imp.refl _)) | exact Imp.drop (Imp.drop (Imp.drop (Imp.refl _))) | exact Imp.drop (Imp.drop (Imp.drop (Imp.drop (Imp.refl _)))) | exact Imp.drop (Imp.drop (Imp.drop (Imp.drop (Imp.drop (Imp.refl _))))) | exact Imp.drop (Imp.drop (Imp.drop (Imp.drop (Imp.drop (Imp.drop (Imp.refl _)))))) | exact Imp.drop (Imp.drop (Imp.drop (Imp.drop (Imp.drop (Imp.drop (Imp.drop (Imp.refl _))))))) | exact Imp.drop (Imp.drop (Imp.drop (Imp.drop (Imp.drop (Imp.drop (Imp.drop (Imp.drop (Imp.refl _)))))))) | assumption | exact Imp.drop (by assumption) | exact Imp.drop (Imp.drop (by assumption)) | exact imp_nil _ | exact Imp.drop2 (Imp.refl _) | exact Imp.drop2 (Imp.drop2 (Imp.refl _)) | exact Imp.drop (Imp.drop2 (Imp.refl _))) ?_
                · skip
                  repeat (first | refine op_ ?_ | refine bx_ (fun _ => ?_))
                  refine ha_end (by rfl) (by kernel_rfl) (by first | exact Imp.refl _ | exact Imp.drop (Imp.refl _) | exact Imp.drop (Imp.drop (Imp.refl _)) | exact Imp.drop (Imp.drop (Imp.drop (Imp.refl _))) | exact Imp.drop (Imp.drop (Imp.drop (Imp.drop (Imp.refl _)))) | exact Imp.drop (Imp.drop (Imp.drop (Imp.drop (Imp.drop (Imp.refl _))))) | exact Imp.drop (Imp.drop (Imp.drop (Imp.drop (Imp.drop (Imp.drop (Imp.refl _)))))) | exact Imp.drop (Imp.drop (Imp.drop (Imp.drop (Imp.drop (Imp.drop (Imp.drop (Imp.refl _))))))) | exact Imp.drop (Imp.drop (Imp.drop (Imp.drop (Imp.drop (Imp.drop (Imp.drop (Imp.drop (Imp.refl _)))))))) | assumption | exact Imp.drop (by assumption) | exact Imp.drop (Imp.drop (by assumption)) | exact imp_nil _ | exact Imp.drop2 (Imp.refl _) | exact Imp.drop2 (Imp.drop2 (Imp.refl _)) | exact Imp.drop (Imp.drop2 (Imp.refl _))) ?_
                  exact ⟨p2, a5', c5', _, Z, X2 ++ Xs, ⟨hs2, hp2⟩, fun he => RdsC.append (f1.imp (Imp.tail X2 Xs)) ⟨.slice ra rm rc, [], rfl, (hR2 he).imp (Imp.sub (List.sublist_append_left _ _)), rfl⟩, hone2, hoZ, Imp.drop2 (Imp.perm (List.Perm.swap _ _ _) (Imp.refl _)), rfl, rfl, rfl, rfl, rfl, rfl, trivial⟩
      rintro fr M ⟨p2, sa', sc', C2, Z, Xs', ⟨hs2, hp2⟩, hR2, hone2, hoZ, him2, hf⟩
      obtain ⟨base, rfl⟩ := hf.out
      clear hf
      refine HC.imp ?_ him2
      repeat (first | refine go_ ?_ | refine bx_ (fun _ => ?_))
      exact ⟨q, by omega, _, Imp.refl _, j + 1, p2, s.doc.2, L1 ++ [s.doc.1], sa', sc', C2, Z, Xs', by omega, h2, fun he => ⟨hR2 he, by simp [f2], by rw [List.append_assoc]; exact f3⟩, hone2, hoZ, ⟨hs2, hp2⟩, Imp.refl _, rfl, rfl, rfl, rfl, rfl, rfl, trivial⟩
    have hend : Rd.docsP q s = ([], s) := by
      cases q with
      | zero => rfl
      | succ q => rw [Rd.docsP, if_pos (fun h => hgo ⟨by omega, h⟩)]
    rw [hend] at h2 h1
    dsimp only at h2 h1
    rw [List.append_nil] at h1
    by_cases hq0 : q = 0
    · repeat (first | refine go_ ?_ | refine bx_ (fun _ => ?_))
      exact ⟨j, p, s, L1, sa, sc, C1, Xl, Xs, h2.symm, h1, hone, ho, ⟨hs, hp⟩, Imp.refl _, rfl, rfl, rfl, rfl, trivial⟩
    · have h0 : ¬ s.e = 0 := fun h => hgo ⟨hq0, h⟩
      repeat (first | refine go_ ?_ | refine bx_ (fun _ => ?_))
      exact ⟨j, p, s, L1, sa, sc, C1, Xl, Xs, h2.symm, h1, hone, ho, ⟨hs, hp⟩, Imp.refl _, rfl, rfl, rfl, rfl, trivial⟩
  rintro fr M ⟨jB, pE, sE, LB, sb0, sd0, CB, XB, XBs, hGB2, hB1, honeB, hoB, ⟨hsE, hpE⟩, him, hf⟩
  obtain ⟨base, rfl⟩ := hf.out
  clear hf
  refine HC.imp ?_ him
  clear him M
  rw [hGB2] at hSR
  have hweD : sE.e = 0 → sL.2.e = 0 := fun h => by
    have h' : (Rd.docsP sL.1 sL.2).2.e = 0 := by rw [← hGB, hGB2]; exact h
    by_cases hk : sL.1 = 0
    · rw [hk] at h'; exact h'
    · obtain ⟨k', hk'⟩ : ∃ k', sL.1 = k' + 1 := ⟨sL.1 - 1, by omega⟩
      rw [hk', Rd.docsP] at h'
      by_cases h0 : sL.2.e ≠ 0
      · rw [if_pos h0] at h'; exact absurd h' h0
      · exact Classical.not_not.1 h0
  have iT3 : Imp (XB ++ (XBs ++ T2)) H := (Imp.tail XB _).trans ((Imp.tail XBs _).trans iT2)
  have hEl := congrArg List.length hsE
  rw [List.length_drop] at hEl
  have hnil : sE.l ≠ [] ↔ pE < n := by
    rw [← List.length_pos_iff, hEl]; omega
  by_cases h0 : sE.e = 0
  rotate_left
  · have he : sE.endE = sE.e := by unfold Rd.endE; rw [if_neg (fun h => h0 h.1)]
    have hg : getS l = (Stt.zero, sE.e) := by unfold getS; rw [hSR]; dsimp only; rw [he, if_pos h0]
    repeat (first | refine go_ ?_ | refine bx_ (fun _ => ?_))
    refine HC.perm (H' := ⟨g2, 61, [.int .i64 0, .int .i64 0, .int .i64 0, .slice none 0 0, .slice none 0 0, .slice none 0 0], 6⟩ :: RfB gi a n c pE sE.e :: ⟨g5, 61, [.int .i64 sD.1.w, .int .i64 sD.1.h, .int .i64 sD.1.n, .slice da dn dc, .slice sa0 jA sc0, .slice sb0 jB sd0], 6⟩ :: (XB ++ (XBs ++ T2))) ?_ ((app_swap [_, _] [_] _))
    refine hc_meet (fun fr M => Agr fr [(2, .pointer (some ⟨g2, 0, none⟩)), (3, .int .i64 ((sE.e : Nat) : Int))] ∧ M = ⟨g2, 61, [.int .i64 0, .int .i64 0, .int .i64 0, .slice none 0 0, .slice none 0 0, .slice none 0 0], 6⟩ :: RfB gi a n c pE sE.e :: ⟨g5, 61, [.int .i64 sD.1.w, .int .i64 sD.1.h, .int .i64 sD.1.n, .slice da dn dc, .slice sa0 jA sc0, .slice sb0 jB sd0], 6⟩ :: (XB ++ (XBs ++ T2))) ?_ ?_
    · refine hc_drawA (RfB gi a n c pE sE.e :: ⟨g5, 61, [.int .i64 sD.1.w, .int .i64 sD.1.h, .int .i64 sD.1.n, .slice da dn dc, .slice sa0 jA sc0, .slice sb0 jB sd0], 6⟩ :: (XB ++ (XBs ++ T2))) (by kernel_rfl) ?_
      refine ha_quiet [0, 1, 2, 3, 4] (by rfl) (by kernel_rfl) ?_
      repeat (first | refine gd_ ?_)
      refine ha_fork1 5 (by rfl) (by kernel_rfl) (by rfl) (by first | exact Imp.refl _ | exact Imp.drop (Imp.refl _) | exact Imp.drop (Imp.drop (Imp.refl _)) | exact Imp.drop (Imp.drop (Imp.drop (Imp.refl _))) | exact Imp.drop (Imp.drop (Imp.drop (Imp.drop (Imp.refl _)))) | exact Imp.drop (Imp.drop (Imp.drop (Imp.drop (Imp.drop (Imp.refl _))))) | exact Imp.drop (Imp.drop (Imp.drop (Imp.drop (Imp.drop (Imp.drop (Imp.refl _)))))) | exact Imp.drop (Imp.drop (Imp.drop (Imp.drop (Imp.drop (Imp.drop (Imp.drop (Imp.refl _))))))) | exact Imp.drop (Imp.drop (Imp.drop (Imp.drop (Imp.drop (Imp.drop (Imp.drop (Imp.drop (Imp.refl _)))))))) | assumption | exact Imp.drop (by assumption) | exact Imp.drop (Imp.drop (by assumption)) | exact imp_nil _ | exact Imp.drop2 (Imp.refl _) | exact Imp.drop2 (Imp.drop2 (Imp.refl _)) | exact Imp.drop (Imp.drop2 (Imp.refl _))) ?_
      · skip
        repeat (first | refine op_ ?_ | refine bx_ (fun _ => ?_))
        refine ha_quiet [6] (by rfl) (by kernel_rfl) ?_
        repeat (first | refine gd_ ?_)
        refine ha_end (by rfl) (by kernel_rfl) (by first | exact Imp.refl _ | exact Imp.drop (Imp.refl _) | exact Imp.drop (Imp.drop (Imp.refl _)) | exact Imp.drop (Imp.drop (Imp.drop (Imp.refl _))) | exact Imp.drop (Imp.drop (Imp.drop (Imp.drop (Imp.refl _)))) | exact Imp.drop (Imp.drop (Imp.drop (Imp.drop (Imp.drop (Imp.refl _))))) | exact Imp.drop (Imp.drop (Imp.drop (Imp.drop (Imp.drop (Imp.drop (Imp.refl _)))))) | exact Imp.drop (Imp.drop (Imp.drop (Imp.drop (Imp.drop (Imp.drop (Imp.drop (Imp.refl _))))))) | exact Imp.drop (Imp.drop (Imp.drop (Imp.drop (Imp.drop (Imp.drop (Imp.drop (Imp.drop (Imp.refl _)))))))) | assumption | exact Imp.drop (by assumption) | exact Imp.drop (Imp.drop (by assumption)) | exact imp_nil _ | exact Imp.drop2 (Imp.refl _) | exact Imp.drop2 (Imp.drop2 (Imp.refl _)) | exact Imp.drop (Imp.drop2 (Imp.refl _))) ?_
        exact ⟨⟨rfl, rfl, trivial⟩, rfl⟩
    rintro fr M ⟨hff, rfl⟩
    obtain ⟨base, rfl⟩ := hff.out
    repeat (first | refine go_ ?_ | refine bx_ (fun _ => ?_))
    refine finCI (n := 6) rfl rfl .here rfl rfl ⟨.slice none 0 0, .slice none 0 0, .slice none 0 0, [], ?_, Imp.refl _, ?_⟩ (Imp.drop (Imp.drop (Imp.drop iT3)))
    · rw [hg]; rfl
    · rw [hg]; exact RstR.zero
  by_cases hpl : pE < n
  · have he : sE.endE = 25 := by unfold Rd.endE; rw [if_pos ⟨h0, hnil.2 hpl⟩]
    have hg : getS l = (Stt.zero, 25) := by unfold getS; rw [hSR]; dsimp only; rw [he, if_pos (by decide)]
    repeat (first | refine go_ ?_ | refine bx_ (fun _ => ?_))
    refine hl_call rfl rfl (rfail_fn (k := 25)) (fun v M hv => ?_)
    obtain ⟨rfl, rfl⟩ := hv
    rw [if_pos h0]
    repeat (first | refine go_ ?_ | refine bx_ (fun _ => ?_))
    refine HC.perm (H' := ⟨g2, 61, [.int .i64 0, .int .i64 0, .int .i64 0, .slice none 0 0, .slice none 0 0, .slice none 0 0], 6⟩ :: RfB gi a n c pE 25 :: ⟨g5, 61, [.int .i64 sD.1.w, .int .i64 sD.1.h, .int .i64 sD.1.n, .slice da dn dc, .slice sa0 jA sc0, .slice sb0 jB sd0], 6⟩ :: (XB ++ (XBs ++ T2))) ?_ ((app_swap [_, _] [_] _))
    refine hc_meet (fun fr M => Agr fr [(2, .pointer (some ⟨g2, 0, none⟩)), (3, .int .i64 ((25 : Nat) : Int))] ∧ M = ⟨g2, 61, [.int .i64 0, .int .i64 0, .int .i64 0, .slice none 0 0, .slice none 0 0, .slice none 0 0], 6⟩ :: RfB gi a n c pE 25 :: ⟨g5, 61, [.int .i64 sD.1.w, .int .i64 sD.1.h, .int .i64 sD.1.n, .slice da dn dc, .slice sa0 jA sc0, .slice sb0 jB sd0], 6⟩ :: (XB ++ (XBs ++ T2))) ?_ ?_
    · refine hc_drawA (RfB gi a n c pE 25 :: ⟨g5, 61, [.int .i64 sD.1.w, .int .i64 sD.1.h, .int .i64 sD.1.n, .slice da dn dc, .slice sa0 jA sc0, .slice sb0 jB sd0], 6⟩ :: (XB ++ (XBs ++ T2))) (by kernel_rfl) ?_
      refine ha_quiet [0, 1, 2, 3, 4] (by rfl) (by kernel_rfl) ?_
      repeat (first | refine gd_ ?_)
      refine ha_fork1 5 (by rfl) (by kernel_rfl) (by rfl) (by first | exact Imp.refl _ | exact Imp.drop (Imp.refl _) | exact Imp.drop (Imp.drop (Imp.refl _)) | exact Imp.drop (Imp.drop (Imp.drop (Imp.refl _))) | exact Imp.drop (Imp.drop (Imp.drop (Imp.drop (Imp.refl _)))) | exact Imp.drop (Imp.drop (Imp.drop (Imp.drop (Imp.drop (Imp.refl _))))) | exact Imp.drop (Imp.drop (Imp.drop (Imp.drop (Imp.drop (Imp.drop (Imp.refl _)))))) | exact Imp.drop (Imp.drop (Imp.drop (Imp.drop (Imp.drop (Imp.drop (Imp.drop (Imp.refl _))))))) | exact Imp.drop (Imp.drop (Imp.drop (Imp.drop (Imp.drop (Imp.drop (Imp.drop (Imp.drop (Imp.refl _)))))))) | assumption | exact Imp.drop (by assumption) | exact Imp.drop (Imp.drop (by assumption)) | exact imp_nil _ | exact Imp.drop2 (Imp.refl _) | exact Imp.drop2 (Imp.drop2 (Imp.refl _)) | exact Imp.drop (Imp.drop2 (Imp.refl _))) ?_
      · skip
        repeat (first | refine op_ ?_ | refine bx_ (fun _ => ?_))
        refine ha_quiet [6] (by rfl) (by kernel_rfl) ?_
        repeat (first | refine gd_ ?_)
        refine ha_end (by rfl) (by kernel_rfl) (by first | exact Imp.refl _ | exact Imp.drop (Imp.refl _) | exact Imp.drop (Imp.drop (Imp.refl _)) | exact Imp.drop (Imp.drop (Imp.drop (Imp.refl _))) | exact Imp.drop (Imp.drop (Imp.drop (Imp.drop (Imp.refl _)))) | exact Imp.drop (Imp.drop (Imp.drop (Imp.drop (Imp.drop (Imp.refl _))))) | exact Imp.drop (Imp.drop (Imp.drop (Imp.drop (Imp.drop (Imp.drop (Imp.refl _)))))) | exact Imp.drop (Imp.drop (Imp.drop (Imp.drop (Imp.drop (Imp.drop (Imp.drop (Imp.refl _))))))) | exact Imp.drop (Imp.drop (Imp.drop (Imp.drop (Imp.drop (Imp.drop (Imp.drop (Imp.drop (Imp.refl _)))))))) | assumption | exact Imp.drop (by assumption) | exact Imp.drop (Imp.drop (by assumption)) | exact imp_nil _ | exact Imp.drop2 (Imp.refl _) | exact Imp.drop2 (Imp.drop2 (Imp.refl _)) | exact Imp.drop (Imp.drop2 (Imp.refl _))) ?_
        exact ⟨⟨rfl, rfl, trivial⟩, rfl⟩
    rintro fr M ⟨hff, rfl⟩
    obtain ⟨base, rfl⟩ := hff.out
    repeat (first | refine go_ ?_ | refine bx_ (fun _ => ?_))
    refine finCI (n := 6) rfl rfl .here rfl rfl ⟨.slice none 0 0, .slice none 0 0, .slice none 0 0, [], ?_, Imp.refl _, ?_⟩ (Imp.drop (Imp.drop (Imp.drop iT3)))
    · rw [hg]; rfl
    · rw [hg]; exact RstR.zero
  have he : sE.endE = 0 := by unfold Rd.endE; rw [if_neg (fun h => hpl (hnil.1 h.2))]; exact h0
  obtain ⟨b1, b2, b3⟩ := hB1 h0
  obtain ⟨a1, a2, a3⟩ := hA1 (hweC (hweD h0))
  have rD := hRD (hweA (hweB (hweC (hweD h0))))
  have hjA : jA ≤ 1000000000 := by
    have := docsP_le sK.1 sK.2
    rw [← hGA, ← a3] at this; omega
  have hjB : jB ≤ 1000000000 := by
    have := docsP_le sL.1 sL.2
    rw [← hGB, ← b3] at this; omega
  rw [← a3, ← b3] at hSR
  have hsmD := hsm (by rw [hSR]; exact he)
  rw [hSR] at hsmD
  dsimp only [Stt.all] at hsmD
  obtain ⟨M0, hM0⟩ : ∃ M0, M0 = (RfB gi a n c pE sE.e :: ⟨g5, 61, [.int .i64 sD.1.w, .int .i64 sD.1.h, .int .i64 sD.1.n, .slice da dn dc, .slice sa0 jA sc0, .slice sb0 jB sd0], 6⟩ :: ⟨g2, 61, [.int .i64 0, .int .i64 0, .int .i64 0, .slice none 0 0, .slice none 0 0, .slice none 0 0], 6⟩ :: (XB ++ (XBs ++ T2)) : List Ent) := ⟨_, rfl⟩
  have t5 : Take M0 ⟨g5, 61, [.int .i64 sD.1.w, .int .i64 sD.1.h, .int .i64 sD.1.n, .slice da dn dc, .slice sa0 jA sc0, .slice sb0 jB sd0], 6⟩ (RfB gi a n c pE sE.e :: ⟨g2, 61, [.int .i64 0, .int .i64 0, .int .i64 0, .slice none 0 0, .slice none 0 0, .slice none 0 0], 6⟩ :: (XB ++ (XBs ++ T2))) := by rw [hM0]; exact .there .here
  have t2 : Take M0 ⟨g2, 61, [.int .i64 0, .int .i64 0, .int .i64 0, .slice none 0 0, .slice none 0 0, .slice none 0 0], 6⟩ (RfB gi a n c pE sE.e :: ⟨g5, 61, [.int .i64 sD.1.w, .int .i64 sD.1.h, .int .i64 sD.1.n, .slice da dn dc, .slice sa0 jA sc0, .slice sb0 jB sd0], 6⟩ :: (XB ++ (XBs ++ T2))) := by rw [hM0]; exact .there (.there .here)
  have tf : Take M0 (RfB gi a n c pE sE.e) (⟨g5, 61, [.int .i64 sD.1.w, .int .i64 sD.1.h, .int .i64 sD.1.n, .slice da dn dc, .slice sa0 jA sc0, .slice sb0 jB sd0], 6⟩ :: ⟨g2, 61, [.int .i64 0, .int .i64 0, .int .i64 0, .slice none 0 0, .slice none 0 0, .slice none 0 0], 6⟩ :: (XB ++ (XBs ++ T2))) := by rw [hM0]; exact .here
  have iM0 : Imp M0 (XB ++ (XBs ++ T2)) := by rw [hM0]; exact Imp.drop (Imp.drop (Imp.drop (Imp.refl _)))
  have iM2 : Imp M0 T2 := iM0.trans ((Imp.tail XB _).trans (Imp.tail XBs _))
  have ass : (XB ++ (XBs ++ (XA ++ (XAs ++ XD)))) ++ H = XB ++ (XBs ++ T2) := by rw [hT2]; simp only [List.append_assoc]
  have iD : Imp M0 XD := iM2.trans (by rw [hT2]; exact (Imp.tail XA _).trans ((Imp.tail XAs _).trans (Imp.sub (List.sublist_append_left _ _))))
  have iAs : Imp M0 XAs := iM2.trans (by rw [hT2]; exact (Imp.tail XA _).trans (Imp.sub (List.sublist_append_left _ _)))
  have nA : CsR w0 B M0 sa0 jA 4 CA := (CsR.own (hoA (XAs ++ (XD ++ H))) honeA).imp (by rw [← hT2]; exact iM2)
  have nB : CsR w0 B M0 sb0 jB 4 CB := (CsR.own (hoB (XBs ++ T2)) honeB).imp iM0
  have iBs : Imp M0 XBs := iM0.trans ((Imp.tail XB _).trans (Imp.sub (List.sublist_append_left _ _)))
  have nAR := a1
  have nBR := b1
  have nAi := iAs
  have nBi := iBs
  have nAmem : ∀ D ∈ LA, D ∈ sD.1 :: (LA ++ LB) := fun D h => by simp [h]
  have nBmem : ∀ D ∈ LB, D ∈ sD.1 :: (LA ++ LB) := fun D h => by simp [h]
  refine HC.perm (H' := M0) ?_ (by rw [hM0])
  obtain ⟨d1, d2, d3⟩ := hsmD sD.1 (by simp)
  obtain ⟨bD, hbD⟩ := ex_b (RtQ sD.1)
  have hdn : dn = (sD.1.F.flat 0).length := by obtain ⟨x, y, e⟩ := rD.form; injection e
  have cD := rright_fn15 (rD.imp iD) d1 d2 d3 bD hbD
  repeat (first | refine hl_loadN (i := 0) (n := 4) (vs := dcC sD.1 (.slice da dn dc)) rfl t5 rfl rfl rfl ?_ | refine hl_load1 rfl tf rfl rfl ?_ | refine go1_ ?_ | refine bx_ (fun _ => ?_) | refine hl_callv rfl rfl (cD) ?_)
  have hok := hbD
  refine hc_loopd (fun q fr M => ∃ (j : Nat) (okb : Bool), j + q = jA ∧ (okb = true ↔ RtQ sD.1 ∧ ∀ D ∈ LA.take j, RtQ D) ∧ Imp M M0 ∧ Agr fr [(2, .pointer (some ⟨g2, 0, none⟩)), (5, .pointer (some ⟨g5, 0, none⟩)), (10, .bool okb), (11, .int .i64 (j : Int))]) jA ?_ ?_
  · exact ⟨0, _, by omega, by simpa using hok, Imp.refl _, rfl, rfl, rfl, rfl, trivial⟩
  clear hok
  rintro q fr M ⟨j, okb, hj, hok, him, hf⟩
  obtain ⟨base, rfl⟩ := hf.out
  clear hf
  refine HC.imp ?_ him
  clear him M
  by_cases hlt : j < jA
  · have hjl : j < LA.length := by omega
    have hst := List.take_succ_eq_append_getElem hjl
    obtain ⟨dv, hcell, hdr⟩ := nAR.at' hjl
    obtain ⟨hd1, hd2, hd3⟩ := hsmD _ (nAmem _ (List.getElem_mem hjl))
    generalize LA[j] = d at *
    obtain ⟨va, vc, rfl⟩ := hdr.form
    obtain ⟨bb, off, rfl⟩ := nA.pos (by omega)
    obtain ⟨b1, hb1⟩ := ex_b (RtQ d)
    have hk' : (b1 = true) → (okb = true) → (true = true ↔ RtQ sD.1 ∧ ∀ D ∈ LA.take (j + 1), RtQ D) := fun h1 h2 => ⟨fun _ => ⟨(hok.1 h2).1, fun D hD => by
      rw [hst] at hD
      rcases List.mem_append.1 hD with h | h
      · exact (hok.1 h2).2 D h
      · obtain rfl : D = d := by simpa using h
        exact hb1.1 h1⟩, fun _ => rfl⟩
    have hn' : (RtQ sD.1 ∧ ∀ D ∈ LA.take (j + 1), RtQ D) → okb = true ∧ b1 = true := fun h => ⟨hok.2 ⟨h.1, fun D hD => h.2 D (by rw [hst]; exact List.mem_append_left _ hD)⟩, hb1.2 (h.2 d (by rw [hst]; simp))⟩
    cases okb with
    | false =>
      repeat (first | refine hl_load1 rfl t5 rfl rfl ?_ | refine go1_ ?_ | refine bx_ (fun _ => ?_))
      exact ⟨q - 1, by omega, _, Imp.refl _, j + 1, false, by omega, ⟨fun h => (by cases h), fun h => (by cases (hn' h).1)⟩, Imp.refl _, rfl, rfl, rfl, rfl, trivial⟩
    | true =>
      have cr := rright_fn15 (hdr.imp nAi) hd1 hd2 hd3 b1 hb1
      repeat (first | refine hl_load1 rfl t5 rfl rfl ?_ | refine hl_loadRN (l := CA) rfl nA.rd (Imp.refl _) hcell rfl rfl ?_ | refine go1_ ?_ | refine bx_ (fun _ => ?_) | refine hl_callv rfl rfl (cr) ?_)
      exact ⟨q - 1, by omega, _, Imp.refl _, j + 1, b1, by omega, ⟨fun h => by subst h; exact (hk' rfl rfl).1 rfl, fun h => (hn' h).2⟩, Imp.refl _, rfl, rfl, rfl, rfl, trivial⟩
  obtain rfl : jA = j := by omega
  rw [List.take_of_length_le (by omega)] at hok
  repeat (first | refine hl_load1 rfl t5 rfl rfl ?_ | refine go1_ ?_ | refine bx_ (fun _ => ?_))
  refine hc_loopd (fun q fr M => ∃ (j : Nat) (okb : Bool), j + q = jB ∧ (okb = true ↔ (RtQ sD.1 ∧ ∀ D ∈ LA, RtQ D) ∧ ∀ D ∈ LB.take j, RtQ D) ∧ Imp M M0 ∧ Agr fr [(2, .pointer (some ⟨g2, 0, none⟩)), (5, .pointer (some ⟨g5, 0, none⟩)), (10, .bool okb), (12, .int .i64 (j : Int))]) jB ?_ ?_
  · exact ⟨0, _, by omega, by simpa using hok, Imp.refl _, rfl, rfl, rfl, rfl, trivial⟩
  clear hok
  rintro q fr M ⟨j, okb, hj, hok, him, hf⟩
  obtain ⟨base, rfl⟩ := hf.out
  clear hf
  refine HC.imp ?_ him
  clear him M
  by_cases hlt : j < jB
  · have hjl : j < LB.length := by omega
    have hst := List.take_succ_eq_append_getElem hjl
    obtain ⟨dv, hcell, hdr⟩ := nBR.at' hjl
    obtain ⟨hd1, hd2, hd3⟩ := hsmD _ (nBmem _ (List.getElem_mem hjl))
    generalize LB[j] = d at *
    obtain ⟨va, vc, rfl⟩ := hdr.form
    obtain ⟨bb, off, rfl⟩ := nB.pos (by omega)
    obtain ⟨b1, hb1⟩ := ex_b (RtQ d)
    have hk' : (b1 = true) → (okb = true) → (true = true ↔ (RtQ sD.1 ∧ ∀ D ∈ LA, RtQ D) ∧ ∀ D ∈ LB.take (j + 1), RtQ D) := fun h1 h2 => ⟨fun _ => ⟨(hok.1 h2).1, fun D hD => by
      rw [hst] at hD
      rcases List.mem_append.1 hD with h | h
      · exact (hok.1 h2).2 D h
      · obtain rfl : D = d := by simpa using h
        exact hb1.1 h1⟩, fun _ => rfl⟩
    have hn' : ((RtQ sD.1 ∧ ∀ D ∈ LA, RtQ D) ∧ ∀ D ∈ LB.take (j + 1), RtQ D) → okb = true ∧ b1 = true := fun h => ⟨hok.2 ⟨h.1, fun D hD => h.2 D (by rw [hst]; exact List.mem_append_left _ hD)⟩, hb1.2 (h.2 d (by rw [hst]; simp))⟩
    cases okb with
    | false =>
      repeat (first | refine hl_load1 rfl t5 rfl rfl ?_ | refine go1_ ?_ | refine bx_ (fun _ => ?_))
      exact ⟨q - 1, by omega, _, Imp.refl _, j + 1, false, by omega, ⟨fun h => (by cases h), fun h => (by cases (hn' h).1)⟩, Imp.refl _, rfl, rfl, rfl, rfl, trivial⟩
    | true =>
      have cr := rright_fn15 (hdr.imp nBi) hd1 hd2 hd3 b1 hb1
      repeat (first | refine hl_load1 rfl t5 rfl rfl ?_ | refine hl_loadRN (l := CB) rfl nB.rd (Imp.refl _) hcell rfl rfl ?_ | refine go1_ ?_ | refine bx_ (fun _ => ?_) | refine hl_callv rfl rfl (cr) ?_)
      exact ⟨q - 1, by omega, _, Imp.refl _, j + 1, b1, by omega, ⟨fun h => by subst h; exact (hk' rfl rfl).1 rfl, fun h => (hn' h).2⟩, Imp.refl _, rfl, rfl, rfl, rfl, trivial⟩
  obtain rfl : jB = j := by omega
  rw [List.take_of_length_le (by omega)] at hok
  have hall : (∀ D ∈ sD.1 :: (LA ++ LB), RtQ D) ↔ okb = true := by
    rw [hok]
    constructor
    · intro h
      exact ⟨⟨h _ (by simp), fun D hD => h D (by simp [hD])⟩, fun D hD => h D (by simp [hD])⟩
    · rintro ⟨⟨h1, h2⟩, h3⟩ D hD
      simp only [List.mem_cons, List.mem_append] at hD
      rcases hD with rfl | h | h
      · exact h1
      · exact h2 D h
      · exact h3 D h
  cases okb with
  | false =>
    have hg : getS l = (Stt.zero, 22) := by unfold getS; rw [hSR]; dsimp only [Stt.all]; rw [he, if_neg (by decide), if_neg (fun h => by cases hall.1 h)]
    have t2' : Take M0 ⟨g2, 61, [.int .i64 0, .int .i64 0, .int .i64 0, .slice none 0 0, .slice none 0 0, .slice none 0 0], 6⟩ (RfB gi a n c pE sE.e :: ⟨g5, 61, [.int .i64 sD.1.w, .int .i64 sD.1.h, .int .i64 sD.1.n, .slice da dn dc, .slice sa0 jA sc0, .slice sb0 jB sd0], 6⟩ :: (XB ++ (XBs ++ T2))) := t2
    rw [hM0]
    repeat (first | refine go_ ?_ | refine bx_ (fun _ => ?_))
    refine finCI (n := 6) rfl rfl .here rfl rfl ⟨.slice none 0 0, .slice none 0 0, .slice none 0 0, [], ?_, Imp.refl _, ?_⟩ (Imp.drop (Imp.drop (Imp.drop iT3)))
    · rw [hg]; rfl
    · rw [hg]; exact RstR.zero
  | true =>
    have hg : getS l = (⟨sD.1, LA, LB⟩, 0) := by unfold getS; rw [hSR]; dsimp only [Stt.all]; rw [he, if_neg (by decide), if_pos (hall.2 rfl)]
    rw [hM0]
    repeat (first | refine hl_loadN (i := 0) (n := 6) (vs := stC ⟨sD.1, LA, LB⟩ (.slice da dn dc) (.slice sa0 jA sc0) (.slice sb0 jB sd0)) rfl (.there .here) rfl rfl rfl ?_ | refine go1_ ?_ | refine bx_ (fun _ => ?_))
    refine finCI (n := 6) rfl rfl .here rfl rfl ⟨.slice da dn dc, .slice sa0 jA sc0, .slice sb0 jB sd0, XB ++ (XBs ++ (XA ++ (XAs ++ XD))), ?_, (by rw [ass]; exact Imp.refl _), ?_⟩ (Imp.drop (Imp.drop (Imp.drop (Imp.refl _))))
    · rw [hg]; rfl
    · rw [hg, ass]
      have k1 : Imp (XB ++ (XBs ++ T2)) T2 := (Imp.tail XB _).trans (Imp.tail XBs _)
      refine ⟨rD.imp (k1.trans (by rw [hT2]; exact (Imp.tail XA _).trans ((Imp.tail XAs _).trans (Imp.sub (List.sublist_append_left _ _))))), ⟨sa0, sc0, CA, by rw [a2], by rw [a2]; exact (CsR.own (hoA (XAs ++ (XD ++ H))) honeA).imp (by rw [← hT2]; exact k1), a1.imp (k1.trans (by rw [hT2]; exact (Imp.tail XA _).trans (Imp.sub (List.sublist_append_left _ _))))⟩, ⟨sb0, sd0, CB, by rw [b2], by rw [b2]; exact CsR.own (hoB (XBs ++ T2)) honeB, b1.imp ((Imp.tail XB _).trans (Imp.sub (List.sublist_append_left _ _)))⟩⟩
end
end Go.Proofs.Ytoobhebbgbhahaa
namespace Go.Proofs.Ytoobhebbgbhahaa
open Go.RowKit Go.ChangeShapes Go.WideShapes Go.ChangeAt Go.Deep
abbrev NN : Nat := 9223372036854775807
section
variable {Z : Type} {enc : TypeId × Value → Z} {w : World} {base : Nat} {held : Bool}
theorem one_bool {fuel : Nat} {cs : List Value} {c : Value} {o : Option (DataW Z × List MemPlace)} {k : Nat} (h : DataW.trod enc Try.prog w base (fun _ => true) held fuel 4 ((cs.drop k).take (Try.prog.cellsOf 4)) = o) (ho : o.isSome = true) (hc : (cs.drop k).take 1 = [c]) : ∃ z, c = .bool z := by
  obtain ⟨y, rfl⟩ := Option.isSome_iff_exists.1 ho
  rw [show Try.prog.cellsOf 4 = 1 by kernel_rfl, hc] at h
  obtain ⟨z, hz, _⟩ := DataW.trod_bool Try.underlying4 h
  exact ⟨z, by simpa using hz⟩
/-- What a row of layers is told to be. -/
def OpF (w : World) (v : Value) : Prop := ∃ F : Fo, (∀ B E, w.heap.size ≤ B → FoR w B E v F) ∧ F.wf NN ∧ F.len ≤ NN
set_option maxRecDepth 100000 in
set_option maxHeartbeats 4000000 in
theorem open_layer {fuel : Nat} (ih : ∀ n, n < fuel → ∀ (c : Value) (y : DataW Z × List MemPlace), DataW.trod enc Try.prog w base (fun _ => true) held n 50 [c] = some y → OpF w c)
    {l : List Value} {y : DataW Z × List MemPlace} (hl : l.length = 19) (hf : DataW.trod enc Try.prog w base (fun _ => true) held fuel 116 l = some y) :
    ∃ (x : Ly) (pv mv qv kv : Value) (k : Fo), l = lyC x pv mv qv kv ∧ (∀ B E, w.heap.size ≤ B → LyR w B E x pv mv qv) ∧ (∀ B E, w.heap.size ≤ B → FoR w B E kv k) ∧ x.wf NN ∧ k.wf NN ∧ k.len ≤ NN := by
  obtain ⟨ys, n', hn', hy, hlen, hyl, hj⟩ := DataW.trod_struct Try.underlying116 hf
  have hys : ∀ j, j < 14 → (ys[j]?).isSome = true := fun j hj => by
    rw [List.getElem?_eq_getElem (by rw [hyl]; exact hj)]; rfl
  match l, hl with
  | [c0, c1, c2, c3, c4, c5, c6, cp, cm, m0, m1, m2, m3, m4, m5, cs, ct, cq, ck], _ =>
    obtain ⟨z0, rfl, w0⟩ := one_int (hj 0 _ rfl) (hys 0 (by decide)) rfl
    obtain ⟨z1, rfl, w1⟩ := one_int (hj 1 _ rfl) (hys 1 (by decide)) rfl
    obtain ⟨z2, rfl⟩ := one_bool (hj 2 _ rfl) (hys 2 (by decide)) rfl
    obtain ⟨z3, rfl, w3⟩ := one_int (hj 3 _ rfl) (hys 3 (by decide)) rfl
    obtain ⟨z4, rfl, w4⟩ := one_int (hj 4 _ rfl) (hys 4 (by decide)) rfl
    obtain ⟨z5, rfl, w5⟩ := one_int (hj 5 _ rfl) (hys 5 (by decide)) rfl
    obtain ⟨z6, rfl, w6⟩ := one_int (hj 6 _ rfl) (hys 6 (by decide)) rfl
    obtain ⟨yp, hp⟩ := one_val (by kernel_rfl) (hj 7 _ rfl) (hys 7 (by decide)) rfl
    obtain ⟨ym, hm⟩ := one_val (by kernel_rfl) (hj 8 _ rfl) (hys 8 (by decide)) rfl
    obtain ⟨m, ⟨rfl, rfl, rfl, rfl, rfl, rfl⟩, wm⟩ := six_ints (hj 9 _ rfl) (hys 9 (by decide)) rfl
    obtain ⟨zs, rfl⟩ := one_bool (hj 10 _ rfl) (hys 10 (by decide)) rfl
    obtain ⟨zt, rfl, wt⟩ := one_int (hj 11 _ rfl) (hys 11 (by decide)) rfl
    obtain ⟨yq, hq⟩ := one_val (by kernel_rfl) (hj 12 _ rfl) (hys 12 (by decide)) rfl
    obtain ⟨yk, hk⟩ := one_val (by kernel_rfl) (hj 13 _ rfl) (hys 13 (by decide)) rfl
    obtain ⟨k, hk1, hk2, hk3⟩ := ih n' (by omega) ck yk hk
    obtain ⟨pa, pn, pc, rfl, _, _, hp⟩ := one_slice Try.underlying22 hp
    obtain ⟨ma, mn, mc, rfl, _, _, hm⟩ := one_slice Try.underlying29 hm
    obtain ⟨qa, qn, qc, rfl, _, _, hq⟩ := one_slice Try.underlying22 hq
    obtain ⟨P, hP, bP⟩ := open_nums Try.underlying22 Try.underlying3 (by kernel_rfl) rfl hp
    obtain ⟨Q, hQ, bQ⟩ := open_nums Try.underlying22 Try.underlying3 (by kernel_rfl) rfl hq
    obtain ⟨M, hM⟩ := open_bytes Try.underlying29 Try.underlying5 (by kernel_rfl) rfl hm
    have sP := hP.size_eq
    have sQ := hQ.size_eq
    have sM := hM.size_eq
    have lP := hP.le
    have lQ := hQ.le
    have lM := hM.le
    have xP := hP.small
    have xQ := hQ.small
    have xM := hM.small
    refine ⟨⟨z0, z1, z2, z3, z4, z5, z6, P, M, m 0, m 1, m 2, m 3, m 4, m 5, zs, zt, Q⟩, _, _, _, ck, k, rfl, fun B E hB => ⟨⟨pa, pc, by dsimp only; rw [sP], by dsimp only; rw [sP]; exact numR_of hB hP⟩, ⟨ma, mc, by dsimp only; rw [sM], by dsimp only; rw [sM]; exact BytR.of hB hM⟩, ⟨qa, qc, by dsimp only; rw [sQ], by dsimp only; rw [sQ]; exact numR_of hB hQ⟩⟩, hk1, ⟨?_, bP, wm, wt, bQ, ?_, ?_, ?_⟩, hk2, hk3⟩
    · intro n hn
      simp only [Ly.hd, List.mem_cons, List.not_mem_nil, or_false] at hn
      rcases hn with rfl | rfl | rfl | rfl | rfl | rfl | rfl <;> first | assumption | exact i64fl _
    all_goals dsimp only [NN]; omega
set_option maxRecDepth 100000 in
set_option maxHeartbeats 4000000 in
theorem open_fo : ∀ (fuel : Nat) (c : Value) (y : DataW Z × List MemPlace), DataW.trod enc Try.prog w base (fun _ => true) held fuel 50 [c] = some y → OpF w c := by
  intro fuel
  induction fuel using Nat.strongRecOn with
  | _ fuel ih =>
    intro c y h
    have hc19 : Try.prog.cellsOf 116 = 19 := by kernel_rfl
    rcases DataW.trod_slice Try.underlying50 h with ⟨hcs, _⟩ | ⟨a, len, cap, elems, rest, n, hn, hcs, _, _, hle, hcap, hel, hi, _, _⟩
    · simp only [List.cons.injEq, and_true] at hcs
      subst hcs
      exact ⟨.nil, fun _ _ _ => ⟨none, 0, [], rfl, CsR.nil, rfl⟩, trivial, Nat.zero_le _⟩
    · simp only [List.cons.injEq, and_true] at hcs
      subst hcs
      rw [hc19] at hi
      have hone : ∀ i, i < len → ∃ (x : Ly) (pv mv qv kv : Value) (k : Fo), (∀ j u, (lyC x pv mv qv kv)[j]? = some u → w.cell? (a.add (i * 19 + j)) = some u) ∧ (∀ B E, w.heap.size ≤ B → LyR w B E x pv mv qv) ∧ (∀ B E, w.heap.size ≤ B → FoR w B E kv k) ∧ x.wf NN ∧ k.wf NN ∧ k.len ≤ NN := fun i hil => by
        have h1 := hi i hil
        rw [List.getElem?_eq_getElem (by omega)] at h1
        obtain ⟨cs', hcells, ht⟩ := Option.bind_eq_some_iff.1 h1
        obtain ⟨_, hcl, hat⟩ := World.cells?_some hcells
        obtain ⟨x, pv, mv, qv, kv, k, rfl, h2, h3, h4, h5, h6⟩ := open_layer (fuel := n) (fun m hm => ih m (by omega)) hcl ht
        refine ⟨x, pv, mv, qv, kv, k, fun j u hu => ?_, h2, h3, h4, h5, h6⟩
        have hj : j < 19 := by
          have := (List.getElem?_eq_some_iff.1 hu).1
          simpa using this
        rw [← Go.Deep.add_add, hat j hj, hu]
      have hbuild : ∀ d, d ≤ len → ∃ (F : Fo) (C : List Value), F.len = d ∧ (∀ B E, w.heap.size ≤ B → FoC w B E F C) ∧ F.wf NN ∧ ∀ j u, C[j]? = some u → w.cell? (a.add ((len - d) * 19 + j)) = some u := by
        intro d
        induction d with
        | zero => exact fun _ => ⟨.nil, [], rfl, fun _ _ _ => rfl, trivial, fun j u hu => by simp at hu⟩
        | succ d ihd =>
          intro hd
          obtain ⟨F, C, f1, f2, f3, f4⟩ := ihd (by omega)
          obtain ⟨x, pv, mv, qv, kv, k, g1, g2, g3, g4, g5, g6⟩ := hone (len - (d + 1)) (by omega)
          obtain ⟨ka, kc, rfl⟩ := (g3 _ [] (Nat.le_refl _)).form
          refine ⟨.cons x k F, _, by rw [Fo.len, f1], fun B E hB => (by
            obtain ⟨ka', kc', K, e, q1, q2⟩ := g3 B E hB
            injection e with e1 e2 e3
            subst e1 e3
            exact ⟨pv, mv, qv, ka, kc, K, C, rfl, g2 B E hB, q1, q2, f2 B E hB⟩), ⟨g4, g6, g5, f3⟩, fun j u hu => ?_⟩
          by_cases hj : j < 19
          · rw [List.getElem?_append_left (by simpa using hj)] at hu
            exact g1 j u hu
          · rw [List.getElem?_append_right (by simpa using hj)] at hu
            have := f4 _ _ hu
            rw [← this]
            congr 2
            simp only [List.length_cons, List.length_nil]
            omega
      obtain ⟨F, C, f1, f2, f3, f4⟩ := hbuild len (Nat.le_refl _)
      rw [Nat.sub_self, Nat.zero_mul] at f4
      simp only [Nat.zero_add] at f4
      have f20 := f2 _ [] (Nat.le_refl _)
      have hCl := f20.len
      refine ⟨F, fun B E hB => ⟨some a, cap, C, by rw [f1], ⟨hCl, fun h0 => ?_, ⟨fun w' hw ad ha j u hu => ?_, fun h => (by cases h), f20.one⟩⟩, f2 B E hB⟩, f3, by rw [f1]; unfold maxLen at hcap; dsimp only [NN]; omega⟩
      · obtain ⟨b, off, spot⟩ := a
        have h1 := f4 0 _ (List.getElem?_eq_getElem (by omega))
        have := World.cell?_spot h1
        have hs : spot = none := by simpa [Addr.add] using this
        subst hs
        exact ⟨b, off, rfl⟩
      · cases ha
        have h1 := f4 j u hu
        obtain ⟨b, off, spot⟩ := a
        have hs : spot = none := by
          have h0 : 0 < C.length := Nat.lt_of_le_of_lt (Nat.zero_le _) (List.getElem?_eq_some_iff.1 hu).1
          have h2 := f4 0 _ (List.getElem?_eq_getElem h0)
          have := World.cell?_spot h2
          simpa [Addr.add] using this
        subst hs
        rw [Addr.add_lit] at h1 ⊢
        have hblk : b < B := by
          refine Nat.lt_of_lt_of_le ?_ hB
          have h3 := h1
          simp only [World.cell?] at h3
          rcases Nat.lt_or_ge b w.heap.size with h4 | h4
          · exact h4
          · rw [Array.getElem?_eq_none h4] at h3; cases h3
        rw [← h1]
        exact hw.below.cell (p := ⟨b, off + j, none⟩) hblk
set_option maxRecDepth 100000 in
set_option maxHeartbeats 4000000 in
theorem open_doc {fuel : Nat} {l : List Value} {y : DataW Z × List MemPlace} (hl : l.length = 4) (hf : DataW.trod enc Try.prog w base (fun _ => true) held fuel 52 l = some y) :
    ∃ (D : Dc) (kv : Value), l = dcC D kv ∧ (∀ B E, w.heap.size ≤ B → FoR w B E kv D.F) ∧ D.wf NN := by
  obtain ⟨ys, n', hn', hy, hlen, hyl, hj⟩ := DataW.trod_struct Try.underlying52 hf
  have hys : ∀ j, j < 4 → (ys[j]?).isSome = true := fun j hj => by
    rw [List.getElem?_eq_getElem (by rw [hyl]; exact hj)]; rfl
  match l, hl with
  | [c0, c1, c2, ck], _ =>
    obtain ⟨z0, rfl, w0⟩ := one_int (hj 0 _ rfl) (hys 0 (by decide)) rfl
    obtain ⟨z1, rfl, w1⟩ := one_int (hj 1 _ rfl) (hys 1 (by decide)) rfl
    obtain ⟨z2, rfl, w2⟩ := one_int (hj 2 _ rfl) (hys 2 (by decide)) rfl
    obtain ⟨yk, hk⟩ := one_val (by kernel_rfl) (hj 3 _ rfl) (hys 3 (by decide)) rfl
    obtain ⟨k, hk1, hk2, hk3⟩ := open_fo n' ck yk hk
    refine ⟨⟨z0, z1, z2, k⟩, ck, rfl, hk1, ⟨fun n hn => ?_, hk2, hk3⟩⟩
    simp only [List.mem_cons, List.not_mem_nil, or_false] at hn
    rcases hn with rfl | rfl | rfl <;> assumption
def OpD (w : World) (v : Value) : Prop := ∃ L : List Dc, (∀ B E, w.heap.size ≤ B → DsR w B E v L) ∧ (∀ D ∈ L, D.wf NN) ∧ L.length ≤ NN
set_option maxRecDepth 100000 in
set_option maxHeartbeats 4000000 in
theorem open_ds (fuel : Nat) (c : Value) (y : DataW Z × List MemPlace) (h : DataW.trod enc Try.prog w base (fun _ => true) held fuel 53 [c] = some y) : OpD w c := by
    have hc19 : Try.prog.cellsOf 52 = 4 := by kernel_rfl
    rcases DataW.trod_slice Try.underlying53 h with ⟨hcs, _⟩ | ⟨a, len, cap, elems, rest, n, hn, hcs, _, _, hle, hcap, hel, hi, _, _⟩
    · simp only [List.cons.injEq, and_true] at hcs
      subst hcs
      exact ⟨[], fun _ _ _ => ⟨none, 0, [], rfl, CsR.nil, rfl⟩, by simp, Nat.zero_le _⟩
    · simp only [List.cons.injEq, and_true] at hcs
      subst hcs
      rw [hc19] at hi
      have hone : ∀ i, i < len → ∃ (D : Dc) (kv : Value), (∀ j u, (dcC D kv)[j]? = some u → w.cell? (a.add (i * 4 + j)) = some u) ∧ (∀ B E, w.heap.size ≤ B → FoR w B E kv D.F) ∧ D.wf NN := fun i hil => by
        have h1 := hi i hil
        rw [List.getElem?_eq_getElem (by omega)] at h1
        obtain ⟨cs', hcells, ht⟩ := Option.bind_eq_some_iff.1 h1
        obtain ⟨_, hcl, hat⟩ := World.cells?_some hcells
        obtain ⟨D, kv, rfl, h3, h4⟩ := open_doc (fuel := n) hcl ht
        refine ⟨D, kv, fun j u hu => ?_, h3, h4⟩
        have hj : j < 4 := by
          have := (List.getElem?_eq_some_iff.1 hu).1
          simpa using this
        rw [← Go.Deep.add_add, hat j hj, hu]
      have hbuild : ∀ d, d ≤ len → ∃ (F : List Dc) (C : List Value), F.length = d ∧ (∀ B E, w.heap.size ≤ B → DsC w B E F C) ∧ (∀ D ∈ F, D.wf NN) ∧ ∀ j u, C[j]? = some u → w.cell? (a.add ((len - d) * 4 + j)) = some u := by
        intro d
        induction d with
        | zero => exact fun _ => ⟨[], [], rfl, fun _ _ _ => rfl, by simp, fun j u hu => by simp at hu⟩
        | succ d ihd =>
          intro hd
          obtain ⟨F, C, f1, f2, f3, f4⟩ := ihd (by omega)
          obtain ⟨D, kv, g1, g3, g4⟩ := hone (len - (d + 1)) (by omega)
          refine ⟨D :: F, _, by rw [List.length_cons, f1], fun B E hB => ⟨kv, C, rfl, g3 B E hB, f2 B E hB⟩, fun D' h => by rcases List.mem_cons.1 h with rfl | h; exact g4; exact f3 _ h, fun j u hu => ?_⟩
          by_cases hj : j < 4
          · rw [List.getElem?_append_left (by simpa using hj)] at hu
            exact g1 j u hu
          · rw [List.getElem?_append_right (by simpa using hj)] at hu
            have := f4 _ _ hu
            rw [← this]
            congr 2
            simp only [List.length_cons, List.length_nil]
            omega
      obtain ⟨F, C, f1, f2, f3, f4⟩ := hbuild len (Nat.le_refl _)
      rw [Nat.sub_self, Nat.zero_mul] at f4
      simp only [Nat.zero_add] at f4
      have f20 := f2 _ [] (Nat.le_refl _)
      have hCl := f20.len
      refine ⟨F, fun B E hB => ⟨some a, cap, C, by rw [f1], ⟨hCl, fun h0 => ?_, ⟨fun w' hw ad ha j u hu => ?_, fun h => (by cases h), f20.one⟩⟩, f2 B E hB⟩, f3, by rw [f1]; unfold maxLen at hcap; dsimp only [NN]; omega⟩
      · obtain ⟨b, off, spot⟩ := a
        have h1 := f4 0 _ (List.getElem?_eq_getElem (by omega))
        have := World.cell?_spot h1
        have hs : spot = none := by simpa [Addr.add] using this
        subst hs
        exact ⟨b, off, rfl⟩
      · cases ha
        have h1 := f4 j u hu
        obtain ⟨b, off, spot⟩ := a
        have hs : spot = none := by
          have h0 : 0 < C.length := Nat.lt_of_le_of_lt (Nat.zero_le _) (List.getElem?_eq_some_iff.1 hu).1
          have h2 := f4 0 _ (List.getElem?_eq_getElem h0)
          have := World.cell?_spot h2
          simpa [Addr.add] using this
        subst hs
        rw [Addr.add_lit] at h1 ⊢
        have hblk : b < B := by
          refine Nat.lt_of_lt_of_le ?_ hB
          have h3 := h1
          simp only [World.cell?] at h3
          rcases Nat.lt_or_ge b w.heap.size with h4 | h4
          · exact h4
          · rw [Array.getElem?_eq_none h4] at h3; cases h3
        rw [← h1]
        exact hw.below.cell (p := ⟨b, off + j, none⟩) hblk
/-- A state that is handed in. -/
structure StA where
  S : Stt
  kv : Value
  av : Value
  bv : Value
abbrev StA.v (x : StA) : Value := .agg (stC x.S x.kv x.av x.bv).toArray
structure StA.wf (w : World) (x : StA) : Prop where
  r : ∀ B E, w.heap.size ≤ B → StR w B E x.S x.kv x.av x.bv
  f : x.S.wf NN
set_option maxRecDepth 100000 in
set_option maxHeartbeats 4000000 in
theorem open_state {v : Value} {d : DataW Z} {ps : List MemPlace} {w0 : World} {r : Reach} {b0 : Nat} (hok : Value.okWide Try.prog w0 r b0 55 v) (h : DataW.Trod enc Try.prog w base (fun _ => true) held 55 v d ps) :
    ∃ x : StA, v = x.v ∧ x.wf w := by
  obtain ⟨cs, rfl, hsz⟩ : ∃ cs, v = .agg cs ∧ cs.size = Try.prog.cellsOf 55 := by
    simp only [Value.okWide, Try.underlying55] at hok
    obtain ⟨cs, h1, h2, _⟩ := hok
    exact ⟨cs, h1, h2⟩
  have hc6 : Try.prog.cellsOf 55 = 6 := by kernel_rfl
  have hc4 : Try.prog.cellsOf 52 = 4 := by kernel_rfl
  rw [hc6] at hsz
  obtain ⟨fuel, hf⟩ := h
  obtain ⟨ys, n', hn', hy, hlen, hyl, hj⟩ := DataW.trod_struct Try.underlying55 hf
  obtain ⟨l⟩ := cs
  simp only [Value.cells] at hj
  have hl : l.length = 6 := by simpa using hsz
  have hys : ∀ j, j < 3 → (ys[j]?).isSome = true := fun j hj => by
    rw [List.getElem?_eq_getElem (by rw [hyl]; exact hj)]; rfl
  match l, hl with
  | [c0, c1, c2, ck, ca, cb], _ =>
    have h0 : DataW.trod enc Try.prog w base (fun _ => true) held n' 52 ((([c0, c1, c2, ck, ca, cb] : List Value).drop 0).take (Try.prog.cellsOf 52)) = ys[0]? := hj 0 _ rfl
    obtain ⟨y0, hy0⟩ := Option.isSome_iff_exists.1 (hys 0 (by decide))
    rw [hy0] at h0
    rw [show Try.prog.cellsOf 52 = 4 from hc4] at h0
    obtain ⟨D, kv, e, q1, q2⟩ := open_doc (l := [c0, c1, c2, ck]) rfl h0
    obtain ⟨ya, ha⟩ := one_val (by kernel_rfl) (hj 1 _ rfl) (hys 1 (by decide)) rfl
    obtain ⟨yb, hb⟩ := one_val (by kernel_rfl) (hj 2 _ rfl) (hys 2 (by decide)) rfl
    obtain ⟨LA, a1, a2, a3⟩ := open_ds n' ca ya ha
    obtain ⟨LB, b1, b2, b3⟩ := open_ds n' cb yb hb
    obtain ⟨rfl, rfl, rfl, rfl⟩ : c0 = .int .i64 D.w ∧ c1 = .int .i64 D.h ∧ c2 = .int .i64 D.n ∧ ck = kv := by
      simp only [dcC, List.cons.injEq, and_true] at e
      exact ⟨e.1, e.2.1, e.2.2.1, e.2.2.2⟩
    exact ⟨⟨⟨D, LA, LB⟩, ck, ca, cb⟩, rfl, ⟨fun B E hB => ⟨q1 B E hB, a1 B E hB, b1 B E hB⟩, ⟨q2, a2, b2, a3, b3⟩⟩⟩
end
end Go.Proofs.Ytoobhebbgbhahaa
namespace Go.Proofs.Ytoobhebbgbhahaa
open Go.RowKit
section
variable {w0 : World} {B : Nat} {H R R0 : List Ent} {g : Nat}
set_option maxHeartbeats 16000000
set_option maxRecDepth 100000
def PgsR (w0 : World) (B : Nat) (H : List Ent) (l : List UInt8) (v : Value) (H' : List Ent) : Prop :=
  ∃ lv av bv X, v = .tuple #[.agg (stC (getS l).1 lv av bv).toArray, .int .i64 ((getS l).2 : Int)] ∧ Imp H' (X ++ H) ∧ StR w0 B (X ++ H) (getS l).1 lv av bv
theorem StR.zero : StR w0 B H Stt.zero (.slice none 0 0) (.slice none 0 0) (.slice none 0 0) :=
  ⟨⟨none, 0, [], rfl, CsR.nil, rfl⟩, ⟨none, 0, [], rfl, CsR.nil, rfl⟩, ⟨none, 0, [], rfl, CsR.nil, rfl⟩⟩
/-- What the program's Right is to tell. -/
def RightOk (w0 : World) (B : Nat) : Prop := ∀ (D : Dc) (kv : Value) (H : List Ent) (b : Bool), FoR w0 B H kv D.F → D.F.dep ≤ 64 → D.F.wf 1000000 → D.F.cnt ≤ 1000000 → (b = true ↔ RtQ D) →
  Fn Try.prog w0 B 44 [.agg (dcC D kv).toArray] H (fun v H' => v = .bool b ∧ H' = H)
theorem getState_fn {a : Option Addr} {n c : Nat} {l : List UInt8} (hR : RightOk w0 B) (hb : BytR w0 B H a n c l) (hn : n ≤ 1000000000) (hsm : SmS l) :
    Fn Try.prog w0 B 22 [.slice a n c] H (PgsR w0 B H l) := by
  have hbe := hb.eq
  have hSR : getSR l = getSR l := rfl
  conv at hSR => rhs; unfold getSR
  dsimp only at hSR
  refine fn_intro Try.func22 rfl (by kernel_rfl) rfl ?_
  repeat (first | refine go_ ?_ | refine bx_ (fun _ => ?_))
  rename_i g2 gi
  refine HL.perm (H' := InB gi a n c (Rd.mk l 0).e :: (⟨g2, 55, [.int .i64 0, .int .i64 0, .int .i64 0, .slice none 0 0, .slice none 0 0, .slice none 0 0], 6⟩ :: H)) ?_ (List.Perm.refl _)
  have i0 : Imp (⟨g2, 55, [.int .i64 0, .int .i64 0, .int .i64 0, .slice none 0 0, .slice none 0 0, .slice none 0 0], 6⟩ :: H) H := Imp.drop (Imp.refl _)
  refine hl_call rfl rfl (idoc_fn (s := ⟨l, 0⟩) hb i0 hn) (fun v M o => ?_)
  obtain ⟨a1, n1, c1, XD, da, dn, dc, himD, hbD, rfl, hFD⟩ := o
  have l1 := (Rd.mk l 0).doc_len
  have hdw := fun h => (Rd.doc_was (N := 1000000000) (s := ⟨l, 0⟩) h (by dsimp only; omega)).1
  generalize (Rd.mk l 0).doc = sD at *
  dsimp only at l1
  have e1 := hbD.eq
  refine HL.imp ?_ himD
  have i1 : Imp (XD ++ (⟨g2, 55, [.int .i64 0, .int .i64 0, .int .i64 0, .slice none 0 0, .slice none 0 0, .slice none 0 0], 6⟩ :: H)) H := (Imp.tail XD _).trans i0
  repeat (first | refine go_ ?_ | refine bx_ (fun _ => ?_))
  refine hl_call rfl rfl (idocs_fn hbD i1 (by omega)) (fun v M o => ?_)
  obtain ⟨a2, n2, c2, XA, aa, an, ac, himA, hbA, rfl, hFA⟩ := o
  have l2 := sD.2.docs_len
  have haw := fun h => (Rd.docs_was (N := 1000000000) (s := sD.2) h (by omega)).1
  have haw2 := fun h => (Rd.docs_was (N := 1000000000) (s := sD.2) h (by omega)).2.2.2
  generalize sD.2.docs = sA at *
  have e2 := hbA.eq
  refine HL.imp ?_ himA
  have i2 : Imp (XA ++ (XD ++ (⟨g2, 55, [.int .i64 0, .int .i64 0, .int .i64 0, .slice none 0 0, .slice none 0 0, .slice none 0 0], 6⟩ :: H))) H := (Imp.tail XA _).trans i1
  repeat (first | refine go_ ?_ | refine bx_ (fun _ => ?_))
  refine hl_call rfl rfl (idocs_fn hbA i2 (by omega)) (fun v M o => ?_)
  obtain ⟨a3, n3, c3, XB, ba, bn, bc, himB, hbB, rfl, hFB⟩ := o
  have l3 := sA.2.docs_len
  have hbw := fun h => (Rd.docs_was (N := 1000000000) (s := sA.2) h (by omega)).1
  have hbw2 := fun h => (Rd.docs_was (N := 1000000000) (s := sA.2) h (by omega)).2.2.2
  generalize sA.2.docs = sB at *
  refine HL.imp ?_ himB
  repeat (first | refine go_ ?_ | refine bx_ (fun _ => ?_))
  rename_i g5
  have hpm : (XB ++ (XA ++ (XD ++ (⟨g2, 55, [.int .i64 0, .int .i64 0, .int .i64 0, .slice none 0 0, .slice none 0 0, .slice none 0 0], 6⟩ :: H)))).Perm (⟨g2, 55, [.int .i64 0, .int .i64 0, .int .i64 0, .slice none 0 0, .slice none 0 0, .slice none 0 0], 6⟩ :: (XB ++ (XA ++ (XD ++ H)))) := by
    simpa only [List.append_assoc, List.cons_append, List.nil_append] using app_swap (XB ++ (XA ++ XD)) [⟨g2, 55, [.int .i64 0, .int .i64 0, .int .i64 0, .slice none 0 0, .slice none 0 0, .slice none 0 0], 6⟩] H
  refine HL.perm (H' := InB gi a3 n3 c3 sB.2.e :: ⟨g5, 55, stC ⟨sD.1, sA.1, sB.1⟩ (.slice da dn dc) (.slice aa an ac) (.slice ba bn bc), 6⟩ :: ⟨g2, 55, [.int .i64 0, .int .i64 0, .int .i64 0, .slice none 0 0, .slice none 0 0, .slice none 0 0], 6⟩ :: (XB ++ (XA ++ (XD ++ H)))) ?_ ((List.Perm.swap _ _ _).trans (List.Perm.cons _ (List.Perm.cons _ hpm)))
  obtain ⟨X3, hX3⟩ : ∃ X, X = XB ++ (XA ++ XD) := ⟨_, rfl⟩
  have hass : XB ++ (XA ++ (XD ++ H)) = X3 ++ H := by rw [hX3]; simp only [List.append_assoc]
  rw [hass]
  have iX3 : Imp (X3 ++ H) H := Imp.tail X3 H
  refine hl_call rfl rfl (iend_fn hbB) (fun v M hv => ?_)
  subst hv
  have hSR2 : getSR l = (⟨sD.1, sA.1, sB.1⟩, sB.2) := hSR
  by_cases he : sB.2.endE = 0
  rotate_left
  · have hg : getS l = (Stt.zero, sB.2.endE) := by unfold getS; rw [hSR2]; dsimp only; rw [if_pos he]
    generalize sB.2.endE = ee at *
    repeat (first | refine go_ ?_ | refine bx_ (fun _ => ?_))
    refine HC.perm (H' := ⟨g2, 55, [.int .i64 0, .int .i64 0, .int .i64 0, .slice none 0 0, .slice none 0 0, .slice none 0 0], 6⟩ :: InB gi a3 n3 c3 ee :: ⟨g5, 55, stC ⟨sD.1, sA.1, sB.1⟩ (.slice da dn dc) (.slice aa an ac) (.slice ba bn bc), 6⟩ :: (X3 ++ H)) ?_ (app_swap [_, _] [_] _)
    refine hc_meet (fun fr M => Agr fr [(2, .pointer (some ⟨g2, 0, none⟩)), (3, .int .i64 ((ee : Nat) : Int))] ∧ M = ⟨g2, 55, [.int .i64 0, .int .i64 0, .int .i64 0, .slice none 0 0, .slice none 0 0, .slice none 0 0], 6⟩ :: InB gi a3 n3 c3 ee :: ⟨g5, 55, stC ⟨sD.1, sA.1, sB.1⟩ (.slice da dn dc) (.slice aa an ac) (.slice ba bn bc), 6⟩ :: (X3 ++ H)) ?_ ?_
    · refine hc_drawA (InB gi a3 n3 c3 ee :: ⟨g5, 55, stC ⟨sD.1, sA.1, sB.1⟩ (.slice da dn dc) (.slice aa an ac) (.slice ba bn bc), 6⟩ :: (X3 ++ H)) (by kernel_rfl) ?_
      refine ha_quiet [0, 1, 2, 3, 4] (by rfl) (by kernel_rfl) ?_
      repeat (first | refine gd_ ?_)
      refine ha_fork1 5 (by rfl) (by kernel_rfl) (by rfl) (by first | exact Imp.refl _ | exact Imp.drop (Imp.refl _) | exact Imp.drop (Imp.drop (Imp.refl _)) | exact Imp.drop (Imp.drop (Imp.drop (Imp.refl _))) | exact Imp.drop (Imp.drop (Imp.drop (Imp.drop (Imp.refl _)))) | exact Imp.drop (Imp.drop (Imp.drop (Imp.drop (Imp.drop (Imp.refl _))))) | exact Imp.drop (Imp.drop (Imp.drop (Imp.drop (Imp.drop (Imp.drop (Imp.refl _)))))) | exact Imp.drop (Imp.drop (Imp.drop (Imp.drop (Imp.drop (Imp.drop (Imp.drop (Imp.refl _))))))) | exact Imp.drop (Imp.drop (Imp.drop (Imp.drop (Imp.drop (Imp.drop (Imp.drop (Imp.drop (Imp.refl _)))))))) | assumption | exact Imp.drop (by assumption) | exact Imp.drop (Imp.drop (by assumption)) | exact imp_nil _ | exact Imp.drop2 (Imp.refl _) | exact Imp.drop2 (Imp.drop2 (Imp.refl _)) | exact Imp.drop (Imp.drop2 (Imp.refl _))) ?_
      · skip
        repeat (first | refine op_ ?_ | refine bx_ (fun _ => ?_))
        refine ha_quiet [6] (by rfl) (by kernel_rfl) ?_
        repeat (first | refine gd_ ?_)
        refine ha_end (by rfl) (by kernel_rfl) (by first | exact Imp.refl _ | exact Imp.drop (Imp.refl _) | exact Imp.drop (Imp.drop (Imp.refl _)) | exact Imp.drop (Imp.drop (Imp.drop (Imp.refl _))) | exact Imp.drop (Imp.drop (Imp.drop (Imp.drop (Imp.refl _)))) | exact Imp.drop (Imp.drop (Imp.drop (Imp.drop (Imp.drop (Imp.refl _))))) | exact Imp.drop (Imp.drop (Imp.drop (Imp.drop (Imp.drop (Imp.drop (Imp.refl _)))))) | exact Imp.drop (Imp.drop (Imp.drop (Imp.drop (Imp.drop (Imp.drop (Imp.drop (Imp.refl _))))))) | exact Imp.drop (Imp.drop (Imp.drop (Imp.drop (Imp.drop (Imp.drop (Imp.drop (Imp.drop (Imp.refl _)))))))) | assumption | exact Imp.drop (by assumption) | exact Imp.drop (Imp.drop (by assumption)) | exact imp_nil _ | exact Imp.drop2 (Imp.refl _) | exact Imp.drop2 (Imp.drop2 (Imp.refl _)) | exact Imp.drop (Imp.drop2 (Imp.refl _))) ?_
        exact ⟨⟨rfl, rfl, trivial⟩, rfl⟩
    rintro fr M ⟨hff, rfl⟩
    obtain ⟨base, rfl⟩ := hff.out
    repeat (first | refine go_ ?_ | refine bx_ (fun _ => ?_))
    refine finCI (n := 6) rfl rfl .here rfl rfl ⟨.slice none 0 0, .slice none 0 0, .slice none 0 0, [], ?_, Imp.refl _, ?_⟩ (Imp.drop (Imp.drop (Imp.drop iX3)))
    · rw [hg]; rfl
    · rw [hg]; exact StR.zero
  have h0 : sB.2.e = 0 := by
    unfold Rd.endE at he
    split at he
    · cases he
    · exact he
  have hA0 := hbw h0
  have hD0 := haw hA0
  have fD := hFD hD0
  have fA := hFA hA0
  have fB := hFB h0
  have hsmD := hsm (by rw [hSR2]; exact he)
  rw [hSR2] at hsmD
  dsimp only [Stt.all] at hsmD
  obtain ⟨aa', ac', CA, eA, cA, rA⟩ := fA
  obtain ⟨ba', bc', CB, eB, cB, rB⟩ := fB
  injection eA with eA1 eA2 eA3
  injection eB with eB1 eB2 eB3
  subst eA1 eA2 eA3 eB1 eB2 eB3
  repeat (first | refine hl_loadN (i := 0) (n := 4) (vs := dcC sD.1 (.slice da dn dc)) rfl (.there .here) rfl rfl rfl ?_ | refine go1_ ?_ | refine bx_ (fun _ => ?_))
  rename_i gA g99
  obtain ⟨M0, hM0⟩ : ∃ M0, M0 = (⟨g99, 53, [.slice (some ⟨gA, 0, none⟩) 1 1, .slice aa sA.1.length ac, .slice ba sB.1.length bc], 3 * 1⟩ :: ⟨gA, 52, dcC sD.1 (.slice da dn dc), 1 * 4⟩ :: InB gi a3 n3 c3 sB.2.endE :: ⟨g5, 55, stC ⟨sD.1, sA.1, sB.1⟩ (.slice da dn dc) (.slice aa sA.1.length ac) (.slice ba sB.1.length bc), 6⟩ :: ⟨g2, 55, [.int .i64 0, .int .i64 0, .int .i64 0, .slice none 0 0, .slice none 0 0, .slice none 0 0], 6⟩ :: (X3 ++ H) : List Ent) := ⟨_, rfl⟩
  obtain ⟨F99, t99⟩ : ∃ F, Take M0 ⟨g99, 53, [.slice (some ⟨gA, 0, none⟩) 1 1, .slice aa sA.1.length ac, .slice ba sB.1.length bc], 3 * 1⟩ F := ⟨_, by rw [hM0]; exact .here⟩
  obtain ⟨FA, tA⟩ : ∃ F, Take M0 ⟨gA, 52, dcC sD.1 (.slice da dn dc), 1 * 4⟩ F := ⟨_, by rw [hM0]; exact .there .here⟩
  have iM : Imp M0 (X3 ++ H) := by rw [hM0]; exact Imp.drop (Imp.drop (Imp.drop (Imp.drop (Imp.drop (Imp.refl _)))))
  have k3 : Imp (X3 ++ H) X3 := Imp.sub (List.sublist_append_left _ _)
  have jB : Imp X3 XB := by rw [hX3]; exact Imp.sub (List.sublist_append_left _ _)
  have jA : Imp X3 XA := by rw [hX3]; exact (Imp.tail XB _).trans (Imp.sub (List.sublist_append_left _ _))
  have jD : Imp X3 XD := by rw [hX3]; exact (Imp.tail XB _).trans (Imp.tail XA _)
  have dl : DsR w0 B M0 (.slice (some ⟨gA, 0, none⟩) 1 1) [sD.1] :=
    ⟨_, _, dcC sD.1 (.slice da dn dc), rfl, ⟨rfl, fun _ => ⟨_, _, rfl⟩, Rds.ent (c := ⟨Try.prog, 0, w0, B⟩) (i := 0) (n := 4) tA rfl (by simp [dcC, Value.oneCell'])⟩, ⟨_, [], (List.append_nil _).symm, fD.imp (iM.trans (k3.trans jD)), rfl⟩⟩
  have dA : DsR w0 B M0 (.slice aa sA.1.length ac) sA.1 := ⟨aa, ac, CA, rfl, cA.imp (iM.trans (k3.trans jA)), rA.imp (iM.trans (k3.trans jA))⟩
  have dB : DsR w0 B M0 (.slice ba sB.1.length bc) sB.1 := ⟨ba, bc, CB, rfl, cB.imp (iM.trans (k3.trans jB)), rB.imp (iM.trans (k3.trans jB))⟩
  obtain ⟨LLs, hLLs⟩ : ∃ L : List (List Dc), L = [[sD.1], sA.1, sB.1] := ⟨_, rfl⟩
  have hcase : ∀ i, i < 3 → ∃ v L, ([.slice (some ⟨gA, 0, none⟩) 1 1, .slice aa sA.1.length ac, .slice ba sB.1.length bc] : List Value)[i]? = some v ∧ LLs[i]? = some L ∧ DsR w0 B M0 v L ∧ (∀ D ∈ L, D ∈ sD.1 :: (sA.1 ++ sB.1)) ∧ L.length ≤ 1000000000 := fun i hi => by
    have z1 := haw2 hA0
    have z2 := hbw2 h0
    rw [hLLs]
    obtain rfl | rfl | rfl : i = 0 ∨ i = 1 ∨ i = 2 := by omega
    · exact ⟨_, _, rfl, rfl, dl, fun D h => by rw [List.mem_singleton.1 h]; simp, by simp⟩
    · exact ⟨_, _, rfl, rfl, dA, fun D h => by simp [h], z1⟩
    · exact ⟨_, _, rfl, rfl, dB, fun D h => by simp [h], z2⟩
  have hgood : (∀ k L, k < 3 → LLs[k]? = some L → ∀ D ∈ L, RtQ D) → ∀ D ∈ sD.1 :: (sA.1 ++ sB.1), RtQ D := fun h D hD => by
    rw [hLLs] at h
    simp only [List.mem_cons, List.mem_append] at hD
    rcases hD with rfl | hD | hD
    · exact h 0 _ (by omega) rfl _ (by simp)
    · exact h 1 _ (by omega) rfl _ hD
    · exact h 2 _ (by omega) rfl _ hD
  refine HC.perm (H' := M0) ?_ (by rw [hM0])
  refine hc_loopd (fun q fr M => ∃ i : Nat, i + q = 3 ∧ (∀ k L, k < i → LLs[k]? = some L → ∀ D ∈ L, RtQ D) ∧ Imp M M0 ∧ Agr fr [(2, .pointer (some ⟨g2, 0, none⟩)), (5, .pointer (some ⟨g5, 0, none⟩)), (39, .slice (some ⟨g99, 0, none⟩) 3 3), (40, .int .i64 3), (41, .int .i64 (i : Int))]) 3 ?_ ?_
  · exact ⟨0, by omega, fun k L h => absurd h (by omega), Imp.refl _, rfl, rfl, rfl, rfl, rfl, trivial⟩
  rintro q fr M ⟨i, hi, hall, him, hf⟩
  obtain ⟨base, rfl⟩ := hf.out
  clear hf
  refine HC.imp ?_ him
  clear him M
  by_cases hlt : i < 3
  rotate_left
  · obtain rfl : i = 3 := by omega
    have hg : getS l = (⟨sD.1, sA.1, sB.1⟩, 0) := by unfold getS; rw [hSR2]; dsimp only [Stt.all]; rw [he, if_neg (by decide), if_pos (hgood hall)]
    rw [hM0]
    repeat (first | refine hl_loadN (i := 0) (n := 6) (vs := stC ⟨sD.1, sA.1, sB.1⟩ (.slice da dn dc) (.slice aa sA.1.length ac) (.slice ba sB.1.length bc)) rfl (.there (.there (.there .here))) rfl rfl rfl ?_ | refine go1_ ?_ | refine bx_ (fun _ => ?_))
    refine finCI (n := 6) rfl rfl .here rfl rfl ⟨.slice da dn dc, .slice aa sA.1.length ac, .slice ba sB.1.length bc, X3, ?_, Imp.refl _, ?_⟩ (Imp.drop (Imp.drop (Imp.drop (Imp.drop (Imp.drop (Imp.refl _))))))
    · rw [hg]; rfl
    · rw [hg]; exact ⟨fD.imp (k3.trans jD), ⟨aa, ac, CA, rfl, cA.imp (k3.trans jA), rA.imp (k3.trans jA)⟩, ⟨ba, bc, CB, rfl, cB.imp (k3.trans jB), rB.imp (k3.trans jB)⟩⟩
  obtain ⟨v, L, hv, hL, hDs, hmem, hLl⟩ := hcase i hlt
  obtain ⟨va, vc, C, rfl, cC, rC⟩ := hDs
  repeat (first | refine hl_load1 rfl t99 hv rfl ?_ | refine go1_ ?_ | refine bx_ (fun _ => ?_))
  refine hc_loopd (fun q fr M => ∃ (G : List Dc) (j : Nat) (U : List Value), j + G.length = L.length ∧ q = G.length ∧ C.drop (j * 4) = U ∧ DsC w0 B M0 G U ∧ (∀ D ∈ G, D ∈ L) ∧ ((∀ D ∈ G, RtQ D) → ∀ D ∈ L, RtQ D) ∧ Imp M M0 ∧ Agr fr [(2, .pointer (some ⟨g2, 0, none⟩)), (5, .pointer (some ⟨g5, 0, none⟩)), (39, .slice (some ⟨g99, 0, none⟩) 3 3), (40, .int .i64 3), (41, .int .i64 (i : Int)), (45, .slice va L.length vc), (46, .int .i64 (L.length : Int)), (47, .int .i64 (j : Int))]) L.length ?_ ?_
  · exact ⟨L, 0, C, by omega, rfl, by simp, rC, fun D h => h, fun h => h, Imp.refl _, rfl, rfl, rfl, rfl, rfl, rfl, rfl, rfl, trivial⟩
  rintro q2 fr M ⟨G, j, U, hj, rfl, hU, hG, hGL, hGr, him, hf⟩
  obtain ⟨base, rfl⟩ := hf.out
  clear hf
  refine HC.imp ?_ him
  clear him M
  cases G with
  | nil =>
    rw [List.length_nil] at hj
    repeat (first | refine go_ ?_ | refine bx_ (fun _ => ?_))
    exact ⟨q - 1, by omega, _, Imp.refl _, i + 1, by omega, fun k L' hk hL' => by
      by_cases e : k = i
      · subst e
        rw [hL] at hL'
        obtain rfl := Option.some.inj hL'
        exact hGr (by simp)
      · exact hall k L' (by omega) hL', Imp.refl _, rfl, rfl, rfl, rfl, rfl, trivial⟩
  | cons d r =>
    rw [List.length_cons] at hj
    obtain ⟨kv, C', rfl, hk, hr⟩ := hG
    obtain ⟨ka, kc, rfl⟩ := hk.form
    obtain ⟨hcell, hnx⟩ := dropN hU rfl
    obtain ⟨bb, off, rfl⟩ := cC.pos (by omega)
    obtain ⟨m1, m2, m3⟩ := hsmD d (hmem d (hGL d (by simp)))
    obtain ⟨b, hb1⟩ := ex_b (RtQ d)
    have cr := fun e : Ent => hR d (.slice ka d.F.len kc) (e :: M0) b (hk.imp (Imp.drop (Imp.refl _))) m1 m2 m3 hb1
    cases b with
    | true =>
      repeat (first | refine hl_loadRN (l := C) rfl cC.rd (Imp.refl _) hcell rfl rfl ?_ | refine go1_ ?_ | refine bx_ (fun _ => ?_) | refine hl_callv rfl rfl (cr _) ?_)
      exact ⟨r.length, by rw [List.length_cons]; omega, _, Imp.drop (Imp.refl _), r, j + 1, C', by omega, rfl, hnx, hr, fun D h => hGL D (by simp [h]), fun h => hGr fun D hD => by
        rcases List.mem_cons.1 hD with rfl | hD
        · exact hb1.1 rfl
        · exact h D hD, Imp.refl _, rfl, rfl, rfl, rfl, rfl, rfl, rfl, rfl, trivial⟩
    | false =>
      have hg : getS l = (Stt.zero, 22) := by
        unfold getS; rw [hSR2]; dsimp only [Stt.all]; rw [he, if_neg (by decide), if_neg (fun h => by cases hb1.2 (h d (hmem d (hGL d (by simp)))))]
      repeat (first | refine hl_loadRN (l := C) rfl cC.rd (Imp.refl _) hcell rfl rfl ?_ | refine go1_ ?_ | refine bx_ (fun _ => ?_) | refine hl_callv rfl rfl (cr _) ?_)
      rename_i g9
      rw [hM0]
      repeat (first | refine go_ ?_ | refine bx_ (fun _ => ?_))
      refine finCI (n := 6) rfl rfl .here rfl rfl ⟨.slice none 0 0, .slice none 0 0, .slice none 0 0, [], ?_, Imp.refl _, ?_⟩ (Imp.drop (Imp.drop (Imp.drop (Imp.drop (Imp.drop (Imp.drop iX3))))))
      · rw [hg]; rfl
      · rw [hg]; exact StR.zero
end
end Go.Proofs.Ytoobhebbgbhahaa
namespace Go.Proofs.Ytoobhebbgbhahaa
def SmL (x : Rl) : Prop := x.l.P.length ≤ 2000 ∧ x.l.M.length ≤ 2000 ∧ x.l.Q.length ≤ 100
theorem Ly.put_le {l : Ly} (hw : l.wf NN) (h1 : l.P.length ≤ 2000) (h2 : l.M.length ≤ 2000) (h3 : l.Q.length ≤ 100) : l.put.length ≤ 23200 := by
  obtain ⟨wh, wP, wm, wt, wQ, _, _, _⟩ := hw
  have e1 := length_numsB_le wh
  have e2 := length_numsB_le wP
  have e3 := length_numB_le (n := (l.P.length : Int)) ⟨by omega, by omega⟩
  have e4 := length_numB_le (n := (l.M.length : Int)) ⟨by omega, by omega⟩
  have e5 := length_numsB_le wm
  have e6 := length_numsB_le (l := [fl l.s, l.t]) (fun n hn => by
    simp only [List.mem_cons, List.not_mem_nil, or_false] at hn
    rcases hn with rfl | rfl
    · exact i64fl _
    · exact wt)
  have e7 := length_numsB_le wQ
  have e8 := length_numB_le (n := (l.Q.length : Int)) ⟨by omega, by omega⟩
  simp only [List.length_cons, List.length_nil] at e1 e5 e6
  unfold Ly.put lstB
  simp only [List.length_append]
  omega
theorem Fo.body_le : ∀ (F : Fo) (t : Int), F.wf NN → (∀ x ∈ F.flat t, SmL x) → F.cnt ≤ 1000000 → F.body.length ≤ F.cnt * 23210
  | .nil, _, _, _, _ => Nat.zero_le _
  | .cons l k r, t, ⟨h1, _, h3, h4⟩, hs, hc => by
    rw [Fo.cnt] at hc ⊢
    rw [Fo.flat] at hs
    obtain ⟨s1, s2, s3⟩ := hs ⟨t, l⟩ (by simp)
    have a := Ly.put_le h1 s1 s2 s3
    have b := Fo.body_le k l.i h3 (fun x hx => hs x (by simp [hx])) (by omega)
    have c := Fo.body_le r t h4 (fun x hx => hs x (by simp [hx])) (by omega)
    have hk := k.len_cnt
    have d := length_numB_le (n := (k.len : Int)) ⟨by omega, by omega⟩
    rw [Fo.body]
    simp only [List.length_append]
    omega
theorem Fo.wf_small : ∀ (F : Fo) (t : Int), F.wf NN → (∀ x ∈ F.flat t, SmL x) → F.cnt ≤ 1000000 → F.wf 1000000
  | .nil, _, _, _, _ => trivial
  | .cons l k r, t, ⟨h1, _, h3, h4⟩, hs, hc => by
    rw [Fo.cnt] at hc
    rw [Fo.flat] at hs
    obtain ⟨s1, s2, s3⟩ := hs ⟨t, l⟩ (by simp)
    dsimp only at s1 s2 s3
    have hk := k.len_cnt
    exact ⟨⟨h1.hd, h1.P, h1.mp, h1.t, h1.Q, by omega, by omega, by omega⟩, by omega, Fo.wf_small k l.i h3 (fun x hx => hs x (by simp [hx])) (by omega), Fo.wf_small r t h4 (fun x hx => hs x (by simp [hx])) (by omega)⟩
theorem Fo.cnt_body : ∀ F : Fo, F.cnt ≤ F.body.length
  | .nil => Nat.le_refl _
  | .cons l k r => by
    have a := k.cnt_body
    have b := r.cnt_body
    have c := length_lyr l
    rw [Fo.cnt, Fo.body]
    simp only [List.length_append]; omega
/-- A document that goes through. -/
theorem good_doc {D : Dc} (hw : D.wf NN) (hg : Good (D.F.flat 0)) (hl : (D.F.flat 0).length ≤ 300) : D.ok ∧ D.wf 1000000 ∧ D.put.length ≤ 7000100 := by
  have hc : D.F.cnt ≤ 300 := by rw [← D.F.flat_len 0]; exact hl
  have hs : ∀ x ∈ D.F.flat 0, SmL x := fun x hx => (hg.sm x hx).2
  have hids := D.F.flat_ids 0
  have hln := D.F.len_cnt
  refine ⟨⟨by rw [← hids]; exact hg.nd, fun h => ?_, by omega⟩, ⟨hw.n, Fo.wf_small D.F 0 hw.F hs (by omega), by omega⟩, ?_⟩
  · rw [← hids] at h
    obtain ⟨x, hx, e⟩ := List.mem_map.1 h
    exact (hg.sm x hx).1 e
  · have a := Fo.body_le D.F 0 hw.F hs (by omega)
    have b := length_numsB_le hw.n
    have c := length_numB_le (n := (D.F.len : Int)) ⟨by omega, by omega⟩
    simp only [List.length_cons, List.length_nil] at b
    unfold Dc.put Fo.put
    simp only [List.length_append]
    omega
theorem docs_le {L : List Dc} {m : Nat} (h : ∀ D ∈ L, D.put.length ≤ m) : (docsB L).length ≤ L.length * m := by
  induction L with
  | nil => simp [docsB]
  | cons D L ih =>
    have a := ih (fun D' h' => h D' (by simp [h']))
    have b := h D (by simp)
    rw [docsB_cons, List.length_append, List.length_cons, Nat.add_mul, Nat.one_mul]
    omega
/-- A state that goes through. -/
theorem good_state {S : Stt} (hw : S.wf NN) (hg : ∀ D ∈ S.all, Good (D.F.flat 0) ∧ (D.F.flat 0).length ≤ 300) (hA : S.A.length ≤ 8) (hB : S.B.length ≤ 8) : (∀ D ∈ S.all, D.ok) ∧ S.wf 1000000 ∧ S.put.length ≤ 200000000 := by
  have hd : ∀ D ∈ S.all, D.wf NN := fun D h => by
    simp only [Stt.all, List.mem_cons, List.mem_append] at h
    rcases h with rfl | h | h
    · exact hw.D
    · exact hw.A D h
    · exact hw.B D h
  have ha := fun D h => good_doc (hd D h) (hg D h).1 (hg D h).2
  have mA : ∀ D ∈ S.A, D ∈ S.all := fun D h => by simp [Stt.all, h]
  have mB : ∀ D ∈ S.B, D ∈ S.all := fun D h => by simp [Stt.all, h]
  have mD : S.D ∈ S.all := by simp [Stt.all]
  refine ⟨fun D h => (ha D h).1, ⟨(ha _ mD).2.1, fun D h => (ha D (mA D h)).2.1, fun D h => (ha D (mB D h)).2.1, by omega, by omega⟩, ?_⟩
  have a := docs_le fun D h => (ha D (mA D h)).2.2
  have b := docs_le fun D h => (ha D (mB D h)).2.2
  have c := (ha _ mD).2.2
  have d := length_numB_le (n := (S.A.length : Int)) ⟨by omega, by omega⟩
  have e := length_numB_le (n := (S.B.length : Int)) ⟨by omega, by omega⟩
  have a2 : S.A.length * 7000100 ≤ 8 * 7000100 := Nat.mul_le_mul_right _ hA
  have b2 : S.B.length * 7000100 ≤ 8 * 7000100 := Nat.mul_le_mul_right _ hB
  unfold Stt.put
  simp only [List.length_append]
  omega
theorem endE_nil {s : Rd} (h : s.endE = 0) : s.e = 0 ∧ s.l = [] := by
  unfold Rd.endE at h
  by_cases h1 : s.e = 0 ∧ s.l ≠ []
  · rw [if_pos h1] at h; cases h
  · rw [if_neg h1] at h
    exact ⟨h, Classical.byContradiction fun h2 => h1 ⟨h, h2⟩⟩
/-- What is read of a state's bytes without an error is the state. -/
theorem getSR_put {S : Stt} (hw : S.wf 1000000) (hb : S.put.length ≤ 1000000000) (h : (getSR S.put).2.endE = 0) : (getSR S.put).1 = S ∧ ∀ D ∈ S.all, D.F.dep ≤ 64 := by
  obtain ⟨h0, hl⟩ := endE_nil h
  obtain ⟨g1, g2, g3⟩ := getSR_was (N := 1000000000) h0 hb
  rw [hl, List.append_nil] at g1
  have up : ∀ {D : Dc}, D.wf 1000000 → D.wf 1000000000 := fun {D} hd => ⟨hd.n, by
    have : ∀ F : Fo, F.wf 1000000 → F.wf 1000000000 := fun F => by
      induction F with
      | nil => exact fun _ => trivial
      | cons l k r ihk ihr => exact fun ⟨a, b, c, d⟩ => ⟨⟨a.hd, a.P, a.mp, a.t, a.Q, by have := a.Pl; omega, by have := a.Ml; omega, by have := a.Ql; omega⟩, by omega, ihk c, ihr d⟩
    exact this _ hd.F, by have := hd.l; omega⟩
  have hw9 : S.wf 1000000000 := ⟨up hw.D, fun D h => up (hw.A D h), fun D h => up (hw.B D h), by have := hw.Al; omega, by have := hw.Bl; omega⟩
  have e := Stt.put_inj (Nat.le_refl _) hw9 g2 g1
  exact ⟨e.symm, by rw [e]; exact g3⟩
theorem smS_put {S : Stt} (hw : S.wf 1000000) (hb : S.put.length ≤ 1000000000) (hc : ∀ D ∈ S.all, D.ok) : SmS S.put := fun h D hD => by
  obtain ⟨e, hd⟩ := getSR_put hw hb h
  rw [e] at hD
  refine ⟨hd D hD, ?_, (hc D hD).c⟩
  simp only [Stt.all, List.mem_cons, List.mem_append] at hD
  rcases hD with rfl | h | h
  · exact hw.D.F
  · exact (hw.A D h).F
  · exact (hw.B D h).F
theorem getS_put {S : Stt} (hw : S.wf 1000000) (hb : S.put.length ≤ 1000000000) (h : (getS S.put).2 = 0) : (getS S.put).1 = S := by
  unfold getS at h ⊢
  by_cases h1 : (getSR S.put).2.endE ≠ 0
  · rw [if_pos h1] at h; exact absurd h h1
  rw [if_neg h1] at h ⊢
  have e := (getSR_put hw hb (Classical.not_not.1 h1)).1
  split
  · exact e
  · rename_i h2; rw [if_neg h2] at h; cases h
end Go.Proofs.Ytoobhebbgbhahaa
namespace Go.Proofs.Ytoobhebbgbhahaa
open Go.RowKit
theorem getS_zero {l : List UInt8} (h : (getS l).2 ≠ 0) : (getS l).1 = Stt.zero := by
  unfold getS at h ⊢
  split
  · rfl
  · rename_i h1
    rw [if_neg h1] at h
    split
    · rename_i h2; rw [if_pos h2] at h; exact absurd rfl h
    · rfl
theorem Fo.wf_up : ∀ F : Fo, F.wf 1000000 → F.wf 1000000000
  | .nil, _ => trivial
  | .cons l k r, ⟨a, b, c, d⟩ => ⟨⟨a.hd, a.P, a.mp, a.t, a.Q, by have := a.Pl; omega, by have := a.Ml; omega, by have := a.Ql; omega⟩, by omega, Fo.wf_up k c, Fo.wf_up r d⟩
section
variable {w0 : World} {B : Nat} {H R R0 : List Ent} {g : Nat}
set_option maxHeartbeats 16000000
set_option maxRecDepth 100000
theorem states_law {S : Stt} {kv av bv : Value} (hR : RightOk w0 B) (hS : StR w0 B H S kv av bv) (hw : S.wf NN) :
    Fn Try.prog w0 B 7 [.agg (stC S kv av bv).toArray] H (fun v _ => v = .bool true) := by
  obtain ⟨ka, kc, rfl⟩ := hS.D.form
  obtain ⟨aa, ac, rfl⟩ := hS.A.form
  obtain ⟨ba, bc, rfl⟩ := hS.B.form
  refine fn_intro Try.func7 rfl (by kernel_rfl) rfl ?_
  repeat (first | refine hl_loadN (i := 0) (n := 6) (vs := stC S (.slice ka S.D.F.len kc) (.slice aa S.A.length ac) (.slice ba S.B.length bc)) rfl .here rfl rfl rfl ?_ | refine go1_ ?_ | refine bx_ (fun _ => ?_) | refine hl_callv rfl rfl (anchor_fn) ?_)
  rename_i g1
  obtain ⟨e1, he1⟩ : ∃ e : Ent, e = ⟨g1, 55, stC S (.slice ka S.D.F.len kc) (.slice aa S.A.length ac) (.slice ba S.B.length bc), 6⟩ := ⟨_, rfl⟩
  refine HL.perm (H' := e1 :: H) ?_ (by rw [he1]; exact List.Perm.refl _)
  refine hl_call rfl rfl (plain_fn (hS.imp (Imp.drop (Imp.refl _)))) (fun v M o => ?_)
  rcases o with ⟨l, hl6, hone, rfl, him⟩ | ⟨lv, av', bv', X1, rfl, him, hRst, hgood, h8a, h8b⟩
  · refine HL.imp ?_ him
    repeat (first | refine go_ ?_ | refine bx_ (fun _ => ?_))
    refine hl_storeN (i := 0) (n := 6) rfl rfl hl6 hone .here (by simp) rfl ?_
    repeat (first | refine go_ ?_ | refine bx_ (fun _ => ?_))
    exact fin1B rfl rfl rfl
  obtain ⟨hok, hw6, hlen⟩ := good_state hw hgood h8a h8b
  refine HL.imp ?_ him
  obtain ⟨la, lc, rfl⟩ := hRst.D.form
  obtain ⟨ra, rc, rfl⟩ := hRst.A.form
  obtain ⟨sa, sc, rfl⟩ := hRst.B.form
  repeat (first | refine go_ ?_ | refine bx_ (fun _ => ?_))
  rename_i g3
  obtain ⟨M1, hM1⟩ : ∃ M, M = (⟨g3, 61, stC S (.slice la (S.D.F.flat 0).length lc) (.slice ra S.A.length rc) (.slice sa S.B.length sc), 6⟩ :: (X1 ++ (e1 :: H)) : List Ent) := ⟨_, rfl⟩
  obtain ⟨F1, t1⟩ : ∃ F, Take M1 ⟨g1, 55, stC S (.slice ka S.D.F.len kc) (.slice aa S.A.length ac) (.slice ba S.B.length bc), 6⟩ F := ⟨_, by rw [hM1, he1]; exact .there (Take.app X1 .here)⟩
  obtain ⟨F3, t3⟩ : ∃ F, Take M1 ⟨g3, 61, stC S (.slice la (S.D.F.flat 0).length lc) (.slice ra S.A.length rc) (.slice sa S.B.length sc), 6⟩ F := ⟨_, by rw [hM1]; exact .here⟩
  have i1 : Imp M1 (X1 ++ (e1 :: H)) := by rw [hM1]; exact Imp.drop (Imp.refl _)
  have iH : Imp M1 H := i1.trans ((Imp.tail X1 _).trans (Imp.drop (Imp.refl _)))
  refine HL.perm (H' := M1) ?_ (by rw [hM1]; exact List.Perm.refl _)
  repeat (first | refine hl_loadN (i := 0) (n := 6) (vs := stC S (.slice ka S.D.F.len kc) (.slice aa S.A.length ac) (.slice ba S.B.length bc)) rfl t1 rfl rfl rfl ?_ | refine go1_ ?_ | refine bx_ (fun _ => ?_))
  refine hl_call rfl rfl (putState_fn (hS.imp iH) hw6 (by omega)) (fun v M o => ?_)
  obtain ⟨ab, cb, rfl, _, _⟩ := o.form
  obtain ⟨Xb, hpb, hob⟩ := o.permE
  refine HL.perm ?_ hpb
  obtain ⟨b, hb⟩ : ∃ b, b = S.put := ⟨_, rfl⟩
  have hsm := smS_put hw6 (by omega) hok
  have hgp : (getS S.put).2 = 0 → (getS S.put).1 = S := getS_put hw6 (by omega)
  have hrp := fun (M : List Ent) (hi : Imp M M1) => rputState_fn (H := M) (hRst.imp (hi.trans i1)) (hok _ (by simp [Stt.all])) (fun D h => hok D (by simp [Stt.all, h])) (fun D h => hok D (by simp [Stt.all, h])) hw6 (by omega)
  rw [← hb] at hob hsm hgp hrp hlen ⊢
  obtain ⟨M2, hM2⟩ : ∃ M2, M2 = Xb ++ M1 := ⟨_, rfl⟩
  have i2 : Imp M2 M1 := by rw [hM2]; exact Imp.tail Xb _
  have bb : BytR w0 B M2 ab b.length cb b := by rw [hM2]; exact BytR.own (hob M1)
  have t32 := Take.app Xb t3
  have t12 := Take.app Xb t1
  rw [← hM2] at t32 t12 ⊢
  repeat (first | refine hl_loadN (i := 0) (n := 6) (vs := stC S (.slice la (S.D.F.flat 0).length lc) (.slice ra S.A.length rc) (.slice sa S.B.length sc)) rfl t32 rfl rfl rfl ?_ | refine go1_ ?_ | refine bx_ (fun _ => ?_))
  refine hl_call rfl rfl (hrp M2 i2) (fun v M o => ?_)
  obtain ⟨ar, cr, rfl, _, _⟩ := o.form
  obtain ⟨Xr, hpr, hor⟩ := o.permE
  refine HL.perm ?_ hpr
  have sm := same_fn (bb.imp (Imp.tail Xr M2)) (BytR.own (w0 := w0) (B := B) (hor M2)) (by omega)
  rw [show decide (b = b) = true from decide_eq_true rfl] at sm
  repeat (first | refine go_ ?_ | refine bx_ (fun _ => ?_) | refine hl_callv rfl rfl (sm) ?_)
  refine HL.imp ?_ (Imp.tail Xr M2)
  refine hl_call rfl rfl (getState_fn hR bb (by omega) hsm) (fun v M o => ?_)
  obtain ⟨kv, av, bv, Xg, rfl, himg, hSt⟩ := o
  refine HL.imp ?_ himg
  obtain ⟨G, hG⟩ : ∃ G, G = getS b := ⟨_, rfl⟩
  rw [← hG] at hSt hgp ⊢
  obtain ⟨ka2, kc2, rfl⟩ := hSt.D.form
  obtain ⟨aa2, ac2, rfl⟩ := hSt.A.form
  obtain ⟨ba2, bc2, rfl⟩ := hSt.B.form
  repeat (first | refine go_ ?_ | refine bx_ (fun _ => ?_))
  rename_i g6
  obtain ⟨M3, hM3⟩ : ∃ M, M = (⟨g6, 55, stC G.1 (.slice ka2 G.1.D.F.len kc2) (.slice aa2 G.1.A.length ac2) (.slice ba2 G.1.B.length bc2), 6⟩ :: (Xg ++ M2) : List Ent) := ⟨_, rfl⟩
  obtain ⟨F6, t6⟩ : ∃ F, Take M3 ⟨g6, 55, stC G.1 (.slice ka2 G.1.D.F.len kc2) (.slice aa2 G.1.A.length ac2) (.slice ba2 G.1.B.length bc2), 6⟩ F := ⟨_, by rw [hM3]; exact .here⟩
  obtain ⟨F33, t33⟩ : ∃ F, Take M3 ⟨g3, 61, stC S (.slice la (S.D.F.flat 0).length lc) (.slice ra S.A.length rc) (.slice sa S.B.length sc), 6⟩ F := ⟨_, by rw [hM3]; exact .there (Take.app Xg t32)⟩
  have i3g : Imp M3 (Xg ++ M2) := by rw [hM3]; exact Imp.drop (Imp.refl _)
  have i3 : Imp M3 M2 := i3g.trans (Imp.tail Xg _)
  refine HL.perm (H' := M3) ?_ (by rw [hM3]; exact List.Perm.refl _)
  refine hl_call rfl rfl (rgetState_fn (bb.imp i3) (by omega) hsm) (fun v M o => ?_)
  obtain ⟨lv3, av3, bv3, Xh, rfl, himh, hRt⟩ := o
  refine HL.imp ?_ himh
  rw [← hG] at hRt ⊢
  obtain ⟨la3, lc3, rfl⟩ := hRt.D.form
  obtain ⟨ra3, rc3, rfl⟩ := hRt.A.form
  obtain ⟨sa3, sc3, rfl⟩ := hRt.B.form
  have hGall : (∀ D ∈ G.1.D :: (G.1.A ++ G.1.B), D.ok ∧ D.F.wf 1000000000) ∧ G.1.A.length ≤ 1000000 ∧ G.1.B.length ≤ 1000000 := by
    by_cases h0 : G.2 = 0
    · rw [hgp h0]
      refine ⟨fun D h => ⟨hok D h, ?_⟩, hw6.Al, hw6.Bl⟩
      have h6 : D.F.wf 1000000 := by
        simp only [List.mem_cons, List.mem_append] at h
        rcases h with rfl | h | h
        · exact hw6.D.F
        · exact (hw6.A D h).F
        · exact (hw6.B D h).F
      exact Fo.wf_up D.F h6
    · have hz : G.1 = Stt.zero := by rw [hG] at h0 ⊢; exact getS_zero h0
      rw [hz]
      refine ⟨fun D h => ?_, by simp [Stt.zero], by simp [Stt.zero]⟩
      obtain rfl : D = ⟨0, 0, 0, .nil⟩ := by simpa [Stt.zero] using h
      exact ⟨⟨by simp [Fo.ids], by simp [Fo.ids], by simp [Fo.cnt]⟩, trivial⟩
  have hRs3 := hRst.imp ((i3.trans i2).trans i1)
  have c1 := fun e : Ent => like_st_fn (H := e :: (Xh ++ M3)) (hSt.imp (Imp.drop ((Imp.tail Xh _).trans i3g))) (hRt.imp (Imp.drop (Imp.refl _))) hGall.1 hGall.2.1 hGall.2.2
  by_cases h0 : G.2 = 0
  rotate_left
  · repeat (first | refine hl_loadN (i := 0) (n := 6) (vs := stC G.1 (.slice ka2 G.1.D.F.len kc2) (.slice aa2 G.1.A.length ac2) (.slice ba2 G.1.B.length bc2)) rfl (.there (Take.app Xh t6)) rfl rfl rfl ?_ | refine hl_loadN (i := 0) (n := 6) (vs := stC G.1 (.slice la3 (G.1.D.F.flat 0).length lc3) (.slice ra3 G.1.A.length rc3) (.slice sa3 G.1.B.length sc3)) rfl .here rfl rfl rfl ?_ | refine hl_loadN (i := 0) (n := 6) (vs := stC S (.slice la (S.D.F.flat 0).length lc) (.slice ra S.A.length rc) (.slice sa S.B.length sc)) rfl (.there (Take.app Xh t33)) rfl rfl rfl ?_ | refine go1_ ?_ | refine bx_ (fun _ => ?_) | refine hl_callv rfl rfl (c1 _) ?_)
    exact fin1B rfl rfl rfl
  · have c2 : ∀ e : Ent, Fn Try.prog w0 B 24 [.agg (stC G.1 (.slice ka2 G.1.D.F.len kc2) (.slice aa2 G.1.A.length ac2) (.slice ba2 G.1.B.length bc2)).toArray, .agg (stC S (.slice la (S.D.F.flat 0).length lc) (.slice ra S.A.length rc) (.slice sa S.B.length sc)).toArray] (e :: (Xh ++ M3)) (fun v H' => v = .bool true ∧ H' = e :: (Xh ++ M3)) := fun e => by
      have q := hSt.imp (Imp.drop (x := e) ((Imp.tail Xh _).trans i3g))
      have q2 := hGall
      rw [hgp h0] at q q2 ⊢
      exact like_st_fn q (hRs3.imp (Imp.drop (Imp.tail Xh _))) q2.1 q2.2.1 q2.2.2
    repeat (first | refine hl_loadN (i := 0) (n := 6) (vs := stC G.1 (.slice ka2 G.1.D.F.len kc2) (.slice aa2 G.1.A.length ac2) (.slice ba2 G.1.B.length bc2)) rfl (.there (Take.app Xh t6)) rfl rfl rfl ?_ | refine hl_loadN (i := 0) (n := 6) (vs := stC G.1 (.slice la3 (G.1.D.F.flat 0).length lc3) (.slice ra3 G.1.A.length rc3) (.slice sa3 G.1.B.length sc3)) rfl .here rfl rfl rfl ?_ | refine hl_loadN (i := 0) (n := 6) (vs := stC S (.slice la (S.D.F.flat 0).length lc) (.slice ra S.A.length rc) (.slice sa S.B.length sc)) rfl (.there (Take.app Xh t33)) rfl rfl rfl ?_ | refine go1_ ?_ | refine bx_ (fun _ => ?_) | refine hl_callv rfl rfl (c1 _) ?_ | refine hl_callv rfl rfl (c2 _) ?_)
    exact fin1B rfl rfl rfl
end
end Go.Proofs.Ytoobhebbgbhahaa
namespace Go.Proofs.Ytoobhebbgbhahaa
open Go.RowKit
theorem docs_mem {L : List Dc} {D : Dc} (h : D ∈ L) : D.put.length ≤ (docsB L).length := by
  induction L with
  | nil => cases h
  | cons x L ih =>
    rw [docsB_cons, List.length_append]
    rcases List.mem_cons.1 h with rfl | h
    · omega
    · have := ih h; omega
theorem st_mem {S : Stt} {D : Dc} (h : D ∈ S.all) : D.F.cnt ≤ S.put.length := by
  have a := D.F.cnt_body
  have b : D.F.body.length ≤ D.put.length := by
    unfold Dc.put Fo.put
    simp only [List.length_append]; omega
  have c : D.put.length ≤ S.put.length := by
    unfold Stt.put
    simp only [List.length_append]
    simp only [Stt.all, List.mem_cons, List.mem_append] at h
    rcases h with rfl | h | h
    · omega
    · have := docs_mem h; omega
    · have := docs_mem h; omega
  omega
theorem smS_of {b : List UInt8} (hb : b.length ≤ 1000000) : SmS b := fun h D hD => by
  obtain ⟨h0, hl⟩ := endE_nil h
  obtain ⟨g1, g2, g3⟩ := getSR_was (N := 1000000) h0 hb
  rw [hl, List.append_nil] at g1
  have hc := st_mem hD
  rw [← g1] at hc
  refine ⟨g3 D hD, ?_, by omega⟩
  simp only [Stt.all, List.mem_cons, List.mem_append] at hD
  rcases hD with h | h | h
  · rw [h]; exact g2.D.F
  · exact (g2.A D h).F
  · exact (g2.B D h).F
theorem getS_was {b : List UInt8} (hb : b.length ≤ 1000000) (h : (getS b).2 = 0) : b = (getS b).1.put ∧ (getS b).1.wf 1000000 ∧ ∀ D ∈ (getS b).1.all, D.ok := by
  unfold getS at h ⊢
  by_cases h1 : (getSR b).2.endE ≠ 0
  · rw [if_pos h1] at h; exact absurd h h1
  rw [if_neg h1] at h ⊢
  have h1' : (getSR b).2.endE = 0 := Classical.not_not.1 h1
  split
  · rename_i h2
    obtain ⟨h0, hl⟩ := endE_nil h1'
    obtain ⟨g1, g2, g3⟩ := getSR_was (N := 1000000) h0 hb
    rw [hl, List.append_nil] at g1
    refine ⟨g1, g2, fun D hD => ⟨(h2 D hD).nd, (h2 D hD).z, (smS_of hb h1' D hD).2.2⟩⟩
  · rename_i h2; rw [if_neg h2] at h; cases h
section
variable {w0 : World} {B : Nat} {H R R0 : List Ent} {g : Nat}
set_option maxHeartbeats 16000000
set_option maxRecDepth 100000
theorem gets_law {a : Option Addr} {n c : Nat} {b : List UInt8} (hR : RightOk w0 B) (hb : BytR w0 B H a n c b) :
    Fn Try.prog w0 B 8 [.slice a n c] H (fun v _ => v = .bool true) := by
  have hn := hb.eq
  refine fn_intro Try.func8 rfl (by kernel_rfl) rfl ?_
  by_cases h1 : 3000 < n
  · repeat (first | refine go_ ?_ | refine bx_ (fun _ => ?_) | refine hl_callv rfl rfl (anchor_fn) ?_)
    exact fin1B rfl rfl rfl
  have hsm : SmS b := smS_of (by omega)
  have hwas := getS_was (b := b) (by omega)
  repeat (first | refine go_ ?_ | refine bx_ (fun _ => ?_) | refine hl_callv rfl rfl (anchor_fn) ?_)
  refine hl_call rfl rfl (getState_fn hR hb (by omega) hsm) (fun v M o => ?_)
  obtain ⟨kv, av, bv, Xg, rfl, himg, hSt⟩ := o
  refine HL.imp ?_ himg
  obtain ⟨G, hG⟩ : ∃ G, G = getS b := ⟨_, rfl⟩
  have hz : G.2 ≠ 0 → G.1 = Stt.zero := fun h => by rw [hG] at h ⊢; exact getS_zero h
  rw [← hG] at hSt hwas ⊢
  obtain ⟨ka2, kc2, rfl⟩ := hSt.D.form
  obtain ⟨aa2, ac2, rfl⟩ := hSt.A.form
  obtain ⟨ba2, bc2, rfl⟩ := hSt.B.form
  repeat (first | refine go_ ?_ | refine bx_ (fun _ => ?_))
  rename_i g6
  obtain ⟨M3, hM3⟩ : ∃ M, M = (⟨g6, 55, stC G.1 (.slice ka2 G.1.D.F.len kc2) (.slice aa2 G.1.A.length ac2) (.slice ba2 G.1.B.length bc2), 6⟩ :: (Xg ++ H) : List Ent) := ⟨_, rfl⟩
  obtain ⟨F6, t6⟩ : ∃ F, Take M3 ⟨g6, 55, stC G.1 (.slice ka2 G.1.D.F.len kc2) (.slice aa2 G.1.A.length ac2) (.slice ba2 G.1.B.length bc2), 6⟩ F := ⟨_, by rw [hM3]; exact .here⟩
  have i3g : Imp M3 (Xg ++ H) := by rw [hM3]; exact Imp.drop (Imp.refl _)
  have i3 : Imp M3 H := i3g.trans (Imp.tail Xg _)
  refine HL.perm (H' := M3) ?_ (by rw [hM3]; exact List.Perm.refl _)
  refine hl_call rfl rfl (rgetState_fn (hb.imp i3) (by omega) hsm) (fun v M o => ?_)
  obtain ⟨lv3, av3, bv3, Xh, rfl, himh, hRt⟩ := o
  refine HL.imp ?_ himh
  rw [← hG] at hRt ⊢
  obtain ⟨la3, lc3, rfl⟩ := hRt.D.form
  obtain ⟨ra3, rc3, rfl⟩ := hRt.A.form
  obtain ⟨sa3, sc3, rfl⟩ := hRt.B.form
  by_cases h0 : G.2 = 0
  rotate_left
  · have e := hz h0
    have eK : G.1.D.F.len = 0 := by rw [e]; rfl
    have eW : G.1.D.w = 0 := by rw [e]; rfl
    have eA : G.1.A.length = 0 := by rw [e]; rfl
    repeat (first | refine hl_load1 rfl (.there (Take.app Xh t6)) rfl rfl ?_ | refine go1_ ?_ | refine bx_ (fun _ => ?_))
    exact fin1B rfl rfl rfl
  · obtain ⟨hput, hw6, hok⟩ := hwas h0
    have hall : ∀ D ∈ G.1.D :: (G.1.A ++ G.1.B), D.ok ∧ D.F.wf 1000000000 := fun D h => ⟨hok D h, by
      have h6 : D.F.wf 1000000 := by
        simp only [List.mem_cons, List.mem_append] at h
        rcases h with rfl | h | h
        · exact hw6.D.F
        · exact (hw6.A D h).F
        · exact (hw6.B D h).F
      exact Fo.wf_up D.F h6⟩
    have c1 := fun e : Ent => like_st_fn (H := e :: (Xh ++ M3)) (hSt.imp (Imp.drop ((Imp.tail Xh _).trans i3g))) (hRt.imp (Imp.drop (Imp.refl _))) hall hw6.Al hw6.Bl
    repeat (first | refine hl_loadN (i := 0) (n := 6) (vs := stC G.1 (.slice ka2 G.1.D.F.len kc2) (.slice aa2 G.1.A.length ac2) (.slice ba2 G.1.B.length bc2)) rfl (.there (Take.app Xh t6)) rfl rfl rfl ?_ | refine hl_loadN (i := 0) (n := 6) (vs := stC G.1 (.slice la3 (G.1.D.F.flat 0).length lc3) (.slice ra3 G.1.A.length rc3) (.slice sa3 G.1.B.length sc3)) rfl .here rfl rfl rfl ?_ | refine go1_ ?_ | refine bx_ (fun _ => ?_) | refine hl_callv rfl rfl (c1 _) ?_)
    refine hl_call rfl rfl (putState_fn (hSt.imp (Imp.drop ((Imp.tail Xh _).trans i3g))) hw6 (by rw [← hput]; omega)) (fun v M o => ?_)
    obtain ⟨ab, cb, rfl, _, _⟩ := o.form
    obtain ⟨Xb, hpb, hob⟩ := o.permE
    refine HL.perm ?_ hpb
    rw [← hput] at hob ⊢
    have sm := fun e : Ent => same_fn (BytR.own (w0 := w0) (B := B) (hob (e :: (Xh ++ M3)))) (hb.imp ((Imp.tail Xb _).trans (Imp.drop ((Imp.tail Xh _).trans i3)))) (by omega)
    rw [show decide (b = b) = true from decide_eq_true rfl] at sm
    repeat (first | refine go_ ?_ | refine bx_ (fun _ => ?_) | refine hl_callv rfl rfl (sm _) ?_)
    exact fin1B rfl rfl rfl
end
end Go.Proofs.Ytoobhebbgbhahaa
namespace Go.Proofs.Ytoobhebbgbhahaa
open Go.RowKit
section
variable {w0 : World} {B : Nat} {H R R0 : List Ent} {g gm : Nat}
set_option maxHeartbeats 32000000
set_option maxRecDepth 100000
theorem right_all {w h n : Int} {da : Option Addr} {dl dc : Nat} (hsz : SzQ w h) : ∀ (N : Nat) (l : Ly) (k : Fo), k.cnt < N → l.wf 1000000 → k.wf 1000000 → k.cnt ≤ 1000000 → ∀ R, Rc w0 B w h n (.slice da dl dc) gm R l k
  | 0, _, _, h, _, _, _ => absurd h (by omega)
  | N + 1, l, k, hN, hw, hkw, hkc => fun R => right_core hw hsz hkc fun g4 g5 R' _ => Fo.all_of k _ hkw fun l' k' a b e => cl_of fun R'' _ => right_all hsz N l' k' (by omega) a b (by omega) R''
theorem tDepth_fn {D : Dc} {kv : Value} (hF : FoR w0 B H kv D.F) (hc : D.F.cnt ≤ 1000000) : Fn Try.prog w0 B 54 [.agg (dcC D kv).toArray] H (fun v H' => v = .int .i64 (D.F.dep : Int) ∧ H' = H) := by
  have hF0 := hF
  obtain ⟨a, c, C, rfl, hC, hFo⟩ := hF
  refine fn_intro Try.func54 rfl (by kernel_rfl) rfl ?_
  repeat (first | refine go_ ?_ | refine bx_ (fun _ => ?_) | refine hl_callv rfl rfl (tdepth_fn _ D.F (Nat.lt_succ_self _) (hF0.imp (Imp.drop (Imp.refl _))) (by omega)) ?_)
  exact fin1I rfl rfl ⟨rfl, rfl⟩
theorem tCount_fn {D : Dc} {kv : Value} (hF : FoR w0 B H kv D.F) (hc : D.F.cnt ≤ 1000000) : Fn Try.prog w0 B 55 [.agg (dcC D kv).toArray] H (fun v H' => v = .int .i64 (D.F.cnt : Int) ∧ H' = H) := by
  have hF0 := hF
  obtain ⟨a, c, C, rfl, hC, hFo⟩ := hF
  refine fn_intro Try.func55 rfl (by kernel_rfl) rfl ?_
  repeat (first | refine go_ ?_ | refine bx_ (fun _ => ?_) | refine hl_callv rfl rfl (tcount_fn _ D.F (Nat.lt_succ_self _) (hF0.imp (Imp.drop (Imp.refl _))) (by omega)) ?_)
  exact fin1I rfl rfl ⟨rfl, rfl⟩
theorem right_ok : RightOk w0 B := by
  intro D kv H b hF hdep hwf hcnt hb
  have hF0 := hF
  have bf : ¬ RtQ D → b = false := fun h => by cases b; rfl; exact absurd (hb.1 rfl) h
  rw [rt_iff] at hb bf
  obtain ⟨a, c, C, rfl, hC, hFo⟩ := hF
  refine fn_intro Try.func44 rfl (by kernel_rfl) rfl ?_
  repeat (first | refine go_ ?_ | refine bx_ (fun _ => ?_))
  rename_i g1
  refine hl_call rfl rfl (tnew_fn D.w D.h) (fun v M o => ?_)
  obtain ⟨x1, x2, x3, rfl, rfl⟩ := o
  have cd := fun (M : List Ent) (hi : Imp M H) => tDepth_fn (hF0.imp hi) hcnt
  have cc := fun (M : List Ent) (hi : Imp M H) => tCount_fn (hF0.imp hi) hcnt
  by_cases hsz : ¬ SzQ D.w D.h
  · rw [if_neg hsz]
    obtain rfl := bf (fun q => hsz q.1)
    repeat (first | refine go_ ?_ | refine bx_ (fun _ => ?_))
    exact fin1B rfl rfl ⟨rfl, rfl⟩
  replace hsz : SzQ D.w D.h := Classical.not_not.1 hsz
  rw [if_pos hsz]
  by_cases hn1 : D.n < 1
  · obtain rfl := bf (fun q => by have := q.2.1; omega)
    repeat (first | refine go_ ?_ | refine bx_ (fun _ => ?_))
    exact fin1B rfl rfl ⟨rfl, rfl⟩
  by_cases hcc : 4096 < D.F.cnt
  · obtain rfl := bf (fun q => by have := q.2.2.1; omega)
    repeat (first | refine hl_loadN (i := 0) (n := 4) (vs := dcC D (.slice a D.F.len c)) rfl (.there .here) rfl rfl rfl ?_ | refine go1_ ?_ | refine bx_ (fun _ => ?_) | refine hl_callv rfl rfl (cd _ (Imp.drop (Imp.drop (Imp.refl _)))) ?_ | refine hl_callv rfl rfl (cc _ (Imp.drop (Imp.drop (Imp.refl _)))) ?_)
    exact fin1B rfl rfl ⟨rfl, rfl⟩
  repeat (first | refine hl_loadN (i := 0) (n := 4) (vs := dcC D (.slice a D.F.len c)) rfl (.there .here) rfl rfl rfl ?_ | refine go1_ ?_ | refine bx_ (fun _ => ?_) | refine hl_callv rfl rfl (cd _ (Imp.drop (Imp.drop (Imp.refl _)))) ?_ | refine hl_callv rfl rfl (cc _ (Imp.drop (Imp.drop (Imp.refl _)))) ?_)
  rename_i g2
  refine hl_makeMap rfl (fun gm => ?_)
  refine bx_ (fun g3 => ?_)
  refine hl_storeM rfl rfl .here (by decide) rfl ?_
  refine HL.perm (H' := mpE g3 gm :: mb gm 0 :: ⟨g2, 52, [.int .i64 x1, .int .i64 x2, .int .i64 x3, .slice none 0 0], 4⟩ :: docE g1 D.w D.h D.n (.slice a D.F.len c) :: H) ?_ (List.Perm.refl _)
  repeat (first | refine go_ ?_ | refine bx_ (fun _ => ?_))
  refine hl_makeFunc (caps := [.pointer (some ⟨g1, 0, none⟩), .pointer (some ⟨g3, 0, none⟩)]) rfl rfl ?_
  refine HL.perm (H' := mb gm 0 :: docE g1 D.w D.h D.n (.slice a D.F.len c) :: mpE g3 gm :: ⟨g2, 52, [.int .i64 x1, .int .i64 x2, .int .i64 x3, .slice none 0 0], 4⟩ :: H) ?_ ?_
  rotate_left
  · refine (List.Perm.swap _ _ _).trans (List.Perm.cons _ ?_)
    refine (List.Perm.cons _ (List.Perm.swap _ _ _)).trans ?_
    exact List.Perm.swap _ _ _
  refine hl_call rfl rfl (lyAny_fn (w := D.w) (h := D.h) (n := D.n) (S0 := 0) (hF0.imp (Imp.drop (Imp.drop (Imp.drop (Imp.refl _))))) (by omega) (Fo.all_of D.F _ hwf fun l k h1 h2 h3 => cl1_of fun R' _ => right_all hsz _ l k (Nat.lt_succ_self _) h1 h2 (by omega) R')) (fun v M o => ?_)
  obtain ⟨b', S', rfl, rfl, hb', hS'⟩ := o
  have hbb : b = b' := by
    rw [Bool.eq_iff_iff, hb, hb']
    exact ⟨fun q => q.2.2.2, fun q => ⟨hsz, by omega, by omega, q⟩⟩
  subst hbb
  cases b with
  | true =>
    repeat (first | refine go_ ?_ | refine bx_ (fun _ => ?_))
    exact fin1B rfl rfl ⟨rfl, rfl⟩
  | false =>
    repeat (first | refine go_ ?_ | refine bx_ (fun _ => ?_))
    exact fin1B rfl rfl ⟨rfl, rfl⟩
end
end Go.Proofs.Ytoobhebbgbhahaa
