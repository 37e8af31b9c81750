/-
  The reel: more contracts, and the statements' anchor. No condition.
-/
import Derived.Test.YtonnfhjlojmieaaR1
namespace Go.Proofs.Ytonnfhjlojmieaa
open Go.RowKit
section
variable {w0 : World} {B : Nat} {H R : List Ent} {g : Nat} {s : RS} {X : List Ent}
theorem append_l (h : Rl g s X) {gl cp : Nat} (b : List UInt8) (hlc : b.length ≤ 1000000) {C : List Value} (hC : C = b.map byteV) :
    Fn Try.prog w0 B 10 [.pointer (some ⟨g, 0, none⟩), .slice (some ⟨gl, 0, none⟩) b.length cp] (⟨gl, 5, C, 0⟩ :: (X ++ R)) (fun v H' => v = .int .i64 (s.appendE b) ∧ ∃ X', H' = X' ++ R ∧ Rl g (s.append b) X') := by
  subst hC
  have hr : Rds w0 B (X ++ (⟨gl, 5, b.map byteV, 0⟩ :: R)) (some ⟨gl, 0, none⟩) (b.map byteV) :=
    (Rds.ent (c := ⟨Try.prog, 0, w0, B⟩) (n := b.length) .here (by rw [List.drop_zero, List.take_of_length_le (by simp)]) (by simp [Value.oneCell'])).perm (H := ⟨gl, 5, b.map byteV, 0⟩ :: (X ++ R)) List.perm_middle
  refine ((append_r h rfl (by omega) hr).monoI ?_).perm List.perm_middle.symm
  rintro v H' ⟨rfl, X', rfl, h'⟩
  exact ⟨X' ++ R, Imp.perm List.perm_middle (Imp.drop (Imp.refl _)), rfl, X', rfl, h'⟩
theorem same_fn {a a2 : Option Addr} {n n2 c c2 : Nat} {l m : List UInt8} (h1 : l.length = n) (h2 : m.length = n2) (hl : Rds w0 B H a (l.map byteV)) (hm : Rds w0 B H a2 (m.map byteV)) :
    Fn Try.prog w0 B 16 [.slice a n c, .slice a2 n2 c2] H (fun v H' => v = .bool (l == m) ∧ H' = H) := by
  subst h1 h2
  refine fn_intro Try.func16 rfl (by kernel_rfl) rfl ?_
  repeat (first | refine go_ ?_ | refine bx_ (fun _ => ?_))
  refine hl_convStr rfl hl rfl ?_
  repeat (first | refine go_ ?_ | refine bx_ (fun _ => ?_))
  refine hl_convStr rfl hm rfl ?_
  repeat (first | refine go_ ?_ | refine bx_ (fun _ => ?_))
  refine hl_strEqL rfl rfl rfl ?_
  repeat (first | refine go_ ?_ | refine bx_ (fun _ => ?_))
  exact fin1B rfl rfl ⟨rfl, rfl⟩

/-! A reel that is not armed. -/
variable {l : List UInt8} {cap safe : Nat}
theorem append_o (h : Rl g ⟨l, cap, safe, -1, false⟩ X) {a : Option Addr} {len cp : Nat} {b : List UInt8} (hl : b.length = len) (hlc : len ≤ 9223372036854775807) (hr : Rds w0 B (X ++ R) a (b.map byteV)) (hf : l.length + b.length ≤ cap) :
    Fn Try.prog w0 B 10 [.pointer (some ⟨g, 0, none⟩), .slice a len cp] (X ++ R) (fun v H' => v = .int .i64 0 ∧ ∃ X', H' = X' ++ R ∧ Rl g ⟨l ++ b, cap, safe, -1, false⟩ X') := by
  have := append_r (cp := cp) h hl hlc hr
  rw [show RS.appendE ⟨l, cap, safe, -1, false⟩ b = 0 from by unfold RS.appendE; rw [if_neg (by simp), if_neg (by dsimp only; omega)]; rfl,
    show RS.append ⟨l, cap, safe, -1, false⟩ b = ⟨l ++ b, cap, safe, -1, false⟩ from by unfold RS.append; rw [if_neg (by simp), if_neg (by dsimp only; omega)]; rfl] at this
  exact this
theorem sync_o (h : Rl g ⟨l, cap, safe, -1, false⟩ X) :
    Fn Try.prog w0 B 11 [.pointer (some ⟨g, 0, none⟩)] (X ++ R) (fun v H' => v = .int .i64 0 ∧ ∃ X', H' = X' ++ R ∧ Rl g ⟨l, cap, l.length, -1, false⟩ X') := sync_r h
theorem cut_o (h : Rl g ⟨l, cap, safe, -1, false⟩ X) (n : Nat) (hn : n ≤ l.length) :
    Fn Try.prog w0 B 18 [.pointer (some ⟨g, 0, none⟩), .int .i64 (n : Int)] (X ++ R) (fun v H' => v = .int .i64 0 ∧ ∃ X', H' = X' ++ R ∧ Rl g ⟨l.take n, cap, min safe n, -1, false⟩ X') := by
  have hw := h.1
  obtain ⟨h1, h2, h3, _⟩ := hw
  dsimp only at h1 h2 h3
  have := cut_r (R := R) (w0 := w0) (B := B) h (n : Int) (by omega)
  rw [show RS.cutE ⟨l, cap, safe, -1, false⟩ (n : Int) = 0 from by unfold RS.cutE; rw [if_neg (by simp), if_neg (by dsimp only; omega)]; rfl,
    show RS.cut ⟨l, cap, safe, -1, false⟩ (n : Int) = ⟨l.take n, cap, min safe n, -1, false⟩ from by unfold RS.cut; rw [if_neg (by simp), if_neg (by dsimp only; omega)]; rfl] at this
  exact this
theorem size_q (h : Rl g s X) {n : Nat} (hn : s.l.length = n) : Fn Try.prog w0 B 13 [.pointer (some ⟨g, 0, none⟩)] (X ++ R) (fun v H' => v = .int .i64 (n : Int) ∧ H' = X ++ R) := hn ▸ size_r h
theorem safe_q (h : Rl g s X) {n : Nat} (hn : s.safe = n) : Fn Try.prog w0 B 14 [.pointer (some ⟨g, 0, none⟩)] (X ++ R) (fun v H' => v = .int .i64 (n : Int) ∧ H' = X ++ R) := hn ▸ safe_r h
/-- All of it is read. -/
theorem read_all (h : Rl g s X) (hd : s.down = false) :
    Fn Try.prog w0 B 15 [.pointer (some ⟨g, 0, none⟩), .int .i64 0, .int .i64 (s.l.length : Int)] (X ++ R) (fun v H' => ∃ a c Z, v = .tuple #[.slice a s.l.length c, .int .i64 0] ∧ s.l.length ≤ c ∧ c ≤ 9223372036854775807 ∧ H' = Z ++ (X ++ R) ∧ (∀ F, Own 5 1 (.slice a s.l.length c) s.l.length (s.l.map byteV) F (Z ++ F))) := by
  have := read_r (R := R) (w0 := w0) (B := B) h 0 s.l.length hd (by omega)
  rw [List.drop_zero, List.take_length] at this
  refine this.monoI ?_
  rintro v H' ⟨sv, rfl, o⟩
  obtain ⟨a, c, rfl, h1, h2⟩ := o.form
  obtain ⟨Z, hZ, o'⟩ := o.permE
  exact ⟨_, Imp.perm hZ (Imp.refl _), a, c, Z, rfl, h1, h2, rfl, o'⟩
theorem read_q (h : Rl g s X) (hd : s.down = false) {n : Nat} (hn : s.l.length = n) :
    Fn Try.prog w0 B 15 [.pointer (some ⟨g, 0, none⟩), .int .i64 0, .int .i64 (n : Int)] (X ++ R) (fun v H' => ∃ a c Z, v = .tuple #[.slice a n c, .int .i64 0] ∧ n ≤ c ∧ c ≤ 9223372036854775807 ∧ H' = Z ++ (X ++ R) ∧ (∀ F, Own 5 1 (.slice a n c) n (s.l.map byteV) F (Z ++ F))) := hn ▸ read_all h hd
theorem OwnX.nilc {e n c sz : Nat} {a : Option Addr} {C : List Value} {Z : List Ent} (o : ∀ F, Own e sz (.slice a n c) n C F (Z ++ F)) : a = none → c = 0 := by
  intro h
  subst h
  rcases o [] with ⟨e1, _⟩ | ⟨_, _, e1, _⟩
  · exact (show _ ∧ c = 0 by simpa using e1).2
  · cases e1
theorem OwnX.rds {a : Option Addr} {n c : Nat} {b : List UInt8} {Z : List Ent} (o : ∀ F, Own 5 1 (.slice a n c) n (b.map byteV) F (Z ++ F)) (F : List Ent) : Rds w0 B (Z ++ F) a (b.map byteV) :=
  (o F).rds (c := ⟨Try.prog, 0, w0, B⟩) (by simp [Value.oneCell'])

set_option maxHeartbeats 4000000 in
theorem anchor_fn : Fn Try.prog w0 B 8 [] H (fun v H' => v = .bool true ∧ H' = H) := by
  refine fn_intro Try.func8 rfl (by kernel_rfl) rfl ?_
  repeat (first | refine go_ ?_ | refine bx_ (fun _ => ?_))
  refine hl_call rfl rfl (new_r 10 (by decide)) (fun v H' hv => ?_)
  obtain ⟨g, X, rfl, rfl, h⟩ := hv
  repeat (first | refine go_ ?_ | refine bx_ (fun _ => ?_))
  refine hl_convLit rfl .here rfl (by decide) rfl ?_
  repeat (first | refine go_ ?_ | refine bx_ (fun _ => ?_))
  refine hl_call rfl rfl (append_l h [97, 98, 99, 100, 101, 102] (by decide) rfl) (fun v H' hv => ?_)
  obtain ⟨rfl, X, rfl, h⟩ := hv
  replace h : Rl g ⟨[97, 98, 99, 100, 101, 102], 10, 0, -1, false⟩ X := h
  repeat (first | refine go_ ?_ | refine bx_ (fun _ => ?_))
  refine hl_call rfl rfl (sync_r h) (fun v H' hv => ?_)
  obtain ⟨rfl, X, rfl, h⟩ := hv
  replace h : Rl g ⟨[97, 98, 99, 100, 101, 102], 10, 6, -1, false⟩ X := h
  repeat (first | refine go_ ?_ | refine bx_ (fun _ => ?_))
  refine hl_convLit rfl .here rfl (by decide) rfl ?_
  repeat (first | refine go_ ?_ | refine bx_ (fun _ => ?_))
  refine hl_call rfl rfl (append_l h [103, 104, 105] (by decide) rfl) (fun v H' hv => ?_)
  obtain ⟨rfl, X, rfl, h⟩ := hv
  replace h : Rl g ⟨[97, 98, 99, 100, 101, 102, 103, 104, 105], 10, 6, -1, false⟩ X := h
  repeat (first | refine go_ ?_ | refine bx_ (fun _ => ?_))
  rename_i gl
  refine HL.perm ?_ List.perm_middle.symm
  refine hl_call rfl rfl (crash_r h 2 (by decide) (b := [1]) rfl (by decide) (.inr ⟨_, _, rfl, Rds.rowB (Rds.ent (c := ⟨Try.prog, 0, w0, B⟩) (n := 1) .here rfl (by simp [Value.oneCell', byteV]))⟩)) (fun v H' hv => ?_)
  obtain ⟨X, hi, h⟩ := hv
  replace h : Rl g ⟨[97, 98, 99, 100, 101, 102, 103, 105], 10, 8, -1, false⟩ X := h
  refine HL.imp ?_ (hi.trans (Imp.perm List.perm_middle (Imp.drop (Imp.refl _))))
  repeat (first | refine go_ ?_ | refine bx_ (fun _ => ?_))
  refine hl_call rfl rfl (size_r h) (fun v H' hv => ?_)
  obtain ⟨rfl, rfl⟩ := hv
  repeat (first | refine go_ ?_ | refine bx_ (fun _ => ?_))
  refine hl_call rfl rfl (read_r h 0 8 rfl (by decide)) (fun v H' hv => ?_)
  obtain ⟨sv, rfl, o⟩ := hv
  obtain ⟨gb, cb, rfl, _, _, _, hp⟩ := o.posn (by decide)
  refine HL.perm ?_ hp
  repeat (first | refine go_ ?_ | refine bx_ (fun _ => ?_))
  refine hl_convStr (l := [97, 98, 99, 100, 101, 102, 103, 105]) rfl (Rds.ent (n := 8) .here rfl (by simp [Value.oneCell', byteV])) rfl ?_
  repeat (first | refine go_ ?_ | refine bx_ (fun _ => ?_))
  refine hl_strEqT rfl rfl rfl rfl ?_
  refine HL.drop ?_
  repeat (first | refine go_ ?_ | refine bx_ (fun _ => ?_))
  refine hl_call rfl rfl (safe_r h) (fun v H' hv => ?_)
  obtain ⟨rfl, rfl⟩ := hv
  repeat (first | refine go_ ?_ | refine bx_ (fun _ => ?_))
  refine hl_convLit rfl .here rfl (by decide) rfl ?_
  repeat (first | refine go_ ?_ | refine bx_ (fun _ => ?_))
  refine hl_call rfl rfl (append_l h [120, 121, 122] (by decide) rfl) (fun v H' hv => ?_)
  obtain ⟨rfl, X', rfl, h'⟩ := hv
  repeat (first | refine go_ ?_ | refine bx_ (fun _ => ?_))
  exact fin1B rfl rfl ⟨rfl, rfl⟩ (Imp.tail X' H)
end
end Go.Proofs.Ytonnfhjlojmieaa
